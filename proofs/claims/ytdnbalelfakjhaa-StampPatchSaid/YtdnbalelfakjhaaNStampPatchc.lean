import Derived.Test.YtdnbalelfakjhaaNStampPatchb
namespace Go.Vm
open Go Go.RowKit
def req (b : Bool) (p : Prop) : Prop := match b with | true => p | false => False
theorem req.intro {b : Bool} {p : Prop} (h : b = true) (k : p) : req b p := by subst h; exact k
theorem req.elim {b : Bool} {p : Prop} (h : req b p) : b = true ∧ p := by cases b; exact h.elim; exact ⟨rfl, h⟩
def br (b : Bool) (p q : Prop) : Prop := match b with | true => p | false => q
theorem br.intro {b : Bool} {p q : Prop} (h : b = true → p) (k : b = false → q) : br b p q := by cases b; exact k rfl; exact h rfl
theorem br.pos {b : Bool} {p q : Prop} (e : b = true) (h : p) : br b p q := by subst e; exact h
theorem br.neg {b : Bool} {p q : Prop} (e : b = false) (h : q) : br b p q := by subst e; exact h
def forceV (v : Value) (K : Value → Prop) : Prop :=
  match v with
  | .bool b => K (.bool b)
  | .int k n => K (.int k n)
  | .float k n => K (.float k n)
  | .string s => K (.string s)
  | .pointer none => K (.pointer none)
  | .pointer (some a) => K (.pointer (some a))
  | .slice none n c => K (.slice none n c)
  | .slice (some a) n c => K (.slice (some a) n c)
  | .func f a b => K (.func f a b)
  | .nilFunc => K .nilFunc
  | .nilIface => K .nilIface
  | .iface t v => K (.iface t v)
  | .agg a => K (.agg a)
  | .tuple a => K (.tuple a)
  | v => K v
theorem forceV_eq (v : Value) (K : Value → Prop) : forceV v K = K v := by
  unfold forceV; split <;> rfl
def forceL (l : List Value) (K : List Value → Prop) : Prop :=
  match l with
  | [] => K []
  | v :: l => forceL l (fun l' => K (v :: l'))
theorem forceL_eq : ∀ (l : List Value) (K : List Value → Prop), forceL l K = K l
  | [], _ => rfl
  | v :: l, K => by rw [forceL, forceL_eq l]
def adelK {α : Type} (l : List (Nat × α)) (j : Nat) (K : List (Nat × α) → Prop) : Prop :=
  match l with
  | [] => K []
  | (i, x) :: l => cond (Nat.beq i j) (adelK l j K) (adelK l j (fun l' => K ((i, x) :: l')))
theorem adelK_eq {α : Type} : ∀ (l : List (Nat × α)) (j : Nat) (K : List (Nat × α) → Prop), adelK l j K = K (adel l j)
  | [], _, _ => rfl
  | (i, x) :: l, j, K => by
    simp only [adelK, adel]
    cases Nat.beq i j
    · simp only [cond_false]; rw [adelK_eq l]
    · simp only [cond_true]; rw [adelK_eq l]
def aputK {α : Type} (l : List (Nat × α)) (i : Nat) (x : α) (K : List (Nat × α) → Prop) : Prop := adelK l i (fun l' => K ((i, x) :: l'))
theorem aputK_eq {α : Type} (l : List (Nat × α)) (i : Nat) (x : α) (K : List (Nat × α) → Prop) : aputK l i x K = K (aput l i x) := adelK_eq _ _ _
def rd (cs : List Value) (o : Nat) (K : Value → Prop) : Prop := match cs[o]? with | some v => forceV v K | none => False
theorem rd.intro {cs : List Value} {o : Nat} {K : Value → Prop} {v : Value} (h : cs[o]? = some v) (k : forceV v K) : rd cs o K := by unfold rd; rw [h]; exact k
theorem rd.elim {cs : List Value} {o : Nat} {K : Value → Prop} (h : rd cs o K) : ∃ v, cs[o]? = some v ∧ K v := by
  unfold rd at h
  split at h
  · rename_i v hv; rw [forceV_eq] at h; exact ⟨v, hv, h⟩
  · exact h.elim
def rdN (cs : List Value) (o : Nat) (n : Nat) (K : List Value → Prop) : Prop :=
  match n with
  | 0 => K []
  | n + 1 => rd cs o fun v => rdN cs (o + 1) n fun l => K (v :: l)
theorem rdN.elim : ∀ {n : Nat} {cs : List Value} {o : Nat} {K : List Value → Prop}, rdN cs o n K → (o + n ≤ cs.length ∨ n = 0) ∧ K ((cs.drop o).take n)
  | 0, cs, o, K, h => ⟨.inr rfl, by simpa [rdN] using h⟩
  | n + 1, cs, o, K, h => by
    obtain ⟨v, hv, h2⟩ := rd.elim h
    obtain ⟨h3, h4⟩ := rdN.elim h2
    have hlt : o < cs.length := by
      rcases Nat.lt_or_ge o cs.length with h | h
      · exact h
      · rw [List.getElem?_eq_none h] at hv; cases hv
    refine ⟨.inl (by omega), ?_⟩
    have : (cs.drop o).take (n + 1) = v :: (cs.drop (o + 1)).take n := by
      rw [List.drop_eq_getElem_cons hlt, List.take_succ_cons]
      rw [List.getElem?_eq_getElem hlt, Option.some.injEq] at hv
      rw [hv]
    rw [this]; exact h4
abbrev CK := Option Value → List (Option VObj) → Option VObj → Prop
def optK (r : Option CoreR) (K : CK) : Prop :=
  match r with
  | some ⟨some v, os, fr⟩ => forceV v fun v => K (some v) os fr
  | some ⟨none, os, fr⟩ => K none os fr
  | none => False
def Good (r : Option CoreR) (K : CK) : Prop := ∃ v os fr, r = some ⟨v, os, fr⟩ ∧ K v os fr
theorem optK.good {r : Option CoreR} {K : CK} (h : optK r K) : Good r K := by
  unfold optK at h
  split at h
  · rw [forceV_eq] at h; exact ⟨_, _, _, rfl, h⟩
  · exact ⟨_, _, _, rfl, h⟩
  · exact h.elim
def valK (v : Value) (K : CK) : Prop := forceV v fun v => K (some v) [] none
def fillK : List (Nat × Nat × Value) → List Value → (List Value → Prop) → Prop
  | [], cs, K => K cs
  | (off, size, v) :: rest, cs, K => cond (Nat.beq (cellsL v).length size && Nat.ble (off + size) cs.length) (forceL (setAt cs off (cellsL v)) fun cs' => fillK rest cs' K) False
theorem fillK.elim : ∀ {l : List (Nat × Nat × Value)} {cs : List Value} {K : List Value → Prop}, fillK l cs K → ∃ cs', fillL cs l = some cs' ∧ K cs'
  | [], cs, K, h => ⟨cs, rfl, h⟩
  | (off, size, v) :: rest, cs, K, h => by
    rw [fillK] at h
    cases hb : (Nat.beq (cellsL v).length size && Nat.ble (off + size) cs.length)
    · rw [hb] at h; exact h.elim
    · rw [hb, cond_true, forceL_eq] at h
      obtain ⟨cs', h1, h2⟩ := fillK.elim h
      rw [Bool.and_eq_true] at hb
      exact ⟨cs', by rw [fillL, if_pos ⟨Nat.eq_of_beq_eq_true hb.1, Nat.le_of_ble_eq_true hb.2⟩, h1], h2⟩
def k_build (z : List Value) (ps : List (Nat × Nat × Operand)) (vals : List Value) (objs : List VObj) (K : CK) : Prop :=
  match objs with
  | [] => cond (Nat.beq vals.length ps.length) (fillK (zipP ps vals) z fun cs => K (some (.agg ⟨cs⟩)) [] none) False
  | _ => False
def k_buildSl (len sz : Nat) (z : List Value) (ps : List (Nat × Nat × Operand)) (vals : List Value) (objs : List VObj) (top : Nat) (K : CK) : Prop :=
  match objs with
  | [] => cond (Nat.beq vals.length ps.length) (fillK (zipP ps vals) z fun cs => K (some (.slice (some ⟨top, 0, none⟩) len sz)) [] (some (.row true cs))) False
  | _ => False
theorem k_build_good {z : List Value} {ps : List (Nat × Nat × Operand)} {vals : List Value} {objs : List VObj} {K : CK} (h : k_build z ps vals objs K) : Good (c_build z ps vals objs) K := by
  unfold k_build at h
  split at h
  · cases hb : Nat.beq vals.length ps.length
    · rw [hb] at h; exact h.elim
    · rw [hb, cond_true] at h
      obtain ⟨cs, h1, h2⟩ := h.elim
      exact ⟨_, _, _, by simp only [c_build, if_pos (Nat.eq_of_beq_eq_true hb), h1]; rfl, h2⟩
  · exact h.elim
theorem k_buildSl_good {len sz : Nat} {z : List Value} {ps : List (Nat × Nat × Operand)} {vals : List Value} {objs : List VObj} {top : Nat} {K : CK} (h : k_buildSl len sz z ps vals objs top K) : Good (c_buildSl len sz z ps vals objs top) K := by
  unfold k_buildSl at h
  split at h
  · cases hb : Nat.beq vals.length ps.length
    · rw [hb] at h; exact h.elim
    · rw [hb, cond_true] at h
      obtain ⟨cs, h1, h2⟩ := h.elim
      exact ⟨_, _, _, by simp only [c_buildSl, if_pos (Nat.eq_of_beq_eq_true hb), h1], h2⟩
  · exact h.elim
def k_pick (vals : List Value) (objs : List VObj) (K : CK) : Prop :=
  match vals, objs with
  | [.bool c, a, b], [] => br c (valK a K) (valK b K)
  | _, _ => False
def k_load1 (vals : List Value) (objs : List VObj) (K : CK) : Prop :=
  match vals, objs with
  | [.pointer (some ⟨_, o, none⟩)], [.cells cs] => rd cs o fun v => K (some v) [some (.cells cs)] none
  | [.pointer (some ⟨_, o, none⟩)], [.row w cs] => rd cs o fun v => K (some v) [some (.row w cs)] none
  | [.pointer (some ⟨_, o, none⟩)], [.ty t cs] => rd cs o fun v => K (some v) [some (.ty t cs)] none
  | _, _ => False
def k_loadN (n : Nat) (vals : List Value) (objs : List VObj) (K : CK) : Prop :=
  match vals, objs with
  | [.pointer (some ⟨_, o, none⟩)], [.cells cs] => req (decide (o + n ≤ cs.length)) (rdN cs o n fun l => K (some (.agg ⟨l⟩)) [some (.cells cs)] none)
  | [.pointer (some ⟨_, o, none⟩)], [.row w cs] => req (decide (o + n ≤ cs.length)) (rdN cs o n fun l => K (some (.agg ⟨l⟩)) [some (.row w cs)] none)
  | [.pointer (some ⟨_, o, none⟩)], [.ty t cs] => req (decide (o + n ≤ cs.length)) (rdN cs o n fun l => K (some (.agg ⟨l⟩)) [some (.ty t cs)] none)
  | _, _ => False
def k_store (n : Nat) (vals : List Value) (objs : List VObj) (K : CK) : Prop :=
  match vals, objs with
  | [.pointer (some ⟨_, o, none⟩), v], [.cells cs] => req (decide ((cellsL v).length = n ∧ o + n ≤ cs.length) && (cellsL v).all oneC) (forceL (setAt cs o (cellsL v)) fun cs' => K none [some (.cells cs')] none)
  | [.pointer (some ⟨_, o, none⟩), v], [.ty t cs] => req (decide ((cellsL v).length = n ∧ o + n ≤ cs.length) && (cellsL v).all oneC) (forceL (setAt cs o (cellsL v)) fun cs' => K none [some (.ty t cs')] none)
  | [.pointer (some ⟨_, o, none⟩), v], [.row true cs] => req (decide ((cellsL v).length = n ∧ o + n ≤ cs.length) && (cellsL v).all oneC) (∃ cs', setAt cs o (cellsL v) = cs' ∧ K none [some (.row true cs')] none)
  | _, _ => False
def binK (op : BinOp) (x y : Value) (K : CK) : Prop :=
  match x, y with
  | .int k a, .int k' b => match op with
    | .shl => req (decide (0 ≤ b)) (K (some (.int k (k.wrap (a * 2 ^ (min b.toNat k.bits))))) [] none)
    | .shr => req (decide (0 ≤ b)) (K (some (.int k (a.fdiv (2 ^ (min b.toNat k.bits))))) [] none)
    | .quo => req (decide (k = k') && !(decide (b = 0))) (K (some (.int k (k.wrap (a.tdiv b)))) [] none)
    | .rem => req (decide (k = k') && !(decide (b = 0))) (K (some (.int k (a.tmod b))) [] none)
    | op => optK (match binV op (.int k a) (.int k' b) with | some v => val v | none => none) K
  | .string a, .string b => match op with
    | .add => req (decide (a.data.toList.length + b.data.toList.length < 2 ^ 63)) (K (some (.string ⟨⟨a.data.toList ++ b.data.toList⟩⟩)) [] none)
    | op => optK (match binV op (.string a) (.string b) with | some v => val v | none => none) K
  | _, _ => False
def k_bin (op : BinOp) (vals : List Value) (objs : List VObj) (K : CK) : Prop :=
  match vals, objs with
  | [x, y], [] => binK op x y K
  | _, _ => False
def k_isNil (k : Nat) (neg : Bool) (vals : List Value) (objs : List VObj) (K : CK) : Prop :=
  match k, vals, objs with
  | 1, [.slice (some _) n _], [] => req (Nat.blt 0 n) (K (some (.bool neg)) [] none)
  | k, vals, objs => optK (c_isNil k neg vals objs) K
def k_b2s (vals : List Value) (objs : List VObj) (K : CK) : Prop :=
  match vals, objs with
  | [.slice none 0 _], [] => K (some (.string ⟨⟨[]⟩⟩)) [] none
  | [.slice (some ⟨_, o, none⟩) n 1], [ob] => match ob.cs with
      | some cs => req (decide (o + n ≤ cs.length)) (∃ bs, toBytes ((cs.drop o).take n) = some bs ∧ K (some (.string ⟨⟨bs⟩⟩)) [some ob] none)
      | none => False
  | _, _ => False
def k_s2b (vals : List Value) (objs : List VObj) (top : Nat) (K : CK) : Prop :=
  match vals, objs with
  | [.string s], [] => ∃ cs', ofBytes s.data.toList = cs' ∧ K (some (.slice (some ⟨top, 0, none⟩) s.data.toList.length 1)) [] (some (.row true cs'))
  | _, _ => False
def k_mkSl (sz bytes : Nat) (z : List Value) (vals : List Value) (objs : List VObj) (top : Nat) (K : CK) : Prop :=
  match vals, objs with
  | [.int _ l, .int _ c], [] => req (decide (0 ≤ l ∧ l ≤ c ∧ c < 2 ^ 63 ∧ (bytes : Int) * c ≤ 2 ^ 48))
      (∃ cs', (List.replicate c.toNat z).flatten = cs' ∧ K (some (.slice (some ⟨top, 0, none⟩) l.toNat sz)) [] (some (.row true cs')))
  | _, _ => False
def loHiK (n : Nat) (hasLo hasHi : Bool) (bs : List Value) (K : Nat → Nat → Prop) : Prop :=
  match hasLo, hasHi, bs with
  | false, false, [] => K 0 n
  | true, false, [.int _ l] => req (decide (0 ≤ l ∧ l ≤ n)) (K l.toNat n)
  | false, true, [.int _ h] => req (decide (0 ≤ h ∧ h ≤ n)) (K 0 h.toNat)
  | true, true, [.int _ l, .int _ h] => req (decide (0 ≤ h ∧ h ≤ n ∧ 0 ≤ l ∧ l ≤ h.toNat)) (K l.toNat h.toNat)
  | _, _, _ => False
theorem loHiK.elim {n : Nat} {hl hh : Bool} {bs : List Value} {K : Nat → Nat → Prop} (h : loHiK n hl hh bs K) : ∃ l u, loHi n hl hh bs = some (l, u) ∧ K l u := by
  unfold loHiK at h
  split at h
  · exact ⟨_, _, rfl, h⟩
  · obtain ⟨h1, h2⟩ := h.elim; exact ⟨_, _, by simp only [loHi]; rw [if_pos (of_decide_eq_true h1)], h2⟩
  · obtain ⟨h1, h2⟩ := h.elim; exact ⟨_, _, by simp only [loHi]; rw [if_pos (of_decide_eq_true h1)], h2⟩
  · obtain ⟨h1, h2⟩ := h.elim; exact ⟨_, _, by simp only [loHi]; rw [if_pos (of_decide_eq_true h1)], h2⟩
  · exact h.elim
def k_sliceS (bl bh : Bool) (vals : List Value) (objs : List VObj) (K : CK) : Prop :=
  match vals, objs with
  | .string s :: bs, [] => loHiK s.data.toList.length bl bh bs fun l h => K (some (.string ⟨⟨(s.data.toList.drop l).take (h - l)⟩⟩)) [] none
  | _, _ => False
def k_sliceL (sz : Nat) (bl bh : Bool) (vals : List Value) (objs : List VObj) (K : CK) : Prop :=
  match vals, objs with
  | .slice none 0 c :: bs, [] => loHiK 0 bl bh bs fun _ _ => K (some (.slice none 0 c)) [] none
  | .slice (some ⟨b, o, none⟩) n sz' :: bs, [] => req (Nat.beq sz sz') (loHiK n bl bh bs fun l h => K (some (.slice (some ⟨b, o + l * sz, none⟩) (h - l) sz)) [] none)
  | _, _ => False
def k_sliceA (n sz : Nat) (bl bh : Bool) (vals : List Value) (objs : List VObj) (K : CK) : Prop :=
  match vals, objs with
  | .pointer (some ⟨b, o, none⟩) :: bs, [ob] => match ob.cs with
    | some cs => req (decide (o + n * sz ≤ cs.length)) (loHiK n bl bh bs fun l h => K (some (.slice (some ⟨b, o + l * sz, none⟩) (h - l) sz)) [some ob] none)
    | none => False
  | _, _ => False
def k_idxAA (n sz : Nat) (vals : List Value) (objs : List VObj) (K : CK) : Prop :=
  match vals, objs with
  | [.pointer (some ⟨b, o, none⟩), .int _ i], [] => req (decide (0 ≤ i ∧ i < n)) (K (some (.pointer (some ⟨b, o + i.toNat * sz, none⟩))) [] none)
  | _, _ => False
def k_idxAL (sz : Nat) (vals : List Value) (objs : List VObj) (K : CK) : Prop :=
  match vals, objs with
  | [.slice (some ⟨b, o, none⟩) n _, .int _ i], [] => req (decide (0 ≤ i ∧ i < n)) (K (some (.pointer (some ⟨b, o + i.toNat * sz, none⟩))) [] none)
  | _, _ => False
def k_idxV1 (n : Nat) (vals : List Value) (objs : List VObj) (K : CK) : Prop :=
  match vals, objs with
  | [.agg ⟨cs⟩, .int _ i], [] => req (decide (0 ≤ i ∧ i < n)) (rd cs i.toNat fun v => K (some v) [] none)
  | _, _ => False
def k_idxVN (n sz : Nat) (vals : List Value) (objs : List VObj) (K : CK) : Prop :=
  match vals, objs with
  | [.agg ⟨cs⟩, .int _ i], [] => req (decide (0 ≤ i ∧ i < n ∧ i.toNat * sz + sz ≤ cs.length)) (rdN cs (i.toNat * sz) sz fun l => K (some (.agg ⟨l⟩)) [] none)
  | _, _ => False
def rdS (s : List UInt8) (i : Nat) (K : UInt8 → Prop) : Prop := match s[i]? with | some b => K b | none => False
theorem rdS.intro {s : List UInt8} {i : Nat} {K : UInt8 → Prop} {b : UInt8} (h : s[i]? = some b) (k : K b) : rdS s i K := by unfold rdS; rw [h]; exact k
theorem rdS.elim {s : List UInt8} {i : Nat} {K : UInt8 → Prop} (h : rdS s i K) : ∃ b, s[i]? = some b ∧ K b := by
  unfold rdS at h; split at h
  · exact ⟨_, by assumption, h⟩
  · exact h.elim
def k_idxS (vals : List Value) (objs : List VObj) (K : CK) : Prop :=
  match vals, objs with
  | [.string s, .int _ i], [] => req (decide (0 ≤ i)) (rdS s.data.toList i.toNat fun b => K (some (.int .u8 b.toNat)) [] none)
  | _, _ => False
def srcK (sz : Nat) (y : Value) (objs : List VObj) (K : List Value → Nat → Prop) : Prop :=
  match y, objs with
  | .string s, _ => K (ofBytes s.data.toList) s.data.toList.length
  | .slice none 0 _, _ => K [] 0
  | .slice (some a) n _, [o] => match o.cs with
    | some cs => req (decide (a.off + n * sz ≤ cs.length)) (K ((cs.drop a.off).take (n * sz)) n)
    | none => False
  | _, _ => False
theorem srcK.elim {sz : Nat} {y : Value} {objs : List VObj} {K : List Value → Nat → Prop} (h : srcK sz y objs K) : ∃ c n, srcCells sz y objs = some c ∧ srcLen y = some n ∧ K c n := by
  unfold srcK at h
  split at h
  · exact ⟨_, _, rfl, rfl, h⟩
  · exact ⟨_, _, rfl, rfl, h⟩
  · split at h
    · rename_i cs hcs
      obtain ⟨h1, h2⟩ := h.elim
      exact ⟨_, _, by simp only [srcCells, hcs]; rw [if_pos (of_decide_eq_true h1)], rfl, h2⟩
    · exact h.elim
  · exact h.elim
def k_app (t sz bytes : Nat) (vals : List Value) (objs : List VObj) (top : Nat) (K : CK) : Prop :=
  match vals, objs with
  | [.slice none 0 _, y], objs => srcK sz y objs fun new m => req (decide (m * bytes ≤ 2 ^ 47 ∧ new.length = m * sz)) (∃ cs' n', new = cs' ∧ m = n' ∧ K (some (.slice (some ⟨top, 0, none⟩) n' sz)) (objs.map some) (some (.row true cs')))
  | [.slice (some ⟨b, o, none⟩) n sz', y], .row true cs :: objs => srcK sz y objs fun new m =>
      req (decide ((n + m) * bytes ≤ 2 ^ 47 ∧ o + n * sz ≤ cs.length ∧ sz = sz' ∧ new.length = m * sz) && new.all oneC && (addrBlk y).all (fun c => !Nat.beq b c))
        (∃ cs' n', (cs.drop o).take (n * sz) ++ new = cs' ∧ n + m = n' ∧ K (some (.slice (some ⟨top, 0, none⟩) n' sz)) (none :: objs.map some) (some (.row true cs')))
  | [.func (.method _) ⟨[.slice none 0 e]⟩ ⟨[]⟩, y], objs => srcK sz y objs fun new m => req (decide (m * bytes ≤ 2 ^ 47 ∧ new.length = m * sz ∧ sz = 1 ∧ e = t)) (∃ cs' n', new = cs' ∧ m = n' ∧ K (some (.func (.method "") ⟨[.slice (some ⟨top, 0, none⟩) n' 1]⟩ ⟨[]⟩)) (objs.map some) (some (.ty t cs')))
  | [.func (.method _) ⟨[.slice (some ⟨b, 0, none⟩) n 1]⟩ ⟨[]⟩, y], .ty e cs :: objs => srcK sz y objs fun new m =>
      req (decide ((n + m) * bytes ≤ 2 ^ 47 ∧ n ≤ cs.length ∧ sz = 1 ∧ e = t ∧ new.length = m) && new.all oneC && (addrBlk y).all (fun c => !Nat.beq b c))
        (∃ cs' n', cs.take n ++ new = cs' ∧ n + m = n' ∧ K (some (.func (.method "") ⟨[.slice (some ⟨top, 0, none⟩) n' 1]⟩ ⟨[]⟩)) (none :: objs.map some) (some (.ty t cs')))
  | _, _ => False
def k_ustr (t : Nat) (vals : List Value) (objs : List VObj) (K : CK) : Prop :=
  match vals, objs with
  | [.pointer none, .int .i64 0], [] => K (some (.string ⟨⟨[]⟩⟩)) [] none
  | [.func (.method _) ⟨[.slice (some ⟨_, 0, none⟩) n 1]⟩ ⟨[.bool true]⟩, .int .i64 m], [.ty e cs] => req (decide (e = t ∧ m = n ∧ n ≤ cs.length ∧ n < 2 ^ 63))
      (∃ bs, toBytes (cs.take n) = some bs ∧ K (some (.string ⟨⟨bs⟩⟩)) [some (.row false cs)] none)
  | _, _ => False
def k_nextS (vals : List Value) (objs : List VObj) (K : CK) : Prop :=
  match vals, objs with
  | [.pointer (some ⟨_, 0, none⟩)], [.siter s pos] =>
      br (decide (pos < s.size)) (K (some (.tuple #[.bool true, .int .i64 pos, .int .i32 (Utf8.decode s pos).1])) [some (.siter s (pos + (Utf8.decode s pos).2))] none)
        (K (some (.tuple #[.bool false])) [some (.siter s pos)] none)
  | _, _ => False
def coreK (op : VOp) (vals : List Value) (objs : List VObj) (top : Nat) (K : CK) : Prop :=
  match op with
  | .pick _ _ _ => k_pick vals objs K
  | .load1 _ _ => k_load1 vals objs K
  | .loadN ks _ => k_loadN ks.length vals objs K
  | .store n _ _ => k_store n vals objs K
  | .bin op _ _ => k_bin op vals objs K
  | .isNil k neg _ => k_isNil k neg vals objs K
  | .b2s _ => k_b2s vals objs K
  | .s2b _ => k_s2b vals objs top K
  | .mkSl sz bytes z _ _ => k_mkSl sz bytes z vals objs top K
  | .sliceS _ lo hi => k_sliceS lo.isSome hi.isSome vals objs K
  | .sliceL sz _ lo hi => k_sliceL sz lo.isSome hi.isSome vals objs K
  | .sliceA n sz _ lo hi => k_sliceA n sz lo.isSome hi.isSome vals objs K
  | .idxAA n sz _ _ => k_idxAA n sz vals objs K
  | .idxAL sz _ _ => k_idxAL sz vals objs K
  | .idxV1 n _ _ => k_idxV1 n vals objs K
  | .idxVN n sz _ _ => k_idxVN n sz vals objs K
  | .idxS _ _ => k_idxS vals objs K
  | .app t sz bytes _ _ => k_app t sz bytes vals objs top K
  | .ustr t _ _ => k_ustr t vals objs K
  | .build z ps => k_build z ps vals objs K
  | .buildSl len sz z ps => k_buildSl len sz z ps vals objs top K
  | .nextS _ => k_nextS vals objs K
  | op => optK (core op vals objs top) K
theorem k_pick_good {vals : List Value} {objs : List VObj} {K : CK} (h : k_pick vals objs K) : Good (c_pick vals objs) K := by
  unfold k_pick at h
  split at h
  · rename_i c _ _
    cases c
    · simp only [br, valK, forceV_eq] at h; exact ⟨_, _, _, rfl, h⟩
    · simp only [br, valK, forceV_eq] at h; exact ⟨_, _, _, rfl, h⟩
  · exact h.elim
theorem k_load1_good {vals : List Value} {objs : List VObj} {K : CK} (h : k_load1 vals objs K) : Good (c_load1 vals objs) K := by
  unfold k_load1 at h
  split at h
  · obtain ⟨v, h1, h2⟩ := rd.elim h; exact ⟨_, _, _, by simp only [c_load1, VObj.cs, h1], h2⟩
  · obtain ⟨v, h1, h2⟩ := rd.elim h; exact ⟨_, _, _, by simp only [c_load1, VObj.cs, h1], h2⟩
  · obtain ⟨v, h1, h2⟩ := rd.elim h; exact ⟨_, _, _, by simp only [c_load1, VObj.cs, h1], h2⟩
  · exact h.elim
theorem k_loadN_good {n : Nat} {vals : List Value} {objs : List VObj} {K : CK} (h : k_loadN n vals objs K) : Good (c_loadN n vals objs) K := by
  unfold k_loadN at h
  split at h
  · obtain ⟨h1, h2⟩ := req.elim h
    obtain ⟨_, h3⟩ := rdN.elim h2
    exact ⟨_, _, _, by simp only [c_loadN, VObj.cs, if_pos (of_decide_eq_true h1)], h3⟩
  · obtain ⟨h1, h2⟩ := req.elim h
    obtain ⟨_, h3⟩ := rdN.elim h2
    exact ⟨_, _, _, by simp only [c_loadN, VObj.cs, if_pos (of_decide_eq_true h1)], h3⟩
  · obtain ⟨h1, h2⟩ := req.elim h
    obtain ⟨_, h3⟩ := rdN.elim h2
    exact ⟨_, _, _, by simp only [c_loadN, VObj.cs, if_pos (of_decide_eq_true h1)], h3⟩
  · exact h.elim
theorem k_store_good {n : Nat} {vals : List Value} {objs : List VObj} {K : CK} (h : k_store n vals objs K) : Good (c_store n vals objs) K := by
  unfold k_store at h
  split at h
  · obtain ⟨h1, h2⟩ := req.elim h
    rw [forceL_eq] at h2
    simp only [Bool.and_eq_true, decide_eq_true_eq] at h1
    exact ⟨_, _, _, by simp only [c_store, VObj.cs, VObj.wr]; rw [if_pos ⟨h1.1.1, h1.1.2, h1.2⟩], h2⟩
  · obtain ⟨h1, h2⟩ := req.elim h
    rw [forceL_eq] at h2
    simp only [Bool.and_eq_true, decide_eq_true_eq] at h1
    exact ⟨_, _, _, by simp only [c_store, VObj.cs, VObj.wr]; rw [if_pos ⟨h1.1.1, h1.1.2, h1.2⟩], h2⟩
  · obtain ⟨h1, cs', rfl, h2⟩ := req.elim h
    simp only [Bool.and_eq_true, decide_eq_true_eq] at h1
    exact ⟨_, _, _, by simp only [c_store, VObj.cs, VObj.wr]; rw [if_pos ⟨h1.1.1, h1.1.2, h1.2⟩], h2⟩
  · exact h.elim
theorem k_bin_good {op : BinOp} {vals : List Value} {objs : List VObj} {K : CK} (h : k_bin op vals objs K) : Good (c_bin op vals objs) K := by
  unfold k_bin at h
  split at h
  · rename_i x y
    have key : ∀ v, binV op x y = some v → K (some v) [] none → Good (c_bin op [x, y] []) K := fun v h1 h2 => ⟨_, _, _, by simp only [c_bin, h1, val], h2⟩
    unfold binK at h
    split at h
    · split at h
      · obtain ⟨h1, h2⟩ := req.elim h
        exact key _ (by simp only [binV]; rw [if_pos (of_decide_eq_true h1)]) h2
      · obtain ⟨h1, h2⟩ := req.elim h
        exact key _ (by simp only [binV]; rw [if_pos (of_decide_eq_true h1)]) h2
      · obtain ⟨h1, h2⟩ := req.elim h
        simp only [Bool.and_eq_true, decide_eq_true_eq, Bool.not_eq_true', decide_eq_false_iff_not] at h1
        exact key _ (by simp only [binV]; rw [if_pos h1.1, if_neg h1.2]) h2
      · obtain ⟨h1, h2⟩ := req.elim h
        simp only [Bool.and_eq_true, decide_eq_true_eq, Bool.not_eq_true', decide_eq_false_iff_not] at h1
        exact key _ (by simp only [binV]; rw [if_pos h1.1, if_neg h1.2]) h2
      · exact h.good
    · split at h
      · obtain ⟨h1, h2⟩ := req.elim h
        exact key _ (by simp only [binV]; rw [if_pos (of_decide_eq_true h1)]) h2
      · exact h.good
    · exact h.elim
  · exact h.elim
theorem k_isNil_good {k : Nat} {neg : Bool} {vals : List Value} {objs : List VObj} {K : CK} (h : k_isNil k neg vals objs K) : Good (c_isNil k neg vals objs) K := by
  unfold k_isNil at h
  split at h
  · rename_i n _
    obtain ⟨h1, h2⟩ := req.elim h
    cases n with
    | zero => simp at h1
    | succ n => exact ⟨_, _, _, by simp only [c_isNil, nilV, val]; cases neg <;> rfl, h2⟩
  · exact h.good
theorem k_b2s_good {vals : List Value} {objs : List VObj} {K : CK} (h : k_b2s vals objs K) : Good (c_b2s vals objs) K := by
  unfold k_b2s at h
  split at h
  · exact ⟨_, _, _, rfl, h⟩
  · split at h
    · rename_i cs hcs
      obtain ⟨h1, bs, h2, h3⟩ := req.elim h
      exact ⟨_, _, _, by simp only [c_b2s, hcs]; rw [if_pos (of_decide_eq_true h1)]; simp only [h2], h3⟩
    · exact h.elim
  · exact h.elim
theorem k_s2b_good {vals : List Value} {objs : List VObj} {top : Nat} {K : CK} (h : k_s2b vals objs top K) : Good (c_s2b vals objs top) K := by
  unfold k_s2b at h
  split at h
  · obtain ⟨cs', rfl, h⟩ := h; exact ⟨_, _, _, rfl, h⟩
  · exact h.elim
theorem k_mkSl_good {sz bytes : Nat} {z : List Value} {vals : List Value} {objs : List VObj} {top : Nat} {K : CK} (h : k_mkSl sz bytes z vals objs top K) : Good (c_mkSl sz bytes z vals objs top) K := by
  unfold k_mkSl at h
  split at h
  · obtain ⟨h1, cs', rfl, h2⟩ := req.elim h
    exact ⟨_, _, _, by simp only [c_mkSl]; rw [if_pos (of_decide_eq_true h1)], h2⟩
  · exact h.elim
theorem k_sliceS_good {bl bh : Bool} {vals : List Value} {objs : List VObj} {K : CK} (h : k_sliceS bl bh vals objs K) : Good (c_sliceS bl bh vals objs) K := by
  unfold k_sliceS at h
  split at h
  · obtain ⟨l, u, h1, h2⟩ := loHiK.elim h
    exact ⟨_, _, _, by simp only [c_sliceS, h1, val], h2⟩
  · exact h.elim
theorem k_sliceL_good {sz : Nat} {bl bh : Bool} {vals : List Value} {objs : List VObj} {K : CK} (h : k_sliceL sz bl bh vals objs K) : Good (c_sliceL sz bl bh vals objs) K := by
  unfold k_sliceL at h
  split at h
  · obtain ⟨l, u, h1, h2⟩ := loHiK.elim h
    exact ⟨_, _, _, by simp only [c_sliceL, h1, val], h2⟩
  · obtain ⟨h0, h⟩ := req.elim h
    obtain ⟨l, u, h1, h2⟩ := loHiK.elim h
    exact ⟨_, _, _, by simp only [c_sliceL]; rw [if_pos (Nat.eq_of_beq_eq_true h0)]; simp only [h1, val], h2⟩
  · exact h.elim
theorem k_sliceA_good {n sz : Nat} {bl bh : Bool} {vals : List Value} {objs : List VObj} {K : CK} (h : k_sliceA n sz bl bh vals objs K) : Good (c_sliceA n sz bl bh vals objs) K := by
  unfold k_sliceA at h
  split at h
  · split at h
    · rename_i cs hcs
      obtain ⟨h0, h⟩ := req.elim h
      obtain ⟨l, u, h1, h2⟩ := loHiK.elim h
      exact ⟨_, _, _, by simp only [c_sliceA, hcs]; rw [if_pos (of_decide_eq_true h0)]; simp only [h1], h2⟩
    · exact h.elim
  · exact h.elim
theorem k_idxAA_good {n sz : Nat} {vals : List Value} {objs : List VObj} {K : CK} (h : k_idxAA n sz vals objs K) : Good (c_idxAA n sz vals objs) K := by
  unfold k_idxAA at h
  split at h
  · obtain ⟨h1, h2⟩ := req.elim h
    exact ⟨_, _, _, by simp only [c_idxAA, val]; rw [if_pos (of_decide_eq_true h1)], h2⟩
  · exact h.elim
theorem k_idxAL_good {sz : Nat} {vals : List Value} {objs : List VObj} {K : CK} (h : k_idxAL sz vals objs K) : Good (c_idxAL sz vals objs) K := by
  unfold k_idxAL at h
  split at h
  · obtain ⟨h1, h2⟩ := req.elim h
    exact ⟨_, _, _, by simp only [c_idxAL, val]; rw [if_pos (of_decide_eq_true h1)], h2⟩
  · exact h.elim
theorem k_idxV1_good {n : Nat} {vals : List Value} {objs : List VObj} {K : CK} (h : k_idxV1 n vals objs K) : Good (c_idxV1 n vals objs) K := by
  unfold k_idxV1 at h
  split at h
  · obtain ⟨h1, h2⟩ := req.elim h
    obtain ⟨v, h3, h4⟩ := rd.elim h2
    exact ⟨_, _, _, by simp only [c_idxV1]; rw [if_pos (of_decide_eq_true h1)]; simp only [h3, val], h4⟩
  · exact h.elim
theorem k_idxVN_good {n sz : Nat} {vals : List Value} {objs : List VObj} {K : CK} (h : k_idxVN n sz vals objs K) : Good (c_idxVN n sz vals objs) K := by
  unfold k_idxVN at h
  split at h
  · obtain ⟨h1, h2⟩ := req.elim h
    obtain ⟨_, h3⟩ := rdN.elim h2
    exact ⟨_, _, _, by simp only [c_idxVN, val]; rw [if_pos (of_decide_eq_true h1)], h3⟩
  · exact h.elim
theorem k_idxS_good {vals : List Value} {objs : List VObj} {K : CK} (h : k_idxS vals objs K) : Good (c_idxS vals objs) K := by
  unfold k_idxS at h
  split at h
  · obtain ⟨h1, h2⟩ := req.elim h
    obtain ⟨v, h3, h4⟩ := rdS.elim h2
    exact ⟨_, _, _, by simp only [c_idxS]; rw [if_pos (of_decide_eq_true h1)]; simp only [h3, val], h4⟩
  · exact h.elim
theorem k_ustr_good {t : Nat} {vals : List Value} {objs : List VObj} {K : CK} (h : k_ustr t vals objs K) : Good (c_ustr t vals objs) K := by
  unfold k_ustr at h
  split at h
  · exact ⟨_, _, _, rfl, h⟩
  · obtain ⟨h1, bs, h2, h3⟩ := req.elim h
    exact ⟨_, _, _, by simp only [c_ustr]; rw [if_pos (of_decide_eq_true h1)]; simp only [h2], h3⟩
  · exact h.elim
theorem k_app_good {t sz bytes : Nat} {vals : List Value} {objs : List VObj} {top : Nat} {K : CK} (h : k_app t sz bytes vals objs top K) : Good (c_app t sz bytes vals objs top) K := by
  unfold k_app at h
  split at h
  · obtain ⟨c, m, h1, h2, h3⟩ := srcK.elim h
    obtain ⟨h4, cs', n', rfl, rfl, h5⟩ := req.elim h3
    exact ⟨_, _, _, by simp only [c_app, h1, h2]; rw [if_pos (of_decide_eq_true h4)], h5⟩
  · obtain ⟨c, m, h1, h2, h3⟩ := srcK.elim h
    obtain ⟨h4, cs', n', rfl, rfl, h5⟩ := req.elim h3
    simp only [Bool.and_eq_true, decide_eq_true_eq] at h4
    exact ⟨_, _, _, by simp only [c_app, h1, h2]; rw [if_pos ⟨h4.1.1.1, h4.1.1.2.1, h4.1.1.2.2.1, h4.1.1.2.2.2, h4.1.2, h4.2⟩], h5⟩
  · obtain ⟨c, m, h1, h2, h3⟩ := srcK.elim h
    obtain ⟨h4, cs', n', rfl, rfl, h5⟩ := req.elim h3
    exact ⟨_, _, _, by simp only [c_app, h1, h2, bSl]; rw [if_pos (of_decide_eq_true h4)], h5⟩
  · obtain ⟨c, m, h1, h2, h3⟩ := srcK.elim h
    obtain ⟨h4, cs', n', rfl, rfl, h5⟩ := req.elim h3
    simp only [Bool.and_eq_true, decide_eq_true_eq] at h4
    exact ⟨_, _, _, by simp only [c_app, h1, h2, bSl]; rw [if_pos ⟨h4.1.1.1, h4.1.1.2.1, h4.1.1.2.2.1, h4.1.1.2.2.2.1, h4.1.1.2.2.2.2, h4.1.2, h4.2⟩], h5⟩
  · exact h.elim
theorem k_nextS_good {vals : List Value} {objs : List VObj} {K : CK} (h : k_nextS vals objs K) : Good (c_nextS vals objs) K := by
  unfold k_nextS at h
  split at h
  · rename_i s pos
    cases hb : decide (pos < s.size) with
    | true => rw [hb] at h; exact ⟨_, _, _, by simp only [c_nextS]; rw [if_pos (of_decide_eq_true hb)], h⟩
    | false => rw [hb] at h; exact ⟨_, _, _, by simp only [c_nextS]; rw [if_neg (of_decide_eq_false hb)], h⟩
  · exact h.elim
theorem coreK.good {op : VOp} {vals : List Value} {objs : List VObj} {top : Nat} {K : CK} (h : coreK op vals objs top K) : Good (core op vals objs top) K := by
  cases op with
  | pick => exact k_pick_good h
  | load1 => exact k_load1_good h
  | loadN => exact k_loadN_good h
  | store => exact k_store_good h
  | bin => exact k_bin_good h
  | isNil => exact k_isNil_good h
  | b2s => exact k_b2s_good h
  | s2b => exact k_s2b_good h
  | mkSl => exact k_mkSl_good h
  | sliceS => exact k_sliceS_good h
  | sliceL => exact k_sliceL_good h
  | sliceA => exact k_sliceA_good h
  | idxAA => exact k_idxAA_good h
  | idxAL => exact k_idxAL_good h
  | idxV1 => exact k_idxV1_good h
  | idxVN => exact k_idxVN_good h
  | idxS => exact k_idxS_good h
  | app => exact k_app_good h
  | ustr => exact k_ustr_good h
  | build => exact k_build_good h
  | buildSl => exact k_buildSl_good h
  | nextS => exact k_nextS_good h
  | _ => exact optK.good h
def aputsK (h : Hp) (is : List Nat) (os : List (Option VObj)) (K : Hp → Prop) : Prop :=
  match is, os with
  | i :: is, some o :: os => aputK h i o fun h' => aputsK h' is os K
  | i :: is, none :: os => adelK h i fun h' => aputsK h' is os K
  | _, _ => K h
theorem aputsK_eq : ∀ (is : List Nat) (os : List (Option VObj)) (h : Hp) (K : Hp → Prop), aputsK h is os K = K (aputs h is os)
  | [], _, h, K => by simp [aputsK, aputs]
  | i :: is, [], h, K => by simp [aputsK, aputs]
  | i :: is, some o :: os, h, K => by rw [aputsK, aputK_eq, aputsK_eq is os]; simp [aputs]
  | i :: is, none :: os, h, K => by rw [aputsK, adelK_eq, aputsK_eq is os]; simp [aputs]
def opK (op : VOp) (vals : List Value) (h : Hp) (top : Nat) (K : Option Value → Hp → Nat → Prop) : Prop :=
  match agets h (needs op vals) with
  | none => False
  | some objs => coreK op vals objs top fun v os fr => aputsK h (needs op vals) os fun h' => match fr with
    | none => K v h' top
    | some o => aputK h' top o fun h'' => K v h'' (top + 1)
theorem opK.elim {op : VOp} {vals : List Value} {h : Hp} {top : Nat} {K : Option Value → Hp → Nat → Prop} (hk : opK op vals h top K) : ∃ v h' top', opRun op vals h top = some (v, h', top') ∧ K v h' top' := by
  unfold opK at hk
  split at hk
  · exact hk.elim
  · rename_i objs hobjs
    obtain ⟨v, os, fr, hc, hk⟩ := hk.good
    rw [aputsK_eq] at hk
    cases fr with
    | none => exact ⟨v, _, _, by simp only [opRun, hobjs, hc], hk⟩
    | some o => simp only [aputK_eq] at hk; exact ⟨v, _, _, by simp only [opRun, hobjs, hc], hk⟩
def putK (n : Nat) (e : Env) (d : Option Nat) (v : Value) (K : Env → Prop) : Prop :=
  match d with
  | some i => cond (Nat.blt i n) (aputK e i v K) (K e)
  | none => K e
theorem putK_eq (n : Nat) (e : Env) (d : Option Nat) (v : Value) (K : Env → Prop) : putK n e d v K = K (putD n e d v) := by
  cases d with
  | none => rfl
  | some i => simp only [putK, putD]; cases Nat.blt i n <;> simp [aputK_eq]
def enumK (i : Nat) (vs : List Value) (K : Env → Prop) : Prop :=
  match vs with
  | [] => K []
  | v :: vs => enumK (i + 1) vs fun e => K ((i, v) :: e)
theorem enumK_eq : ∀ (vs : List Value) (i : Nat) (K : Env → Prop), enumK i vs K = K (enumEnv i vs)
  | [], _, _ => rfl
  | v :: vs, i, K => by rw [enumK, enumK_eq vs]; rfl
def enterK (F : Fns) (f : Nat) (args : List Value) (K : VFrame → Prop) : Prop :=
  match F f with
  | some ⟨nt, body, _⟩ => cond (Nat.ble args.length nt) (enumK 0 args fun e => K ⟨f, nt, e, [.code body], [], false, none⟩) False
  | none => False
theorem enterK.elim {F : Fns} {f : Nat} {args : List Value} {K : VFrame → Prop} (h : enterK F f args K) : ∃ c, enterF F f args = some c ∧ K c := by
  unfold enterK at h
  split at h
  · rename_i nt body rs hf
    cases hb : Nat.ble args.length nt with
    | false => rw [hb] at h; exact h.elim
    | true =>
      rw [hb, cond_true, enumK_eq] at h
      exact ⟨_, by simp only [enterF, hf]; rw [if_pos (Nat.le_of_ble_eq_true hb)], h⟩
  · exact h.elim
def finishK (u : VFrame) (v : Value) (K : VFrame → Prop) : Prop :=
  match u with
  | ⟨fn, nt, env, .inReg (⟨dst, _, _⟩ :: rest) :: k, defers, ret, round⟩ => putK nt env dst v fun e => K ⟨fn, nt, e, .inReg rest :: k, defers, ret, round⟩
  | ⟨fn, nt, env, .inRangeFunc l :: k, defers, ret, round⟩ => K ⟨fn, nt, env, .endRangeFunc l :: k, defers, ret, round⟩
  | _ => False
theorem finishK.elim {u : VFrame} {v : Value} {K : VFrame → Prop} (h : finishK u v K) : ∃ u', finish u v = some u' ∧ K u' := by
  unfold finishK at h
  split at h
  · rw [putK_eq] at h; exact ⟨_, rfl, h⟩
  · exact ⟨_, rfl, h⟩
  · exact h.elim
def resK (e : Env) (h : Hp) (rs : List VRes) (K : List Value → Prop) : Prop :=
  match rs with
  | [] => K []
  | .tmp t :: rs => match aget e t with
    | some v => resK e h rs fun vs => K (v :: vs)
    | none => False
  | .cell t ks agg :: rs => match aget e t with
    | some (.pointer (some ⟨b, o, none⟩)) => match aget h b with
      | some ob => match ob.cs with
        | some cs => cond agg (req (decide (o + ks.length ≤ cs.length)) (rdN cs o ks.length fun l => resK e h rs fun vs => K (.agg ⟨l⟩ :: vs))) (rd cs o fun v => resK e h rs fun vs => K (v :: vs))
        | none => False
      | none => False
    | _ => False
theorem resK.elim {e : Env} {h : Hp} : ∀ {rs : List VRes} {K : List Value → Prop}, resK e h rs K → ∃ vs, resVs e h rs = some vs ∧ K vs
  | [], K, hk => ⟨[], rfl, hk⟩
  | .tmp t :: rs, K, hk => by
    simp only [resK] at hk
    split at hk
    · rename_i v hv
      obtain ⟨vs, h1, h2⟩ := resK.elim hk
      exact ⟨v :: vs, by simp only [resVs, resV, hv, h1], h2⟩
    · exact hk.elim
  | .cell t ks agg :: rs, K, hk => by
    simp only [resK] at hk
    split at hk
    · rename_i b o hp
      split at hk
      · rename_i ob hob
        split at hk
        · rename_i cs hcs
          cases agg with
          | true =>
            obtain ⟨h1, h2⟩ := req.elim hk
            obtain ⟨_, h3⟩ := rdN.elim h2
            obtain ⟨vs, h4, h5⟩ := resK.elim h3
            exact ⟨_, by simp only [resVs, resV, hp, hob, hcs, ↓reduceIte, if_pos (of_decide_eq_true h1), h4], h5⟩
          | false =>
            obtain ⟨v, h1, h2⟩ := rd.elim hk
            obtain ⟨vs, h4, h5⟩ := resK.elim h2
            exact ⟨_, by simp only [resVs, resV, hp, hob, hcs, Bool.false_eq_true, ↓reduceIte, h1, h4], h5⟩
        · exact hk.elim
      · exact hk.elim
    · exact hk.elim
def forceO (o : VObj) (K : VObj → Prop) : Prop :=
  match o with
  | .cells cs => K (.cells cs)
  | .row own cs => K (.row own cs)
  | .ty t cs => K (.ty t cs)
  | .siter s p => K (.siter s p)
  | .loop l => K (.loop l)
  | .marks => K .marks
theorem forceO_eq (o : VObj) (K : VObj → Prop) : forceO o K = K o := by cases o <;> rfl
def forceH (h : Hp) (K : Hp → Prop) : Prop :=
  match h with
  | [] => K []
  | (i, o) :: l => forceO o fun o => forceH l fun l => K ((i, o) :: l)
theorem forceH_eq : ∀ (h : Hp) (K : Hp → Prop), forceH h K = K h
  | [], K => rfl
  | (i, o) :: l, K => by rw [forceH, forceO_eq, forceH_eq l]
def sumK (s : Summ) (vals : List Value) (h : Hp) (top : Nat) (K : Value → Hp → Nat → Prop) : Prop :=
  match sumRun s vals h top with
  | some (v, h', top') => forceV v fun v => forceH h' fun h' => K v h' top'
  | none => False
theorem sumK.elim {s : Summ} {vals : List Value} {h : Hp} {top : Nat} {K : Value → Hp → Nat → Prop} (hk : sumK s vals h top K) : ∃ v h' top', sumRun s vals h top = some (v, h', top') ∧ K v h' top' := by
  unfold sumK at hk
  split at hk
  · rw [forceV_eq, forceH_eq] at hk; exact ⟨_, _, _, by assumption, hk⟩
  · exact hk.elim
def stepOpK (F : Fns) (S : Sums) (o : VOper) (rest : List VOper) (k : List VItem) (fn nt : Nat) (env : Env) (defers : List Nat) (round : Option Nat) (up : List VFrame) (h : Hp) (top : Nat) (K : VM → Prop) : Prop :=
  match o with
  | ⟨dst, op, g⟩ => match evalL env op.ops with
    | none => False
    | some vals => match op with
      | .callF f _ => match S f with
        | some s => sumK s vals h top fun v h' top' => putK nt env dst v fun e => K ⟨⟨fn, nt, e, .inReg rest :: k, defers, false, round⟩, up, h', top'⟩
        | none => enterK F f vals fun c => K ⟨c, ⟨fn, nt, env, .inReg (⟨dst, op, g⟩ :: rest) :: k, defers, false, round⟩ :: up, h, top⟩
      | .callV _ _ => match vals with
        | .func (.func f) ⟨first⟩ ⟨caps⟩ :: args => match S f with
          | some s => sumK s (first ++ args ++ caps) h top fun v h' top' => putK nt env dst v fun e => K ⟨⟨fn, nt, e, .inReg rest :: k, defers, false, round⟩, up, h', top'⟩
          | none => enterK F f (first ++ args ++ caps) fun c => K ⟨c, ⟨fn, nt, env, .inReg (⟨dst, op, g⟩ :: rest) :: k, defers, false, round⟩ :: up, h, top⟩
        | .func (.yield l) ⟨[]⟩ ⟨[]⟩ :: args => match callRound l args h with
          | some c => K ⟨c, ⟨fn, nt, env, .inReg (⟨dst, op, g⟩ :: rest) :: k, defers, false, round⟩ :: up, h, top⟩
          | none => False
        | _ => False
      | op => opK op vals h top fun v h' top' => match v with
        | some v => putK nt env dst v fun e => K ⟨⟨fn, nt, e, .inReg rest :: k, defers, false, round⟩, up, h', top'⟩
        | none => putK nt env dst undefV fun e => K ⟨⟨fn, nt, e, .inReg rest :: k, defers, false, round⟩, up, h', top'⟩
theorem stepOpK.elim {F : Fns} {S : Sums} {o : VOper} {rest : List VOper} {k : List VItem} {fn nt : Nat} {env : Env} {todo : List VItem} {defers : List Nat} {round : Option Nat} {up : List VFrame} {h : Hp} {top : Nat} {K : VM → Prop}
    (hk : stepOpK F S o rest k fn nt env defers round up h top K) : ∃ vm', stepOp F S o rest k ⟨fn, nt, env, todo, defers, false, round⟩ up h top = some vm' ∧ K vm' := by
  obtain ⟨dst, op, g⟩ := o
  unfold stepOpK at hk
  unfold stepOp
  simp only at hk ⊢
  split at hk
  · exact hk.elim
  · rename_i vals hv
    simp only [hv]
    split at hk
    · rename_i f xs
      split at hk
      · rename_i s hs
        obtain ⟨v, h', top', h1, h2⟩ := hk.elim
        rw [putK_eq] at h2
        exact ⟨_, by simp only [hs, h1], h2⟩
      · rename_i hs
        obtain ⟨c, h1, h2⟩ := hk.elim
        exact ⟨_, by simp only [hs, h1], h2⟩
    · split at hk
      · split at hk
        · rename_i s hs
          obtain ⟨v, h', top', h1, h2⟩ := hk.elim
          rw [putK_eq] at h2
          exact ⟨_, by simp only [hs, h1], h2⟩
        · rename_i hs
          obtain ⟨c, h1, h2⟩ := hk.elim
          exact ⟨_, by simp only [hs, h1], h2⟩
      · split at hk
        · rename_i c hc
          exact ⟨_, by simp only [hc], hk⟩
        · exact hk.elim
      · exact hk.elim
    · rename_i hne1 hne2
      obtain ⟨v, h', top', h1, h2⟩ := hk.elim
      refine ⟨⟨⟨fn, nt, putD nt env dst (v.getD undefV), .inReg rest :: k, defers, false, round⟩, up, h', top'⟩, ?_, ?_⟩
      · split
        · exact absurd rfl (hne1 _ _)
        · exact absurd rfl (hne2 _ _)
        · simp only [h1]
      · cases v with
        | none => simp only [putK_eq] at h2; exact h2
        | some v => simp only [putK_eq] at h2; exact h2
def setBK (e : Env) (d : Nat) (x : Bool) (K : Env → Prop) : Prop :=
  match e with
  | [] => K []
  | (i, v) :: l => cond (Nat.beq i d) (K ((i, .bool x) :: l)) (setBK l d x fun l' => K ((i, v) :: l'))
theorem setBK_eq : ∀ {e : Env} {d : Nat} {x : Bool} {K : Env → Prop}, aget e d = some (.bool x) → setBK e d x K = K e
  | [], d, x, K, h => rfl
  | (i, v) :: l, d, x, K, h => by
    simp only [aget] at h
    simp only [setBK]
    cases hb : Nat.beq i d with
    | true => rw [hb, cond_true, Option.some.injEq] at h; subst h; rfl
    | false => rw [hb, cond_false] at h; simp only [cond_false]; rw [setBK_eq h]
def leaveRoundK (l : Nat) (jump : Option VC) (up : List VFrame) (h : Hp) (top : Nat) (K : VM → Prop) : Prop :=
  match leaveRound l jump up h top with
  | some ⟨u, us, h', top'⟩ => K ⟨u, us, h', top'⟩
  | none => False
theorem leaveRoundK.elim {l : Nat} {jump : Option VC} {up : List VFrame} {h : Hp} {top : Nat} {K : VM → Prop} (hk : leaveRoundK l jump up h top K) : ∃ vm', leaveRound l jump up h top = some vm' ∧ K vm' := by
  unfold leaveRoundK at hk
  split at hk
  · exact ⟨_, by assumption, hk⟩
  · exact hk.elim
def forceNL (l : List Nat) (K : List Nat → Prop) : Prop :=
  match l with
  | [] => K []
  | n :: l => forceNL l (fun l' => K (n :: l'))
theorem forceNL_eq : ∀ (l : List Nat) (K : List Nat → Prop), forceNL l K = K l
  | [], _ => rfl
  | v :: l, K => by rw [forceNL, forceNL_eq l]
def stepDK (S : Sums) (nt : Nat) (o : VOper) (e : Env) (h : Hp) (m : Nat) (K : Env → Hp → Nat → List Nat → List Nat → Prop) : Prop :=
  match o with
  | ⟨dst, op, _⟩ => match evalL e op.ops with
    | none => False
    | some vals => match op with
      | .callF f _ => match S f with
        | some s => sumK s vals h m fun v h' m' => putK nt e dst v fun e => forceNL (winBlks (winL h s.modes vals)) fun r => forceNL (winWr (winL h s.modes vals)) fun w => K e h' m' r w
        | none => False
      | .callV _ _ => match vals with
        | .func (.func f) ⟨first⟩ ⟨caps⟩ :: args => match S f with
          | some s => sumK s (first ++ args ++ caps) h m fun v h' m' => putK nt e dst v fun e => forceNL (winBlks (winL h s.modes (first ++ args ++ caps))) fun r => forceNL (winWr (winL h s.modes (first ++ args ++ caps))) fun w => K e h' m' r w
          | none => False
        | _ => False
      | op => opK op vals h m fun v h' m' => match v with
        | some v => putK nt e dst v fun e => K e h' m' (needs op vals) (cond (wrOp op) (needs op vals) [])
        | none => putK nt e dst undefV fun e => K e h' m' (needs op vals) (cond (wrOp op) (needs op vals) [])
theorem stepDK.elim {S : Sums} {nt : Nat} {o : VOper} {e : Env} {h : Hp} {m : Nat} {K : Env → Hp → Nat → List Nat → List Nat → Prop} (hk : stepDK S nt o e h m K) (hw : wantedV e o.g = some true) :
    ∃ e' h' m' r w, stepD S nt o e h m = some (e', h', m', r, w) ∧ K e' h' m' r w := by
  obtain ⟨dst, op, g⟩ := o
  unfold stepDK at hk
  simp only at hk hw
  unfold stepD
  simp only [hw]
  split at hk
  · exact hk.elim
  · rename_i vals hv
    simp only [hv]
    split at hk
    · split at hk
      · rename_i s hs
        obtain ⟨v, h', m', h1, h2⟩ := hk.elim
        rw [putK_eq, forceNL_eq, forceNL_eq] at h2
        exact ⟨_, _, _, _, _, by simp only [hs, h1], h2⟩
      · exact hk.elim
    · split at hk
      · split at hk
        · rename_i s hs
          obtain ⟨v, h', m', h1, h2⟩ := hk.elim
          rw [putK_eq, forceNL_eq, forceNL_eq] at h2
          exact ⟨_, _, _, _, _, by simp only [hs, h1], h2⟩
        · exact hk.elim
      · exact hk.elim
    · rename_i hne1 hne2
      obtain ⟨v, h', m', h1, h2⟩ := hk.elim
      refine ⟨putD nt e dst (v.getD undefV), h', m', needs op vals, cond (wrOp op) (needs op vals) [], ?_, ?_⟩
      · split
        · exact absurd rfl (hne1 _ _)
        · exact absurd rfl (hne2 _ _)
        · simp only [h1]
      · cases v with
        | none => simp only [putK_eq] at h2; exact h2
        | some v => simp only [putK_eq] at h2; exact h2
def stepGK (S : Sums) (nt : Nat) (o : VOper) (e : Env) (h : Hp) (m : Nat) (K : Env → Hp → Nat → List Nat → List Nat → Prop) : Prop :=
  match o with
  | ⟨dst, op, none⟩ => stepDK S nt ⟨dst, op, none⟩ e h m K
  | ⟨dst, op, some (d, x)⟩ => match aget e d with
    | some (.bool b) => cond x
        (br b (setBK e d true fun e => stepDK S nt ⟨dst, op, some (d, x)⟩ e h m K) (setBK e d false fun e => putK nt e dst undefV fun e => K e h m [] []))
        (br b (setBK e d true fun e => putK nt e dst undefV fun e => K e h m [] []) (setBK e d false fun e => stepDK S nt ⟨dst, op, some (d, x)⟩ e h m K))
    | some (.tuple ⟨[]⟩) => putK nt e dst undefV fun e => K e h m [] []
    | _ => False
def regDK (S : Sums) (nt : Nat) (os : List VOper) (e : Env) (h : Hp) (m : Nat) (K : List Fp → Env → Hp → Nat → Prop) : Prop :=
  match os with
  | [] => K [] e h m
  | o :: os => stepGK S nt o e h m fun e1 h1 m1 r w => regDK S nt os e1 h1 (m1 + 1) fun fps e h m' => K ((r, w ++ List.range' m (m1 - m)) :: fps) e h m'
theorem br.cases {b : Bool} {p q : Prop} (h : br b p q) : (b = true ∧ p) ∨ (b = false ∧ q) := by cases b; exact .inr ⟨rfl, h⟩; exact .inl ⟨rfl, h⟩
theorem stepGK.elim {S : Sums} {nt : Nat} {o : VOper} {e : Env} {h : Hp} {m : Nat} {K : Env → Hp → Nat → List Nat → List Nat → Prop} (hk : stepGK S nt o e h m K) :
    ∃ e' h' m' r w, stepD S nt o e h m = some (e', h', m', r, w) ∧ K e' h' m' r w := by
  obtain ⟨dst, op, g⟩ := o
  cases g with
  | none => exact stepDK.elim (o := ⟨dst, op, none⟩) hk rfl
  | some p =>
    obtain ⟨d, x⟩ := p
    simp only [stepGK] at hk
    have skip : wantedV e (some (d, x)) = some false → (putK nt e dst undefV fun e => K e h m [] []) → ∃ e' h' m' r w, stepD S nt ⟨dst, op, some (d, x)⟩ e h m = some (e', h', m', r, w) ∧ K e' h' m' r w := fun hw hk => by
      rw [putK_eq] at hk
      exact ⟨_, _, _, _, _, by simp only [stepD, hw], hk⟩
    split at hk
    · rename_i b hb
      cases x with
      | true =>
        rw [cond_true] at hk
        rcases hk.cases with ⟨rfl, hk⟩ | ⟨rfl, hk⟩ <;> rw [setBK_eq hb] at hk
        · exact stepDK.elim (show stepDK S nt ⟨dst, op, some (d, true)⟩ e h m K from hk) (by simp [wantedV, hb])
        · exact skip (by simp [wantedV, hb]) hk
      | false =>
        rw [cond_false] at hk
        rcases hk.cases with ⟨rfl, hk⟩ | ⟨rfl, hk⟩ <;> rw [setBK_eq hb] at hk
        · exact skip (by simp [wantedV, hb]) hk
        · exact stepDK.elim (show stepDK S nt ⟨dst, op, some (d, false)⟩ e h m K from hk) (by simp [wantedV, hb])
    · rename_i hb
      exact skip (by simp [wantedV, hb]) hk
    · exact hk.elim
theorem regDK.elim {S : Sums} {nt : Nat} : ∀ {os : List VOper} {e : Env} {h : Hp} {m : Nat} {K : List Fp → Env → Hp → Nat → Prop}, regDK S nt os e h m K → ∃ fps e' h' m', runD S nt os e h m = some (fps, e', h', m') ∧ K fps e' h' m'
  | [], e, h, m, K, hk => ⟨_, _, _, _, rfl, hk⟩
  | o :: os, e, h, m, K, hk => by
    simp only [regDK] at hk
    obtain ⟨e1, h1, m1, r, w, g1, g2⟩ := hk.elim
    obtain ⟨fps, e', h', m', k1, k2⟩ := regDK.elim g2
    exact ⟨_, _, _, _, by simp only [runD, g1, k1], k2⟩
def evStep (F : Fns) (S : Sums) (f : Nat) (lp : Bool) (L : VM → Prop) (E : Value → Hp → Nat → Prop) (K : VM → Prop) : VM → Prop
  | ⟨⟨fn, nt, env, todo, defers, ret, round⟩, up, h, top⟩ =>
    match ret with
    | true => match defers with
      | r :: ds => match aget h r with
        | some .marks => adelK h r fun h' => K ⟨⟨fn, nt, env, todo, ds, true, round⟩, up, h', top⟩
        | _ => False
      | [] => match F fn with
        | some ⟨_, _, rs⟩ => resK env h rs fun vs => match up with
          | u :: us => forceV (tupV vs) fun v => finishK u v fun u' => K ⟨u', us, h, top⟩
          | [] => cond (Nat.beq fn f) (forceV (tupV vs) fun v => E v h top) False
        | none => False
    | false => match todo with
      | [] => match round with
        | none => K ⟨⟨fn, nt, env, [], defers, true, none⟩, up, h, top⟩
        | some l => leaveRoundK l none up h top K
      | .code .ret :: k => match round with
        | none => K ⟨⟨fn, nt, env, .code .ret :: k, defers, true, none⟩, up, h, top⟩
        | some l => leaveRoundK l (some .ret) up h top K
      | .code .skip :: k => K ⟨⟨fn, nt, env, k, defers, false, round⟩, up, h, top⟩
      | .inBlock _ :: k => K ⟨⟨fn, nt, env, k, defers, false, round⟩, up, h, top⟩
      | .code (.seq a b) :: k => K ⟨⟨fn, nt, env, .code a :: .code b :: k, defers, false, round⟩, up, h, top⟩
      | .code (.cond c a b) :: k => match evalO env c with
        | some (.bool x) => br x (K ⟨⟨fn, nt, env, .code a :: k, defers, false, round⟩, up, h, top⟩) (K ⟨⟨fn, nt, env, .code b :: k, defers, false, round⟩, up, h, top⟩)
        | _ => False
      | .code (.block id b) :: k => K ⟨⟨fn, nt, env, .code b :: .inBlock id :: k, defers, false, round⟩, up, h, top⟩
      | .code (.loop b) :: k => cond lp (L ⟨⟨fn, nt, env, .code b :: .inLoop b :: k, defers, false, round⟩, up, h, top⟩) (K ⟨⟨fn, nt, env, .code b :: .inLoop b :: k, defers, false, round⟩, up, h, top⟩)
      | .inLoop b :: k => cond lp (L ⟨⟨fn, nt, env, .code b :: .inLoop b :: k, defers, false, round⟩, up, h, top⟩) (K ⟨⟨fn, nt, env, .code b :: .inLoop b :: k, defers, false, round⟩, up, h, top⟩)
      | .code (.exit id) :: k => match exitTo id k with
        | some k' => K ⟨⟨fn, nt, env, k', defers, false, round⟩, up, h, top⟩
        | none => match round with
          | none => False
          | some l => leaveRoundK l (some (.exit id)) up h top K
      | .code (.reg ops) :: k => K ⟨⟨fn, nt, env, .inReg ops :: k, defers, false, round⟩, up, h, top⟩
      | .code .stuck :: _ => False
      | .code (.regD ops ord post) :: k => regDK S nt ops env h top fun fps e h m => req (okPairs fps ord) (K ⟨⟨fn, nt, e, .inReg post :: k, defers, false, round⟩, up, h, m⟩)
      | .inReg [] :: k => K ⟨⟨fn, nt, env, k, defers, false, round⟩, up, h, top⟩
      | .inReg (⟨dst, op, none⟩ :: rest) :: k => stepOpK F S ⟨dst, op, none⟩ rest k fn nt env defers round up h top K
      | .inReg (⟨dst, op, some (d, w)⟩ :: rest) :: k => match aget env d with
        | some (.bool b) => cond w
            (br b (setBK env d true fun env => stepOpK F S ⟨dst, op, some (d, w)⟩ rest k fn nt env defers round up h top K) (setBK env d false fun env => putK nt env dst undefV fun e => K ⟨⟨fn, nt, e, .inReg rest :: k, defers, false, round⟩, up, h, top⟩))
            (br b (setBK env d true fun env => putK nt env dst undefV fun e => K ⟨⟨fn, nt, e, .inReg rest :: k, defers, false, round⟩, up, h, top⟩) (setBK env d false fun env => stepOpK F S ⟨dst, op, some (d, w)⟩ rest k fn nt env defers round up h top K))
        | some (.tuple ⟨[]⟩) => putK nt env dst undefV fun e => K ⟨⟨fn, nt, e, .inReg rest :: k, defers, false, round⟩, up, h, top⟩
        | _ => False
      | .code (.rangeF f ps asg body) :: k => match evalO env f, round with
        | some (.func (.func g) ⟨first⟩ ⟨caps⟩), none =>
          enterK F g (first ++ [.func (.yield (top + 1)) #[] #[]] ++ caps) fun c => aputK h top .marks fun h1 => aputK h1 (top + 1) (.loop ⟨.ready, none, fn, nt, env, ps, asg, body, top⟩) fun h2 =>
            K ⟨c, ⟨fn, nt, env, .inRangeFunc (top + 1) :: k, top :: defers, false, none⟩ :: up, h2, top + 2⟩
        | some (.func (.func g) ⟨first⟩ ⟨caps⟩), some l0 => match aget h l0 with
          | some (.loop r0) => enterK F g (first ++ [.func (.yield top) #[] #[]] ++ caps) fun c => aputK h top (.loop ⟨.ready, none, fn, nt, env, ps, asg, body, r0.defers⟩) fun h2 =>
              K ⟨c, ⟨fn, nt, env, .inRangeFunc top :: k, defers, false, some l0⟩ :: up, h2, top + 1⟩
          | _ => False
        | _, _ => False
      | .inRangeFunc _ :: _ => False
      | .endRangeFunc l :: k => match aget h l with
        | some (.loop ⟨st, pend, fn', nt', env', ps, asg, body, ds⟩) => match st with
          | .busy => False
          | _ => aputK h l (.loop ⟨.exhausted, pend, fn', nt', env', ps, asg, body, ds⟩) fun h' => match pend with
            | some c => K ⟨⟨fn, nt, env, .code c :: k, defers, false, round⟩, up, h', top⟩
            | none => K ⟨⟨fn, nt, env, k, defers, false, round⟩, up, h', top⟩
        | _ => False
      | .beginRound :: k => match round with
        | some l => match aget h l with
          | some (.loop ⟨st, pend, fn', nt', env', ps, asg, body, ds⟩) => match st with
            | .ready => aputK h l (.loop ⟨.busy, pend, fn', nt', env', ps, asg, body, ds⟩) fun h' => K ⟨⟨fn, nt, env, k, defers, false, some l⟩, up, h', top⟩
            | _ => False
          | _ => False
        | none => False
section
variable {P : Program} {F : Fns} {S : Sums}
theorem evStep_ok (hF : FnsOK P F) (hS : SumsOK P S) {f base : Nat} {lp : Bool} {R : Value → Hp → Nat → Prop} {K : VM → Prop} (hK : ∀ vm, K vm → Leads P f base vm R) {vm : VM}
    (h : evStep F S f lp (fun vm => Leads P f base vm R) R K vm) : Leads P f base vm R := by
  obtain ⟨⟨fn, nt, env, todo, defers, ret, round⟩, up, H, top⟩ := vm
  unfold evStep at h
  simp only at h
  have go : ∀ vm', vstep F S ⟨⟨fn, nt, env, todo, defers, ret, round⟩, up, H, top⟩ = some vm' → K vm' → Leads P f base ⟨⟨fn, nt, env, todo, defers, ret, round⟩, up, H, top⟩ R :=
    fun vm' h1 h2 => Leads.next hF hS h1 (hK _ h2)
  split at h
  · split at h
    · split at h
      · rename_i hm
        rw [adelK_eq] at h
        exact go _ (by simp only [vstep, hm]) h
      · exact h.elim
    · split at h
      · rename_i nt' b' rs hf
        obtain ⟨vs, h1, h2⟩ := h.elim
        split at h2
        · rw [forceV_eq] at h2
          obtain ⟨u', h3, h4⟩ := h2.elim
          exact go _ (by simp only [vstep, hf, h1, h3]) h4
        · cases hb : Nat.beq fn f with
          | false => rw [hb] at h2; exact h2.elim
          | true =>
            rw [hb, cond_true, forceV_eq] at h2
            have := Nat.eq_of_beq_eq_true hb
            subst this
            exact Leads.stop hF hf h1 h2
      · exact h.elim
  · split at h
    · split at h
      · exact go _ (by simp only [vstep]) h
      · obtain ⟨vm', h1, h2⟩ := h.elim
        exact go _ (by simp only [vstep, h1]) h2
    · split at h
      · exact go _ (by simp only [vstep]) h
      · obtain ⟨vm', h1, h2⟩ := h.elim
        exact go _ (by simp only [vstep, h1]) h2
    · exact go _ (by simp only [vstep]) h
    · exact go _ (by simp only [vstep]) h
    · exact go _ (by simp only [vstep]) h
    · split at h
      · rename_i x hx
        rcases h.cases with ⟨rfl, h⟩ | ⟨rfl, h⟩
        · exact go _ (by simp only [vstep, hx]; rfl) h
        · exact go _ (by simp only [vstep, hx]; rfl) h
      · exact h.elim
    · exact go _ (by simp only [vstep]) h
    · cases lp
      · exact go _ (by simp only [vstep]) h
      · exact Leads.next hF hS (vm' := _) (by simp only [vstep]) h
    · cases lp
      · exact go _ (by simp only [vstep]) h
      · exact Leads.next hF hS (vm' := _) (by simp only [vstep]) h
    · split at h
      · rename_i k' hk'
        exact go _ (by simp only [vstep, hk']) h
      · rename_i hk'
        split at h
        · exact h.elim
        · obtain ⟨vm', h1, h2⟩ := h.elim
          exact go _ (by simp only [vstep, hk', h1]) h2
    · exact go _ (by simp only [vstep]) h
    · exact h.elim
    · obtain ⟨fps, e', h', m', g1, g2⟩ := h.elim
      obtain ⟨g3, g4⟩ := g2.elim
      exact go _ (by simp only [vstep, g1, g3]) g4
    · exact go _ (by simp only [vstep]) h
    · obtain ⟨vm', h1, h2⟩ := stepOpK.elim (todo := _) h
      exact go _ (by simp only [vstep, wantedV]; exact h1) h2
    · split at h
      · rename_i b hb
        rename_i w _ _ _
        cases w
        · rcases h.cases with ⟨rfl, h'⟩ | ⟨rfl, h'⟩ <;> rw [setBK_eq hb] at h'
          · rw [putK_eq] at h'
            replace h := h'
            exact go _ (by simp only [vstep, wantedV, hb]; rfl) h
          · obtain ⟨vm', h1, h2⟩ := stepOpK.elim (todo := _) h'
            exact go _ (by simp only [vstep, wantedV, hb]; exact h1) h2
        · rcases h.cases with ⟨rfl, h'⟩ | ⟨rfl, h'⟩ <;> rw [setBK_eq hb] at h'
          · obtain ⟨vm', h1, h2⟩ := stepOpK.elim (todo := _) h'
            exact go _ (by simp only [vstep, wantedV, hb]; exact h1) h2
          · rw [putK_eq] at h'
            replace h := h'
            exact go _ (by simp only [vstep, wantedV, hb]; rfl) h
      · rename_i hb
        rw [putK_eq] at h
        exact go _ (by simp only [vstep, wantedV, hb]) h
      · exact h.elim
    · split at h
      · rename_i hfv
        obtain ⟨c, h1, h2⟩ := h.elim
        rw [aputK_eq, aputK_eq] at h2
        exact go _ (by simp only [vstep, hfv, h1]) h2
      · rename_i hfv
        split at h
        · rename_i r0 hr0
          obtain ⟨c, h1, h2⟩ := h.elim
          rw [aputK_eq] at h2
          exact go _ (by simp only [vstep, hfv, hr0, h1]) h2
        · exact h.elim
      · exact h.elim
    · exact h.elim
    · split at h
      · rename_i hl
        split at h
        · exact h.elim
        · rename_i hb
          rw [aputK_eq] at h
          split at h
          · rename_i st _ _ _ _ _ _ _ _ _ _
            exact go _ (by simp only [vstep, hl]; cases st <;> first | exact absurd rfl hb | rfl) h
          · rename_i st _ _ _ _ _ _ _ _ _
            exact go _ (by simp only [vstep, hl]; cases st <;> first | exact absurd rfl hb | rfl) h
      · exact h.elim
    · split at h
      · split at h
        · rename_i hl
          split at h
          · rw [aputK_eq] at h
            exact go _ (by simp only [vstep, hl]) h
          · exact h.elim
        · exact h.elim
      · exact h.elim
def ev (F : Fns) (S : Sums) (f : Nat) (lp : Bool) (L : VM → Prop) (E : Value → Hp → Nat → Prop) : Nat → VM → Prop
  | 0, vm => L vm
  | n + 1, vm => evStep F S f lp L E (ev F S f lp L E n) vm
theorem ev_ok (hF : FnsOK P F) (hS : SumsOK P S) {f base : Nat} (lp : Bool) {R : Value → Hp → Nat → Prop} : ∀ (n : Nat) {vm : VM}, ev F S f lp (fun vm => Leads P f base vm R) R n vm → Leads P f base vm R
  | 0, _, h => h
  | n + 1, _, h => evStep_ok hF hS (fun _ h => ev_ok hF hS lp n h) h
end
end Go.Vm
namespace Go.Vm
open Go
def TabOK (P : Program) : List (Nat × VFn) → Prop
  | [] => True
  | (i, vf) :: l => (P.funcs[i]?).bind (compFn P) = some vf ∧ TabOK P l
theorem FnsOK.of_tab {P : Program} : ∀ {l : List (Nat × VFn)}, TabOK P l → FnsOK P (aget l)
  | [], _, f, vf, h => by simp [aget] at h
  | (i, v) :: l, hl, f, vf, h => by
    obtain ⟨h1, h2⟩ := hl
    simp only [aget] at h
    cases hb : Nat.beq i f with
    | true =>
      rw [hb, cond_true, Option.some.injEq] at h
      subst h
      have := Nat.eq_of_beq_eq_true hb
      subst this
      cases hf : P.funcs[i]? with
      | none => simp [hf] at h1
      | some fn => rw [hf, Option.bind_some] at h1; exact ⟨fn, rfl, h1⟩
    | false =>
      rw [hb, cond_false] at h
      exact FnsOK.of_tab h2 f vf h
theorem SumsOK.none {P : Program} : SumsOK P (fun _ => none) := fun _ _ h => by cases h
end Go.Vm
namespace Go.Vm
open Go
def subE (e : Env) : Env → Prop
  | [] => True
  | (i, v) :: l => aget e i = some v ∧ subE e l
theorem subE_get {e : Env} : ∀ {l : Env}, subE e l → ∀ i v, aget l i = some v → aget e i = some v
  | [], _, i, v, h => by simp [aget] at h
  | (j, u) :: l, h, i, v, hv => by
    obtain ⟨h1, h2⟩ := h
    simp only [aget] at hv
    cases hb : Nat.beq j i with
    | true =>
      rw [hb, cond_true, Option.some.injEq] at hv
      subst hv
      have := Nat.eq_of_beq_eq_true hb; subst this
      exact h1
    | false =>
      rw [hb, cond_false] at hv
      exact subE_get h2 i v hv
theorem Leads.env {P : Program} {f base fn nt : Nat} {e e' : Env} {todo : List VItem} {defers : List Nat} {ret : Bool} {round : Option Nat} {up : List VFrame} {H : Hp} {top : Nat} {R : Value → Hp → Nat → Prop}
    (h : Leads P f base ⟨⟨fn, nt, e', todo, defers, ret, round⟩, up, H, top⟩ R) (hs : subE e e') : Leads P f base ⟨⟨fn, nt, e, todo, defers, ret, round⟩, up, H, top⟩ R := by
  refine ⟨fun w0 U ρ rf rfs w cs hr => ?_⟩
  exact h.get w0 U ρ rf rfs w cs ⟨{ hr.cur with env := fun i v hv => hr.cur.env i v (subE_get hs i v hv) }, hr.up, hr.heap⟩
end Go.Vm
namespace Go.Vm
open Go Go.RowKit
inductive SArg where
  | v (x : Value)
  | sl (n : Nat) (cs : List Value)
def entry (k : Nat) : List Md → List SArg → List Value
  | .v :: ms, .v x :: aqs => x :: entry k ms aqs
  | .sl sz :: ms, .sl n _ :: aqs => .slice (some ⟨k, 0, none⟩) n sz :: entry (k + 1) ms aqs
  | _, _ => []
def rowsOf (k : Nat) : List SArg → Hp
  | .sl _ cs :: aqs => (k, .row false cs) :: rowsOf (k + 1) aqs
  | .v _ :: aqs => rowsOf k aqs
  | [] => []
def wins : List SArg → Nat
  | .sl _ _ :: aqs => wins aqs + 1
  | .v _ :: aqs => wins aqs
  | [] => 0
def ArgR (w : World) : Md → SArg → Value → Prop
  | .v, .v x, rv => flatV x = true ∧ rv = x
  | .sl sz, .sl n cs, rv => ((∃ a, rv = .slice a 0 0) ∧ n = 0 ∧ cs = []) ∨ ∃ b o c, rv = .slice (some ⟨b, o, none⟩) n c ∧ n ≤ c ∧ ∀ ρ, CellsR ρ w ⟨b, o, c * sz⟩ false cs
  | _, _, _ => False
inductive ArgsR (w : World) : List Md → List SArg → List Value → Prop
  | nil : ArgsR w [] [] []
  | cons {m ms a aqs v vs} (h : ArgR w m a v) (t : ArgsR w ms aqs vs) : ArgsR w (m :: ms) (a :: aqs) (v :: vs)
theorem add_win {k n : Nat} {ρc : Ren} {vs rvs : List Value} {Hr : Hp} {w : World} (c1 : ∀ i l, ρc i = some l → k + 1 ≤ i ∧ i < k + 1 + n) (c2 : VRL ρc vs rvs)
    (c3 : ∀ i o, aget Hr i = some o → ∃ cs l, o = .row false cs ∧ ρc i = some l ∧ ∀ ρ', CellsR ρ' w l false cs) (l : Loc) (cs : List Value) (hc : ∀ ρ', CellsR ρ' w l false cs) :
    (∀ i l', upd ρc k l i = some l' → k ≤ i ∧ i < k + 1 + n) ∧ VRL (upd ρc k l) vs rvs ∧
      (∀ i o, aget ((k, .row false cs) :: Hr) i = some o → ∃ cs l', o = .row false cs ∧ upd ρc k l i = some l' ∧ ∀ ρ', CellsR ρ' w l' false cs) ∧ upd ρc k l k = some l := by
  have hoff : ρc k = none := by
    cases e : ρc k with
    | none => rfl
    | some l => have := (c1 k l e).1; omega
  refine ⟨fun i l' e => ?_, c2.mono (Ext.upd hoff), fun i o e => ?_, upd_same _ _ _⟩
  · by_cases hi : k = i
    · subst hi; omega
    · rw [upd_ne _ _ hi] at e; have := c1 i l' e; omega
  · rw [aget_cons] at e
    split at e
    · rename_i hk
      cases e; subst hk
      exact ⟨cs, l, rfl, upd_same _ _ _, hc⟩
    · rename_i hk
      obtain ⟨cs', l', a, b, c⟩ := c3 i o e
      exact ⟨cs', l', a, by rw [upd_ne _ _ hk]; exact b, c⟩
theorem argsR_fit {w : World} : ∀ {ms : List Md} {aqs : List SArg} {rvals : List Value} (k : Nat), ArgsR w ms aqs rvals →
    ∃ ρc : Ren, (∀ i l, ρc i = some l → k ≤ i ∧ i < k + wins aqs) ∧ VRL ρc (entry k ms aqs) rvals ∧
      (∀ i o, aget (rowsOf k aqs) i = some o → ∃ cs l, o = .row false cs ∧ ρc i = some l ∧ ∀ ρ', CellsR ρ' w l false cs)
  | _, _, _, k, .nil => ⟨fun _ => none, fun i l e => by simp at e, .nil, fun i o e => by simp [rowsOf, aget] at e⟩
  | _, _, _, k, .cons (m := m) (a := a) (v := v) h t => by
    cases m with
    | v =>
      cases a with
      | v x =>
        obtain ⟨hf, rfl⟩ := h
        obtain ⟨ρc, c1, c2, c3⟩ := argsR_fit k t
        exact ⟨ρc, c1, .cons (VR.flat _ _ hf) c2, c3⟩
      | _ => exact h.elim
    | sl sz =>
      cases a with
      | sl n cs =>
        obtain ⟨ρc, c1, c2, c3⟩ := argsR_fit (k + 1) t
        rcases h with ⟨⟨a, rfl⟩, rfl, rfl⟩ | ⟨b, o, c, rfl, hn, hc⟩
        · obtain ⟨d1, d2, d3, d4⟩ := add_win c1 c2 c3 ⟨0, 0, 0⟩ [] (fun ρ' => ⟨Nat.zero_le _, fun i v e => by simp at e, fun i hi => absurd hi (Nat.not_lt_zero _)⟩)
          exact ⟨_, by simpa [wins, Nat.add_assoc, Nat.add_comm 1] using d1, .cons (.slice0 _) d2, d3⟩
        · obtain ⟨d1, d2, d3, d4⟩ := add_win c1 c2 c3 ⟨b, o, c * sz⟩ cs hc
          exact ⟨_, by simpa [wins, Nat.add_assoc, Nat.add_comm 1] using d1, .cons (.slice d4 hn (by simp)) d2, d3⟩
      | _ => exact h.elim
    | pt n => cases a <;> exact h.elim
    | tr ps => cases a <;> exact h.elim
theorem calls_of_leads {P : Program} {F : Fns} (hF : FnsOK P F) {f : Nat} {ms : List Md} {aqs : List SArg} {rvals : List Value} {w : World} {c : VFrame} {r : Bool}
    (ha : ArgsR w ms aqs rvals) (hc : enterF F f (entry 0 ms aqs) = some c) (hl : Leads P f (wins aqs) ⟨c, [], rowsOf 0 aqs, wins aqs⟩ (fun v _ _ => v = .bool r)) :
    Calls P f ⟨rvals⟩ w fun e w' => e = .returned (.bool r) ∧ Below w.heap.size w w' := by
  intro cs
  obtain ⟨ρc, c1, c2, c3⟩ := argsR_fit 0 ha
  have hpc : HpR P w UG.no ρc (rowsOf 0 aqs) (wins aqs) w :=
    { obj := fun i o e => by obtain ⟨cs', l, rfl, a, b⟩ := c3 i o e; exact ⟨l, a, b ρc, fun e => by cases e⟩
      dis := fun i j oi oj li lj _ hi _ _ _ hw => by obtain ⟨cs', l, rfl, a, b⟩ := c3 i oi hi; cases hw
      lt := fun i l e => by have := c1 i l e; exact .inr ⟨Nat.zero_le _, by omega⟩
      keep := Keep.refl _ _ }
  obtain ⟨ρ', rv, fr', w', v', Hc, tc, g1, g2, g3, g4, g5, g6, g7⟩ := hl.get w _ ρc _ [] w cs ⟨(enter_ok hF hc c2).1, .nil, hpc⟩
  subst g7
  obtain rfl := g4.boolInv
  exact ⟨.returned (.bool r), w', fr', ⟨rfl, g5.keep.toBelow⟩, g1, g2, g3⟩
end Go.Vm
namespace Go.Vm
open Go
def SumTab (P : Program) : List (Nat × Summ) → Prop
  | [] => True
  | (i, s) :: l => SumOK P i s ∧ SumTab P l
theorem SumsOK.of_tab {P : Program} : ∀ {l : List (Nat × Summ)}, SumTab P l → SumsOK P (aget l)
  | [], _, f, s, h => by simp [aget] at h
  | (i, v) :: l, hl, f, s, h => by
    obtain ⟨h1, h2⟩ := hl
    simp only [aget] at h
    cases hb : Nat.beq i f with
    | true =>
      rw [hb, cond_true, Option.some.injEq] at h
      subst h
      have := Nat.eq_of_beq_eq_true hb
      subst this
      exact h1
    | false =>
      rw [hb, cond_false] at h
      exact SumsOK.of_tab h2 f s h
theorem sumK.intro {s : Summ} {vals : List Value} {h : Hp} {top : Nat} {K : Value → Hp → Nat → Prop} {v : Value} {h' : Hp} {top' : Nat} (e : sumRun s vals h top = some (v, h', top')) (k : forceV v fun v => K v h' top') : sumK s vals h top K := by
  unfold sumK; rw [e]; simp only [forceV_eq, forceH_eq] at *; exact k
def unL {α : Type} (f : Value → Option α) : List Value → Option (List α)
  | [] => some []
  | v :: l => match f v with
    | some x => match unL f l with
      | some xs => some (x :: xs)
      | none => none
    | none => none
theorem unL_map {α : Type} {f : Value → Option α} {g : α → Value} (h : ∀ x, f (g x) = some x) : ∀ (xs : List α), unL f (xs.map g) = some xs
  | [] => rfl
  | x :: xs => by rw [List.map_cons, unL, h, unL_map h xs]
theorem unL_eq {α : Type} {f : Value → Option α} {g : α → Value} (h : ∀ v x, f v = some x → v = g x) : ∀ {cs : List Value} {xs : List α}, unL f cs = some xs → cs = xs.map g
  | [], xs, e => by simp only [unL, Option.some.injEq] at e; subst e; rfl
  | v :: cs, xs, e => by
    simp only [unL] at e
    split at e <;> try (cases e; done)
    rename_i x hx
    split at e <;> cases e
    rename_i ys hys
    rw [List.map_cons, ← h v x hx, ← unL_eq h hys]
theorem flatL_map {α : Type} {g : α → Value} (h : ∀ x, flatV (g x) = true) : ∀ (xs : List α), flatV.flatL (xs.map g) = true
  | [] => rfl
  | x :: xs => by rw [List.map_cons, flatV.flatL, h, flatL_map h xs]; rfl
def asI (k : IntKind) : Value → Option Int | .int k' n => if k' = k then some n else none | _ => none
theorem asI_eq (k : IntKind) (v : Value) (x : Int) (h : asI k v = some x) : v = .int k x := by
  cases v <;> simp [asI] at h
  obtain ⟨rfl, rfl⟩ := h; rfl
def reE (m : Nat → Option Nat) (e : Env) : Env → Prop
  | [] => True
  | (i, v) :: l => (∃ v', renV m v = some v' ∧ aget e i = some v') ∧ reE m e l
theorem reE_ren {m : Nat → Option Nat} {e : Env} : ∀ {l : Env}, reE m e l → renE m e l
  | [], _ => trivial
  | (i, v) :: l, ⟨⟨v', h1, h2⟩, h3⟩ => ⟨by rw [h1]; exact h2, reE_ren h3⟩
def reH (m : Nat → Option Nat) (H : Hp) : Hp → Prop
  | [] => True
  | (i, o') :: l => (∃ j o, m i = some j ∧ aget H j = some o ∧ OSub m o o') ∧ reH m H l
theorem reH_sub {m : Nat → Option Nat} {H : Hp} : ∀ {l : Hp}, reH m H l → HSub m H l
  | [], _, i, o, h => by simp [aget] at h
  | (k, x) :: l, ⟨h1, h2⟩, i, o, h => by
    rw [aget_cons] at h
    split at h
    · rename_i e; cases h; subst e; exact h1
    · exact reH_sub h2 i o h
def reU (m : Nat → Option Nat) : List VFrame → List VFrame → Prop
  | [], [] => True
  | ⟨fn, nt, e, td, ds, ret, rd⟩ :: l, ⟨fn', nt', e', td', ds', ret', rd'⟩ :: l' => (fn' = fn ∧ nt' = nt ∧ ret' = ret ∧ rd = none ∧ rd' = none ∧ reE m e e' ∧ renT m td' = some td ∧ renN m ds' = some ds) ∧ reU m l l'
  | _, _ => False
theorem reU_sub {m : Nat → Option Nat} : ∀ {l l' : List VFrame}, reU m l l' → All2 (FSub m) l l'
  | [], [], _ => .nil
  | ⟨_, _, _, _, _, _, _⟩ :: l, ⟨_, _, _, _, _, _, _⟩ :: l', ⟨⟨h1, h2, h3, h4, h5, h6, h7, h8⟩, h9⟩ => .cons ⟨h1, h2, reE_ren h6, h7, h8, h3, by simp only; rw [h4, h5]; trivial⟩ (reU_sub h9)
  | [], _ :: _, h => h.elim
  | _ :: _, [], h => h.elim
def valsNot (j : Nat) : List (Nat × Nat) → Bool
  | [] => true
  | (_, k) :: l => cond (Nat.beq j k) false (valsNot j l)
def chkM (base top' : Nat) : List (Nat × Nat) → Bool
  | m => injM m && ltM m && fixM m base
where
  injM : List (Nat × Nat) → Bool
    | [] => true
    | (_, j) :: l => valsNot j l && injM l
  ltM : List (Nat × Nat) → Bool
    | [] => true
    | (i, _) :: l => Nat.blt i top' && ltM l
  fixM (m : List (Nat × Nat)) : Nat → Bool
    | 0 => true
    | n + 1 => (match aget m n with | some j => Nat.beq j n | none => false) && fixM m n
theorem valsNot_spec {j : Nat} : ∀ {l : List (Nat × Nat)}, valsNot j l = true → ∀ i, aget l i ≠ some j
  | [], _, i, h => by simp [aget] at h
  | (a, k) :: l, hv, i, h => by
    simp only [valsNot] at hv
    cases hb : Nat.beq j k with
    | true => rw [hb] at hv; cases hv
    | false =>
      rw [hb, cond_false] at hv
      rw [aget_cons] at h
      split at h
      · cases h; simp at hb
      · exact valsNot_spec hv i h
theorem injM_spec {top' : Nat} : ∀ {l : List (Nat × Nat)}, chkM.injM l = true → ∀ i j k, aget l i = some k → aget l j = some k → i = j
  | [], _, i, j, k, h, _ => by simp [aget] at h
  | (a, b) :: l, hv, i, j, k, h1, h2 => by
    simp only [chkM.injM, Bool.and_eq_true] at hv
    rw [aget_cons] at h1 h2
    split at h1 <;> split at h2
    · omega
    · cases h1; exact absurd h2 (valsNot_spec hv.1 j)
    · cases h2; exact absurd h1 (valsNot_spec hv.1 i)
    · exact injM_spec (top' := top') hv.2 i j k h1 h2
theorem ltM_spec {top' : Nat} : ∀ {l : List (Nat × Nat)}, chkM.ltM top' l = true → ∀ i j, aget l i = some j → i < top'
  | [], _, i, j, h => by simp [aget] at h
  | (a, b) :: l, hv, i, j, h => by
    simp only [chkM.ltM, Bool.and_eq_true] at hv
    rw [aget_cons] at h
    split at h
    · rename_i e; subst e; exact Nat.blt_eq.mp hv.1
    · exact ltM_spec hv.2 i j h
theorem fixM_spec {m : List (Nat × Nat)} : ∀ {n : Nat}, chkM.fixM m n = true → ∀ i, i < n → aget m i = some i
  | 0, _, i, h => absurd h (Nat.not_lt_zero _)
  | n + 1, hv, i, h => by
    simp only [chkM.fixM, Bool.and_eq_true] at hv
    by_cases hi : i = n
    · subst hi
      have := hv.1
      split at this
      · rename_i j hj; rw [hj, Nat.eq_of_beq_eq_true this]
      · cases this
    · exact fixM_spec hv.2 i (by omega)
theorem Leads.re {P : Program} {f base fn nt : Nat} {e e' : Env} {todo todo' : List VItem} {ds ds' : List Nat} {ret : Bool} {up up' : List VFrame} {H H' : Hp} {top top' : Nat} {R : Value → Hp → Nat → Prop}
    (h : Leads P f base ⟨⟨fn, nt, e', todo', ds', ret, none⟩, up', H', top'⟩ R) (m : List (Nat × Nat)) (hc : chkM base top' m = true) (he : reE (aget m) e e') (hH : reH (aget m) H H')
    (ht : renT (aget m) todo' = some todo := by rfl) (hd : renN (aget m) ds' = some ds := by rfl) (hu : reU (aget m) up up' := by trivial) :
    Leads P f base ⟨⟨fn, nt, e, todo, ds, ret, none⟩, up, H, top⟩ R := by
  simp only [chkM, Bool.and_eq_true] at hc
  refine Leads.sub (s := aget m) ?_ h
  exact ⟨⟨rfl, rfl, reE_ren he, ht, hd, rfl, trivial⟩, reU_sub hu, reH_sub hH, injM_spec (top' := top') hc.1.1, ltM_spec hc.1.2, fixM_spec hc.2⟩
end Go.Vm
namespace Go.Vm
open Go Go.RowKit Go.WideShapes
def structK (g : TypeId → Option (List SK)) (P : Program) (o : Nat) : List Field → Option (List SK)
  | [] => some []
  | f :: fs => if f.offset = o then match g f.type with
    | some a => if a.length = P.cellsOf f.type then match structK g P (o + a.length) fs with
      | some b => some (a ++ b)
      | none => none
      else none
    | none => none
    else none
def leafK (P : Program) : Nat → TypeId → Option (List SK)
  | 0, _ => none
  | n + 1, t => match P.underlying t with
    | some .bool => some [.bool]
    | some (.int k) => some [.int k]
    | some .string => some [.str]
    | some (.struct fs) => match structK (leafK P n) P 0 fs.toList with
      | some ks => if ks.length = P.cellsOf t then some ks else none
      | none => none
    | _ => none
def leafOK : SK → Value → Prop
  | .bool, v => ∃ b, v = .bool b
  | .int k, v => ∃ n, v = .int k n ∧ (Lit.int k n).wf = true
  | .str, v => ∃ s, v = .string s ∧ s.size ≤ maxLen
  | .oth, _ => False
def cellsOK : List SK → List Value → Prop
  | [], [] => True
  | k :: ks, v :: vs => leafOK k v ∧ cellsOK ks vs
  | _, _ => False
theorem cellsOK.append : ∀ {a b : List SK} {x y : List Value}, cellsOK a x → cellsOK b y → cellsOK (a ++ b) (x ++ y)
  | [], _, [], _, _, k => k
  | [], _, _ :: _, _, h, _ => h.elim
  | _ :: _, _, [], _, h, _ => h.elim
  | _ :: _, _, _ :: _, _, h, k => ⟨h.1, cellsOK.append h.2 k⟩
theorem cellsOK.length : ∀ {a : List SK} {x : List Value}, cellsOK a x → x.length = a.length
  | [], [], _ => rfl
  | [], _ :: _, h => h.elim
  | _ :: _, [], h => h.elim
  | _ :: _, _ :: _, h => by simp [cellsOK.length h.2]
theorem cellsOK.inv {k : SK} {ks : List SK} {cs : List Value} (h : cellsOK (k :: ks) cs) : ∃ v vs, cs = v :: vs ∧ leafOK k v ∧ cellsOK ks vs := by
  cases cs with
  | nil => exact h.elim
  | cons v vs => exact ⟨v, vs, rfl, h⟩
theorem cellsOK.inv0 {cs : List Value} (h : cellsOK [] cs) : cs = [] := by
  cases cs with
  | nil => rfl
  | cons => exact h.elim
section
variable {H : Type} {enc : TypeId × Value → H} {P : Program} {w : World} {base : Nat} {spare : Nat → Bool} {held : Bool}
theorem structK_ok {g : TypeId → Option (List SK)} {F : TypeId → List Value → Prop} (hg : ∀ t ks cs, g t = some ks → F t cs → cellsOK ks cs) {cs : List Value} :
    ∀ {fs : List Field} {o : Nat} {ks : List SK}, structK g P o fs = some ks → (∀ f ∈ fs, F f.type ((cs.drop f.offset).take (P.cellsOf f.type))) → cellsOK ks ((cs.drop o).take ks.length)
  | [], o, ks, h, _ => by simp only [structK, Option.some.injEq] at h; subst h; simp [cellsOK]
  | f :: fs, o, ks, h, hm => by
    simp only [structK] at h
    split at h <;> try (cases h; done)
    rename_i ho
    split at h <;> try (cases h; done)
    rename_i a ha
    split at h <;> try (cases h; done)
    rename_i hl
    split at h <;> cases h
    rename_i b hb
    have h1 := hg f.type a _ ha (hm f (by simp))
    have h2 := structK_ok hg hb (fun f' hf => hm f' (by simp [hf]))
    have h3 := h1.append h2
    rw [ho, ← hl] at h3
    rw [List.length_append, List.take_add, List.drop_drop]
    exact h3
theorem trod_flat : ∀ {n : Nat} {t : TypeId} {ks : List SK} {fuel : Nat} {cs : List Value} {x : DataW H × List MemPlace}, leafK P n t = some ks → DataW.trod enc P w base spare held fuel t cs = some x → cellsOK ks cs
  | 0, t, ks, fuel, cs, x, h, _ => by simp [leafK] at h
  | n + 1, t, ks, fuel, cs, x, h, hd => by
    simp only [leafK] at h
    split at h
    · rename_i ht
      cases h
      obtain ⟨b, rfl, _⟩ := DataW.trod_bool ht hd
      exact ⟨⟨_, rfl⟩, trivial⟩
    · rename_i k ht
      cases h
      obtain ⟨b, rfl, _, hw⟩ := DataW.trod_int ht hd
      exact ⟨⟨_, rfl, hw⟩, trivial⟩
    · rename_i ht
      cases h
      obtain ⟨b, rfl, _, hw⟩ := DataW.trod_string ht hd
      exact ⟨⟨_, rfl, hw⟩, trivial⟩
    · rename_i fs ht
      split at h <;> try (cases h; done)
      rename_i ks' hks
      split at h <;> cases h
      rename_i hlen
      obtain ⟨xs, m, _, _, hcl, hxl, hf⟩ := DataW.trod_struct ht hd
      have := structK_ok (P := P) (cs := cs) (F := fun t cs => ∃ x, DataW.trod enc P w base spare held m t cs = some x) (fun t ks cs h1 ⟨x, h2⟩ => trod_flat h1 h2) hks (fun f hfm => by
        obtain ⟨i, hi⟩ := List.getElem?_of_mem hfm
        rw [Array.getElem?_toList] at hi
        have hlt : i < xs.length := by rw [hxl]; exact (Array.getElem?_eq_some_iff.1 hi).1
        exact ⟨xs[i], by rw [hf i f hi, List.getElem?_eq_getElem hlt]⟩)
      rw [List.drop_zero, List.take_of_length_le (by omega)] at this
      exact this
    · cases h
theorem open_flat {r : Reach} {b0 n : Nat} {t : TypeId} {ks : List SK} {v : Value} {d : DataW H} {ps : List MemPlace} (hk : leafK P n t = some ks) (hval : Value.okWide P w r b0 t v) (hd : DataW.Trod enc P w base spare held t v d ps) :
    cellsOK ks (cellsL v) ∧ ((isAggB P t = true ∧ v = .agg ⟨cellsL v⟩) ∨ isAggB P t = false) := by
  obtain ⟨fuel, hf⟩ := hd
  refine ⟨trod_flat hk hf, ?_⟩
  unfold Value.okWide at hval
  unfold isAggB
  split at hval
  · rename_i hu; rw [hu]
    obtain ⟨cs, rfl, _⟩ := hval
    exact .inl ⟨rfl, rfl⟩
  · rename_i hu; rw [hu]
    obtain ⟨cs, rfl, _⟩ := hval
    exact .inl ⟨rfl, rfl⟩
  · rename_i h1 h2
    right
    split
    · rename_i hu; exact absurd hu (h1 _)
    · rename_i hu; exact absurd hu (h2 _ _)
    · rfl
def RowR (w : World) (k : SK) (a : Option Addr) (len cap : Nat) (zs : List Value) : Prop :=
  (a = none ∧ len = 0 ∧ cap = 0 ∧ zs = []) ∨ ∃ x, a = some x ∧ len ≤ cap ∧ cap ≤ maxLen ∧ zs.length = cap ∧ ∀ (i : Nat) v, zs[i]? = some v → w.cell? (x.add i) = some v ∧ leafOK k v
theorem leafOK.flat {k : SK} {v : Value} (h : leafOK k v) : flatV v = true := by
  cases k with
  | bool => obtain ⟨b, rfl⟩ := h; rfl
  | int k => obtain ⟨b, rfl, _⟩ := h; rfl
  | str => obtain ⟨b, rfl, _⟩ := h; rfl
  | oth => exact h.elim
theorem ArgR.row {k : SK} {w : World} {a : Option Addr} {len cap : Nat} {zs : List Value} (h : RowR w k a len cap zs) : ArgR w (.sl 1) (.sl len (zs.take len)) (.slice a len cap) ∧ (zs.take len).length = len ∧ (∀ v ∈ zs.take len, leafOK k v) ∧ len ≤ maxLen := by
  rcases h with ⟨rfl, rfl, rfl, rfl⟩ | ⟨x, rfl, hl, hm, hz, hc⟩
  · exact ⟨.inl ⟨⟨_, rfl⟩, rfl, rfl⟩, rfl, fun v hv => by simp at hv, by simp [maxLen]⟩
  · have hleaf : ∀ v ∈ zs.take len, leafOK k v := fun v hv => by
      obtain ⟨i, hi⟩ := List.getElem?_of_mem (List.mem_of_mem_take hv)
      exact (hc i v hi).2
    refine ⟨?_, by simp; omega, hleaf, by omega⟩
    rcases Nat.eq_zero_or_pos cap with h0 | h0
    · subst h0
      obtain rfl : len = 0 := by omega
      exact .inl ⟨⟨_, rfl⟩, rfl, by simp⟩
    · have hs : x.spot = none := by
        have := (hc 0 zs[0] (List.getElem?_eq_getElem (by omega))).1
        cases hx : x.spot with
        | none => rfl
        | some q =>
          simp only [Addr.add, ↓reduceIte, World.cell?] at this
          split at this
          · simp [hx] at this
          · cases this
      obtain ⟨b, o, q⟩ := x
      simp only at hs
      subst hs
      have hadd : ∀ i, (⟨b, o, none⟩ : Addr).add i = ⟨b, o + i, none⟩ := fun i => by
        unfold Addr.add; split
        · rename_i e; subst e; rfl
        · rfl
      refine .inr ⟨b, o, cap, rfl, hl, fun ρ => ⟨by simp; omega, fun i v e => ?_, fun i hi => ?_⟩⟩
      · have hi : i < len := by
          rcases Nat.lt_or_ge i len with h | h
          · exact h
          · rw [List.getElem?_eq_none (by simp; omega)] at e; cases e
        rw [List.getElem?_take_of_lt hi] at e
        obtain ⟨h1, h2⟩ := hc i v e
        rw [hadd] at h1
        exact ⟨v, h1, VR.flat ρ v h2.flat⟩
      · have hi' : i < zs.length := by simp at hi; omega
        obtain ⟨h1, _⟩ := hc i zs[i] (List.getElem?_eq_getElem hi')
        rw [hadd] at h1
        exact ⟨by simp [h1], fun e => by cases e⟩
end
theorem wf_u8 {n : Int} (h : (Lit.int .u8 n).wf = true) : 0 ≤ n ∧ n < 256 := by simp [Lit.wf, IntKind.min, IntKind.max, IntKind.signed, IntKind.bits] at h; omega
end Go.Vm
namespace Go.Vm
open Go Go.RowKit
abbrev wI (k : IntKind) (n : Int) : Int := IntKind.wrap k n
abbrev andI (k : IntKind) (a b : Int) : Int := IntKind.wrap k (BitVec.ofInt k.bits a &&& BitVec.ofInt k.bits b).toNat
abbrev iorI (k : IntKind) (a b : Int) : Int := IntKind.wrap k (BitVec.ofInt k.bits a ||| BitVec.ofInt k.bits b).toNat
abbrev andnI (k : IntKind) (a b : Int) : Int := IntKind.wrap k (BitVec.ofInt k.bits a &&& ~~~ BitVec.ofInt k.bits b).toNat
def oreq {α : Type} (b : Bool) (x : Option α) : Option α := match b with | true => x | false => none
theorem oreq.elim {α : Type} {b : Bool} {x : Option α} {r : α} (h : oreq b x = some r) : b = true ∧ x = some r := by cases b; cases h; exact ⟨rfl, h⟩
theorem oreq.mk {α : Type} {b : Bool} {x : Option α} (h : b = true) : oreq b x = x := by subst h; rfl
theorem obind.elim {α β : Type} {x : Option α} {F : α → Option β} {r : β} (h : x.bind F = some r) : ∃ a, x = some a ∧ F a = some r := by cases x with | none => cases h | some a => exact ⟨a, rfl, h⟩
def FUEL : Nat := 2 ^ 64
def iter {σ ρ : Type} (f : σ → Option (Sum σ ρ)) : Nat → σ → Option ρ
  | 0, _ => none
  | n + 1, s => match f s with
    | none => none
    | some (.inl s') => iter f n s'
    | some (.inr r) => some r
theorem iter_leads {σ ρ : Type} {P : Program} {f base : Nat} {R : Value → Hp → Nat → Prop} {step : σ → Option (Sum σ ρ)} {head : σ → VM} {C : ρ → Prop}
    (h : ∀ s o, step s = some o → Sum.elim (fun s' => Leads P f base (head s') R) C o → Leads P f base (head s) R) :
    ∀ n s r, iter step n s = some r → C r → Leads P f base (head s) R
  | 0, _, _, e, _ => by cases e
  | n + 1, s, r, e, hc => by
    rw [iter] at e
    split at e
    · cases e
    · rename_i s' hs
      exact h s _ hs (iter_leads h n s' r e hc)
    · rename_i r' hs
      cases e
      exact h s _ hs hc
def vI (k : IntKind) (xs : List Int) : List Value := xs.map (Value.int k)
def vB (xs : List Bool) : List Value := xs.map Value.bool
def vS (xs : List (List UInt8)) : List Value := xs.map fun s => Value.string ⟨⟨s⟩⟩
def bI (l : List UInt8) : List Int := l.map fun b => (b.toNat : Int)
def iB (xs : List Int) : List UInt8 := xs.map fun n => UInt8.ofNat n.toNat
@[simp] theorem vI_len (k : IntKind) (xs : List Int) : (vI k xs).length = xs.length := List.length_map _
@[simp] theorem vB_len (xs : List Bool) : (vB xs).length = xs.length := List.length_map _
@[simp] theorem vS_len (xs : List (List UInt8)) : (vS xs).length = xs.length := List.length_map _
@[simp] theorem bI_len (l : List UInt8) : (bI l).length = l.length := List.length_map _
@[simp] theorem iB_len (l : List Int) : (iB l).length = l.length := List.length_map _
theorem vI_flat (k : IntKind) (xs : List Int) : flatV.flatL (vI k xs) = true := flatL_map (fun _ => rfl) xs
theorem vB_flat (xs : List Bool) : flatV.flatL (vB xs) = true := flatL_map (fun _ => rfl) xs
theorem vS_flat (xs : List (List UInt8)) : flatV.flatL (vS xs) = true := flatL_map (fun _ => rfl) xs
theorem vI_one (k : IntKind) : ∀ (xs : List Int), (vI k xs).all oneC = true
  | [] => rfl
  | _ :: xs => by simp only [vI, List.map_cons, List.all_cons, oneC, Bool.true_and]; exact vI_one k xs
theorem vB_one : ∀ (xs : List Bool), (vB xs).all oneC = true
  | [] => rfl
  | _ :: xs => by simp only [vB, List.map_cons, List.all_cons, oneC, Bool.true_and]; exact vB_one xs
theorem vS_one : ∀ (xs : List (List UInt8)), (vS xs).all oneC = true
  | [] => rfl
  | _ :: xs => by simp only [vS, List.map_cons, List.all_cons, oneC, Bool.true_and]; exact vS_one xs
theorem ofBytes_vI (l : List UInt8) : ofBytes l = vI .u8 (bI l) := by simp [ofBytes, vI, bI, List.map_map]
theorem toBytes_vI : ∀ (xs : List Int), toBytes (vI .u8 xs) = some (iB xs)
  | [] => rfl
  | x :: xs => by simp only [vI, List.map_cons, toBytes]; rw [show toBytes (xs.map (Value.int .u8)) = _ from toBytes_vI xs]; rfl
theorem vI_set (k : IntKind) (xs : List Int) (i : Nat) (x : Int) : (vI k xs).set i (.int k x) = vI k (xs.set i x) := by simp [vI, List.map_set]
theorem vI_drop (k : IntKind) (xs : List Int) (n : Nat) : (vI k xs).drop n = vI k (xs.drop n) := by simp [vI, List.map_drop]
theorem vI_take (k : IntKind) (xs : List Int) (n : Nat) : (vI k xs).take n = vI k (xs.take n) := by simp [vI, List.map_take]
theorem vS_drop (xs : List (List UInt8)) (n : Nat) : (vS xs).drop n = vS (xs.drop n) := by simp [vS, List.map_drop]
theorem vS_take (xs : List (List UInt8)) (n : Nat) : (vS xs).take n = vS (xs.take n) := by simp [vS, List.map_take]
theorem vI_app (k : IntKind) (xs ys : List Int) : vI k xs ++ vI k ys = vI k (xs ++ ys) := by simp [vI]
theorem br.h {α : Type} {b b' : Bool} {X Y : Option α} {r : α} {p q : Prop} (h : cond b' X Y = some r) (e : b = b') (k1 : b' = true → X = some r → p) (k2 : b' = false → Y = some r → q) : br b p q := by
  subst e; cases b; exact k2 rfl h; exact k1 rfl h
theorem rd.I {k : IntKind} {xs : List Int} {o i : Nat} {x : Int} {K : Value → Prop} (hx : xs[i]? = some x) (e : o = i) (h : forceV (.int k x) K) : rd (vI k xs) o K := by
  subst e; exact rd.intro (v := .int k x) (by simp [vI, hx]) h
theorem rd.B {xs : List Bool} {o i : Nat} {x : Bool} {K : Value → Prop} (hx : xs[i]? = some x) (e : o = i) (h : forceV (.bool x) K) : rd (vB xs) o K := by
  subst e; exact rd.intro (v := .bool x) (by simp [vB, hx]) h
theorem rd.S {xs : List (List UInt8)} {o i : Nat} {x : List UInt8} {K : Value → Prop} (hx : xs[i]? = some x) (e : o = i) (h : forceV (.string ⟨⟨x⟩⟩) K) : rd (vS xs) o K := by
  subst e; exact rd.intro (v := .string ⟨⟨x⟩⟩) (by simp [vS, hx]) h
theorem req_stI {k : IntKind} {xs : List Int} {o i : Nat} {x : Int} (hb : decide (i < xs.length) = true) (e : o = i) : (decide ((cellsL (.int k x)).length = 1 ∧ o + 1 ≤ (vI k xs).length) && (cellsL (.int k x)).all oneC) = true := by
  subst e; have := of_decide_eq_true hb; simp [cellsL, Value.cells, oneC]; omega
theorem pk_stI {k : IntKind} {xs : List Int} {o i : Nat} {x : Int} {K : List Value → Prop} (e : o = i) (h : K (vI k (xs.set i x))) : ∃ cs', setAt (vI k xs) o (cellsL (.int k x)) = cs' ∧ K cs' :=
  ⟨_, by subst e; exact vI_set k xs o x, h⟩
theorem pk_mkI {k : IntKind} {n : Nat} {z : Int} {K : List Value → Prop} (h : K (vI k (List.replicate n z))) : ∃ cs', (List.replicate n [Value.int k z]).flatten = cs' ∧ K cs' :=
  ⟨_, by simp [vI, List.flatten_replicate_singleton], h⟩
theorem pk_s2b {l : List UInt8} {K : List Value → Prop} (h : K (vI .u8 (bI l))) : ∃ cs', ofBytes l = cs' ∧ K cs' := ⟨_, ofBytes_vI l, h⟩
theorem pk_b2s {xs : List Int} {o n : Nat} {K : List UInt8 → Prop} (h : K (iB ((xs.drop o).take n))) : ∃ bs, toBytes (((vI .u8 xs).drop o).take n) = some bs ∧ K bs :=
  ⟨_, by rw [vI_drop, vI_take]; exact toBytes_vI _, h⟩
theorem pk_b2sL {l : List Value} {bs : List UInt8} {K : List UInt8 → Prop} (e : toBytes l = some bs) (h : K bs) : ∃ bs, toBytes l = some bs ∧ K bs := ⟨_, e, h⟩
theorem pk_ap0I {k : IntKind} {new : List Value} {m : Nat} {ys : List Int} {K : List Value → Nat → Prop} (e : new = vI k ys) (em : m = ys.length) (h : K (vI k ys) ys.length) : ∃ cs' n', new = cs' ∧ m = n' ∧ K cs' n' := ⟨_, _, e, em, h⟩
theorem pk_apI {k : IntKind} {new : List Value} {xs : List Int} {o c n m : Nat} {ys : List Int} {K : List Value → Nat → Prop} (e : new = vI k ys) (h0 : o = 0) (hc : c = xs.length) (hn : n + m = (xs ++ ys).length) (h : K (vI k (xs ++ ys)) (xs ++ ys).length) :
    ∃ cs' n', ((vI k xs).drop o).take c ++ new = cs' ∧ n + m = n' ∧ K cs' n' :=
  ⟨_, _, by subst h0; rw [List.drop_zero, List.take_of_length_le (by simp [hc]), e, vI_app], hn, h⟩
def vT {α : Type} (f : α → List Value) (xs : List α) : List Value := xs.flatMap f
section
variable {α : Type} {f : α → List Value} {c : Nat}
theorem vT_len (hf : ∀ x, (f x).length = c) (xs : List α) : (vT f xs).length = xs.length * c := by
  induction xs with
  | nil => simp [vT]
  | cons x xs ih =>
    have : vT f (x :: xs) = f x ++ vT f xs := rfl
    rw [this, List.length_append, hf, ih, List.length_cons, Nat.succ_mul]; omega
theorem vT_flat (hf : ∀ x, flatV.flatL (f x) = true) (xs : List α) : flatV.flatL (vT f xs) = true := by
  have app : ∀ a b : List Value, flatV.flatL a = true → flatV.flatL b = true → flatV.flatL (a ++ b) = true := by
    intro a b ha hb
    induction a with
    | nil => exact hb
    | cons v a ih => simp only [flatV.flatL, Bool.and_eq_true, List.cons_append] at ha ⊢; exact ⟨ha.1, ih ha.2⟩
  induction xs with
  | nil => rfl
  | cons x xs ih => exact app _ _ (hf x) ih
theorem vT_one (hf : ∀ x, (f x).all oneC = true) (xs : List α) : (vT f xs).all oneC = true := by
  induction xs with
  | nil => rfl
  | cons x xs ih => have : vT f (x :: xs) = f x ++ vT f xs := rfl; rw [this, List.all_append, hf, ih]; rfl
theorem vT_app (xs ys : List α) : vT f xs ++ vT f ys = vT f (xs ++ ys) := by simp [vT]
theorem vT_drop (hf : ∀ x, (f x).length = c) (xs : List α) (n : Nat) : (vT f xs).drop (n * c) = vT f (xs.drop n) := by
  induction xs generalizing n with
  | nil => simp [vT]
  | cons x xs ih =>
    cases n with
    | zero => simp
    | succ n =>
      have : vT f (x :: xs) = f x ++ vT f xs := rfl
      rw [this, List.drop_succ_cons, Nat.succ_mul, Nat.add_comm, List.drop_append, hf, List.drop_eq_nil_of_le (by rw [hf]; omega), List.nil_append, show c + n * c - c = n * c by omega, ih]
theorem vT_take (hf : ∀ x, (f x).length = c) (xs : List α) (n : Nat) : (vT f xs).take (n * c) = vT f (xs.take n) := by
  induction xs generalizing n with
  | nil => simp [vT]
  | cons x xs ih =>
    cases n with
    | zero => simp [vT]
    | succ n =>
      have : vT f (x :: xs) = f x ++ vT f xs := rfl
      have h2 : vT f ((x :: xs).take (n + 1)) = f x ++ vT f (xs.take n) := rfl
      rw [this, h2, Nat.succ_mul, Nat.add_comm, List.take_append, hf, List.take_of_length_le (by rw [hf]; omega), show c + n * c - c = n * c by omega, ih]
theorem vT_get (hf : ∀ x, (f x).length = c) {xs : List α} {i j : Nat} {x : α} (hx : xs[i]? = some x) (hj : j < c) : (vT f xs)[i * c + j]? = (f x)[j]? := by
  induction xs generalizing i with
  | nil => simp at hx
  | cons y xs ih =>
    have : vT f (y :: xs) = f y ++ vT f xs := rfl
    rw [this]
    cases i with
    | zero =>
      simp at hx; subst hx
      rw [Nat.zero_mul, Nat.zero_add, List.getElem?_append_left (by rw [hf]; exact hj)]
    | succ i =>
      rw [List.getElem?_append_right (by rw [hf, Nat.succ_mul]; omega), hf, show (i + 1) * c + j - c = i * c + j by rw [Nat.succ_mul]; omega]
      exact ih (by simpa using hx)
theorem rd.T (hf : ∀ x, (f x).length = c) {xs : List α} {o i j : Nat} {x : α} {v : Value} {K : Value → Prop} (hx : xs[i]? = some x) (e : o = i * c + j) (hj : j < c) (hv : (f x)[j]? = some v) (h : forceV v K) : rd (vT f xs) o K := by
  subst e; exact rd.intro (by rw [vT_get hf hx hj]; exact hv) h
theorem pk_apT (hf : ∀ x, (f x).length = c) {new : List Value} {xs : List α} {o k n m : Nat} {ys : List α} {K : List Value → Nat → Prop} (e : new = vT f ys) (h0 : o = 0) (hc : k = xs.length * c) (hn : n + m = (xs ++ ys).length) (h : K (vT f (xs ++ ys)) (xs ++ ys).length) :
    ∃ cs' n', ((vT f xs).drop o).take k ++ new = cs' ∧ n + m = n' ∧ K cs' n' :=
  ⟨_, _, by subst h0; rw [List.drop_zero, List.take_of_length_le (by rw [vT_len hf, hc]; omega), e, vT_app], hn, h⟩
end
theorem sumRun_of {s : Summ} {vals aqs : List Value} {os : List (Option VObj)} {h h1 h2 : Hp} {top n m t' : Nat} {ws : List Wd} {r : SRes} {v' : Value} (e1 : readArgs h 0 s.modes vals = some (aqs, os)) (ew : winL h s.modes vals = ws) {cw : List (Option (List Value))} (ec : conts os = cw) (e2 : s.run aqs cw = some r) (e3 : apartB ws = true)
    (hn : r.new.length = n) (hm : emps ws = m) (ht : top + n + m = t') (e4 : wback h (numR top n ws) ws r.wr = some h1) (e5 : addNew h1 (numR top n ws) top r.new = some h2) (e6 : renV (numR top n ws) r.v = some v') : sumRun s vals h top = some (v', addEmp h2 (top + n) m, t') := by
  subst hn hm ht ec
  simp only [sumRun, e1, e2, ew, e3, e4, e5, e6]
theorem ra_nil {h : Hp} {k : Nat} : readArgs h k [] [] = some ([], []) := rfl
theorem ra_cons {h : Hp} {k k' : Nat} {m : Md} {ms : List Md} {v a : Value} {vs aqs : List Value} {os os' : List (Option VObj)} (e : readArg h k m v = some (a, os)) (hk : k + os.length = k') (t : readArgs h k' ms vs = some (aqs, os')) : readArgs h k (m :: ms) (v :: vs) = some (a :: aqs, os ++ os') := by
  subst hk
  simp only [readArgs, e, t]
theorem ra_sl {h : Hp} {k b o n m sz sz' : Nat} {ob : VObj} {cs cs' : List Value} (ho : aget h b = some ob) (hc : ob.cs = some cs) (hs : sz = sz') (en : n = m) (hle : o + n * sz ≤ cs.length) (e : (cs.drop o).take (n * sz) = cs') (hf : flatV.flatL cs' = true) :
    readArg h k (.sl sz) (.slice (some ⟨b, o, none⟩) n sz') = some (.slice (some ⟨k, 0, none⟩) m sz, [some (.row false cs')]) := by
  subst hs en e
  simp only [readArg, ho, hc, hle, hf, ↓reduceIte]
theorem ra_slI {h : Hp} {b o n i m sz kk : Nat} {k : IntKind} {own : Bool} {xs : List Int} (ho : aget h b = some (.row own (vI k xs))) (hs : sz = 1) (e0 : o = i) (en : n = m) (hle : i + m ≤ xs.length) : readArg h kk (.sl 1) (.slice (some ⟨b, o, none⟩) n sz) = some (.slice (some ⟨kk, 0, none⟩) m 1, [some (.row false (vI k ((xs.drop i).take m)))]) := by
  subst hs e0 en
  exact ra_sl ho rfl rfl rfl (by simp; omega) (by rw [vI_drop, vI_take, Nat.mul_one]) (vI_flat _ _)
theorem ra_slS {h : Hp} {b o n i m sz kk : Nat} {own : Bool} {xs : List (List UInt8)} (ho : aget h b = some (.row own (vS xs))) (hs : sz = 1) (e0 : o = i) (en : n = m) (hle : i + m ≤ xs.length) : readArg h kk (.sl 1) (.slice (some ⟨b, o, none⟩) n sz) = some (.slice (some ⟨kk, 0, none⟩) m 1, [some (.row false (vS ((xs.drop i).take m)))]) := by
  subst hs e0 en
  exact ra_sl ho rfl rfl rfl (by simp; omega) (by rw [vS_drop, vS_take, Nat.mul_one]) (vS_flat _)
theorem ra_allI {h : Hp} {b o n sz kk : Nat} {k : IntKind} {own : Bool} {xs : List Int} (ho : aget h b = some (.row own (vI k xs))) (hs : sz = 1) (e0 : o = 0) (en : n = xs.length) : readArg h kk (.sl 1) (.slice (some ⟨b, o, none⟩) n sz) = some (.slice (some ⟨kk, 0, none⟩) xs.length 1, [some (.row false (vI k xs))]) := by
  have := ra_slI (kk := kk) (i := 0) (m := xs.length) ho hs e0 en (by omega)
  simpa using this
theorem ra_allS {h : Hp} {b o n sz kk : Nat} {own : Bool} {xs : List (List UInt8)} (ho : aget h b = some (.row own (vS xs))) (hs : sz = 1) (e0 : o = 0) (en : n = xs.length) : readArg h kk (.sl 1) (.slice (some ⟨b, o, none⟩) n sz) = some (.slice (some ⟨kk, 0, none⟩) xs.length 1, [some (.row false (vS xs))]) := by
  have := ra_slS (kk := kk) (i := 0) (m := xs.length) ho hs e0 en (by omega)
  simpa using this
theorem ra_tr {h : Hp} {k : Nat} {ps : List Path} {bs : List PR} {v v' w : Value} {l : List (Option VObj)} (e0 : walkP h v ps [] = bs) (e1 : renV (numB k bs) v = some v') (e2 : viewP h (numB k bs) (fun s => patsP k s ps bs) 0 ps bs = some l) (e3 : patchV v' (patsP k none ps bs) = w) : readArg h k (.tr ps) v = some (w, l) := by
  subst e0 e3
  simp only [readArg, e1, e2]
theorem vp_nil {h : Hp} {s : Nat → Option Nat} {pat : Option Nat → List (Nat × Value)} {i : Nat} : viewP h s pat i [] [] = some [] := rfl
theorem vp_at {h : Hp} {s : Nat → Option Nat} {pat : Option Nat → List (Nat × Value)} {i b : Nat} {p : Path} {ps : List Path} {bs : List PR} {l : List (Option VObj)} {ob : VObj} {cs cs' cs'' : List Value} (e1 : aget h b = some ob) (e2 : (cond (isW p.kind) ob.wcs ob.cs) = some cs) (e3 : renV.renL s cs = some cs') (e4 : setsL cs' (pat (some i)) = cs'')
    (t : viewP h s pat (i + 1) ps bs = some l) : viewP h s pat i (p :: ps) (.hit b :: bs) = some (some (mkObj p.kind cs'') :: l) := by
  subst e4
  simp only [viewP, e1, e2, e3, t]
def skipW : Wd → Bool
  | .no | .emp _ | .win _ _ _ false | .blk _ false => true
  | _ => false
theorem wb_nil {h : Hp} {s : Nat → Option Nat} : wback h s [] [] = some h := rfl
theorem wb_skip {h h' : Hp} {s : Nat → Option Nat} {x : Wd} {ws : List Wd} {c : Option (List Value)} {cs : List (Option (List Value))} (hx : skipW x = true) (t : wback h s ws cs = some h') : wback h s (x :: ws) (c :: cs) = some h' := by
  cases x with
  | win b o n w => cases w <;> first | (simp only [wback]; exact t) | cases hx
  | blk b w => cases w <;> first | (simp only [wback]; exact t) | cases hx
  | _ => simp only [wback]; exact t
theorem wb_win {h h' : Hp} {s : Nat → Option Nat} {b off n : Nat} {ws : List Wd} {c c' x y : List Value} {cs : List (Option (List Value))} {ob ob' : VObj} (e1 : aget h b = some ob) (e2 : ob.wcs = some x) (e3 : renV.renL s c = some c') (e4 : c'.length = n ∧ off + n ≤ x.length) (e5 : setAt x off c' = y) (e6 : ob.wr y = some ob') (t : wback (aput h b ob') s ws cs = some h') :
    wback h s (.win b off n true :: ws) (some c :: cs) = some h' := by
  subst e5
  simp only [wback, e1, e2, e3, e6, if_pos e4]; exact t
theorem wb_blk {h h' : Hp} {s : Nat → Option Nat} {b : Nat} {ws : List Wd} {c c' x : List Value} {cs : List (Option (List Value))} {ob ob' : VObj} (e1 : aget h b = some ob) (e2 : ob.wcs = some x) (e3 : renV.renL s c = some c') (e6 : ob.wr c' = some ob') (t : wback (aput h b ob') s ws cs = some h') :
    wback h s (.blk b true :: ws) (some c :: cs) = some h' := by
  simp only [wback, e1, e2, e3, e6]; exact t
theorem an_nil {h : Hp} {s : Nat → Option Nat} {top : Nat} : addNew h s top [] = some h := rfl
theorem an_cons {h h' : Hp} {s : Nat → Option Nat} {top : Nat} {c c' : List Value} {cs : List (List Value)} (e : renV.renL s c = some c') (t : addNew (aput h top (.row true c')) s (top + 1) cs = some h') : addNew h s top (c :: cs) = some h' := by
  simp only [addNew, e]; exact t
theorem rn_I {s : Nat → Option Nat} {k : IntKind} {xs : List Int} : renV.renL s (vI k xs) = some (vI k xs) := renL_flat _ _ (vI_flat _ _)
theorem rn_T {s : Nat → Option Nat} {α : Type} {f : α → List Value} (hfl : ∀ x, flatV.flatL (f x) = true) {xs : List α} : renV.renL s (vT f xs) = some (vT f xs) := renL_flat _ _ (vT_flat hfl _)
def jsOK (n : Nat) (wr : List (Option (List Value))) : List Nat → Prop
  | [] => True
  | j :: js => (n ≤ j ∨ wr[j]? = some none) ∧ jsOK n wr js
theorem jsOK_mem {n : Nat} {wr : List (Option (List Value))} : ∀ {js : List Nat}, jsOK n wr js → ∀ j ∈ js, n ≤ j ∨ wr[j]? = some none
  | [], _, j, h => by cases h
  | k :: js, h, j, hj => by
    rcases List.mem_cons.1 hj with rfl | hj
    · exact h.1
    · exact jsOK_mem h.2 j hj
theorem Res.of {n : Nat} {r : SRes} {v' : Value} {H' : Hp} (js : List Nat) (e1 : renV (resR js n) r.v = some v') (e2 : newOK H' (resR js n) js r.new) (e3 : js.Nodup) (e4 : jsOK n r.wr js) (e5 : wrOK H' (resR js n) 0 r.wr) : Res n r v' H' :=
  ⟨⟨js, e1, e2, e3, jsOK_mem e4, e5⟩⟩
theorem hs_row {H : Hp} {j : Nat} {c : List Value} (h : aget H j = some (.row true c)) : Has H j c := .inl h
theorem hs_cells {H : Hp} {j : Nat} {c : List Value} (h : aget H j = some (.cells c)) : Has H j c := .inr (.inl h)
abbrev Dec := List Value → List (Option (List Value)) → Option SRes
def dV {α : Type} (un : Value → Option α) (K : α → Dec) : Dec := fun vs cs => match vs with
  | v :: vs' => match un v with
    | some x => K x vs' cs
    | none => none
  | [] => none
theorem dV_eq {α : Type} {un : Value → Option α} {K : α → Dec} {v : Value} {vs : List Value} {cs : List (Option (List Value))} {x : α} (h : un v = some x) : dV un K (v :: vs) cs = K x vs cs := by simp only [dV, h]
theorem dV.elim {α : Type} {un : Value → Option α} {K : α → Dec} {vs : List Value} {cs : List (Option (List Value))} {r : SRes} (h : dV un K vs cs = some r) : ∃ v vs' x, vs = v :: vs' ∧ un v = some x ∧ K x vs' cs = some r := by
  unfold dV at h
  split at h <;> try (cases h; done)
  split at h <;> try (cases h; done)
  exact ⟨_, _, _, rfl, by assumption, h⟩
def dSl {α : Type} (k sz : Nat) (un : List Value → Option (List α)) (K : List α → Dec) : Dec := fun vs cs => match vs, cs with
  | .slice (some ⟨k', 0, none⟩) n sz' :: vs', some c :: cs' => match un c with
    | some xs => if k' = k ∧ sz' = sz ∧ n = xs.length then K xs vs' cs' else none
    | none => none
  | _, _ => none
theorem dSl_eq {α : Type} {k sz : Nat} {un : List Value → Option (List α)} {K : List α → Dec} {vs : List Value} {c : List Value} {cs : List (Option (List Value))} {xs : List α} (h : un c = some xs) : dSl k sz un K (.slice (some ⟨k, 0, none⟩) xs.length sz :: vs) (some c :: cs) = K xs vs cs := by simp [dSl, h]
theorem dSl.elim {α : Type} {k sz : Nat} {un : List Value → Option (List α)} {K : List α → Dec} {vs : List Value} {cs : List (Option (List Value))} {r : SRes} (h : dSl k sz un K vs cs = some r) : ∃ c vs' cs' xs, vs = .slice (some ⟨k, 0, none⟩) xs.length sz :: vs' ∧ cs = some c :: cs' ∧ un c = some xs ∧ K xs vs' cs' = some r := by
  unfold dSl at h
  split at h <;> try (cases h; done)
  split at h <;> try (cases h; done)
  split at h <;> try (cases h; done)
  rename_i hc
  obtain ⟨rfl, rfl, rfl⟩ := hc
  exact ⟨_, _, _, _, rfl, rfl, by assumption, h⟩
def dTr {α : Type} (n : Nat) (un : Value → List (Option (List Value)) → Option α) (K : α → Dec) : Dec := fun vs cs => match vs with
  | v :: vs' => match un v (cs.take n) with
    | some x => K x vs' (cs.drop n)
    | none => none
  | [] => none
theorem dTr_eq {α : Type} {n : Nat} {un : Value → List (Option (List Value)) → Option α} {K : α → Dec} {v : Value} {vs : List Value} {cs cs1 cs2 : List (Option (List Value))} {x : α} (h1 : cs.take n = cs1) (h2 : cs.drop n = cs2) (h : un v cs1 = some x) : dTr n un K (v :: vs) cs = K x vs cs2 := by
  subst h1 h2; simp only [dTr, h]
theorem dTr.elim {α : Type} {n : Nat} {un : Value → List (Option (List Value)) → Option α} {K : α → Dec} {vs : List Value} {cs : List (Option (List Value))} {r : SRes} (h : dTr n un K vs cs = some r) : ∃ v vs' cs1 cs2 x, vs = v :: vs' ∧ cs = cs1 ++ cs2 ∧ un v cs1 = some x ∧ K x vs' cs2 = some r := by
  unfold dTr at h
  split at h <;> try (cases h; done)
  split at h <;> try (cases h; done)
  exact ⟨_, _, _, _, _, rfl, (List.take_append_drop n cs).symm, by assumption, h⟩
def dPt {α : Type} (k : Nat) (un : List Value → Option α) (K : α → Dec) : Dec := fun vs cs => match vs, cs with
  | .pointer (some ⟨k', 0, none⟩) :: vs', some c :: cs' => match un c with
    | some x => if k' = k then K x vs' cs' else none
    | none => none
  | _, _ => none
theorem dPt_eq {α : Type} {k : Nat} {un : List Value → Option α} {K : α → Dec} {vs : List Value} {c : List Value} {cs : List (Option (List Value))} {x : α} (h : un c = some x) : dPt k un K (.pointer (some ⟨k, 0, none⟩) :: vs) (some c :: cs) = K x vs cs := by simp [dPt, h]
theorem dPt.elim {α : Type} {k : Nat} {un : List Value → Option α} {K : α → Dec} {vs : List Value} {cs : List (Option (List Value))} {r : SRes} (h : dPt k un K vs cs = some r) : ∃ c vs' cs' x, vs = .pointer (some ⟨k, 0, none⟩) :: vs' ∧ cs = some c :: cs' ∧ un c = some x ∧ K x vs' cs' = some r := by
  unfold dPt at h
  split at h <;> try (cases h; done)
  split at h <;> try (cases h; done)
  split at h <;> try (cases h; done)
  rename_i hc
  subst hc
  exact ⟨_, _, _, _, rfl, rfl, by assumption, h⟩
def dNo : Nat → Dec → Dec
  | 0, K => K
  | n + 1, K => fun vs cs => match cs with
    | none :: cs' => dNo n K vs cs'
    | _ => none
theorem dNo.elim {K : Dec} {vs : List Value} {r : SRes} : ∀ {n : Nat} {cs : List (Option (List Value))}, dNo n K vs cs = some r → ∃ cs', cs = List.replicate n none ++ cs' ∧ K vs cs' = some r
  | 0, cs, h => ⟨cs, rfl, h⟩
  | n + 1, cs, h => by
    simp only [dNo] at h
    split at h <;> try (cases h; done)
    obtain ⟨cs', rfl, h2⟩ := dNo.elim h
    exact ⟨cs', rfl, h2⟩
def dNl (n : Nat) (K : Dec) : Dec := fun vs cs => match vs with
  | .pointer none :: vs' => dNo n K vs' cs
  | _ => none
theorem dNl.elim {n : Nat} {K : Dec} {vs : List Value} {cs : List (Option (List Value))} {r : SRes} (h : dNl n K vs cs = some r) : ∃ vs' cs', vs = .pointer none :: vs' ∧ cs = List.replicate n none ++ cs' ∧ K vs' cs' = some r := by
  unfold dNl at h
  split at h <;> try (cases h; done)
  obtain ⟨cs', rfl, h2⟩ := dNo.elim h
  exact ⟨_, cs', rfl, rfl, h2⟩
def dEnd (r : Option SRes) : Dec := fun vs cs => match vs, cs with
  | [], [] => r
  | _, _ => none
theorem dEnd.elim {o : Option SRes} {vs : List Value} {cs : List (Option (List Value))} {r : SRes} (h : dEnd o vs cs = some r) : vs = [] ∧ cs = [] ∧ o = some r := by
  unfold dEnd at h
  split at h <;> try (cases h; done)
  exact ⟨rfl, rfl, h⟩
def orD (a b : Dec) : Dec := fun vs cs => match a vs cs with
  | some r => some r
  | none => b vs cs
theorem orD.elim {a b : Dec} {vs : List Value} {cs : List (Option (List Value))} {r : SRes} (h : orD a b vs cs = some r) : a vs cs = some r ∨ b vs cs = some r := by
  unfold orD at h
  split at h
  · cases h; left; assumption
  · exact .inr h
def ofG {α : Type} (o : Option α) (f : α → SRes) : Option SRes := match o with
  | some x => some (f x)
  | none => none
theorem ofG_eq {α : Type} {o : Option α} {f : α → SRes} {x : α} (h : o = some x) : ofG o f = some (f x) := by subst h; rfl
theorem ofG.elim {α : Type} {o : Option α} {f : α → SRes} {r : SRes} (h : ofG o f = some r) : ∃ x, o = some x ∧ f x = r := by
  cases o with
  | none => cases h
  | some x => exact ⟨x, rfl, by cases h; rfl⟩
def asS : Value → Option (List UInt8) | .string s => some s.data.toList | _ => none
theorem asS_eq (v : Value) (x : List UInt8) (h : asS v = some x) : v = .string ⟨⟨x⟩⟩ := by cases v <;> simp [asS] at h; subst h; rfl
theorem unI_vI (k : IntKind) (xs : List Int) : unL (asI k) (vI k xs) = some xs := unL_map (fun x => by simp [asI]) xs
theorem unS_vS (xs : List (List UInt8)) : unL asS (vS xs) = some xs := unL_map (g := fun s => Value.string ⟨⟨s⟩⟩) (fun x => by simp [asS]) xs
theorem unI_eq {k : IntKind} {cs : List Value} {xs : List Int} (h : unL (asI k) cs = some xs) : cs = vI k xs := unL_eq (asI_eq k) h
theorem unS_eq {cs : List Value} {xs : List (List UInt8)} (h : unL asS cs = some xs) : cs = vS xs := unL_eq (g := fun s => Value.string ⟨⟨s⟩⟩) asS_eq h
end Go.Vm
namespace Go.Vm
open Go Go.RowKit
end Go.Vm
namespace Go.Vm
open Go Go.RowKit
theorem st_I {k : IntKind} {xs : List Int} {o i : Nat} {x : Int} {K : List Value → Prop} (hb : decide (i < xs.length) = true) (e : o = i) (h : K (vI k (xs.set i x))) :
    req (decide ((cellsL (.int k x)).length = 1 ∧ o + 1 ≤ (vI k xs).length) && (cellsL (.int k x)).all oneC) (∃ cs', setAt (vI k xs) o (cellsL (.int k x)) = cs' ∧ K cs') := req.intro (req_stI hb e) (pk_stI e h)
end Go.Vm
namespace Go.Vm
theorem br.h2 {α : Type} {b b' : Bool} {X Y : Option α} {r : α} {p q : Prop} (h : cond b' X Y = some r) (e : b = b') (k2 : b' = false → Y = some r → q) (k1 : b' = true → X = some r → p) : br b p q := br.h h e k1 k2
end Go.Vm
namespace Go.Vm
open Go Go.RowKit
theorem VR.ofNil {ρ : Ren} {s : Nat} {rv : Value} (h : VR ρ (.slice none 0 s) rv) (j sz : Nat) : VR ρ (.slice (some ⟨j, 0, none⟩) 0 sz) rv := by
  cases h; exact .slice0 none
theorem Leads.nilT {P : Program} {f base fn nt s : Nat} {e : Env} {todo : List VItem} {ds : List Nat} {ret : Bool} {rd : Option Nat} {up : List VFrame} {H : Hp} {top : Nat} {R : Value → Hp → Nat → Prop} (t sz : Nat)
    (h : Leads P f base ⟨⟨fn, nt, aput e t (.slice (some ⟨top, 0, none⟩) 0 sz), todo, ds, ret, rd⟩, up, aput H top (.row true []), top + 1⟩ R) (he : aget e t = some (.slice none 0 s) := by rfl) :
    Leads P f base ⟨⟨fn, nt, e, todo, ds, ret, rd⟩, up, H, top⟩ R := by
  refine ⟨fun w0 U ρ rf rfs w cs hr => ?_⟩
  have hx := Ext.upd (l := ⟨0, 0, 0⟩) hr.heap.off0
  have hcur : FrR P (upd ρ top ⟨0, 0, 0⟩) ⟨fn, nt, aput e t (.slice (some ⟨top, 0, none⟩) 0 sz), todo, ds, ret, rd⟩ rf :=
    { hr.cur.mono hx with
      env := fun i v hv => by
        rw [aget_aput] at hv
        split at hv
        · rename_i hi; subst hi; cases hv
          obtain ⟨v', a, b⟩ := hr.cur.env t _ he
          exact ⟨v', a, (VR.ofNil b _ _).mono hx⟩
        · exact (hr.cur.env.mono hx) i v hv }
  obtain ⟨ρ', rv, fr', w', v, H', top', h1, h2, h3, h4, h5, h6, h7⟩ := h.get w0 U _ rf rfs w cs ⟨hcur, hr.up.mono (fun _ _ x => x.mono hx), empty_row hr.heap⟩
  exact ⟨ρ', rv, fr', w', v, H', top', h1, h2, h3, h4, h5, fun i l hi hl => h6 i l hi (hx _ _ hl), h7⟩
theorem Leads.nilC {P : Program} {f base s : Nat} {fr : VFrame} {up : List VFrame} {H : Hp} {top : Nat} {R : Value → Hp → Nat → Prop} (b i sz : Nat) {cs : List Value}
    (h : Leads P f base ⟨fr, up, aput (aput H b (.cells (cs.set i (.slice (some ⟨top, 0, none⟩) 0 sz)))) top (.row true []), top + 1⟩ R) (hb : aget H b = some (.cells cs) := by rfl) (hi : cs[i]? = some (.slice none 0 s) := by rfl) :
    Leads P f base ⟨fr, up, H, top⟩ R := by
  refine ⟨fun w0 U ρ rf rfs w cs' hr => ?_⟩
  have hx := Ext.upd (l := ⟨0, 0, 0⟩) hr.heap.off0
  have hp : HpR P w0 (.of U) ρ (aput H b (.cells (cs.set i (.slice (some ⟨top, 0, none⟩) 0 sz)))) top w :=
    { hr.heap with
      obj := fun j o ho => by
        rw [aget_aput] at ho
        split at ho
        · rename_i hj; subst hj; cases ho
          obtain ⟨l, hl, hc, hw⟩ := hr.heap.obj b _ hb
          refine ⟨l, hl, ?_, fun _ => hw rfl⟩
          obtain ⟨g1, g2, g3⟩ := (hc : CellsR ρ w l true cs)
          refine ⟨by simpa using g1, fun k v hv => ?_, g3⟩
          rw [List.getElem?_set] at hv
          split at hv
          · rename_i hk; subst hk
            split at hv
            · cases hv
              obtain ⟨v', a, b'⟩ := g2 i _ hi
              exact ⟨v', a, VR.ofNil b' _ _⟩
            · cases hv
          · exact g2 k v hv
        · exact hr.heap.obj j o ho
      dis := fun j k oj ok lj lk hjk hj hk hlj hlk hw => by
        have key : ∀ j o, aget (aput H b (.cells (cs.set i (.slice (some ⟨top, 0, none⟩) 0 sz)))) j = some o → ∃ o', aget H j = some o' ∧ (writable o = true → writable o' = true) := fun j o ho => by
          rw [aget_aput] at ho
          split at ho
          · rename_i hj; subst hj; exact ⟨_, hb, fun _ => rfl⟩
          · exact ⟨o, ho, id⟩
        obtain ⟨oj', a1, a2⟩ := key j oj hj
        obtain ⟨ok', b1, _⟩ := key k ok hk
        exact hr.heap.dis j k oj' ok' lj lk hjk a1 b1 hlj hlk (a2 hw) }
  obtain ⟨ρ', rv, fr', w', v, H', top', h1, h2, h3, h4, h5, h6, h7⟩ := h.get w0 U _ rf rfs w cs' ⟨hr.cur.mono hx, hr.up.mono (fun _ _ x => x.mono hx), empty_row hp⟩
  exact ⟨ρ', rv, fr', w', v, H', top', h1, h2, h3, h4, h5, fun i l hi hl => h6 i l hi (hx _ _ hl), h7⟩
mutual
inductive Nv (j : Nat) : Value → Value → Prop
  | same (v) : Nv j v v
  | nil (s sz) : Nv j (.slice none 0 s) (.slice (some ⟨j, 0, none⟩) 0 sz)
  | tup {a b : List Value} (h : NvL j a b) : Nv j (.tuple ⟨a⟩) (.tuple ⟨b⟩)
inductive NvL (j : Nat) : List Value → List Value → Prop
  | nil : NvL j [] []
  | cons {v v' : Value} {l l' : List Value} (h : Nv j v v') (t : NvL j l l') : NvL j (v :: l) (v' :: l')
end
mutual
theorem Nv.vr {j : Nat} {ρ : Ren} : ∀ {v v' : Value}, Nv j v v' → ∀ {rv : Value}, VR ρ v rv → VR ρ v' rv
  | _, _, .same v, _, h => h
  | _, _, .nil s sz, _, h => VR.ofNil h _ _
  | _, _, .tup hl, _, h => by cases h with | tuple ht => exact .tuple (NvL.vr hl ht)
theorem NvL.vr {j : Nat} {ρ : Ren} : ∀ {l l' : List Value}, NvL j l l' → ∀ {rl : List Value}, VRL ρ l rl → VRL ρ l' rl
  | _, _, .nil, _, h => h
  | _, _, .cons hv ht, _, h => by cases h with | cons a b => exact .cons (Nv.vr hv a) (NvL.vr ht b)
end
end Go.Vm
namespace Go.Vm
theorem ap_req {A B C D : Prop} [Decidable (A ∧ B ∧ C ∧ D)] {p q : Bool} (a : A) (b : B) (c : C) (d : D) (e : p = true) (g : q = true) : (decide (A ∧ B ∧ C ∧ D) && p && q) = true := by
  rw [decide_eq_true ⟨a, b, c, d⟩, e, g]; rfl
end Go.Vm
namespace Go.Vm
open Go Go.RowKit
def forceOL (o : VObj) (K : VObj → Prop) : Prop :=
  match o with
  | .cells cs => forceL cs fun cs => K (.cells cs)
  | .row own cs => forceL cs fun cs => K (.row own cs)
  | .ty t cs => K (.ty t cs)
  | .siter s p => K (.siter s p)
  | .loop l => K (.loop l)
  | .marks => K .marks
theorem forceOL_eq (o : VObj) (K : VObj → Prop) : forceOL o K = K o := by
  cases o <;> simp only [forceOL, forceL_eq]
def forceH2 (bs : List Nat) (h : Hp) (K : Hp → Prop) : Prop :=
  match h with
  | [] => K []
  | (i, o) :: l => cond (memB i bs) (forceOL o fun o => forceH2 bs l fun l => K ((i, o) :: l)) (forceO o fun o => forceH2 bs l fun l => K ((i, o) :: l))
theorem forceH2_eq (bs : List Nat) : ∀ (h : Hp) (K : Hp → Prop), forceH2 bs h K = K h
  | [], K => rfl
  | (i, o) :: l, K => by
    rw [forceH2]
    cases memB i bs
    · rw [cond_false, forceO_eq, forceH2_eq bs l]
    · rw [cond_true, forceOL_eq, forceH2_eq bs l]
theorem sumK.introF {s : Summ} {vals : List Value} {h : Hp} {top : Nat} {K : Value → Hp → Nat → Prop} {v : Value} {h' : Hp} {top' : Nat} (bs : List Nat) (e : sumRun s vals h top = some (v, h', top')) (k : forceV v fun v => forceH2 bs h' fun h' => K v h' top') : sumK s vals h top K :=
  sumK.intro e (by simpa only [forceV_eq, forceH2_eq] using k)
end Go.Vm
namespace Go.Vm
open Go Go.RowKit
inductive NilW : Value → Hp → Nat → Value → Hp → Nat → Prop
  | refl (v : Value) (H : Hp) (t : Nat) : NilW v H t v H t
  | val {v v' v2 : Value} {H H2 : Hp} {t t2 : Nat} (h : Nv t v v') (k : NilW v' (aput H t (.row true [])) (t + 1) v2 H2 t2) : NilW v H t v2 H2 t2
  | cell {v v2 : Value} {H H2 : Hp} {t t2 s : Nat} (b i sz : Nat) {cs : List Value} (hb : aget H b = some (.cells cs)) (hi : cs[i]? = some (.slice none 0 s)) (k : NilW v (aput (aput H b (.cells (cs.set i (.slice (some ⟨t, 0, none⟩) 0 sz)))) t (.row true [])) (t + 1) v2 H2 t2) : NilW v H t v2 H2 t2
theorem nilC_hp {P : Program} {w0 : World} {U : UG} {ρ : Ren} {H : Hp} {top s : Nat} {w : World} (h : HpR P w0 U ρ H top w) {b i : Nat} (sz : Nat) {cs : List Value} (hb : aget H b = some (.cells cs)) (hi : cs[i]? = some (.slice none 0 s)) : HpR P w0 U ρ (aput H b (.cells (cs.set i (.slice (some ⟨top, 0, none⟩) 0 sz)))) top w :=
  { h with
    obj := fun j o ho => by
      rw [aget_aput] at ho
      split at ho
      · rename_i hj; subst hj; cases ho
        obtain ⟨l, hl, hc, hw⟩ := h.obj b _ hb
        refine ⟨l, hl, ?_, fun _ => hw rfl⟩
        obtain ⟨g1, g2, g3⟩ := (hc : CellsR ρ w l true cs)
        refine ⟨by simpa using g1, fun k v hv => ?_, g3⟩
        rw [List.getElem?_set] at hv
        split at hv
        · rename_i hk; subst hk
          split at hv
          · cases hv
            obtain ⟨v', a, b'⟩ := g2 i _ hi
            exact ⟨v', a, VR.ofNil b' _ _⟩
          · cases hv
        · exact g2 k v hv
      · exact h.obj j o ho
    dis := fun j k oj ok lj lk hjk hj hk hlj hlk hw => by
      have key : ∀ j o, aget (aput H b (.cells (cs.set i (.slice (some ⟨top, 0, none⟩) 0 sz)))) j = some o → ∃ o', aget H j = some o' ∧ (writable o = true → writable o' = true) := fun j o ho => by
        rw [aget_aput] at ho
        split at ho
        · rename_i hj; subst hj; exact ⟨_, hb, fun _ => rfl⟩
        · exact ⟨o, ho, id⟩
      obtain ⟨oj', a1, a2⟩ := key j oj hj
      obtain ⟨ok', b1, _⟩ := key k ok hk
      exact h.dis j k oj' ok' lj lk hjk a1 b1 hlj hlk (a2 hw) }
theorem NilW.ok {P : Program} {w0 : World} {U : Nat → Nat → Prop} {v v2 rv : Value} {H H2 : Hp} {t t2 : Nat} (k : NilW v H t v2 H2 t2) : ∀ {ρ : Ren} {w : World}, VR ρ v rv → HpR P w0 (.of U) ρ H t w → ∃ ρ', Ext ρ ρ' ∧ VR ρ' v2 rv ∧ HpR P w0 (.of U) ρ' H2 t2 w := by
  induction k with
  | refl => intro ρ w h1 h2; exact ⟨ρ, Ext.refl ρ, h1, h2⟩
  | val h k ih =>
    intro ρ w h1 h2
    have hx := Ext.upd (l := ⟨0, 0, 0⟩) h2.off0
    obtain ⟨ρ', e1, e2, e3⟩ := ih ((h.vr h1).mono hx) (empty_row h2)
    exact ⟨ρ', hx.trans e1, e2, e3⟩
  | cell b i sz hb hi k ih =>
    intro ρ w h1 h2
    have hx := Ext.upd (l := ⟨0, 0, 0⟩) h2.off0
    obtain ⟨ρ', e1, e2, e3⟩ := ih (h1.mono hx) (empty_row (nilC_hp h2 sz hb hi))
    exact ⟨ρ', hx.trans e1, e2, e3⟩
theorem Leads.nilW {P : Program} {f base : Nat} {vm : VM} {R : Value → Hp → Prop} (h : Leads P f base vm (fun v H t => ∃ v' H' t', NilW v H t v' H' t' ∧ R v' H')) : Leads P f base vm (fun v H _ => R v H) := by
  refine ⟨fun w0 U ρ rf rfs w cs hr => ?_⟩
  obtain ⟨ρ', rv, fr', w', v, H', top', h1, h2, h3, h4, h5, h6, v2, H2, t2, hk, h7⟩ := h.get w0 U ρ rf rfs w cs hr
  obtain ⟨ρ2, e1, e2, e3⟩ := hk.ok h4 h5
  exact ⟨ρ2, rv, fr', w', v2, H2, t2, h1, h2, h3, e2, e3, fun i l hi hl => e1 _ _ (h6 i l hi hl), h7⟩
end Go.Vm
namespace Go.Vm
end Go.Vm
namespace Go.Vm
open Go Go.RowKit
@[simp] theorem ofBytes_len (l : List UInt8) : (ofBytes l).length = l.length := by simp [ofBytes]
theorem pk_us {xs : List Int} {n : Nat} {K : List UInt8 → Prop} (h : K (iB xs)) (hn : xs.length ≤ n := by first | exact Nat.le_refl _ | omega | (simp; done) | (simp; omega)) : ∃ bs, toBytes ((vI .u8 xs).take n) = some bs ∧ K bs :=
  ⟨_, by rw [List.take_of_length_le (by simpa using hn)]; exact toBytes_vI _, h⟩
theorem us_req {A B C D : Prop} [Decidable (A ∧ B ∧ C ∧ D)] (a : A) (b : B) (c : C) (d : D) : decide (A ∧ B ∧ C ∧ D) = true := decide_eq_true ⟨a, b, c, d⟩
theorem ap0b_req {A B C D : Prop} [Decidable (A ∧ B ∧ C ∧ D)] (a : A) (b : B) (c : C) (d : D) : decide (A ∧ B ∧ C ∧ D) = true := decide_eq_true ⟨a, b, c, d⟩
theorem apb_req {A B C D E : Prop} [Decidable (A ∧ B ∧ C ∧ D ∧ E)] {p q : Bool} (a : A) (b : B) (c : C) (d : D) (e : E) (f : p = true) (g : q = true) : (decide (A ∧ B ∧ C ∧ D ∧ E) && p && q) = true := by
  rw [decide_eq_true ⟨a, b, c, d, e⟩, f, g]; rfl
theorem pk_apW {new : List Value} {xs : List Int} {n m : Nat} {ys : List Int} {K : List Value → Nat → Prop} (e : new = vI .u8 ys) (hc : n = xs.length) (hn : n + m = (xs ++ ys).length) (h : K (vI .u8 (xs ++ ys)) (xs ++ ys).length) :
    ∃ cs' n', (vI .u8 xs).take n ++ new = cs' ∧ n + m = n' ∧ K cs' n' :=
  ⟨_, _, by rw [List.take_of_length_le (by simp [hc]), e, vI_app], hn, h⟩
def un1 {α : Type} (un : Value → Option α) : List Value → Option α
  | [v] => un v
  | _ => none
theorem un1_eq {α : Type} {un : Value → Option α} {g : α → Value} (h : ∀ v x, un v = some x → v = g x) {cs : List Value} {x : α} (e : un1 un cs = some x) : cs = [g x] := by
  unfold un1 at e
  split at e
  · rw [h _ _ e]
  · cases e
theorem un1_c {α : Type} {un : Value → Option α} {v : Value} {x : α} (h : un v = some x) : un1 un [v] = some x := h
theorem asI_c (k : IntKind) {n : Int} : asI k (.int k n) = some n := by simp [asI]
theorem asS_c {s : List UInt8} : asS (.string ⟨⟨s⟩⟩) = some s := rfl
def pickN (i : Nat) (a b : Dec) : Dec := fun vs cs => match vs[i]? with
  | some (.pointer none) => b vs cs
  | _ => a vs cs
theorem pickN.elim {i : Nat} {a b : Dec} {vs : List Value} {cs : List (Option (List Value))} {r : SRes} (h : pickN i a b vs cs = some r) : a vs cs = some r ∨ b vs cs = some r := by
  unfold pickN at h
  split at h
  · exact .inr h
  · exact .inl h
theorem nw_0 {H : Hp} {s : Nat → Option Nat} : newOK H s [] [] := trivial
theorem nw_s {H : Hp} {s : Nat → Option Nat} {j : Nat} {js : List Nat} {c c' : List Value} {cs : List (List Value)} (e : renV.renL s c = some c') (h : Has H j c') (t : newOK H s js cs) : newOK H s (j :: js) (c :: cs) := ⟨⟨_, e, h⟩, t⟩
theorem js_0 {n : Nat} {wr : List (Option (List Value))} : jsOK n wr [] := trivial
theorem js_l {n j : Nat} {wr : List (Option (List Value))} {js : List Nat} (h : n ≤ j) (t : jsOK n wr js) : jsOK n wr (j :: js) := ⟨.inl h, t⟩
theorem wr_0 {H : Hp} {s : Nat → Option Nat} {k : Nat} : wrOK H s k [] := trivial
theorem wr_n {H : Hp} {s : Nat → Option Nat} {k : Nat} {l : List (Option (List Value))} (t : wrOK H s (k + 1) l) : wrOK H s k (none :: l) := t
theorem wr_s {H : Hp} {s : Nat → Option Nat} {k : Nat} {c c' : List Value} {l : List (Option (List Value))} (e : renV.renL s c = some c') (h : Has H k c') (t : wrOK H s (k + 1) l) : wrOK H s k (some c :: l) := ⟨⟨_, e, h⟩, t⟩
theorem Res.flat {n : Nat} {r : SRes} {v' : Value} {H' : Hp} {b : Bool} (e : r.v = .bool b) (_ : r.new = []) (h : Res n r v' H') : v' = .bool b := by
  obtain ⟨js, h1, h2, -⟩ := h.ex
  rw [e] at h1
  cases h1; rfl
theorem sumK.q {s : Summ} {vals : List Value} {h : Hp} {top : Nat} {K : Value → Hp → Nat → Prop} {r : SRes} {v' : Value} (e1 : readArgs h 0 s.modes vals = some (vals, [])) (ew : winL h s.modes vals = []) (e2 : s.run vals [] = some r) (hn : r.new = []) (hw : r.wr = []) (e6 : renV (numR top 0 []) r.v = some v')
    (k : forceV v' fun v => forceH2 [] h fun h' => K v h' top) : sumK s vals h top K := by
  refine sumK.introF [] (sumRun_of (n := 0) (m := 0) (t' := top) e1 ew rfl e2 rfl (by rw [hn]; rfl) rfl rfl (by rw [hw]; exact wb_nil) (by rw [hn]; exact an_nil) e6) k
theorem dFin {α : Type} {o : Option α} {f : α → SRes} {vs : List Value} {cs : List (Option (List Value))} {r : SRes} (h : dEnd (ofG o f) vs cs = some r) : vs = [] ∧ cs = [] ∧ ∃ x, o = some x ∧ f x = r := by
  obtain ⟨a, b, c⟩ := dEnd.elim h
  exact ⟨a, b, ofG.elim c⟩
theorem Res.z {n : Nat} {r : SRes} {v' : Value} {H' : Hp} (e1 : renV (resR [] n) r.v = some v') (e2 : r.new = []) (e3 : r.wr = []) : Res n r v' H' :=
  Res.of [] e1 (by rw [e2]; exact nw_0) (by decide) js_0 (by rw [e3]; exact wr_0)
end Go.Vm
namespace Go.Vm
open Go
theorem wI64 {n : Int} (h1 : -9223372036854775808 ≤ n) (h2 : n < 9223372036854775808) : wI .i64 n = n := by
  show IntKind.wrap .i64 n = n; rw [IntKind.wrap_i64]; omega
theorem wU64 {n : Int} (h1 : 0 ≤ n) (h2 : n < 18446744073709551616) : wI .u64 n = n := by
  show IntKind.wrap .u64 n = n
  simp only [IntKind.wrap, IntKind.bits, IntKind.signed]; simp; omega
theorem wU8 {n : Int} (h1 : 0 ≤ n) (h2 : n < 256) : wI .u8 n = n := by
  show IntKind.wrap .u8 n = n
  simp only [IntKind.wrap, IntKind.bits, IntKind.signed]; simp; omega
theorem wU8m (n : Int) : wI .u8 n = n % 256 := by
  show IntKind.wrap .u8 n = _
  simp only [IntKind.wrap, IntKind.bits, IntKind.signed]; simp
theorem bv64 {n : Nat} (h : n < 18446744073709551616) : (BitVec.ofInt 64 (n : Int)).toNat = n := by
  rw [BitVec.toNat_ofInt]; omega
theorem andI64 {a b : Nat} (ha : a < 9223372036854775808) (hb : b < 9223372036854775808) : andI .i64 (a : Int) (b : Int) = ((a &&& b : Nat) : Int) := by
  have h : a &&& b ≤ a := Nat.and_le_left
  show IntKind.wrap .i64 _ = _
  rw [show IntKind.bits .i64 = 64 from rfl, BitVec.toNat_and, bv64 (by omega), bv64 (by omega)]
  exact wI64 (by omega) (by omega)
theorem iorI64 {a b : Nat} (ha : a < 9223372036854775808) (hb : b < 9223372036854775808) : iorI .i64 (a : Int) (b : Int) = ((a ||| b : Nat) : Int) := by
  have h : a ||| b < 2 ^ 63 := Nat.or_lt_two_pow (by omega) (by omega)
  show IntKind.wrap .i64 _ = _
  rw [show IntKind.bits .i64 = 64 from rfl, BitVec.toNat_or, bv64 (by omega), bv64 (by omega)]
  exact wI64 (by omega) (by omega)
theorem iorU64 {a b : Nat} (ha : a < 18446744073709551616) (hb : b < 18446744073709551616) : iorI .u64 (a : Int) (b : Int) = ((a ||| b : Nat) : Int) := by
  have h : a ||| b < 2 ^ 64 := Nat.or_lt_two_pow (by omega) (by omega)
  show IntKind.wrap .u64 _ = _
  rw [show IntKind.bits .u64 = 64 from rfl, BitVec.toNat_or, bv64 (by omega), bv64 (by omega)]
  exact wU64 (by omega) (by omega)
theorem and_mask (a k : Nat) : a &&& (2 ^ k - 1) = a % 2 ^ k := Nat.and_two_pow_sub_one_eq_mod a k
theorem or_low {a b k : Nat} (hb : b < 2 ^ k) : (a * 2 ^ k) ||| b = a * 2 ^ k + b := by
  rw [Nat.mul_comm]; exact (Nat.two_pow_add_eq_or_of_lt hb a).symm
theorem andI64_mask (k : Nat) {a m : Int} (hm : m = 2 ^ k - 1) (hk : k ≤ 62) (h0 : 0 ≤ a) (h1 : a < 9223372036854775808) : andI .i64 a m = a % 2 ^ k := by
  obtain ⟨n, rfl⟩ := Int.eq_ofNat_of_zero_le h0
  have hp : 2 ^ k ≤ 2 ^ 62 := Nat.pow_le_pow_right (by decide) hk
  have hp1 : 1 ≤ 2 ^ k := Nat.one_le_two_pow
  have : m = ((2 ^ k - 1 : Nat) : Int) := by rw [hm]; push_cast [hp1]; rfl
  rw [this, andI64 (by omega) (by omega), and_mask]; push_cast; rfl
theorem iorI64_low (k : Nat) {a b : Int} (h0 : 0 ≤ a) (h1 : a * 2 ^ k < 9223372036854775808) (hb0 : 0 ≤ b) (hb : b < 2 ^ k) (hb1 : b < 9223372036854775808) : iorI .i64 (a * 2 ^ k) b = a * 2 ^ k + b := by
  obtain ⟨n, rfl⟩ := Int.eq_ofNat_of_zero_le h0
  obtain ⟨m, rfl⟩ := Int.eq_ofNat_of_zero_le hb0
  have e : ((n : Int) * 2 ^ k) = ((n * 2 ^ k : Nat) : Int) := by push_cast; rfl
  rw [e] at h1 ⊢
  rw [iorI64 (by omega) (by omega), or_low (by exact_mod_cast hb)]; push_cast; rfl
theorem iorU64_low (k : Nat) {a b : Int} (h0 : 0 ≤ a) (h1 : a * 2 ^ k < 18446744073709551616) (hb0 : 0 ≤ b) (hb : b < 2 ^ k) (hb1 : b < 18446744073709551616) : iorI .u64 (a * 2 ^ k) b = a * 2 ^ k + b := by
  obtain ⟨n, rfl⟩ := Int.eq_ofNat_of_zero_le h0
  obtain ⟨m, rfl⟩ := Int.eq_ofNat_of_zero_le hb0
  have e : ((n : Int) * 2 ^ k) = ((n * 2 ^ k : Nat) : Int) := by push_cast; rfl
  rw [e] at h1 ⊢
  rw [iorU64 (by omega) (by omega), or_low (by exact_mod_cast hb)]; push_cast; rfl
theorem fdivP (a : Int) (k : Nat) : a.fdiv (2 ^ k) = a / 2 ^ k := Int.fdiv_eq_ediv_of_nonneg a (Int.le_of_lt (Int.pow_pos (by decide)))
theorem oreq_p {α : Type} {p : Prop} [Decidable p] {x : Option α} (h : p) : oreq (decide p) x = x := oreq.mk (decide_eq_true h)
theorem cond_p {α : Type} {p : Prop} [Decidable p] {x y : α} (h : p) : cond (decide p) x y = x := by rw [decide_eq_true h, cond_true]
theorem cond_n {α : Type} {p : Prop} [Decidable p] {x y : α} (h : ¬ p) : cond (decide p) x y = y := by rw [decide_eq_false h, cond_false]
theorem iter_eq {σ ρ : Type} {step : σ → Option (Sum σ ρ)} (F : σ → ρ) (P : σ → Prop) (μ : σ → Nat)
    (h : ∀ s, P s → step s = some (.inr (F s)) ∨ ∃ s', step s = some (.inl s') ∧ P s' ∧ μ s' < μ s ∧ F s' = F s) : ∀ n s, P s → μ s < n → iter step n s = some (F s)
  | 0, s, hp, hn => by omega
  | n + 1, s, hp, hn => by
    rw [iter]
    rcases h s hp with e | ⟨s', e, hp', hm, hf⟩
    · rw [e]
    · rw [e]; exact hf ▸ iter_eq F P μ h n s' hp' (by omega)
theorem FUEL_eq : FUEL = 18446744073709551616 := rfl
end Go.Vm
namespace Go.Vm.Code
open Go Go.Vm Go.Proofs
def τ0:Operand:=.tmp 0
def τ1:Operand:=.tmp 1
def τ2:Operand:=.tmp 2
def τ3:Operand:=.tmp 3
def τ4:Operand:=.tmp 4
def τ5:Operand:=.tmp 5
def τ6:Operand:=.tmp 6
def τ7:Operand:=.tmp 7
def τ8:Operand:=.tmp 8
def τ9:Operand:=.tmp 9
def τ10:Operand:=.tmp 10
def τ11:Operand:=.tmp 11
def τ12:Operand:=.tmp 12
def τ13:Operand:=.tmp 13
def τ14:Operand:=.tmp 14
def τ15:Operand:=.tmp 15
def τ16:Operand:=.tmp 16
def τ17:Operand:=.tmp 17
def τ18:Operand:=.tmp 18
def τ19:Operand:=.tmp 19
def τ20:Operand:=.tmp 20
def τ21:Operand:=.tmp 21
def τ22:Operand:=.tmp 22
def τ23:Operand:=.tmp 23
def τ24:Operand:=.tmp 24
def τ25:Operand:=.tmp 25
def τ26:Operand:=.tmp 26
def τ27:Operand:=.tmp 27
def τ28:Operand:=.tmp 28
def τ29:Operand:=.tmp 29
def τ30:Operand:=.tmp 30
def τ31:Operand:=.tmp 31
def τ32:Operand:=.tmp 32
def τ33:Operand:=.tmp 33
def τ34:Operand:=.tmp 34
def τ35:Operand:=.tmp 35
def τ36:Operand:=.tmp 36
def τ37:Operand:=.tmp 37
def τ38:Operand:=.tmp 38
def τ39:Operand:=.tmp 39
def τ40:Operand:=.tmp 40
def τ41:Operand:=.tmp 41
def τ42:Operand:=.tmp 42
def τ43:Operand:=.tmp 43
def τ44:Operand:=.tmp 44
def τ45:Operand:=.tmp 45
def τ46:Operand:=.tmp 46
def τ47:Operand:=.tmp 47
def τ48:Operand:=.tmp 48
def τ49:Operand:=.tmp 49
def τ50:Operand:=.tmp 50
def τ51:Operand:=.tmp 51
def τ52:Operand:=.tmp 52
def τ53:Operand:=.tmp 53
def τ54:Operand:=.tmp 54
def τ55:Operand:=.tmp 55
def τ56:Operand:=.tmp 56
def τ57:Operand:=.tmp 57
def τ58:Operand:=.tmp 58
def τ59:Operand:=.tmp 59
def τ60:Operand:=.tmp 60
def τ61:Operand:=.tmp 61
def τ62:Operand:=.tmp 62
def τ63:Operand:=.tmp 63
def τ64:Operand:=.tmp 64
def τ65:Operand:=.tmp 65
def τ66:Operand:=.tmp 66
def τ67:Operand:=.tmp 67
def τ68:Operand:=.tmp 68
def τ69:Operand:=.tmp 69
def τ70:Operand:=.tmp 70
def τ71:Operand:=.tmp 71
def τ72:Operand:=.tmp 72
def τ73:Operand:=.tmp 73
def τ74:Operand:=.tmp 74
def τ75:Operand:=.tmp 75
def τ76:Operand:=.tmp 76
def τ77:Operand:=.tmp 77
def τ78:Operand:=.tmp 78
def τ79:Operand:=.tmp 79
def τ80:Operand:=.tmp 80
def τ81:Operand:=.tmp 81
def τ82:Operand:=.tmp 82
def τ83:Operand:=.tmp 83
def τ84:Operand:=.tmp 84
def τ85:Operand:=.tmp 85
def τ86:Operand:=.tmp 86
def τ87:Operand:=.tmp 87
def τ88:Operand:=.tmp 88
def τ89:Operand:=.tmp 89
def τ90:Operand:=.tmp 90
def τ91:Operand:=.tmp 91
def τ92:Operand:=.tmp 92
def τ93:Operand:=.tmp 93
def τ94:Operand:=.tmp 94
def τ95:Operand:=.tmp 95
def τ96:Operand:=.tmp 96
def τ97:Operand:=.tmp 97
def τ98:Operand:=.tmp 98
def τ99:Operand:=.tmp 99
def τ100:Operand:=.tmp 100
def τ101:Operand:=.tmp 101
def τ102:Operand:=.tmp 102
def τ103:Operand:=.tmp 103
def τ104:Operand:=.tmp 104
def τ105:Operand:=.tmp 105
def τ106:Operand:=.tmp 106
def τ107:Operand:=.tmp 107
def τ108:Operand:=.tmp 108
def τ109:Operand:=.tmp 109
def τ110:Operand:=.tmp 110
def τ111:Operand:=.tmp 111
def τ112:Operand:=.tmp 112
def τ113:Operand:=.tmp 113
def τ114:Operand:=.tmp 114
def τ115:Operand:=.tmp 115
def τ116:Operand:=.tmp 116
def τ117:Operand:=.tmp 117
def τ118:Operand:=.tmp 118
def τ119:Operand:=.tmp 119
def τ120:Operand:=.tmp 120
def τ121:Operand:=.tmp 121
def τ122:Operand:=.tmp 122
def τ123:Operand:=.tmp 123
def τ124:Operand:=.tmp 124
def τ125:Operand:=.tmp 125
def τ126:Operand:=.tmp 126
def τ127:Operand:=.tmp 127
def τ128:Operand:=.tmp 128
def τ129:Operand:=.tmp 129
def τ130:Operand:=.tmp 130
def τ131:Operand:=.tmp 131
def τ132:Operand:=.tmp 132
def τ133:Operand:=.tmp 133
def τ134:Operand:=.tmp 134
def τ135:Operand:=.tmp 135
def τ136:Operand:=.tmp 136
def τ137:Operand:=.tmp 137
def τ138:Operand:=.tmp 138
def τ139:Operand:=.tmp 139
def τ140:Operand:=.tmp 140
def τ141:Operand:=.tmp 141
def τ142:Operand:=.tmp 142
def τ143:Operand:=.tmp 143
def τ144:Operand:=.tmp 144
def τ145:Operand:=.tmp 145
def τ146:Operand:=.tmp 146
def τ147:Operand:=.tmp 147
def τ148:Operand:=.tmp 148
def τ149:Operand:=.tmp 149
def τ150:Operand:=.tmp 150
def τ151:Operand:=.tmp 151
def τ152:Operand:=.tmp 152
def τ153:Operand:=.tmp 153
def τ154:Operand:=.tmp 154
def τ155:Operand:=.tmp 155
def τ156:Operand:=.tmp 156
def τ157:Operand:=.tmp 157
def τ158:Operand:=.tmp 158
def τ159:Operand:=.tmp 159
def τ160:Operand:=.tmp 160
def oD (n:Nat) (o:VOp):VOper:=⟨some n,o,none⟩
def oN (o:VOp):VOper:=⟨none,o,none⟩
def oM (n:Nat) (x:Operand):VOper:=⟨some n,.mv x,none⟩
def oG (n:Nat) (o:VOp) (j:Nat) (b:Bool):VOper:=⟨some n,o,some (j,b)⟩
def oE (n i:Nat) (x:Operand):VOper:=⟨some n,.extract i x,none⟩
def k3_0 : VC := .reg [oD 8 (.mv (.const (.bool false)))]
def k3_1 : VC := .reg [oM 16 τ0,oM 17 τ2,oD 18 (.buildSl 2 1 [(.string ⟨⟨[]⟩⟩), (.string ⟨⟨[]⟩⟩)] [(0, 1, τ16), (1, 1, τ17)]),oD 19 (.callF 7 [τ18, (.const (.int .i64 200))]),oD 20 (.not τ19),oM 21 τ20,oG 22 (.mv τ0) 21 false,oG 23 (.lenS τ22) 21 false,oG 24 (.bin .lss τ23 (.const (.int .i64 2))) 21 false,oD 25 (.pick τ21 (.const (.bool true)) τ24)]
def k3_2 : VC := .reg [oD 26 (.callF 8 []),oM 8 τ26]
def k3_3 : VC := .seq k3_2 .ret
def k3_4 : VC := .cond τ25 k3_3 .skip
def k3_5 : VC := .seq k3_1 k3_4
def k3_6 : VC := .regD [oM 27 τ1,oD 28 (.conv .i64 τ27),oM 29 τ0,oD 30 (.lenS τ29),oD 31 (.bin .rem τ28 τ30),oM 32 τ3,oD 33 (.conv .i64 τ32),oM 34 τ0,oD 35 (.lenS τ34),oD 36 (.bin .quo τ35 (.const (.int .i64 2))),oD 37 (.bin .rem τ33 τ36),oD 38 (.bin .mul τ37 (.const (.int .i64 2))),oM 9 τ31] [] [oM 10 τ38]
def k3_7 : VC := .reg [oM 39 τ0,oM 40 τ10,oD 41 (.callF 9 [τ39, τ40, (.const (.int .i64 2)), (.const (.int .u64 0))]),oM 0 τ41]
def k3_8 : VC := .reg [oM 42 τ0,oM 43 τ10,oM 44 τ0,oD 45 (.callF 10 [τ44]),oD 46 (.conv .u64 τ45),oD 47 (.callF 9 [τ42, τ43, (.const (.int .i64 2)), τ46]),oM 0 τ47]
def k3_9 : VC := .reg [oM 49 τ0,oM 50 τ9,oM 51 τ2,oM 52 τ10,oD 53 (.callF 11 [τ49, τ50, τ51, τ52]),oM 48 τ53,oE 54 0 τ48,oE 55 1 τ48,oM 11 τ54,oM 12 τ55]
def k3_10 : VC := .reg [oM 56 τ12,oD 57 (.not τ56)]
def k3_11 : VC := .reg [oM 58 τ2,oD 59 (.lenS τ58),oM 60 τ0,oD 61 (.lenS τ60),oM 62 τ9,oD 63 (.bin .sub τ61 τ62),oD 64 (.bin .gtr τ59 τ63),oM 65 τ64,oG 66 (.mv τ9) 65 false,oG 67 (.mv τ10) 65 false,oG 68 (.bin .add τ67 (.const (.int .i64 2))) 65 false,oG 69 (.bin .lss τ66 τ68) 65 false,oG 70 (.mv τ69) 65 false,oG 71 (.mv τ10) 70 true,oG 72 (.mv τ9) 70 true,oG 73 (.mv τ2) 70 true,oG 74 (.lenS τ73) 70 true,oG 75 (.bin .add τ72 τ74) 70 true,oG 76 (.bin .lss τ71 τ75) 70 true,oG 77 (.pick τ70 τ76 (.const (.bool false))) 65 false,oD 78 (.pick τ65 (.const (.bool true)) τ77),oM 79 τ78,oG 80 (.mv τ11) 79 true,oG 81 (.bin .eql τ80 (.const (.string ⟨⟨[]⟩⟩))) 79 true,oD 82 (.pick τ79 τ81 (.const (.bool false))),oM 83 τ82,oG 84 (.callF 8 []) 83 true,oD 85 (.pick τ83 τ84 (.const (.bool false))),oM 8 τ85]
def k3_12 : VC := .seq k3_11 .ret
def k3_13 : VC := .cond τ57 k3_12 .skip
def k3_14 : VC := .seq k3_10 k3_13
def k3_15 : VC := .reg [oM 86 τ11,oD 87 (.lenS τ86),oM 88 τ0,oD 89 (.lenS τ88),oD 90 (.bin .neq τ87 τ89)]
def k3_16 : VC := .reg [oD 8 (.mv (.const (.bool false)))]
def k3_17 : VC := .seq k3_16 .ret
def k3_18 : VC := .cond τ90 k3_17 .skip
def k3_19 : VC := .seq k3_15 k3_18
def k3_20 : VC := .reg [oD 13 (.mv (.const (.bool true)))]
def k3_21 : VC := .reg [oD 14 (.mv (.const (.int .i64 0)))]
def k3_22 : VC := .reg [oM 91 τ14,oM 92 τ11,oD 93 (.lenS τ92),oD 94 (.bin .lss τ91 τ93)]
def k3_23 : VC := .cond τ94 .skip (.exit 0)
def k3_24 : VC := .seq k3_22 k3_23
def k3_25 : VC := .reg [oM 97 τ13,oM 98 τ97,oG 99 (.mv τ11) 98 true,oG 100 (.mv τ14) 98 true,oG 101 (.idxS τ99 τ100) 98 true,oG 102 (.bin .eql τ101 (.const (.int .u8 0))) 98 true,oD 103 (.pick τ98 τ102 (.const (.bool false))),oM 13 τ103]
def k3_26 : VC := .reg [oM 104 τ14,oM 105 τ9,oD 106 (.bin .geq τ104 τ105),oM 107 τ106,oG 108 (.mv τ14) 107 true,oG 109 (.mv τ9) 107 true,oG 110 (.mv τ2) 107 true,oG 111 (.lenS τ110) 107 true,oG 112 (.bin .add τ109 τ111) 107 true,oG 113 (.bin .lss τ108 τ112) 107 true,oD 114 (.pick τ107 τ113 (.const (.bool false))),oM 15 τ114]
def k3_27 : VC := .regD [oM 115 τ15,oM 116 τ115,oG 117 (.mv τ11) 116 true,oG 118 (.mv τ14) 116 true,oG 119 (.idxS τ117 τ118) 116 true,oG 120 (.mv τ2) 116 true,oG 121 (.mv τ14) 116 true,oG 122 (.mv τ9) 116 true,oG 123 (.bin .sub τ121 τ122) 116 true,oG 124 (.idxS τ120 τ123) 116 true,oG 125 (.bin .neq τ119 τ124) 116 true,oD 126 (.pick τ116 τ125 (.const (.bool false))),oM 127 τ126,oG 128 (.mv τ15) 127 false,oG 129 (.not τ128) 127 false,oG 130 (.mv τ129) 127 false,oG 131 (.mv τ14) 130 true,oG 132 (.mv τ10) 130 true,oG 133 (.bin .neq τ131 τ132) 130 true,oG 134 (.pick τ130 τ133 (.const (.bool false))) 127 false,oG 135 (.mv τ134) 127 false,oG 136 (.mv τ14) 135 true,oG 137 (.mv τ10) 135 true,oG 138 (.bin .add τ137 (.const (.int .i64 1))) 135 true,oG 139 (.bin .neq τ136 τ138) 135 true,oG 140 (.pick τ135 τ139 (.const (.bool false))) 127 false,oG 141 (.mv τ140) 127 false,oG 142 (.mv τ11) 141 true,oG 143 (.mv τ14) 141 true,oG 144 (.idxS τ142 τ143) 141 true,oG 145 (.mv τ0) 141 true,oG 146 (.mv τ14) 141 true,oG 147 (.idxS τ145 τ146) 141 true] [] [oG 148 (.bin .neq τ144 τ147) 141 true,oG 149 (.pick τ141 τ148 (.const (.bool false))) 127 false,oD 150 (.pick τ127 (.const (.bool true)) τ149)]
def k3_28 : VC := .reg [oD 8 (.mv (.const (.bool false)))]
def k3_29 : VC := .seq k3_28 .ret
def k3_30 : VC := .cond τ150 k3_29 .skip
def k3_31 : VC := .seq k3_27 k3_30
def k3_32 : VC := .seq k3_26 k3_31
def k3_33 : VC := .seq k3_25 k3_32
def k3_34 : VC := .block 1 k3_33
def k3_35 : VC := .reg [oM 95 τ14,oD 96 (.bin .add τ95 (.const (.int .i64 1))),oM 14 τ96]
def k3_36 : VC := .seq k3_34 k3_35
def k3_37 : VC := .seq k3_24 k3_36
def k3_38 : VC := .loop k3_37
def k3_39 : VC := .block 0 k3_38
def k3_40 : VC := .seq k3_21 k3_39
def k3_41 : VC := .reg [oM 151 τ13,oM 152 τ151,oG 153 (.mv τ11) 152 false,oG 154 (.callF 12 [τ153]) 152 false,oG 155 (.bin .eql τ154 (.const (.int .i64 65535))) 152 false,oD 156 (.pick τ152 (.const (.bool true)) τ155),oM 157 τ156,oG 158 (.callF 8 []) 157 true,oD 159 (.pick τ157 τ158 (.const (.bool false))),oM 8 τ159]
def k3_42 : VC := .seq k3_41 .ret
def k3_43 : VC := .seq k3_40 k3_42
def k3_44 : VC := .seq k3_20 k3_43
def k3_45 : VC := .seq k3_19 k3_44
def k3_46 : VC := .seq k3_14 k3_45
def k3_47 : VC := .seq k3_9 k3_46
def k3_48 : VC := .seq k3_8 k3_47
def k3_49 : VC := .seq k3_7 k3_48
def k3_50 : VC := .seq k3_6 k3_49
def k3_51 : VC := .seq k3_5 k3_50
def k3_52 : VC := .seq k3_0 k3_51
def fn3 : VFn := ⟨160, k3_52, [.tmp 8]⟩
def k7_0 : VC := .reg [oD 4 (.mv (.const (.bool false)))]
def k7_1 : VC := .reg [oD 5 (.mv (.const (.int .i64 0)))]
def k7_2 : VC := .reg [oM 6 τ5,oM 7 τ0,oD 8 (.lenL τ7),oD 9 (.bin .lss τ6 τ8)]
def k7_3 : VC := .cond τ9 .skip (.exit 0)
def k7_4 : VC := .seq k7_2 k7_3
def k7_5 : VC := .reg [oM 12 τ0,oM 13 τ5,oD 14 (.idxAL 1 τ12 τ13),oD 15 (.load1 .str τ14),oD 16 (.lenS τ15),oM 17 τ1,oD 18 (.bin .gtr τ16 τ17)]
def k7_6 : VC := .reg [oD 4 (.mv (.const (.bool false)))]
def k7_7 : VC := .seq k7_6 .ret
def k7_8 : VC := .cond τ18 k7_7 .skip
def k7_9 : VC := .seq k7_5 k7_8
def k7_10 : VC := .block 1 k7_9
def k7_11 : VC := .reg [oM 10 τ5,oD 11 (.bin .add τ10 (.const (.int .i64 1))),oM 5 τ11]
def k7_12 : VC := .seq k7_10 k7_11
def k7_13 : VC := .seq k7_4 k7_12
def k7_14 : VC := .loop k7_13
def k7_15 : VC := .block 0 k7_14
def k7_16 : VC := .seq k7_1 k7_15
def k7_17 : VC := .reg [oD 4 (.mv (.const (.bool true)))]
def k7_18 : VC := .seq k7_17 .ret
def k7_19 : VC := .seq k7_16 k7_18
def k7_20 : VC := .seq k7_0 k7_19
def fn7 : VFn := ⟨19, k7_20, [.tmp 4]⟩
def k8_0 : VC := .reg [oD 0 (.mv (.const (.bool false)))]
def k8_1 : VC := .reg [oD 12 (.build [(.bool false), (.int .u64 0), (.int .u64 0)] [(2, 1, (.const (.int .u64 1)))]),oD 13 (.build [(.bool false), (.int .u64 0), (.int .u64 0)] [(2, 1, (.const (.int .u64 2)))]),oD 14 (.build [(.int .i64 0), (.bool false), (.int .u64 0), (.int .u64 0), (.bool false), (.int .u64 0), (.int .u64 0), (.int .i64 0), (.int .i64 0)] [(0, 1, (.const (.int .i64 6))), (1, 3, τ12), (4, 3, τ13)]),oD 1 (.alloc [(.int .i64 0), (.bool false), (.int .u64 0), (.int .u64 0), (.bool false), (.int .u64 0), (.int .u64 0), (.int .i64 0), (.int .i64 0)]),oN (.store 9 τ1 τ14)]
def k8_2 : VC := .reg [oD 16 (.loadN [(.int .i64), .bool, (.int .u64), (.int .u64), .bool, (.int .u64), (.int .u64), (.int .i64), (.int .i64)] τ1),oD 17 (.callF 20 [τ16, (.const (.int .i64 16)), (.const (.string ⟨⟨[]⟩⟩)), (.const (.string ⟨⟨[]⟩⟩))]),oM 15 τ17,oE 18 0 τ15,oE 19 1 τ15,oM 2 τ18,oM 3 τ19]
def k8_3 : VC := .regD [oD 21 (.loadN [(.int .i64), .bool, (.int .u64), (.int .u64), .bool, (.int .u64), (.int .u64), (.int .i64), (.int .i64)] τ1),oD 22 (.callF 15 [(.const (.int .u32 74565)), (.const (.int .u32 7))]),oD 23 (.callF 20 [τ21, (.const (.int .i64 16)), τ22, (.const (.string ⟨⟨[]⟩⟩))]),oM 20 τ23,oE 24 0 τ20,oE 25 1 τ20,oM 4 τ24] [(0, 1)] [oM 5 τ25]
def k8_4 : VC := .reg [oM 27 τ2,oD 28 (.callF 21 [τ27, (.const (.int .u16 1))]),oM 26 τ28,oE 29 0 τ26,oE 30 1 τ26,oM 6 τ29,oM 7 τ30]
def k8_5 : VC := .reg [oM 32 τ4,oD 33 (.callF 21 [τ32, (.const (.int .u16 43981))]),oM 31 τ33,oE 34 0 τ31,oE 35 1 τ31,oM 8 τ34,oM 9 τ35]
def k8_6 : VC := .reg [oM 37 τ8,oD 38 (.callF 22 [τ37]),oM 36 τ38,oE 39 0 τ36,oE 40 1 τ36,oD 10 (.alloc [(.int .i64 0), (.bool false), (.int .u64 0), (.int .u64 0), (.bool false), (.int .u64 0), (.int .u64 0), (.int .i64 0), (.int .i64 0), (.int .i64 0), (.bool false), (.int .u32 0), (.int .u32 0), (.bool false), (.string ⟨⟨[]⟩⟩), (.int .i64 0)]),oN (.store 16 τ10 τ39),oM 11 τ40]
def k8_7 : VC := .reg [oM 41 τ7,oD 42 (.bin .eql τ41 (.const (.int .i64 6))),oM 43 τ42,oG 44 (.mv τ9) 43 true,oG 45 (.bin .eql τ44 (.const (.int .i64 0))) 43 true,oD 46 (.pick τ43 τ45 (.const (.bool false))),oM 47 τ46,oG 48 (.mv τ11) 47 true,oG 49 (.bin .eql τ48 (.const (.int .i64 0))) 47 true,oD 50 (.pick τ47 τ49 (.const (.bool false))),oM 51 τ50,oG 52 (.fieldA 11 τ10) 51 true,oG 53 (.load1 (.int .u32) τ52) 51 true,oG 54 (.bin .eql τ53 (.const (.int .u32 2882347845))) 51 true,oD 55 (.pick τ51 τ54 (.const (.bool false))),oM 0 τ55]
def k8_8 : VC := .seq k8_7 .ret
def k8_9 : VC := .seq k8_6 k8_8
def k8_10 : VC := .seq k8_5 k8_9
def k8_11 : VC := .seq k8_4 k8_10
def k8_12 : VC := .seq k8_3 k8_11
def k8_13 : VC := .seq k8_2 k8_12
def k8_14 : VC := .seq k8_1 k8_13
def k8_15 : VC := .seq k8_0 k8_14
def fn8 : VFn := ⟨56, k8_15, [.tmp 0]⟩
def k20_0 : VC := .reg [oD 4 (.box τ0),oD 8 (.mv (.const (.string ⟨⟨[]⟩⟩))),oD 9 (.mv (.const (.int .i64 0)))]
def k20_1 : VC := .reg [oD 12 (.fieldA 0 τ4),oD 13 (.load1 (.int .i64) τ12),oD 14 (.bin .neq τ13 (.const (.int .i64 6)))]
def k20_2 : VC := .reg [oD 8 (.mv (.const (.string ⟨⟨[]⟩⟩))),oD 9 (.mv (.const (.int .i64 1)))]
def k20_3 : VC := .seq k20_2 .ret
def k20_4 : VC := .cond τ14 k20_3 .skip
def k20_5 : VC := .seq k20_1 k20_4
def k20_6 : VC := .reg [oD 16 (.fieldA 7 τ4),oD 17 (.load1 (.int .i64) τ16),oD 18 (.fieldA 8 τ4),oD 19 (.load1 (.int .i64) τ18),oM 20 τ1,oM 21 τ2,oD 22 (.build [(.int .i64 0), (.int .i64 0), (.int .u32 0), (.int .u32 0), (.int .i64 0), (.int .i64 0), (.int .i64 0), (.string ⟨⟨[]⟩⟩)] [(0, 1, τ17), (1, 1, τ19), (4, 1, τ20), (5, 1, (.const (.int .i64 65535))), (7, 1, τ21)]),oD 23 (.fieldA 1 τ4),oD 24 (.loadN [.bool, (.int .u64), (.int .u64)] τ23),oD 25 (.fieldA 4 τ4),oD 26 (.loadN [.bool, (.int .u64), (.int .u64)] τ25),oM 27 τ3,oD 28 (.callF 36 [τ22, τ24, τ26, τ27]),oM 15 τ28,oE 29 0 τ15,oE 30 1 τ15,oM 10 τ29,oM 11 τ30]
def k20_7 : VC := .reg [oM 31 τ11,oD 32 (.bin .neq τ31 (.const (.int .i64 0)))]
def k20_8 : VC := .reg [oM 33 τ11,oD 8 (.mv (.const (.string ⟨⟨[]⟩⟩))),oM 9 τ33]
def k20_9 : VC := .seq k20_8 .ret
def k20_10 : VC := .cond τ32 k20_9 .skip
def k20_11 : VC := .seq k20_7 k20_10
def k20_12 : VC := .reg [oD 34 (.loadN [(.int .i64), .bool, (.int .u64), (.int .u64), .bool, (.int .u64), (.int .u64), (.int .i64), (.int .i64)] τ4),oM 35 τ10,oD 36 (.callF 37 [τ34, τ35]),oE 37 0 τ36,oE 38 1 τ36,oM 8 τ37,oM 9 τ38]
def k20_13 : VC := .seq k20_12 .ret
def k20_14 : VC := .seq k20_11 k20_13
def k20_15 : VC := .seq k20_6 k20_14
def k20_16 : VC := .seq k20_5 k20_15
def k20_17 : VC := .seq k20_0 k20_16
def fn20 : VFn := ⟨39, k20_17, [.tmp 8, .tmp 9]⟩
def k36_0 : VC := .reg [oD 4 (.box τ0),oD 5 (.box τ1),oD 6 (.box τ2),oD 8 (.mv (.const (.string ⟨⟨[]⟩⟩))),oD 9 (.mv (.const (.int .i64 0)))]
def k36_1 : VC := .reg [oD 13 (.fieldA 7 τ4),oD 14 (.load1 .str τ13),oD 15 (.lenS τ14),oD 16 (.bin .add (.const (.int .i64 20)) τ15),oM 10 τ16]
def k36_2 : VC := .reg [oD 17 (.loadN [.bool, (.int .u64), (.int .u64)] τ5),oD 18 (.loadN [.bool, (.int .u64), (.int .u64)] τ6),oM 19 τ10,oM 20 τ3,oD 21 (.lenS τ20),oD 22 (.bin .add τ19 τ21),oD 23 (.callF 59 [τ17, τ18, (.const (.int .i64 6)), τ22]),oM 11 τ23]
def k36_3 : VC := .reg [oD 24 (.loadN [(.int .i64), (.int .i64), (.int .u32), (.int .u32), (.int .i64), (.int .i64), (.int .i64), .str] τ4),oD 25 (.callF 60 [τ24]),oD 26 (.not τ25),oM 27 τ26,oG 28 (.mv τ11) 27 false,oG 29 (.bin .eql τ28 (.const (.string ⟨⟨[]⟩⟩))) 27 false,oD 30 (.pick τ27 (.const (.bool true)) τ29)]
def k36_4 : VC := .reg [oD 8 (.mv (.const (.string ⟨⟨[]⟩⟩))),oD 9 (.mv (.const (.int .i64 1)))]
def k36_5 : VC := .seq k36_4 .ret
def k36_6 : VC := .cond τ30 k36_5 .skip
def k36_7 : VC := .seq k36_3 k36_6
def k36_8 : VC := .reg [oM 31 τ3,oD 32 (.lenS τ31),oM 33 τ10,oD 34 (.bin .sub (.const (.int .i64 65535)) τ33),oD 35 (.bin .gtr τ32 τ34)]
def k36_9 : VC := .reg [oD 8 (.mv (.const (.string ⟨⟨[]⟩⟩))),oD 9 (.mv (.const (.int .i64 5)))]
def k36_10 : VC := .seq k36_9 .ret
def k36_11 : VC := .cond τ35 k36_10 .skip
def k36_12 : VC := .seq k36_8 k36_11
def k36_13 : VC := .regD [oD 36 (.fieldA 0 τ4),oD 37 (.load1 (.int .i64) τ36),oD 38 (.callF 33 [τ37, (.const (.int .i64 2))]),oD 39 (.fieldA 1 τ4),oD 40 (.load1 (.int .i64) τ39),oD 41 (.callF 33 [τ40, (.const (.int .i64 2))]),oD 42 (.bin .add τ38 τ41),oD 43 (.fieldA 2 τ4),oD 44 (.load1 (.int .u32) τ43),oD 45 (.conv .i64 τ44),oD 46 (.callF 33 [τ45, (.const (.int .i64 4))]),oD 47 (.bin .add τ42 τ46),oD 48 (.fieldA 3 τ4),oD 49 (.load1 (.int .u32) τ48),oD 50 (.conv .i64 τ49),oD 51 (.callF 33 [τ50, (.const (.int .i64 4))]),oD 52 (.bin .add τ47 τ51),oM 53 τ10,oD 54 (.bin .mul (.const (.int .i64 4)) τ53),oD 55 (.callF 33 [τ54, (.const (.int .i64 1))]),oD 56 (.bin .add τ52 τ55),oD 57 (.fieldA 4 τ4),oD 58 (.load1 (.int .i64) τ57),oD 59 (.callF 33 [τ58, (.const (.int .i64 1))]),oD 60 (.bin .add τ56 τ59),oD 61 (.fieldA 5 τ4),oD 62 (.load1 (.int .i64) τ61),oD 63 (.callF 33 [τ62, (.const (.int .i64 2))]),oD 64 (.bin .add τ60 τ63),oD 65 (.callF 33 [(.const (.int .i64 0)), (.const (.int .i64 2))]),oD 66 (.bin .add τ64 τ65),oD 67 (.fieldA 6 τ4),oD 68 (.load1 (.int .i64) τ67),oD 69 (.callF 33 [τ68, (.const (.int .i64 2))]),oD 70 (.bin .add τ66 τ69),oD 71 (.fieldA 7 τ4),oD 72 (.load1 .str τ71),oD 73 (.bin .add τ70 τ72),oM 74 τ3] [(2, 4), (2, 8), (2, 13), (2, 22), (2, 26), (2, 32), (2, 36), (5, 8), (5, 13), (5, 22), (5, 26), (5, 32), (5, 36), (10, 13), (10, 22), (10, 26), (10, 32), (10, 36), (15, 22), (15, 26), (15, 32), (15, 36), (19, 22), (19, 26), (19, 32), (19, 36), (23, 26), (23, 32), (23, 36), (27, 32), (27, 36), (29, 32), (29, 36), (33, 36)] [oD 75 (.bin .add τ73 τ74),oM 12 τ75]
def k36_14 : VC := .reg [oM 76 τ12,oM 77 τ11,oM 78 τ12,oD 79 (.bin .add τ77 τ78),oD 80 (.callF 10 [τ79]),oD 81 (.conv .u64 τ80),oD 82 (.callF 9 [τ76, (.const (.int .i64 16)), (.const (.int .i64 2)), τ81]),oM 8 τ82,oD 9 (.mv (.const (.int .i64 0)))]
def k36_15 : VC := .seq k36_14 .ret
def k36_16 : VC := .seq k36_13 k36_15
def k36_17 : VC := .seq k36_12 k36_16
def k36_18 : VC := .seq k36_7 k36_17
def k36_19 : VC := .seq k36_2 k36_18
def k36_20 : VC := .seq k36_1 k36_19
def k36_21 : VC := .seq k36_0 k36_20
def fn36 : VFn := ⟨83, k36_21, [.tmp 8, .tmp 9]⟩
def k59_0 : VC := .reg [oD 4 (.box τ0),oD 5 (.box τ1),oD 8 (.mv (.const (.string ⟨⟨[]⟩⟩)))]
def k59_1 : VC := .reg [oD 9 (.loadN [.bool, (.int .u64), (.int .u64)] τ4),oD 10 (.callF 61 [τ9]),oD 11 (.not τ10),oM 12 τ11,oG 13 (.loadN [.bool, (.int .u64), (.int .u64)] τ5) 12 false,oG 14 (.callF 61 [τ13]) 12 false,oG 15 (.not τ14) 12 false,oD 16 (.pick τ12 (.const (.bool true)) τ15),oM 17 τ16,oG 18 (.fieldA 0 τ4) 17 false,oG 19 (.load1 .bool τ18) 17 false,oG 20 (.fieldA 0 τ5) 17 false,oG 21 (.load1 .bool τ20) 17 false,oG 22 (.eqB true τ19 τ21) 17 false,oD 23 (.pick τ17 (.const (.bool true)) τ22)]
def k59_2 : VC := .reg [oD 8 (.mv (.const (.string ⟨⟨[]⟩⟩)))]
def k59_3 : VC := .seq k59_2 .ret
def k59_4 : VC := .cond τ23 k59_3 .skip
def k59_5 : VC := .seq k59_1 k59_4
def k59_6 : VC := .reg [oD 24 (.fieldA 0 τ4),oD 25 (.load1 .bool τ24)]
def k59_7 : VC := .regD [oD 26 (.loadN [.bool, (.int .u64), (.int .u64)] τ4),oD 27 (.callF 85 [τ26]),oD 28 (.loadN [.bool, (.int .u64), (.int .u64)] τ5),oD 29 (.callF 85 [τ28]),oD 30 (.bin .add τ27 τ29),oM 31 τ3,oD 32 (.callF 86 [τ31, (.const (.int .i64 4))]),oD 33 (.bin .add τ30 τ32),oD 34 (.callF 86 [(.const (.int .i64 0)), (.const (.int .i64 3))]),oD 35 (.bin .add τ33 τ34),oM 36 τ2,oD 37 (.callF 86 [τ36, (.const (.int .i64 1))])] [(1, 2)] [oD 38 (.bin .add τ35 τ37),oM 8 τ38]
def k59_8 : VC := .seq k59_7 .ret
def k59_9 : VC := .cond τ25 k59_8 .skip
def k59_10 : VC := .seq k59_6 k59_9
def k59_11 : VC := .regD [oD 39 (.loadN [.bool, (.int .u64), (.int .u64)] τ4),oD 40 (.callF 85 [τ39]),oD 41 (.loadN [.bool, (.int .u64), (.int .u64)] τ5),oD 42 (.callF 85 [τ41]),oD 43 (.bin .add τ40 τ42),oD 44 (.callF 86 [(.const (.int .i64 0)), (.const (.int .i64 1))]),oD 45 (.bin .add τ43 τ44),oM 46 τ2,oD 47 (.callF 86 [τ46, (.const (.int .i64 1))]),oD 48 (.bin .add τ45 τ47),oM 49 τ3,oD 50 (.callF 86 [τ49, (.const (.int .i64 2))])] [(1, 2)] [oD 51 (.bin .add τ48 τ50),oM 8 τ51]
def k59_12 : VC := .seq k59_11 .ret
def k59_13 : VC := .seq k59_10 k59_12
def k59_14 : VC := .seq k59_5 k59_13
def k59_15 : VC := .seq k59_0 k59_14
def fn59 : VFn := ⟨52, k59_15, [.tmp 8]⟩
def k61_0 : VC := .reg [oD 1 (.box τ0),oD 2 (.mv (.const (.bool false)))]
def k61_1 : VC := .reg [oD 3 (.fieldA 0 τ1),oD 4 (.load1 .bool τ3),oM 5 τ4,oG 6 (.fieldA 1 τ1) 5 false,oG 7 (.load1 (.int .u64) τ6) 5 false,oG 8 (.bin .eql τ7 (.const (.int .u64 0))) 5 false,oG 9 (.mv τ8) 5 false,oG 10 (.fieldA 2 τ1) 9 true,oG 11 (.load1 (.int .u64) τ10) 9 true,oG 12 (.bin .lss τ11 (.const (.int .u64 4294967296))) 9 true,oG 13 (.pick τ9 τ12 (.const (.bool false))) 5 false,oD 14 (.pick τ5 (.const (.bool true)) τ13),oM 2 τ14]
def k61_2 : VC := .seq k61_1 .ret
def k61_3 : VC := .seq k61_0 k61_2
def fn61 : VFn := ⟨15, k61_3, [.tmp 2]⟩
def k85_0 : VC := .reg [oD 1 (.box τ0),oD 2 (.mv (.const (.string ⟨⟨[]⟩⟩)))]
def k85_1 : VC := .reg [oD 3 (.loadN [.bool, (.int .u64), (.int .u64)] τ1),oD 4 (.callF 61 [τ3]),oD 5 (.not τ4)]
def k85_2 : VC := .reg [oD 2 (.mv (.const (.string ⟨⟨[]⟩⟩)))]
def k85_3 : VC := .seq k85_2 .ret
def k85_4 : VC := .cond τ5 k85_3 .skip
def k85_5 : VC := .seq k85_1 k85_4
def k85_6 : VC := .reg [oD 6 (.fieldA 0 τ1),oD 7 (.load1 .bool τ6)]
def k85_7 : VC := .regD [oD 8 (.fieldA 1 τ1),oD 9 (.load1 (.int .u64) τ8),oD 10 (.callF 24 [τ9, (.const (.int .i64 8))]),oD 11 (.fieldA 2 τ1),oD 12 (.load1 (.int .u64) τ11)] [(2, 4)] [oD 13 (.callF 24 [τ12, (.const (.int .i64 8))]),oD 14 (.bin .add τ10 τ13),oM 2 τ14]
def k85_8 : VC := .seq k85_7 .ret
def k85_9 : VC := .cond τ7 k85_8 .skip
def k85_10 : VC := .seq k85_6 k85_9
def k85_11 : VC := .reg [oD 15 (.fieldA 2 τ1),oD 16 (.load1 (.int .u64) τ15),oD 17 (.callF 24 [τ16, (.const (.int .i64 4))]),oM 2 τ17]
def k85_12 : VC := .seq k85_11 .ret
def k85_13 : VC := .seq k85_10 k85_12
def k85_14 : VC := .seq k85_5 k85_13
def k85_15 : VC := .seq k85_0 k85_14
def fn85 : VFn := ⟨18, k85_15, [.tmp 2]⟩
def k24_0 : VC := .reg [oD 4 (.mv (.const (.string ⟨⟨[]⟩⟩)))]
def k24_1 : VC := .reg [oD 5 (.mv (.const (.string ⟨⟨[]⟩⟩)))]
def k24_2 : VC := .reg [oD 6 (.mv (.const (.int .i64 0)))]
def k24_3 : VC := .reg [oM 7 τ6,oM 8 τ1,oD 9 (.bin .lss τ7 τ8),oM 10 τ9,oG 11 (.mv τ1) 10 true,oG 12 (.bin .leq τ11 (.const (.int .i64 8))) 10 true,oD 13 (.pick τ10 τ12 (.const (.bool false)))]
def k24_4 : VC := .cond τ13 .skip (.exit 0)
def k24_5 : VC := .seq k24_3 k24_4
def k24_6 : VC := .reg [oM 16 τ0,oD 17 (.bin .rem τ16 (.const (.int .u64 256))),oD 18 (.conv .u8 τ17),oD 19 (.buildSl 1 1 [(.int .u8 0)] [(0, 1, τ18)]),oD 20 (.b2s τ19),oM 21 τ5,oD 22 (.bin .add τ20 τ21),oM 5 τ22]
def k24_7 : VC := .reg [oM 23 τ0,oD 24 (.bin .quo τ23 (.const (.int .u64 256))),oM 0 τ24]
def k24_8 : VC := .seq k24_6 k24_7
def k24_9 : VC := .block 1 k24_8
def k24_10 : VC := .reg [oM 14 τ6,oD 15 (.bin .add τ14 (.const (.int .i64 1))),oM 6 τ15]
def k24_11 : VC := .seq k24_9 k24_10
def k24_12 : VC := .seq k24_5 k24_11
def k24_13 : VC := .loop k24_12
def k24_14 : VC := .block 0 k24_13
def k24_15 : VC := .seq k24_2 k24_14
def k24_16 : VC := .reg [oM 25 τ5,oM 4 τ25]
def k24_17 : VC := .seq k24_16 .ret
def k24_18 : VC := .seq k24_15 k24_17
def k24_19 : VC := .seq k24_1 k24_18
def k24_20 : VC := .seq k24_0 k24_19
def fn24 : VFn := ⟨26, k24_20, [.tmp 4]⟩
def k86_0 : VC := .reg [oD 4 (.mv (.const (.string ⟨⟨[]⟩⟩)))]
def k86_1 : VC := .reg [oM 5 τ0,oD 6 (.conv .u64 τ5),oM 7 τ1,oD 8 (.callF 24 [τ6, τ7]),oM 4 τ8]
def k86_2 : VC := .seq k86_1 .ret
def k86_3 : VC := .seq k86_0 k86_2
def fn86 : VFn := ⟨9, k86_3, [.tmp 4]⟩
def k60_0 : VC := .reg [oD 1 (.box τ0),oD 2 (.mv (.const (.bool false)))]
def k60_1 : VC := .reg [oD 3 (.fieldA 0 τ1),oD 4 (.load1 (.int .i64) τ3),oD 5 (.callF 87 [τ4, (.const (.int .i64 65535))]),oM 6 τ5,oG 7 (.fieldA 1 τ1) 6 true,oG 8 (.load1 (.int .i64) τ7) 6 true,oG 9 (.callF 87 [τ8, (.const (.int .i64 65535))]) 6 true,oD 10 (.pick τ6 τ9 (.const (.bool false))),oM 11 τ10,oG 12 (.fieldA 4 τ1) 11 true,oG 13 (.load1 (.int .i64) τ12) 11 true,oG 14 (.callF 87 [τ13, (.const (.int .i64 255))]) 11 true,oD 15 (.pick τ11 τ14 (.const (.bool false))),oM 16 τ15,oG 17 (.fieldA 5 τ1) 16 true,oG 18 (.load1 (.int .i64) τ17) 16 true,oG 19 (.callF 87 [τ18, (.const (.int .i64 65535))]) 16 true,oD 20 (.pick τ16 τ19 (.const (.bool false))),oM 21 τ20,oG 22 (.fieldA 6 τ1) 21 true,oG 23 (.load1 (.int .i64) τ22) 21 true,oG 24 (.callF 87 [τ23, (.const (.int .i64 65535))]) 21 true,oD 25 (.pick τ21 τ24 (.const (.bool false))),oM 26 τ25,oG 27 (.fieldA 7 τ1) 26 true,oG 28 (.load1 .str τ27) 26 true,oG 29 (.lenS τ28) 26 true,oG 30 (.bin .leq τ29 (.const (.int .i64 40))) 26 true,oD 31 (.pick τ26 τ30 (.const (.bool false))),oM 32 τ31,oG 33 (.fieldA 7 τ1) 32 true,oG 34 (.load1 .str τ33) 32 true,oG 35 (.lenS τ34) 32 true,oG 36 (.bin .rem τ35 (.const (.int .i64 4))) 32 true,oG 37 (.bin .eql τ36 (.const (.int .i64 0))) 32 true,oD 38 (.pick τ32 τ37 (.const (.bool false))),oM 2 τ38]
def k60_2 : VC := .seq k60_1 .ret
def k60_3 : VC := .seq k60_0 k60_2
def fn60 : VFn := ⟨39, k60_3, [.tmp 2]⟩
def k87_0 : VC := .reg [oD 4 (.mv (.const (.bool false)))]
def k87_1 : VC := .reg [oM 5 τ0,oD 6 (.bin .geq τ5 (.const (.int .i64 0))),oM 7 τ6,oG 8 (.mv τ0) 7 true,oG 9 (.mv τ1) 7 true,oG 10 (.bin .leq τ8 τ9) 7 true,oD 11 (.pick τ7 τ10 (.const (.bool false))),oM 4 τ11]
def k87_2 : VC := .seq k87_1 .ret
def k87_3 : VC := .seq k87_0 k87_2
def fn87 : VFn := ⟨12, k87_3, [.tmp 4]⟩
def k33_0 : VC := .reg [oD 4 (.mv (.const (.string ⟨⟨[]⟩⟩)))]
def k33_1 : VC := .reg [oM 5 τ0,oD 6 (.conv .u64 τ5),oM 7 τ1,oD 8 (.callF 24 [τ6, τ7]),oM 4 τ8]
def k33_2 : VC := .seq k33_1 .ret
def k33_3 : VC := .seq k33_0 k33_2
def fn33 : VFn := ⟨9, k33_3, [.tmp 4]⟩
def k10_0 : VC := .reg [oD 2 (.mv (.const (.int .i64 0)))]
def k10_1 : VC := .reg [oM 3 τ0,oD 4 (.callF 12 [τ3]),oD 5 (.bin .sub (.const (.int .i64 65535)) τ4),oM 2 τ5]
def k10_2 : VC := .seq k10_1 .ret
def k10_3 : VC := .seq k10_0 k10_2
def fn10 : VFn := ⟨6, k10_3, [.tmp 2]⟩
def k12_0 : VC := .reg [oD 2 (.mv (.const (.int .i64 0)))]
def k12_1 : VC := .reg [oM 3 τ0,oD 4 (.callF 30 [τ3]),oD 5 (.callF 29 [τ4]),oM 2 τ5]
def k12_2 : VC := .seq k12_1 .ret
def k12_3 : VC := .seq k12_0 k12_2
def fn12 : VFn := ⟨6, k12_3, [.tmp 2]⟩
def k30_0 : VC := .reg [oD 2 (.mv (.const (.slice none 0 0)))]
def k30_1 : VC := .reg [oM 5 τ0,oD 6 (.lenS τ5),oD 7 (.bin .rem τ6 (.const (.int .i64 2))),oD 8 (.bin .eql τ7 (.const (.int .i64 1)))]
def k30_2 : VC := .reg [oM 9 τ0,oD 10 (.bin .add τ9 (.const (.string ⟨⟨[0]⟩⟩))),oM 0 τ10]
def k30_3 : VC := .cond τ8 k30_2 .skip
def k30_4 : VC := .seq k30_1 k30_3
def k30_5 : VC := .reg [oD 3 (.mv (.const (.slice none 0 0)))]
def k30_6 : VC := .reg [oD 4 (.mv (.const (.int .i64 0)))]
def k30_7 : VC := .reg [oM 11 τ4,oM 12 τ0,oD 13 (.lenS τ12),oD 14 (.bin .lss τ11 τ13)]
def k30_8 : VC := .cond τ14 .skip (.exit 0)
def k30_9 : VC := .seq k30_7 k30_8
def k30_10 : VC := .reg [oM 17 τ3,oM 18 τ0,oM 19 τ4,oD 20 (.callF 45 [τ18, τ19, (.const (.int .i64 2))]),oD 21 (.buildSl 1 1 [(.int .i64 0)] [(0, 1, τ20)]),oD 22 (.app 3 1 8 τ17 τ21),oM 3 τ22]
def k30_11 : VC := .block 1 k30_10
def k30_12 : VC := .reg [oM 15 τ4,oD 16 (.bin .add τ15 (.const (.int .i64 2))),oM 4 τ16]
def k30_13 : VC := .seq k30_11 k30_12
def k30_14 : VC := .seq k30_9 k30_13
def k30_15 : VC := .loop k30_14
def k30_16 : VC := .block 0 k30_15
def k30_17 : VC := .seq k30_6 k30_16
def k30_18 : VC := .reg [oM 23 τ3,oM 2 τ23]
def k30_19 : VC := .seq k30_18 .ret
def k30_20 : VC := .seq k30_17 k30_19
def k30_21 : VC := .seq k30_5 k30_20
def k30_22 : VC := .seq k30_4 k30_21
def k30_23 : VC := .seq k30_0 k30_22
def fn30 : VFn := ⟨24, k30_23, [.tmp 2]⟩
def k45_0 : VC := .reg [oD 6 (.mv (.const (.int .i64 0)))]
def k45_1 : VC := .reg [oM 10 τ0,oM 11 τ1,oM 12 τ2,oD 13 (.callF 23 [τ10, τ11, τ12]),oM 9 τ13,oE 14 0 τ9,oE 15 1 τ9,oM 7 τ14,oM 8 τ15]
def k45_2 : VC := .reg [oM 16 τ7,oD 17 (.conv .i64 τ16),oM 6 τ17]
def k45_3 : VC := .seq k45_2 .ret
def k45_4 : VC := .seq k45_1 k45_3
def k45_5 : VC := .seq k45_0 k45_4
def fn45 : VFn := ⟨18, k45_5, [.tmp 6]⟩
def k23_0 : VC := .reg [oD 6 (.mv (.const (.int .u64 0))),oD 7 (.mv (.const (.bool false)))]
def k23_1 : VC := .reg [oM 10 τ2,oD 11 (.bin .lss τ10 (.const (.int .i64 1))),oM 12 τ11,oG 13 (.mv τ2) 12 false,oG 14 (.bin .gtr τ13 (.const (.int .i64 8))) 12 false,oD 15 (.pick τ12 (.const (.bool true)) τ14),oM 16 τ15,oG 17 (.mv τ1) 16 false,oG 18 (.bin .lss τ17 (.const (.int .i64 0))) 16 false,oD 19 (.pick τ16 (.const (.bool true)) τ18),oM 20 τ19,oG 21 (.mv τ1) 20 false,oG 22 (.mv τ0) 20 false,oG 23 (.lenS τ22) 20 false,oG 24 (.bin .gtr τ21 τ23) 20 false,oD 25 (.pick τ20 (.const (.bool true)) τ24),oM 26 τ25,oG 27 (.mv τ2) 26 false,oG 28 (.mv τ0) 26 false,oG 29 (.lenS τ28) 26 false,oG 30 (.mv τ1) 26 false,oG 31 (.bin .sub τ29 τ30) 26 false,oG 32 (.bin .gtr τ27 τ31) 26 false,oD 33 (.pick τ26 (.const (.bool true)) τ32)]
def k23_2 : VC := .reg [oD 6 (.mv (.const (.int .u64 0))),oD 7 (.mv (.const (.bool false)))]
def k23_3 : VC := .seq k23_2 .ret
def k23_4 : VC := .cond τ33 k23_3 .skip
def k23_5 : VC := .seq k23_1 k23_4
def k23_6 : VC := .reg [oD 8 (.mv (.const (.int .u64 0)))]
def k23_7 : VC := .reg [oD 9 (.mv (.const (.int .i64 0)))]
def k23_8 : VC := .reg [oM 34 τ9,oM 35 τ2,oD 36 (.bin .lss τ34 τ35)]
def k23_9 : VC := .cond τ36 .skip (.exit 0)
def k23_10 : VC := .seq k23_8 k23_9
def k23_11 : VC := .reg [oM 39 τ8,oD 40 (.bin .mul τ39 (.const (.int .u64 256))),oM 41 τ0,oM 42 τ1,oM 43 τ9,oD 44 (.bin .add τ42 τ43),oD 45 (.idxS τ41 τ44),oD 46 (.conv .u64 τ45),oD 47 (.bin .add τ40 τ46),oM 8 τ47]
def k23_12 : VC := .block 1 k23_11
def k23_13 : VC := .reg [oM 37 τ9,oD 38 (.bin .add τ37 (.const (.int .i64 1))),oM 9 τ38]
def k23_14 : VC := .seq k23_12 k23_13
def k23_15 : VC := .seq k23_10 k23_14
def k23_16 : VC := .loop k23_15
def k23_17 : VC := .block 0 k23_16
def k23_18 : VC := .seq k23_7 k23_17
def k23_19 : VC := .reg [oM 48 τ8,oM 6 τ48,oD 7 (.mv (.const (.bool true)))]
def k23_20 : VC := .seq k23_19 .ret
def k23_21 : VC := .seq k23_18 k23_20
def k23_22 : VC := .seq k23_6 k23_21
def k23_23 : VC := .seq k23_5 k23_22
def k23_24 : VC := .seq k23_0 k23_23
def fn23 : VFn := ⟨49, k23_24, [.tmp 6, .tmp 7]⟩
def k29_0 : VC := .reg [oD 2 (.mv (.const (.int .i64 0)))]
def k29_1 : VC := .reg [oD 3 (.mv (.const (.int .i64 0)))]
def k29_2 : VC := .reg [oD 4 (.mv (.const (.int .i64 0)))]
def k29_3 : VC := .reg [oM 5 τ4,oM 6 τ0,oD 7 (.lenL τ6),oD 8 (.bin .lss τ5 τ7)]
def k29_4 : VC := .cond τ8 .skip (.exit 0)
def k29_5 : VC := .seq k29_3 k29_4
def k29_6 : VC := .reg [oM 11 τ3,oM 12 τ0,oM 13 τ4,oD 14 (.idxAL 1 τ12 τ13),oD 15 (.load1 (.int .i64) τ14),oD 16 (.bin .add τ11 τ15),oM 3 τ16]
def k29_7 : VC := .block 1 k29_6
def k29_8 : VC := .reg [oM 9 τ4,oD 10 (.bin .add τ9 (.const (.int .i64 1))),oM 4 τ10]
def k29_9 : VC := .seq k29_7 k29_8
def k29_10 : VC := .seq k29_5 k29_9
def k29_11 : VC := .loop k29_10
def k29_12 : VC := .block 0 k29_11
def k29_13 : VC := .seq k29_2 k29_12
def k29_14 : VC := .reg [oM 17 τ3,oD 18 (.bin .gtr τ17 (.const (.int .i64 65535)))]
def k29_15 : VC := .cond τ18 .skip (.exit 2)
def k29_16 : VC := .seq k29_14 k29_15
def k29_17 : VC := .reg [oM 19 τ3,oD 20 (.bin .rem τ19 (.const (.int .i64 65536))),oM 21 τ3,oD 22 (.bin .quo τ21 (.const (.int .i64 65536))),oD 23 (.bin .add τ20 τ22),oM 3 τ23]
def k29_18 : VC := .block 3 k29_17
def k29_19 : VC := .seq k29_16 k29_18
def k29_20 : VC := .loop k29_19
def k29_21 : VC := .block 2 k29_20
def k29_22 : VC := .reg [oM 24 τ3,oM 2 τ24]
def k29_23 : VC := .seq k29_22 .ret
def k29_24 : VC := .seq k29_21 k29_23
def k29_25 : VC := .seq k29_13 k29_24
def k29_26 : VC := .seq k29_1 k29_25
def k29_27 : VC := .seq k29_0 k29_26
def fn29 : VFn := ⟨25, k29_27, [.tmp 2]⟩
def k9_0 : VC := .reg [oD 8 (.mv (.const (.string ⟨⟨[]⟩⟩)))]
def k9_1 : VC := .reg [oM 12 τ0,oM 13 τ1,oM 14 τ2,oD 15 (.callF 23 [τ12, τ13, τ14]),oM 11 τ15,oE 16 0 τ11,oE 17 1 τ11,oM 9 τ16,oM 10 τ17]
def k9_2 : VC := .reg [oM 18 τ10,oD 19 (.not τ18)]
def k9_3 : VC := .reg [oM 20 τ0,oM 8 τ20]
def k9_4 : VC := .seq k9_3 .ret
def k9_5 : VC := .cond τ19 k9_4 .skip
def k9_6 : VC := .seq k9_2 k9_5
def k9_7 : VC := .regD [oM 21 τ0,oM 22 τ1,oD 23 (.sliceS τ21 none (some τ22)),oM 24 τ3,oM 25 τ2,oD 26 (.callF 24 [τ24, τ25]),oD 27 (.bin .add τ23 τ26),oM 28 τ0,oM 29 τ1,oM 30 τ2,oD 31 (.bin .add τ29 τ30),oD 32 (.sliceS τ28 (some τ31) none)] [] [oD 33 (.bin .add τ27 τ32),oM 8 τ33]
def k9_8 : VC := .seq k9_7 .ret
def k9_9 : VC := .seq k9_6 k9_8
def k9_10 : VC := .seq k9_1 k9_9
def k9_11 : VC := .seq k9_0 k9_10
def fn9 : VFn := ⟨34, k9_11, [.tmp 8]⟩
def k37_0 : VC := .reg [oD 2 (.box τ0),oD 4 (.mv (.const (.string ⟨⟨[]⟩⟩))),oD 5 (.mv (.const (.int .i64 0)))]
def k37_1 : VC := .reg [oD 8 (.fieldA 1 τ2),oD 9 (.fieldA 0 τ8),oD 10 (.load1 .bool τ9),oD 11 (.fieldA 4 τ2),oD 12 (.fieldA 0 τ11),oD 13 (.load1 .bool τ12),oD 14 (.eqB true τ10 τ13),oM 15 τ14,oG 16 (.fieldA 1 τ2) 15 false,oG 17 (.loadN [.bool, (.int .u64), (.int .u64)] τ16) 15 false,oG 18 (.callF 61 [τ17]) 15 false,oG 19 (.not τ18) 15 false,oD 20 (.pick τ15 (.const (.bool true)) τ19),oM 21 τ20,oG 22 (.fieldA 4 τ2) 21 false,oG 23 (.loadN [.bool, (.int .u64), (.int .u64)] τ22) 21 false,oG 24 (.callF 61 [τ23]) 21 false,oG 25 (.not τ24) 21 false,oD 26 (.pick τ21 (.const (.bool true)) τ25),oM 27 τ26,oG 28 (.fieldA 0 τ2) 27 false,oG 29 (.load1 (.int .i64) τ28) 27 false,oG 30 (.bin .neq τ29 (.const (.int .i64 6))) 27 false,oG 31 (.mv τ30) 27 false,oG 32 (.fieldA 0 τ2) 31 true,oG 33 (.load1 (.int .i64) τ32) 31 true,oG 34 (.bin .neq τ33 (.const (.int .i64 17))) 31 true,oG 35 (.pick τ31 τ34 (.const (.bool false))) 27 false,oD 36 (.pick τ27 (.const (.bool true)) τ35)]
def k37_2 : VC := .reg [oD 4 (.mv (.const (.string ⟨⟨[]⟩⟩))),oD 5 (.mv (.const (.int .i64 1)))]
def k37_3 : VC := .seq k37_2 .ret
def k37_4 : VC := .cond τ36 k37_3 .skip
def k37_5 : VC := .seq k37_1 k37_4
def k37_6 : VC := .reg [oD 38 (.fieldA 0 τ2),oD 39 (.load1 (.int .i64) τ38),oD 40 (.fieldA 1 τ2),oD 41 (.loadN [.bool, (.int .u64), (.int .u64)] τ40),oD 42 (.fieldA 4 τ2),oD 43 (.loadN [.bool, (.int .u64), (.int .u64)] τ42),oD 44 (.build [(.int .i64 0), (.int .i64 0), (.int .i64 0), (.int .i64 0), (.bool false), (.int .u64 0), (.int .u64 0), (.bool false), (.int .u64 0), (.int .u64 0)] [(2, 1, τ39), (3, 1, (.const (.int .i64 64))), (4, 3, τ41), (7, 3, τ43)]),oM 45 τ1,oD 46 (.callF 62 [τ44, τ45]),oM 37 τ46,oE 47 0 τ37,oE 48 1 τ37,oM 6 τ47,oM 7 τ48]
def k37_7 : VC := .reg [oD 49 (.fieldA 1 τ2),oD 50 (.fieldA 0 τ49),oD 51 (.load1 .bool τ50),oD 52 (.not τ51)]
def k37_8 : VC := .reg [oD 54 (.fieldA 0 τ2),oD 55 (.load1 (.int .i64) τ54),oD 56 (.fieldA 1 τ2),oD 57 (.loadN [.bool, (.int .u64), (.int .u64)] τ56),oD 58 (.fieldA 4 τ2),oD 59 (.loadN [.bool, (.int .u64), (.int .u64)] τ58),oD 60 (.build [(.int .i64 0), (.int .i64 0), (.bool false), (.int .i64 0), (.int .i64 0), (.bool false), (.int .u64 0), (.int .u64 0), (.bool false), (.int .u64 0), (.int .u64 0), (.string ⟨⟨[]⟩⟩)] [(2, 1, (.const (.bool true))), (3, 1, (.const (.int .i64 64))), (4, 1, τ55), (5, 3, τ57), (8, 3, τ59)]),oM 61 τ1,oD 62 (.callF 63 [τ60, τ61]),oM 53 τ62,oE 63 0 τ53,oE 64 1 τ53,oM 6 τ63,oM 7 τ64]
def k37_9 : VC := .cond τ52 k37_8 .skip
def k37_10 : VC := .seq k37_7 k37_9
def k37_11 : VC := .reg [oM 65 τ7,oD 66 (.bin .eql τ65 (.const (.int .i64 0))),oM 67 τ66,oG 68 (.mv τ6) 67 true,oG 69 (.lenS τ68) 67 true,oG 70 (.bin .gtr τ69 (.const (.int .i64 9000))) 67 true,oD 71 (.pick τ67 τ70 (.const (.bool false)))]
def k37_12 : VC := .reg [oD 4 (.mv (.const (.string ⟨⟨[]⟩⟩))),oD 5 (.mv (.const (.int .i64 5)))]
def k37_13 : VC := .seq k37_12 .ret
def k37_14 : VC := .cond τ71 k37_13 .skip
def k37_15 : VC := .seq k37_11 k37_14
def k37_16 : VC := .reg [oM 72 τ6,oM 73 τ7,oM 4 τ72,oM 5 τ73]
def k37_17 : VC := .seq k37_16 .ret
def k37_18 : VC := .seq k37_15 k37_17
def k37_19 : VC := .seq k37_10 k37_18
def k37_20 : VC := .seq k37_6 k37_19
def k37_21 : VC := .seq k37_5 k37_20
def k37_22 : VC := .seq k37_0 k37_21
def fn37 : VFn := ⟨74, k37_22, [.tmp 4, .tmp 5]⟩
def k62_0 : VC := .reg [oD 2 (.box τ0),oD 4 (.mv (.const (.string ⟨⟨[]⟩⟩))),oD 5 (.mv (.const (.int .i64 0)))]
def k62_1 : VC := .reg [oD 6 (.loadN [(.int .i64), (.int .i64), (.int .i64), (.int .i64), .bool, (.int .u64), (.int .u64), .bool, (.int .u64), (.int .u64)] τ2),oD 7 (.callF 88 [τ6]),oD 8 (.not τ7)]
def k62_2 : VC := .reg [oD 4 (.mv (.const (.string ⟨⟨[]⟩⟩))),oD 5 (.mv (.const (.int .i64 1)))]
def k62_3 : VC := .seq k62_2 .ret
def k62_4 : VC := .cond τ8 k62_3 .skip
def k62_5 : VC := .seq k62_1 k62_4
def k62_6 : VC := .reg [oM 9 τ1,oD 10 (.lenS τ9),oD 11 (.bin .gtr τ10 (.const (.int .i64 65535)))]
def k62_7 : VC := .reg [oD 4 (.mv (.const (.string ⟨⟨[]⟩⟩))),oD 5 (.mv (.const (.int .i64 5)))]
def k62_8 : VC := .seq k62_7 .ret
def k62_9 : VC := .cond τ11 k62_8 .skip
def k62_10 : VC := .seq k62_6 k62_9
def k62_11 : VC := .regD [oD 12 (.fieldA 0 τ2),oD 13 (.load1 (.int .i64) τ12),oD 14 (.bin .mul τ13 (.const (.int .i64 1048576))),oD 15 (.bin .add (.const (.int .i64 1610612736)) τ14),oD 16 (.fieldA 1 τ2),oD 17 (.load1 (.int .i64) τ16),oD 18 (.bin .add τ15 τ17),oD 19 (.callF 89 [τ18, (.const (.int .i64 4))]),oM 20 τ1,oD 21 (.lenS τ20),oD 22 (.callF 89 [τ21, (.const (.int .i64 2))]),oD 23 (.bin .add τ19 τ22),oD 24 (.fieldA 2 τ2),oD 25 (.load1 (.int .i64) τ24),oD 26 (.callF 89 [τ25, (.const (.int .i64 1))]),oD 27 (.bin .add τ23 τ26),oD 28 (.fieldA 3 τ2),oD 29 (.load1 (.int .i64) τ28),oD 30 (.callF 89 [τ29, (.const (.int .i64 1))]),oD 31 (.bin .add τ27 τ30),oD 32 (.fieldA 4 τ2),oD 33 (.loadN [.bool, (.int .u64), (.int .u64)] τ32),oD 34 (.callF 85 [τ33]),oD 35 (.bin .add τ31 τ34),oD 36 (.fieldA 7 τ2),oD 37 (.loadN [.bool, (.int .u64), (.int .u64)] τ36),oD 38 (.callF 85 [τ37]),oD 39 (.bin .add τ35 τ38),oM 40 τ1] [(7, 13), (7, 17), (7, 21), (7, 25), (10, 13), (10, 17), (10, 21), (10, 25), (14, 17), (14, 21), (14, 25), (18, 21), (18, 25), (22, 25)] [oD 41 (.bin .add τ39 τ40),oM 4 τ41,oD 5 (.mv (.const (.int .i64 0)))]
def k62_12 : VC := .seq k62_11 .ret
def k62_13 : VC := .seq k62_10 k62_12
def k62_14 : VC := .seq k62_5 k62_13
def k62_15 : VC := .seq k62_0 k62_14
def fn62 : VFn := ⟨42, k62_15, [.tmp 4, .tmp 5]⟩
def k88_0 : VC := .reg [oD 1 (.box τ0),oD 2 (.mv (.const (.bool false)))]
def k88_1 : VC := .reg [oD 3 (.fieldA 0 τ1),oD 4 (.load1 (.int .i64) τ3),oD 5 (.callF 111 [τ4, (.const (.int .i64 255))]),oM 6 τ5,oG 7 (.fieldA 1 τ1) 6 true,oG 8 (.load1 (.int .i64) τ7) 6 true,oG 9 (.callF 111 [τ8, (.const (.int .i64 1048575))]) 6 true,oD 10 (.pick τ6 τ9 (.const (.bool false))),oM 11 τ10,oG 12 (.fieldA 2 τ1) 11 true,oG 13 (.load1 (.int .i64) τ12) 11 true,oG 14 (.callF 111 [τ13, (.const (.int .i64 255))]) 11 true,oD 15 (.pick τ11 τ14 (.const (.bool false))),oM 16 τ15,oG 17 (.fieldA 3 τ1) 16 true,oG 18 (.load1 (.int .i64) τ17) 16 true,oG 19 (.callF 111 [τ18, (.const (.int .i64 255))]) 16 true,oD 20 (.pick τ16 τ19 (.const (.bool false))),oM 21 τ20,oG 22 (.fieldA 4 τ1) 21 true,oG 23 (.fieldA 0 τ22) 21 true,oG 24 (.load1 .bool τ23) 21 true,oD 25 (.pick τ21 τ24 (.const (.bool false))),oM 26 τ25,oG 27 (.fieldA 7 τ1) 26 true,oG 28 (.fieldA 0 τ27) 26 true,oG 29 (.load1 .bool τ28) 26 true,oD 30 (.pick τ26 τ29 (.const (.bool false))),oM 2 τ30]
def k88_2 : VC := .seq k88_1 .ret
def k88_3 : VC := .seq k88_0 k88_2
def fn88 : VFn := ⟨31, k88_3, [.tmp 2]⟩
def k111_0 : VC := .reg [oD 4 (.mv (.const (.bool false)))]
def k111_1 : VC := .reg [oM 5 τ0,oD 6 (.bin .geq τ5 (.const (.int .i64 0))),oM 7 τ6,oG 8 (.mv τ0) 7 true,oG 9 (.mv τ1) 7 true,oG 10 (.bin .leq τ8 τ9) 7 true,oD 11 (.pick τ7 τ10 (.const (.bool false))),oM 4 τ11]
def k111_2 : VC := .seq k111_1 .ret
def k111_3 : VC := .seq k111_0 k111_2
def fn111 : VFn := ⟨12, k111_3, [.tmp 4]⟩
def k89_0 : VC := .reg [oD 4 (.mv (.const (.string ⟨⟨[]⟩⟩)))]
def k89_1 : VC := .reg [oM 5 τ0,oD 6 (.conv .u64 τ5),oM 7 τ1,oD 8 (.callF 24 [τ6, τ7]),oM 4 τ8]
def k89_2 : VC := .seq k89_1 .ret
def k89_3 : VC := .seq k89_0 k89_2
def fn89 : VFn := ⟨9, k89_3, [.tmp 4]⟩
def k63_0 : VC := .reg [oD 2 (.box τ0),oD 4 (.mv (.const (.string ⟨⟨[]⟩⟩))),oD 5 (.mv (.const (.int .i64 0)))]
def k63_1 : VC := .reg [oD 9 (.loadN [(.int .i64), (.int .i64), .bool, (.int .i64), (.int .i64), .bool, (.int .u64), (.int .u64), .bool, (.int .u64), (.int .u64), .str] τ2),oD 10 (.callF 90 [τ9]),oD 11 (.not τ10)]
def k63_2 : VC := .reg [oD 4 (.mv (.const (.string ⟨⟨[]⟩⟩))),oD 5 (.mv (.const (.int .i64 1)))]
def k63_3 : VC := .seq k63_2 .ret
def k63_4 : VC := .cond τ11 k63_3 .skip
def k63_5 : VC := .seq k63_1 k63_4
def k63_6 : VC := .reg [oD 12 (.fieldA 11 τ2),oD 13 (.load1 .str τ12),oD 14 (.lenS τ13),oD 15 (.bin .add (.const (.int .i64 20)) τ14),oM 6 τ15]
def k63_7 : VC := .reg [oM 16 τ1,oD 17 (.lenS τ16),oM 18 τ6,oD 19 (.bin .sub (.const (.int .i64 65535)) τ18),oD 20 (.bin .gtr τ17 τ19)]
def k63_8 : VC := .reg [oD 4 (.mv (.const (.string ⟨⟨[]⟩⟩))),oD 5 (.mv (.const (.int .i64 5)))]
def k63_9 : VC := .seq k63_8 .ret
def k63_10 : VC := .cond τ20 k63_9 .skip
def k63_11 : VC := .seq k63_7 k63_10
def k63_12 : VC := .reg [oD 7 (.mv (.const (.int .i64 0)))]
def k63_13 : VC := .reg [oD 21 (.fieldA 2 τ2),oD 22 (.load1 .bool τ21)]
def k63_14 : VC := .reg [oD 7 (.mv (.const (.int .i64 64)))]
def k63_15 : VC := .cond τ22 k63_14 .skip
def k63_16 : VC := .seq k63_13 k63_15
def k63_17 : VC := .regD [oM 23 τ6,oD 24 (.bin .quo τ23 (.const (.int .i64 4))),oD 25 (.bin .add (.const (.int .i64 64)) τ24),oD 26 (.callF 86 [τ25, (.const (.int .i64 1))]),oD 27 (.fieldA 0 τ2),oD 28 (.load1 (.int .i64) τ27),oD 29 (.callF 86 [τ28, (.const (.int .i64 1))]),oD 30 (.bin .add τ26 τ29),oM 31 τ6,oM 32 τ1,oD 33 (.lenS τ32),oD 34 (.bin .add τ31 τ33),oD 35 (.callF 86 [τ34, (.const (.int .i64 2))]),oD 36 (.bin .add τ30 τ35),oD 37 (.fieldA 1 τ2),oD 38 (.load1 (.int .i64) τ37),oD 39 (.callF 86 [τ38, (.const (.int .i64 2))]),oD 40 (.bin .add τ36 τ39),oM 41 τ7,oD 42 (.callF 86 [τ41, (.const (.int .i64 1))]),oD 43 (.bin .add τ40 τ42),oD 44 (.callF 86 [(.const (.int .i64 0)), (.const (.int .i64 1))]),oD 45 (.bin .add τ43 τ44),oD 46 (.fieldA 3 τ2),oD 47 (.load1 (.int .i64) τ46),oD 48 (.callF 86 [τ47, (.const (.int .i64 1))]),oD 49 (.bin .add τ45 τ48),oD 50 (.fieldA 4 τ2),oD 51 (.load1 (.int .i64) τ50),oD 52 (.callF 86 [τ51, (.const (.int .i64 1))]),oD 53 (.bin .add τ49 τ52),oD 54 (.callF 86 [(.const (.int .i64 0)), (.const (.int .i64 2))]),oD 55 (.bin .add τ53 τ54),oD 56 (.fieldA 5 τ2),oD 57 (.loadN [.bool, (.int .u64), (.int .u64)] τ56),oD 58 (.callF 85 [τ57]),oD 59 (.bin .add τ55 τ58),oD 60 (.fieldA 8 τ2),oD 61 (.loadN [.bool, (.int .u64), (.int .u64)] τ60),oD 62 (.callF 85 [τ61]),oD 63 (.bin .add τ59 τ62),oD 64 (.fieldA 11 τ2),oD 65 (.load1 .str τ64)] [(3, 5), (3, 15), (3, 24), (3, 28), (3, 34), (3, 38), (3, 42), (6, 15), (6, 24), (6, 28), (6, 34), (6, 38), (6, 42), (12, 15), (12, 24), (12, 28), (12, 34), (12, 38), (12, 42), (16, 24), (16, 28), (16, 34), (16, 38), (16, 42), (19, 24), (19, 28), (19, 34), (19, 38), (19, 42), (21, 24), (21, 28), (21, 34), (21, 38), (21, 42), (25, 28), (25, 34), (25, 38), (25, 42), (29, 34), (29, 38), (29, 42), (31, 34), (31, 38), (31, 42), (35, 38), (35, 42), (39, 42)] [oD 66 (.bin .add τ63 τ65),oM 8 τ66]
def k63_18 : VC := .reg [oM 67 τ8,oM 68 τ8,oD 69 (.callF 10 [τ68]),oD 70 (.conv .u64 τ69),oD 71 (.callF 9 [τ67, (.const (.int .i64 10)), (.const (.int .i64 2)), τ70]),oM 72 τ1,oD 73 (.bin .add τ71 τ72),oM 4 τ73,oD 5 (.mv (.const (.int .i64 0)))]
def k63_19 : VC := .seq k63_18 .ret
def k63_20 : VC := .seq k63_17 k63_19
def k63_21 : VC := .seq k63_16 k63_20
def k63_22 : VC := .seq k63_12 k63_21
def k63_23 : VC := .seq k63_11 k63_22
def k63_24 : VC := .seq k63_6 k63_23
def k63_25 : VC := .seq k63_5 k63_24
def k63_26 : VC := .seq k63_0 k63_25
def fn63 : VFn := ⟨74, k63_26, [.tmp 4, .tmp 5]⟩
def k90_0 : VC := .reg [oD 1 (.box τ0),oD 2 (.mv (.const (.bool false)))]
def k90_1 : VC := .reg [oD 3 (.fieldA 0 τ1),oD 4 (.load1 (.int .i64) τ3),oD 5 (.callF 112 [τ4, (.const (.int .i64 255))]),oM 6 τ5,oG 7 (.fieldA 1 τ1) 6 true,oG 8 (.load1 (.int .i64) τ7) 6 true,oG 9 (.callF 112 [τ8, (.const (.int .i64 65535))]) 6 true,oD 10 (.pick τ6 τ9 (.const (.bool false))),oM 11 τ10,oG 12 (.fieldA 3 τ1) 11 true,oG 13 (.load1 (.int .i64) τ12) 11 true,oG 14 (.callF 112 [τ13, (.const (.int .i64 255))]) 11 true,oD 15 (.pick τ11 τ14 (.const (.bool false))),oM 16 τ15,oG 17 (.fieldA 4 τ1) 16 true,oG 18 (.load1 (.int .i64) τ17) 16 true,oG 19 (.callF 112 [τ18, (.const (.int .i64 255))]) 16 true,oD 20 (.pick τ16 τ19 (.const (.bool false))),oM 21 τ20,oG 22 (.fieldA 5 τ1) 21 true,oG 23 (.loadN [.bool, (.int .u64), (.int .u64)] τ22) 21 true,oG 24 (.callF 113 [τ23]) 21 true,oD 25 (.pick τ21 τ24 (.const (.bool false))),oM 26 τ25,oG 27 (.fieldA 8 τ1) 26 true,oG 28 (.loadN [.bool, (.int .u64), (.int .u64)] τ27) 26 true,oG 29 (.callF 113 [τ28]) 26 true,oD 30 (.pick τ26 τ29 (.const (.bool false))),oM 31 τ30,oG 32 (.fieldA 11 τ1) 31 true,oG 33 (.load1 .str τ32) 31 true,oG 34 (.lenS τ33) 31 true,oG 35 (.bin .leq τ34 (.const (.int .i64 40))) 31 true,oD 36 (.pick τ31 τ35 (.const (.bool false))),oM 37 τ36,oG 38 (.fieldA 11 τ1) 37 true,oG 39 (.load1 .str τ38) 37 true,oG 40 (.lenS τ39) 37 true,oG 41 (.bin .rem τ40 (.const (.int .i64 4))) 37 true,oG 42 (.bin .eql τ41 (.const (.int .i64 0))) 37 true,oD 43 (.pick τ37 τ42 (.const (.bool false))),oM 2 τ43]
def k90_2 : VC := .seq k90_1 .ret
def k90_3 : VC := .seq k90_0 k90_2
def fn90 : VFn := ⟨44, k90_3, [.tmp 2]⟩
def k112_0 : VC := .reg [oD 4 (.mv (.const (.bool false)))]
def k112_1 : VC := .reg [oM 5 τ0,oD 6 (.bin .geq τ5 (.const (.int .i64 0))),oM 7 τ6,oG 8 (.mv τ0) 7 true,oG 9 (.mv τ1) 7 true,oG 10 (.bin .leq τ8 τ9) 7 true,oD 11 (.pick τ7 τ10 (.const (.bool false))),oM 4 τ11]
def k112_2 : VC := .seq k112_1 .ret
def k112_3 : VC := .seq k112_0 k112_2
def fn112 : VFn := ⟨12, k112_3, [.tmp 4]⟩
def k113_0 : VC := .reg [oD 1 (.box τ0),oD 2 (.mv (.const (.bool false)))]
def k113_1 : VC := .reg [oD 3 (.loadN [.bool, (.int .u64), (.int .u64)] τ1),oD 4 (.callF 61 [τ3]),oM 5 τ4,oG 6 (.fieldA 0 τ1) 5 true,oG 7 (.load1 .bool τ6) 5 true,oG 8 (.not τ7) 5 true,oD 9 (.pick τ5 τ8 (.const (.bool false))),oM 2 τ9]
def k113_2 : VC := .seq k113_1 .ret
def k113_3 : VC := .seq k113_0 k113_2
def fn113 : VFn := ⟨10, k113_3, [.tmp 2]⟩
def k15_0 : VC := .reg [oD 4 (.mv (.const (.string ⟨⟨[]⟩⟩)))]
def k15_1 : VC := .reg [oM 5 τ0,oD 6 (.conv .i64 τ5),oD 7 (.callF 33 [τ6, (.const (.int .i64 4))]),oD 8 (.bin .add (.const (.string ⟨⟨[1, 1, 8, 10]⟩⟩)) τ7),oM 9 τ1,oD 10 (.conv .i64 τ9),oD 11 (.callF 33 [τ10, (.const (.int .i64 4))]),oD 12 (.bin .add τ8 τ11),oM 4 τ12]
def k15_2 : VC := .seq k15_1 .ret
def k15_3 : VC := .seq k15_0 k15_2
def fn15 : VFn := ⟨13, k15_3, [.tmp 4]⟩
def k21_0 : VC := .reg [oD 3 (.box τ1),oD 4 (.mv (.const (.string ⟨⟨[]⟩⟩))),oD 5 (.mv (.const (.int .i64 0)))]
def k21_1 : VC := .reg [oM 6 τ0,oD 7 (.mkFunc 39 [] [τ3]),oD 8 (.callF 38 [τ6, (.const (.int .i64 0)), τ7]),oE 9 0 τ8,oE 10 1 τ8,oM 4 τ9,oM 5 τ10]
def k21_2 : VC := .seq k21_1 .ret
def k21_3 : VC := .seq k21_0 k21_2
def fn21 : VFn := ⟨11, k21_3, [.tmp 4, .tmp 5]⟩
def k39_0 : VC := .reg [oD 2 (.box τ0),oD 3 (.mv (.const (.int .u32 0)))]
def k39_1 : VC := .reg [oD 4 (.fieldA 11 τ2),oD 5 (.load1 (.int .u32) τ4),oD 6 (.load1 (.int .u16) τ1),oD 7 (.callF 40 [τ5, τ6]),oM 3 τ7]
def k39_2 : VC := .seq k39_1 .ret
def k39_3 : VC := .seq k39_0 k39_2
def fn39 : VFn := ⟨8, k39_3, [.tmp 3]⟩
def k40_0 : VC := .reg [oD 4 (.mv (.const (.int .u32 0)))]
def k40_1 : VC := .reg [oM 5 τ1,oD 6 (.conv .u32 τ5),oD 7 (.bin .shl τ6 (.const (.int .u64 16))),oM 8 τ0,oD 9 (.callF 65 [τ8]),oD 10 (.conv .u32 τ9),oD 11 (.bin .or τ7 τ10),oM 4 τ11]
def k40_2 : VC := .seq k40_1 .ret
def k40_3 : VC := .seq k40_0 k40_2
def fn40 : VFn := ⟨12, k40_3, [.tmp 4]⟩
def k65_0 : VC := .reg [oD 2 (.mv (.const (.int .u16 0)))]
def k65_1 : VC := .reg [oM 3 τ0,oD 4 (.conv .u16 τ3),oM 2 τ4]
def k65_2 : VC := .seq k65_1 .ret
def k65_3 : VC := .seq k65_0 k65_2
def fn65 : VFn := ⟨5, k65_3, [.tmp 2]⟩
def k38_0 : VC := .reg [oD 6 (.mv (.const (.string ⟨⟨[]⟩⟩))),oD 7 (.mv (.const (.int .i64 0)))]
def k38_1 : VC := .reg [oM 19 τ0,oD 20 (.callF 16 [τ19]),oM 18 τ20,oE 21 0 τ18,oE 22 1 τ18,oD 8 (.alloc [(.int .i64 0), (.bool false), (.int .u64 0), (.int .u64 0), (.bool false), (.int .u64 0), (.int .u64 0), (.int .i64 0), (.int .i64 0), (.int .i64 0), (.bool false), (.int .u32 0), (.int .u32 0), (.bool false), (.string ⟨⟨[]⟩⟩), (.int .i64 0)]),oN (.store 16 τ8 τ21),oM 9 τ22]
def k38_2 : VC := .reg [oM 24 τ9,oD 25 (.bin .neq τ24 (.const (.int .i64 0))),oM 23 τ25]
def k38_3 : VC := .reg [oM 26 τ9,oD 6 (.mv (.const (.string ⟨⟨[]⟩⟩))),oM 7 τ26]
def k38_4 : VC := .seq k38_3 .ret
def k38_5 : VC := .reg [oD 28 (.fieldA 10 τ8),oD 29 (.load1 .bool τ28),oD 30 (.not τ29),oM 27 τ30]
def k38_6 : VC := .reg [oD 6 (.mv (.const (.string ⟨⟨[]⟩⟩))),oD 7 (.mv (.const (.int .i64 6)))]
def k38_7 : VC := .seq k38_6 .ret
def k38_8 : VC := .cond τ27 k38_7 .skip
def k38_9 : VC := .seq k38_5 k38_8
def k38_10 : VC := .cond τ23 k38_4 k38_9
def k38_11 : VC := .seq k38_2 k38_10
def k38_12 : VC := .block 0 k38_11
def k38_13 : VC := .reg [oM 32 τ0,oD 33 (.callF 18 [τ32]),oM 31 τ33,oE 34 0 τ31,oE 35 1 τ31,oE 36 2 τ31,oM 10 τ34,oM 11 τ35,oM 12 τ36]
def k38_14 : VC := .reg [oM 38 τ0,oM 39 τ10,oD 40 (.bin .add τ39 (.const (.int .i64 20))),oM 41 τ11,oD 42 (.sliceS τ38 (some τ40) (some τ41)),oD 43 (.callF 64 [τ42]),oM 37 τ43,oE 44 0 τ37,oE 45 1 τ37,oE 46 2 τ37,oM 13 τ44,oM 14 τ45,oM 15 τ46]
def k38_15 : VC := .regD [oM 48 τ0,oM 49 τ10,oD 50 (.sliceS τ48 (some τ49) none),oM 51 τ15,oD 52 (.bin .add (.const (.int .i64 20)) τ51),oM 53 τ1,oD 54 (.bin .add τ52 τ53),oM 55 τ2,oD 56 (.loadN [(.int .i64), .bool, (.int .u64), (.int .u64), .bool, (.int .u64), (.int .u64), (.int .i64), (.int .i64), (.int .i64), .bool, (.int .u32), (.int .u32), .bool, .str, (.int .i64)] τ8),oD 57 (.callV τ55 [τ56]),oD 58 (.conv .u64 τ57),oD 59 (.callF 44 [τ58, (.const (.int .i64 4))]),oD 60 (.callF 11 [τ50, τ54, τ59, (.const (.int .i64 16))]),oM 47 τ60,oE 61 0 τ47,oE 62 1 τ47,oM 16 τ61] [] [oM 17 τ62]
def k38_16 : VC := .reg [oM 63 τ17,oD 64 (.not τ63)]
def k38_17 : VC := .reg [oD 6 (.mv (.const (.string ⟨⟨[]⟩⟩))),oD 7 (.mv (.const (.int .i64 3)))]
def k38_18 : VC := .seq k38_17 .ret
def k38_19 : VC := .cond τ64 k38_18 .skip
def k38_20 : VC := .seq k38_16 k38_19
def k38_21 : VC := .reg [oM 65 τ0,oM 66 τ10,oD 67 (.sliceS τ65 none (some τ66)),oM 68 τ16,oD 69 (.bin .add τ67 τ68),oM 6 τ69,oD 7 (.mv (.const (.int .i64 0)))]
def k38_22 : VC := .seq k38_21 .ret
def k38_23 : VC := .seq k38_20 k38_22
def k38_24 : VC := .seq k38_15 k38_23
def k38_25 : VC := .seq k38_14 k38_24
def k38_26 : VC := .seq k38_13 k38_25
def k38_27 : VC := .seq k38_12 k38_26
def k38_28 : VC := .seq k38_1 k38_27
def k38_29 : VC := .seq k38_0 k38_28
def fn38 : VFn := ⟨70, k38_29, [.tmp 6, .tmp 7]⟩
def k16_0 : VC := .reg [oD 2 (.alloc [(.int .i64 0), (.bool false), (.int .u64 0), (.int .u64 0), (.bool false), (.int .u64 0), (.int .u64 0), (.int .i64 0), (.int .i64 0), (.int .i64 0), (.bool false), (.int .u32 0), (.int .u32 0), (.bool false), (.string ⟨⟨[]⟩⟩), (.int .i64 0)]),oD 3 (.mv (.const (.int .i64 0)))]
def k16_1 : VC := .reg [oM 9 τ0,oD 10 (.callF 34 [τ9]),oM 8 τ10,oE 11 0 τ8,oE 12 1 τ8,oE 13 2 τ8,oE 14 3 τ8,oD 4 (.alloc [(.int .i64 0), (.bool false), (.int .u64 0), (.int .u64 0), (.bool false), (.int .u64 0), (.int .u64 0), (.int .i64 0), (.int .i64 0), (.int .i64 0), (.bool false), (.int .u32 0), (.int .u32 0), (.bool false), (.string ⟨⟨[]⟩⟩), (.int .i64 0)]),oN (.store 16 τ4 τ11),oM 5 τ12,oM 6 τ13,oM 7 τ14]
def k16_2 : VC := .reg [oD 15 (.loadN [(.int .i64), .bool, (.int .u64), (.int .u64), .bool, (.int .u64), (.int .u64), (.int .i64), (.int .i64), (.int .i64), .bool, (.int .u32), (.int .u32), .bool, .str, (.int .i64)] τ4),oM 16 τ7,oN (.store 16 τ2 τ15),oM 3 τ16]
def k16_3 : VC := .seq k16_2 .ret
def k16_4 : VC := .seq k16_1 k16_3
def k16_5 : VC := .seq k16_0 k16_4
def fn16 : VFn := ⟨17, k16_5, [.cell 2 [(.int .i64), .bool, (.int .u64), (.int .u64), .bool, (.int .u64), (.int .u64), (.int .i64), (.int .i64), (.int .i64), .bool, (.int .u32), (.int .u32), .bool, .str, (.int .i64)] true, .tmp 3]⟩
def k34_0 : VC := .reg [oD 2 (.alloc [(.int .i64 0), (.bool false), (.int .u64 0), (.int .u64 0), (.bool false), (.int .u64 0), (.int .u64 0), (.int .i64 0), (.int .i64 0), (.int .i64 0), (.bool false), (.int .u32 0), (.int .u32 0), (.bool false), (.string ⟨⟨[]⟩⟩), (.int .i64 0)]),oD 3 (.mv (.const (.int .i64 0))),oD 4 (.mv (.const (.int .i64 0))),oD 5 (.mv (.const (.int .i64 0)))]
def k34_1 : VC := .reg [oM 11 τ0,oD 12 (.lenS τ11),oD 13 (.bin .gtr τ12 (.const (.int .i64 9000))),oM 10 τ13]
def k34_2 : VC := .reg [oD 14 (.build [(.int .i64 0), (.bool false), (.int .u64 0), (.int .u64 0), (.bool false), (.int .u64 0), (.int .u64 0), (.int .i64 0), (.int .i64 0), (.int .i64 0), (.bool false), (.int .u32 0), (.int .u32 0), (.bool false), (.string ⟨⟨[]⟩⟩), (.int .i64 0)] []),oN (.store 16 τ2 τ14),oD 3 (.mv (.const (.int .i64 0))),oD 4 (.mv (.const (.int .i64 0))),oD 5 (.mv (.const (.int .i64 5)))]
def k34_3 : VC := .seq k34_2 .ret
def k34_4 : VC := .reg [oM 16 τ0,oD 17 (.bin .eql τ16 (.const (.string ⟨⟨[]⟩⟩))),oM 15 τ17]
def k34_5 : VC := .reg [oD 18 (.build [(.int .i64 0), (.bool false), (.int .u64 0), (.int .u64 0), (.bool false), (.int .u64 0), (.int .u64 0), (.int .i64 0), (.int .i64 0), (.int .i64 0), (.bool false), (.int .u32 0), (.int .u32 0), (.bool false), (.string ⟨⟨[]⟩⟩), (.int .i64 0)] []),oN (.store 16 τ2 τ18),oD 3 (.mv (.const (.int .i64 0))),oD 4 (.mv (.const (.int .i64 0))),oD 5 (.mv (.const (.int .i64 2)))]
def k34_6 : VC := .seq k34_5 .ret
def k34_7 : VC := .cond τ15 k34_6 .skip
def k34_8 : VC := .seq k34_4 k34_7
def k34_9 : VC := .cond τ10 k34_3 k34_8
def k34_10 : VC := .seq k34_1 k34_9
def k34_11 : VC := .block 0 k34_10
def k34_12 : VC := .reg [oM 20 τ0,oD 21 (.callF 53 [τ20]),oM 19 τ21,oE 22 0 τ19,oE 23 1 τ19,oD 6 (.alloc [(.bool false), (.int .u64 0), (.int .u64 0), (.bool false), (.int .u64 0), (.int .u64 0), (.int .i64 0), (.string ⟨⟨[]⟩⟩)]),oN (.store 8 τ6 τ22),oM 7 τ23]
def k34_13 : VC := .reg [oM 24 τ7,oD 25 (.bin .neq τ24 (.const (.int .i64 0)))]
def k34_14 : VC := .reg [oD 26 (.build [(.int .i64 0), (.bool false), (.int .u64 0), (.int .u64 0), (.bool false), (.int .u64 0), (.int .u64 0), (.int .i64 0), (.int .i64 0), (.int .i64 0), (.bool false), (.int .u32 0), (.int .u32 0), (.bool false), (.string ⟨⟨[]⟩⟩), (.int .i64 0)] []),oM 27 τ7,oN (.store 16 τ2 τ26),oD 3 (.mv (.const (.int .i64 0))),oD 4 (.mv (.const (.int .i64 0))),oM 5 τ27]
def k34_15 : VC := .seq k34_14 .ret
def k34_16 : VC := .cond τ25 k34_15 .skip
def k34_17 : VC := .seq k34_13 k34_16
def k34_18 : VC := .reg [oM 28 τ0,oD 29 (.lenS τ28),oD 30 (.fieldA 6 τ6),oD 31 (.load1 (.int .i64) τ30),oD 32 (.fieldA 0 τ6),oD 33 (.loadN [.bool, (.int .u64), (.int .u64)] τ32),oD 34 (.fieldA 3 τ6),oD 35 (.loadN [.bool, (.int .u64), (.int .u64)] τ34),oD 36 (.build [(.int .i64 0), (.bool false), (.int .u64 0), (.int .u64 0), (.bool false), (.int .u64 0), (.int .u64 0), (.int .i64 0), (.int .i64 0)] [(0, 1, τ31), (1, 3, τ33), (4, 3, τ35)]),oD 37 (.build [(.int .i64 0), (.bool false), (.int .u64 0), (.int .u64 0), (.bool false), (.int .u64 0), (.int .u64 0), (.int .i64 0), (.int .i64 0), (.int .i64 0), (.bool false), (.int .u32 0), (.int .u32 0), (.bool false), (.string ⟨⟨[]⟩⟩), (.int .i64 0)] [(15, 1, τ29), (0, 9, τ36)]),oD 8 (.alloc [(.int .i64 0), (.bool false), (.int .u64 0), (.int .u64 0), (.bool false), (.int .u64 0), (.int .u64 0), (.int .i64 0), (.int .i64 0), (.int .i64 0), (.bool false), (.int .u32 0), (.int .u32 0), (.bool false), (.string ⟨⟨[]⟩⟩), (.int .i64 0)]),oN (.store 16 τ8 τ37)]
def k34_19 : VC := .reg [oD 9 (.mv (.const (.int .i64 0)))]
def k34_20 : VC := .reg [oD 38 (.fieldA 6 τ6),oD 39 (.load1 (.int .i64) τ38)]
def k34_21 : VC := .reg [oD 41 (.bin .eql τ39 (.const (.int .i64 6))),oM 40 τ41]
def k34_22 : VC := .reg [oD 43 (.loadN [.bool, (.int .u64), (.int .u64), .bool, (.int .u64), (.int .u64), (.int .i64), .str] τ6),oD 44 (.callF 54 [τ43, τ8]),oM 42 τ44,oE 45 0 τ42,oE 46 1 τ42,oM 9 τ45,oM 7 τ46]
def k34_23 : VC := .reg [oD 48 (.bin .eql τ39 (.const (.int .i64 17))),oM 47 τ48]
def k34_24 : VC := .reg [oD 50 (.loadN [.bool, (.int .u64), (.int .u64), .bool, (.int .u64), (.int .u64), (.int .i64), .str] τ6),oD 51 (.callF 55 [τ50, τ8]),oM 49 τ51,oE 52 0 τ49,oE 53 1 τ49,oM 9 τ52,oM 7 τ53]
def k34_25 : VC := .reg [oD 7 (.mv (.const (.int .i64 6)))]
def k34_26 : VC := .cond τ47 k34_24 k34_25
def k34_27 : VC := .seq k34_23 k34_26
def k34_28 : VC := .cond τ40 k34_22 k34_27
def k34_29 : VC := .seq k34_21 k34_28
def k34_30 : VC := .block 1 k34_29
def k34_31 : VC := .seq k34_20 k34_30
def k34_32 : VC := .reg [oM 54 τ7,oD 55 (.bin .neq τ54 (.const (.int .i64 0)))]
def k34_33 : VC := .reg [oD 56 (.build [(.int .i64 0), (.bool false), (.int .u64 0), (.int .u64 0), (.bool false), (.int .u64 0), (.int .u64 0), (.int .i64 0), (.int .i64 0), (.int .i64 0), (.bool false), (.int .u32 0), (.int .u32 0), (.bool false), (.string ⟨⟨[]⟩⟩), (.int .i64 0)] []),oM 57 τ7,oN (.store 16 τ2 τ56),oD 3 (.mv (.const (.int .i64 0))),oD 4 (.mv (.const (.int .i64 0))),oM 5 τ57]
def k34_34 : VC := .seq k34_33 .ret
def k34_35 : VC := .cond τ55 k34_34 .skip
def k34_36 : VC := .seq k34_32 k34_35
def k34_37 : VC := .regD [oD 58 (.loadN [(.int .i64), .bool, (.int .u64), (.int .u64), .bool, (.int .u64), (.int .u64), (.int .i64), (.int .i64), (.int .i64), .bool, (.int .u32), (.int .u32), .bool, .str, (.int .i64)] τ8),oD 59 (.fieldA 7 τ6),oD 60 (.load1 .str τ59),oD 61 (.lenS τ60),oM 62 τ9,oN (.store 16 τ2 τ58),oM 3 τ61] [(2, 5)] [oM 4 τ62,oD 5 (.mv (.const (.int .i64 0)))]
def k34_38 : VC := .seq k34_37 .ret
def k34_39 : VC := .seq k34_36 k34_38
def k34_40 : VC := .seq k34_31 k34_39
def k34_41 : VC := .seq k34_19 k34_40
def k34_42 : VC := .seq k34_18 k34_41
def k34_43 : VC := .seq k34_17 k34_42
def k34_44 : VC := .seq k34_12 k34_43
def k34_45 : VC := .seq k34_11 k34_44
def k34_46 : VC := .seq k34_0 k34_45
def fn34 : VFn := ⟨63, k34_46, [.cell 2 [(.int .i64), .bool, (.int .u64), (.int .u64), .bool, (.int .u64), (.int .u64), (.int .i64), (.int .i64), (.int .i64), .bool, (.int .u32), (.int .u32), .bool, .str, (.int .i64)] true, .tmp 3, .tmp 4, .tmp 5]⟩
def k53_0 : VC := .reg [oD 2 (.alloc [(.bool false), (.int .u64 0), (.int .u64 0), (.bool false), (.int .u64 0), (.int .u64 0), (.int .i64 0), (.string ⟨⟨[]⟩⟩)]),oD 3 (.mv (.const (.int .i64 0)))]
def k53_1 : VC := .reg [oM 10 τ0,oD 11 (.callF 80 [τ10]),oM 9 τ11,oE 12 0 τ9,oE 13 1 τ9,oE 14 2 τ9,oM 4 τ12,oM 5 τ13,oM 6 τ14]
def k53_2 : VC := .reg [oM 15 τ6,oD 16 (.bin .neq τ15 (.const (.int .i64 0)))]
def k53_3 : VC := .reg [oD 17 (.build [(.bool false), (.int .u64 0), (.int .u64 0), (.bool false), (.int .u64 0), (.int .u64 0), (.int .i64 0), (.string ⟨⟨[]⟩⟩)] []),oM 18 τ6,oN (.store 8 τ2 τ17),oM 3 τ18]
def k53_4 : VC := .seq k53_3 .ret
def k53_5 : VC := .cond τ16 k53_4 .skip
def k53_6 : VC := .seq k53_2 k53_5
def k53_7 : VC := .reg [oM 19 τ4]
def k53_8 : VC := .reg [oD 20 (.tassert 92 (.agg ⟨[(.int .i64 0), (.int .i64 0), (.bool false), (.int .i64 0), (.int .i64 0), (.bool false), (.int .u64 0), (.int .u64 0), (.bool false), (.int .u64 0), (.int .u64 0), (.string ⟨⟨[]⟩⟩)]⟩) τ19),oE 21 1 τ20,oE 22 0 τ20]
def k53_9 : VC := .reg [oD 7 (.alloc [(.int .i64 0), (.int .i64 0), (.bool false), (.int .i64 0), (.int .i64 0), (.bool false), (.int .u64 0), (.int .u64 0), (.bool false), (.int .u64 0), (.int .u64 0), (.string ⟨⟨[]⟩⟩)]),oN (.store 12 τ7 τ22)]
def k53_10 : VC := .reg [oM 23 τ0,oD 24 (.lenS τ23),oD 25 (.fieldA 11 τ7),oD 26 (.load1 .str τ25),oD 27 (.lenS τ26),oD 28 (.bin .add (.const (.int .i64 20)) τ27),oM 29 τ5,oD 30 (.lenS τ29),oD 31 (.bin .add τ28 τ30),oD 32 (.bin .neq τ24 τ31)]
def k53_11 : VC := .reg [oD 33 (.build [(.bool false), (.int .u64 0), (.int .u64 0), (.bool false), (.int .u64 0), (.int .u64 0), (.int .i64 0), (.string ⟨⟨[]⟩⟩)] []),oN (.store 8 τ2 τ33),oD 3 (.mv (.const (.int .i64 5)))]
def k53_12 : VC := .seq k53_11 .ret
def k53_13 : VC := .cond τ32 k53_12 .skip
def k53_14 : VC := .seq k53_10 k53_13
def k53_15 : VC := .reg [oD 34 (.fieldA 5 τ7),oD 35 (.loadN [.bool, (.int .u64), (.int .u64)] τ34),oD 36 (.fieldA 8 τ7),oD 37 (.loadN [.bool, (.int .u64), (.int .u64)] τ36),oD 38 (.fieldA 4 τ7),oD 39 (.load1 (.int .i64) τ38),oM 40 τ5,oD 41 (.build [(.bool false), (.int .u64 0), (.int .u64 0), (.bool false), (.int .u64 0), (.int .u64 0), (.int .i64 0), (.string ⟨⟨[]⟩⟩)] [(0, 3, τ35), (3, 3, τ37), (6, 1, τ39), (7, 1, τ40)]),oN (.store 8 τ2 τ41),oD 3 (.mv (.const (.int .i64 0)))]
def k53_16 : VC := .seq k53_15 .ret
def k53_17 : VC := .seq k53_14 k53_16
def k53_18 : VC := .seq k53_9 k53_17
def k53_19 : VC := .reg [oD 42 (.tassert 89 (.agg ⟨[(.int .i64 0), (.int .i64 0), (.int .i64 0), (.int .i64 0), (.bool false), (.int .u64 0), (.int .u64 0), (.bool false), (.int .u64 0), (.int .u64 0)]⟩) τ19),oE 43 1 τ42,oE 44 0 τ42]
def k53_20 : VC := .reg [oD 8 (.alloc [(.int .i64 0), (.int .i64 0), (.int .i64 0), (.int .i64 0), (.bool false), (.int .u64 0), (.int .u64 0), (.bool false), (.int .u64 0), (.int .u64 0)]),oN (.store 10 τ8 τ44)]
def k53_21 : VC := .reg [oM 45 τ0,oD 46 (.lenS τ45),oM 47 τ5,oD 48 (.lenS τ47),oD 49 (.bin .add (.const (.int .i64 40)) τ48),oD 50 (.bin .neq τ46 τ49)]
def k53_22 : VC := .reg [oD 51 (.build [(.bool false), (.int .u64 0), (.int .u64 0), (.bool false), (.int .u64 0), (.int .u64 0), (.int .i64 0), (.string ⟨⟨[]⟩⟩)] []),oN (.store 8 τ2 τ51),oD 3 (.mv (.const (.int .i64 5)))]
def k53_23 : VC := .seq k53_22 .ret
def k53_24 : VC := .cond τ50 k53_23 .skip
def k53_25 : VC := .seq k53_21 k53_24
def k53_26 : VC := .reg [oD 52 (.fieldA 4 τ8),oD 53 (.loadN [.bool, (.int .u64), (.int .u64)] τ52),oD 54 (.fieldA 7 τ8),oD 55 (.loadN [.bool, (.int .u64), (.int .u64)] τ54),oD 56 (.fieldA 2 τ8),oD 57 (.load1 (.int .i64) τ56),oM 58 τ5,oD 59 (.build [(.bool false), (.int .u64 0), (.int .u64 0), (.bool false), (.int .u64 0), (.int .u64 0), (.int .i64 0), (.string ⟨⟨[]⟩⟩)] [(0, 3, τ53), (3, 3, τ55), (6, 1, τ57), (7, 1, τ58)]),oN (.store 8 τ2 τ59),oD 3 (.mv (.const (.int .i64 0)))]
def k53_27 : VC := .seq k53_26 .ret
def k53_28 : VC := .seq k53_25 k53_27
def k53_29 : VC := .seq k53_20 k53_28
def k53_30 : VC := .cond τ43 k53_29 .skip
def k53_31 : VC := .seq k53_19 k53_30
def k53_32 : VC := .cond τ21 k53_18 k53_31
def k53_33 : VC := .seq k53_8 k53_32
def k53_34 : VC := .block 0 k53_33
def k53_35 : VC := .seq k53_7 k53_34
def k53_36 : VC := .reg [oD 60 (.build [(.bool false), (.int .u64 0), (.int .u64 0), (.bool false), (.int .u64 0), (.int .u64 0), (.int .i64 0), (.string ⟨⟨[]⟩⟩)] []),oN (.store 8 τ2 τ60),oD 3 (.mv (.const (.int .i64 3)))]
def k53_37 : VC := .seq k53_36 .ret
def k53_38 : VC := .seq k53_35 k53_37
def k53_39 : VC := .seq k53_6 k53_38
def k53_40 : VC := .seq k53_1 k53_39
def k53_41 : VC := .seq k53_0 k53_40
def fn53 : VFn := ⟨61, k53_41, [.cell 2 [.bool, (.int .u64), (.int .u64), .bool, (.int .u64), (.int .u64), (.int .i64), .str] true, .tmp 3]⟩
def k80_0 : VC := .reg [oM 2 (.const .nilIface),oD 3 (.mv (.const (.string ⟨⟨[]⟩⟩))),oD 4 (.mv (.const (.int .i64 0)))]
def k80_1 : VC := .reg [oM 11 τ0,oD 12 (.idxS τ11 (.const (.int .i64 0))),oD 13 (.bin .shr τ12 (.const (.int .u64 4)))]
def k80_2 : VC := .reg [oD 15 (.bin .eql τ13 (.const (.int .u8 4))),oM 14 τ15]
def k80_3 : VC := .reg [oM 17 τ0,oD 18 (.callF 99 [τ17]),oM 16 τ18,oE 19 0 τ16,oE 20 1 τ16,oE 21 2 τ16,oD 5 (.alloc [(.int .i64 0), (.int .i64 0), (.bool false), (.int .i64 0), (.int .i64 0), (.bool false), (.int .u64 0), (.int .u64 0), (.bool false), (.int .u64 0), (.int .u64 0), (.string ⟨⟨[]⟩⟩)]),oN (.store 12 τ5 τ19),oM 6 τ20,oM 7 τ21]
def k80_4 : VC := .reg [oD 22 (.loadN [(.int .i64), (.int .i64), .bool, (.int .i64), (.int .i64), .bool, (.int .u64), (.int .u64), .bool, (.int .u64), (.int .u64), .str] τ5),oD 23 (.iface 92 τ22),oM 24 τ6,oM 25 τ7,oM 2 τ23,oM 3 τ24,oM 4 τ25]
def k80_5 : VC := .seq k80_4 .ret
def k80_6 : VC := .seq k80_3 k80_5
def k80_7 : VC := .reg [oD 27 (.bin .eql τ13 (.const (.int .u8 6))),oM 26 τ27]
def k80_8 : VC := .reg [oM 29 τ0,oD 30 (.callF 100 [τ29]),oM 28 τ30,oE 31 0 τ28,oE 32 1 τ28,oE 33 2 τ28,oD 8 (.alloc [(.int .i64 0), (.int .i64 0), (.int .i64 0), (.int .i64 0), (.bool false), (.int .u64 0), (.int .u64 0), (.bool false), (.int .u64 0), (.int .u64 0)]),oN (.store 10 τ8 τ31),oM 9 τ32,oM 10 τ33]
def k80_9 : VC := .reg [oD 34 (.loadN [(.int .i64), (.int .i64), (.int .i64), (.int .i64), .bool, (.int .u64), (.int .u64), .bool, (.int .u64), (.int .u64)] τ8),oD 35 (.iface 89 τ34),oM 36 τ9,oM 37 τ10,oM 2 τ35,oM 3 τ36,oM 4 τ37]
def k80_10 : VC := .seq k80_9 .ret
def k80_11 : VC := .seq k80_8 k80_10
def k80_12 : VC := .cond τ26 k80_11 .skip
def k80_13 : VC := .seq k80_7 k80_12
def k80_14 : VC := .cond τ14 k80_6 k80_13
def k80_15 : VC := .seq k80_2 k80_14
def k80_16 : VC := .block 0 k80_15
def k80_17 : VC := .seq k80_1 k80_16
def k80_18 : VC := .reg [oM 2 (.const .nilIface),oD 3 (.mv (.const (.string ⟨⟨[]⟩⟩))),oD 4 (.mv (.const (.int .i64 3)))]
def k80_19 : VC := .seq k80_18 .ret
def k80_20 : VC := .seq k80_17 k80_19
def k80_21 : VC := .seq k80_0 k80_20
def fn80 : VFn := ⟨38, k80_21, [.tmp 2, .tmp 3, .tmp 4]⟩
def k99_0 : VC := .reg [oD 2 (.alloc [(.int .i64 0), (.int .i64 0), (.bool false), (.int .i64 0), (.int .i64 0), (.bool false), (.int .u64 0), (.int .u64 0), (.bool false), (.int .u64 0), (.int .u64 0), (.string ⟨⟨[]⟩⟩)]),oD 3 (.mv (.const (.string ⟨⟨[]⟩⟩))),oD 4 (.mv (.const (.int .i64 0)))]
def k99_1 : VC := .reg [oM 11 τ0,oD 12 (.lenS τ11),oD 13 (.bin .lss τ12 (.const (.int .i64 20)))]
def k99_2 : VC := .reg [oD 14 (.build [(.int .i64 0), (.int .i64 0), (.bool false), (.int .i64 0), (.int .i64 0), (.bool false), (.int .u64 0), (.int .u64 0), (.bool false), (.int .u64 0), (.int .u64 0), (.string ⟨⟨[]⟩⟩)] []),oN (.store 12 τ2 τ14),oD 3 (.mv (.const (.string ⟨⟨[]⟩⟩))),oD 4 (.mv (.const (.int .i64 2)))]
def k99_3 : VC := .seq k99_2 .ret
def k99_4 : VC := .cond τ13 k99_3 .skip
def k99_5 : VC := .seq k99_1 k99_4
def k99_6 : VC := .reg [oM 15 τ0,oD 16 (.callF 103 [τ15]),oD 17 (.build [(.pointer none)] [(0, 1, τ16)]),oD 5 (.alloc [(.pointer none)]),oN (.store 1 τ5 τ17)]
def k99_7 : VC := .reg [oD 18 (.fieldA 0 τ5),oD 19 (.load1 .oth τ18),oD 20 (.callF 104 [τ19, (.const (.int .i64 1))]),oM 6 τ20]
def k99_8 : VC := .reg [oD 21 (.fieldA 0 τ5),oD 22 (.load1 .oth τ21),oD 23 (.callF 104 [τ22, (.const (.int .i64 1))]),oD 24 (.build [(.int .i64 0), (.int .i64 0), (.bool false), (.int .i64 0), (.int .i64 0), (.bool false), (.int .u64 0), (.int .u64 0), (.bool false), (.int .u64 0), (.int .u64 0), (.string ⟨⟨[]⟩⟩)] [(0, 1, τ23)]),oD 7 (.alloc [(.int .i64 0), (.int .i64 0), (.bool false), (.int .i64 0), (.int .i64 0), (.bool false), (.int .u64 0), (.int .u64 0), (.bool false), (.int .u64 0), (.int .u64 0), (.string ⟨⟨[]⟩⟩)]),oN (.store 12 τ7 τ24)]
def k99_9 : VC := .reg [oM 25 τ6,oD 26 (.bin .and τ25 (.const (.int .i64 15))),oD 27 (.bin .mul τ26 (.const (.int .i64 4))),oD 28 (.fieldA 0 τ5),oD 29 (.load1 .oth τ28),oD 30 (.callF 104 [τ29, (.const (.int .i64 2))]),oM 8 τ27,oM 9 τ30]
def k99_10 : VC := .reg [oM 32 τ6,oD 33 (.bin .shr τ32 (.const (.int .u64 4))),oD 34 (.bin .neq τ33 (.const (.int .i64 4))),oM 35 τ34,oG 36 (.mv τ8) 35 false,oG 37 (.bin .lss τ36 (.const (.int .i64 20))) 35 false,oD 38 (.pick τ35 (.const (.bool true)) τ37),oM 39 τ38,oG 40 (.mv τ9) 39 false,oG 41 (.mv τ8) 39 false,oG 42 (.bin .lss τ40 τ41) 39 false,oD 43 (.pick τ39 (.const (.bool true)) τ42),oM 31 τ43]
def k99_11 : VC := .reg [oD 44 (.build [(.int .i64 0), (.int .i64 0), (.bool false), (.int .i64 0), (.int .i64 0), (.bool false), (.int .u64 0), (.int .u64 0), (.bool false), (.int .u64 0), (.int .u64 0), (.string ⟨⟨[]⟩⟩)] []),oN (.store 12 τ2 τ44),oD 3 (.mv (.const (.string ⟨⟨[]⟩⟩))),oD 4 (.mv (.const (.int .i64 3)))]
def k99_12 : VC := .seq k99_11 .ret
def k99_13 : VC := .reg [oM 46 τ9,oM 47 τ0,oD 48 (.lenS τ47),oD 49 (.bin .gtr τ46 τ48),oM 45 τ49]
def k99_14 : VC := .reg [oD 50 (.build [(.int .i64 0), (.int .i64 0), (.bool false), (.int .i64 0), (.int .i64 0), (.bool false), (.int .u64 0), (.int .u64 0), (.bool false), (.int .u64 0), (.int .u64 0), (.string ⟨⟨[]⟩⟩)] []),oN (.store 12 τ2 τ50),oD 3 (.mv (.const (.string ⟨⟨[]⟩⟩))),oD 4 (.mv (.const (.int .i64 2)))]
def k99_15 : VC := .seq k99_14 .ret
def k99_16 : VC := .reg [oM 52 τ0,oM 53 τ8,oD 54 (.sliceS τ52 none (some τ53)),oD 55 (.callF 101 [τ54]),oD 56 (.not τ55),oM 51 τ56]
def k99_17 : VC := .reg [oD 57 (.build [(.int .i64 0), (.int .i64 0), (.bool false), (.int .i64 0), (.int .i64 0), (.bool false), (.int .u64 0), (.int .u64 0), (.bool false), (.int .u64 0), (.int .u64 0), (.string ⟨⟨[]⟩⟩)] []),oN (.store 12 τ2 τ57),oD 3 (.mv (.const (.string ⟨⟨[]⟩⟩))),oD 4 (.mv (.const (.int .i64 4)))]
def k99_18 : VC := .seq k99_17 .ret
def k99_19 : VC := .cond τ51 k99_18 .skip
def k99_20 : VC := .seq k99_16 k99_19
def k99_21 : VC := .cond τ45 k99_15 k99_20
def k99_22 : VC := .seq k99_13 k99_21
def k99_23 : VC := .cond τ31 k99_12 k99_22
def k99_24 : VC := .seq k99_10 k99_23
def k99_25 : VC := .block 0 k99_24
def k99_26 : VC := .reg [oD 58 (.fieldA 0 τ5),oD 59 (.load1 .oth τ58),oD 60 (.callF 104 [τ59, (.const (.int .i64 2))]),oD 61 (.fieldA 1 τ7),oN (.store 1 τ61 τ60)]
def k99_27 : VC := .reg [oD 62 (.fieldA 0 τ5),oD 63 (.load1 .oth τ62),oD 64 (.callF 104 [τ63, (.const (.int .i64 2))]),oM 10 τ64]
def k99_28 : VC := .reg [oM 65 τ10,oD 66 (.bin .andNot τ65 (.const (.int .i64 16384))),oD 67 (.bin .neq τ66 (.const (.int .i64 0)))]
def k99_29 : VC := .reg [oD 68 (.build [(.int .i64 0), (.int .i64 0), (.bool false), (.int .i64 0), (.int .i64 0), (.bool false), (.int .u64 0), (.int .u64 0), (.bool false), (.int .u64 0), (.int .u64 0), (.string ⟨⟨[]⟩⟩)] []),oN (.store 12 τ2 τ68),oD 3 (.mv (.const (.string ⟨⟨[]⟩⟩))),oD 4 (.mv (.const (.int .i64 7)))]
def k99_30 : VC := .seq k99_29 .ret
def k99_31 : VC := .cond τ67 k99_30 .skip
def k99_32 : VC := .seq k99_28 k99_31
def k99_33 : VC := .reg [oM 69 τ10,oD 70 (.bin .neq τ69 (.const (.int .i64 0))),oD 71 (.fieldA 2 τ7),oN (.store 1 τ71 τ70)]
def k99_34 : VC := .regD [oD 72 (.fieldA 0 τ5),oD 73 (.load1 .oth τ72),oD 74 (.callF 104 [τ73, (.const (.int .i64 1))]),oD 75 (.fieldA 0 τ5),oD 76 (.load1 .oth τ75),oD 77 (.callF 104 [τ76, (.const (.int .i64 1))]),oD 78 (.fieldA 3 τ7)] [(2, 4)] [oN (.store 1 τ78 τ74),oD 79 (.fieldA 4 τ7),oN (.store 1 τ79 τ77)]
def k99_35 : VC := .reg [oD 80 (.fieldA 0 τ5),oD 81 (.load1 .oth τ80),oD 82 (.callF 104 [τ81, (.const (.int .i64 2))])]
def k99_36 : VC := .regD [oD 83 (.loadN [.oth] τ5),oD 84 (.callF 116 [τ83]),oD 85 (.loadN [.oth] τ5),oD 86 (.callF 116 [τ85]),oD 87 (.fieldA 5 τ7)] [(1, 2)] [oN (.store 3 τ87 τ84),oD 88 (.fieldA 8 τ7),oN (.store 3 τ88 τ86)]
def k99_37 : VC := .reg [oD 89 (.fieldA 0 τ5),oD 90 (.load1 .oth τ89),oM 91 τ8,oD 92 (.bin .sub τ91 (.const (.int .i64 20))),oD 93 (.callF 106 [τ90, τ92]),oD 94 (.fieldA 11 τ7),oN (.store 1 τ94 τ93)]
def k99_38 : VC := .regD [oD 95 (.loadN [(.int .i64), (.int .i64), .bool, (.int .i64), (.int .i64), .bool, (.int .u64), (.int .u64), .bool, (.int .u64), (.int .u64), .str] τ7),oD 96 (.fieldA 0 τ5),oD 97 (.load1 .oth τ96),oM 98 τ9,oM 99 τ8,oD 100 (.bin .sub τ98 τ99),oD 101 (.callF 106 [τ97, τ100])] [(0, 6)] [oN (.store 12 τ2 τ95),oM 3 τ101,oD 4 (.mv (.const (.int .i64 0)))]
def k99_39 : VC := .seq k99_38 .ret
def k99_40 : VC := .seq k99_37 k99_39
def k99_41 : VC := .seq k99_36 k99_40
def k99_42 : VC := .seq k99_35 k99_41
def k99_43 : VC := .seq k99_34 k99_42
def k99_44 : VC := .seq k99_33 k99_43
def k99_45 : VC := .seq k99_32 k99_44
def k99_46 : VC := .seq k99_27 k99_45
def k99_47 : VC := .seq k99_26 k99_46
def k99_48 : VC := .seq k99_25 k99_47
def k99_49 : VC := .seq k99_9 k99_48
def k99_50 : VC := .seq k99_8 k99_49
def k99_51 : VC := .seq k99_7 k99_50
def k99_52 : VC := .seq k99_6 k99_51
def k99_53 : VC := .seq k99_5 k99_52
def k99_54 : VC := .seq k99_0 k99_53
def fn99 : VFn := ⟨102, k99_54, [.cell 2 [(.int .i64), (.int .i64), .bool, (.int .i64), (.int .i64), .bool, (.int .u64), (.int .u64), .bool, (.int .u64), (.int .u64), .str] true, .tmp 3, .tmp 4]⟩
def k103_0 : VC := .reg [oD 2 (.mv (.const (.pointer none)))]
def k103_1 : VC := .reg [oM 3 τ0,oD 4 (.build [(.string ⟨⟨[]⟩⟩), (.bool false), (.bool false)] [(0, 1, τ3), (1, 1, (.const (.bool true)))]),oD 5 (.box τ4),oM 2 τ5]
def k103_2 : VC := .seq k103_1 .ret
def k103_3 : VC := .seq k103_0 k103_2
def fn103 : VFn := ⟨6, k103_3, [.tmp 2]⟩
def k104_0 : VC := .reg [oD 4 (.mv (.const (.int .i64 0)))]
def k104_1 : VC := .reg [oM 7 τ1,oD 8 (.bin .lss τ7 (.const (.int .i64 1))),oM 9 τ8,oG 10 (.mv τ1) 9 false,oG 11 (.bin .gtr τ10 (.const (.int .i64 7))) 9 false,oD 12 (.pick τ9 (.const (.bool true)) τ11)]
def k104_2 : VC := .reg [oD 1 (.mv (.const (.int .i64 (-1))))]
def k104_3 : VC := .cond τ12 k104_2 .skip
def k104_4 : VC := .seq k104_1 k104_3
def k104_5 : VC := .reg [oM 14 τ0,oM 15 τ1,oD 16 (.callF 106 [τ14, τ15]),oM 17 τ1,oD 18 (.callF 25 [τ16, (.const (.int .i64 0)), τ17]),oM 13 τ18,oE 19 0 τ13,oE 20 1 τ13,oM 5 τ19,oM 6 τ20]
def k104_6 : VC := .reg [oM 21 τ5,oD 22 (.conv .i64 τ21),oM 4 τ22]
def k104_7 : VC := .seq k104_6 .ret
def k104_8 : VC := .seq k104_5 k104_7
def k104_9 : VC := .seq k104_4 k104_8
def k104_10 : VC := .seq k104_0 k104_9
def fn104 : VFn := ⟨23, k104_10, [.tmp 4]⟩
def k106_0 : VC := .reg [oD 4 (.mv (.const (.string ⟨⟨[]⟩⟩)))]
def k106_1 : VC := .reg [oM 6 τ0,oD 7 (.callF 105 [τ6])]
def k106_2 : VC := .reg [oD 4 (.mv (.const (.string ⟨⟨[]⟩⟩)))]
def k106_3 : VC := .seq k106_2 .ret
def k106_4 : VC := .cond τ7 k106_3 .skip
def k106_5 : VC := .seq k106_1 k106_4
def k106_6 : VC := .reg [oM 8 τ1,oD 9 (.bin .lss τ8 (.const (.int .i64 0))),oM 10 τ9,oG 11 (.mv τ1) 10 false,oG 12 (.mv τ0) 10 false,oG 13 (.nilCheck τ12) 10 false,oG 14 (.fieldA 0 τ13) 10 false,oG 15 (.load1 .str τ14) 10 false,oG 16 (.lenS τ15) 10 false,oG 17 (.bin .gtr τ11 τ16) 10 false,oD 18 (.pick τ10 (.const (.bool true)) τ17)]
def k106_7 : VC := .reg [oM 19 τ0,oD 20 (.nilCheck τ19),oD 21 (.fieldA 2 τ20),oN (.store 1 τ21 (.const (.bool true)))]
def k106_8 : VC := .reg [oD 4 (.mv (.const (.string ⟨⟨[]⟩⟩)))]
def k106_9 : VC := .seq k106_8 .ret
def k106_10 : VC := .seq k106_7 k106_9
def k106_11 : VC := .cond τ18 k106_10 .skip
def k106_12 : VC := .seq k106_6 k106_11
def k106_13 : VC := .reg [oM 22 τ0,oD 23 (.nilCheck τ22),oD 24 (.fieldA 0 τ23),oD 25 (.load1 .str τ24),oM 26 τ1,oD 27 (.sliceS τ25 none (some τ26)),oM 5 τ27]
def k106_14 : VC := .reg [oM 28 τ0,oM 29 τ0,oD 30 (.nilCheck τ29),oD 31 (.fieldA 0 τ30),oD 32 (.load1 .str τ31),oM 33 τ1,oD 34 (.sliceS τ32 (some τ33) none),oD 35 (.nilCheck τ28),oD 36 (.fieldA 0 τ35),oN (.store 1 τ36 τ34)]
def k106_15 : VC := .reg [oM 37 τ5,oM 4 τ37]
def k106_16 : VC := .seq k106_15 .ret
def k106_17 : VC := .seq k106_14 k106_16
def k106_18 : VC := .seq k106_13 k106_17
def k106_19 : VC := .seq k106_12 k106_18
def k106_20 : VC := .seq k106_5 k106_19
def k106_21 : VC := .seq k106_0 k106_20
def fn106 : VFn := ⟨38, k106_21, [.tmp 4]⟩
def k105_0 : VC := .reg [oD 2 (.mv (.const (.bool false)))]
def k105_1 : VC := .reg [oM 3 τ0,oD 4 (.isNil 0 false τ3),oM 5 τ4,oG 6 (.mv τ0) 5 false,oG 7 (.nilCheck τ6) 5 false,oG 8 (.fieldA 1 τ7) 5 false,oG 9 (.load1 .bool τ8) 5 false,oG 10 (.not τ9) 5 false,oD 11 (.pick τ5 (.const (.bool true)) τ10),oM 12 τ11,oG 13 (.mv τ0) 12 false,oG 14 (.nilCheck τ13) 12 false,oG 15 (.fieldA 2 τ14) 12 false,oG 16 (.load1 .bool τ15) 12 false,oD 17 (.pick τ12 (.const (.bool true)) τ16),oM 2 τ17]
def k105_2 : VC := .seq k105_1 .ret
def k105_3 : VC := .seq k105_0 k105_2
def fn105 : VFn := ⟨18, k105_3, [.tmp 2]⟩
def k25_0 : VC := .reg [oD 6 (.mv (.const (.int .u64 0))),oD 7 (.mv (.const (.bool false)))]
def k25_1 : VC := .reg [oM 11 τ2,oD 12 (.bin .lss τ11 (.const (.int .i64 1))),oM 13 τ12,oG 14 (.mv τ2) 13 false,oG 15 (.bin .gtr τ14 (.const (.int .i64 8))) 13 false,oD 16 (.pick τ13 (.const (.bool true)) τ15),oM 17 τ16,oG 18 (.mv τ1) 17 false,oG 19 (.bin .lss τ18 (.const (.int .i64 0))) 17 false,oD 20 (.pick τ17 (.const (.bool true)) τ19),oM 21 τ20,oG 22 (.mv τ0) 21 false,oG 23 (.lenS τ22) 21 false,oG 24 (.mv τ2) 21 false,oG 25 (.bin .sub τ23 τ24) 21 false,oG 26 (.mv τ1) 21 false,oG 27 (.bin .lss τ25 τ26) 21 false,oD 28 (.pick τ21 (.const (.bool true)) τ27)]
def k25_2 : VC := .reg [oD 6 (.mv (.const (.int .u64 0))),oD 7 (.mv (.const (.bool false)))]
def k25_3 : VC := .seq k25_2 .ret
def k25_4 : VC := .cond τ28 k25_3 .skip
def k25_5 : VC := .seq k25_1 k25_4
def k25_6 : VC := .reg [oD 8 (.mv (.const (.int .u64 0)))]
def k25_7 : VC := .reg [oM 29 τ0,oM 30 τ1,oM 31 τ1,oM 32 τ2,oD 33 (.bin .add τ31 τ32),oD 34 (.sliceS τ29 (some τ30) (some τ33)),oD 35 (.s2b τ34),oD 36 (.lenL τ35),oD 37 (.mv (.const (.int .i64 0)))]
def k25_8 : VC := .reg [oD 38 (.bin .lss τ37 τ36)]
def k25_9 : VC := .cond τ38 .skip (.exit 0)
def k25_10 : VC := .reg [oD 39 (.idxAL 1 τ35 τ37),oD 40 (.load1 (.int .u8) τ39),oM 10 τ40]
def k25_11 : VC := .reg [oM 41 τ8,oD 42 (.bin .shl τ41 (.const (.int .u64 8))),oM 43 τ10,oD 44 (.conv .u64 τ43),oD 45 (.bin .or τ42 τ44),oM 8 τ45]
def k25_12 : VC := .seq k25_10 k25_11
def k25_13 : VC := .block 1 k25_12
def k25_14 : VC := .reg [oD 46 (.bin .add τ37 (.const (.int .i64 1))),oM 37 τ46]
def k25_15 : VC := .seq k25_13 k25_14
def k25_16 : VC := .seq k25_9 k25_15
def k25_17 : VC := .seq k25_8 k25_16
def k25_18 : VC := .loop k25_17
def k25_19 : VC := .block 0 k25_18
def k25_20 : VC := .seq k25_7 k25_19
def k25_21 : VC := .reg [oM 47 τ8,oM 6 τ47,oD 7 (.mv (.const (.bool true)))]
def k25_22 : VC := .seq k25_21 .ret
def k25_23 : VC := .seq k25_20 k25_22
def k25_24 : VC := .seq k25_6 k25_23
def k25_25 : VC := .seq k25_5 k25_24
def k25_26 : VC := .seq k25_0 k25_25
def fn25 : VFn := ⟨48, k25_26, [.tmp 6, .tmp 7]⟩
def k101_0 : VC := .reg [oD 2 (.mv (.const (.bool false)))]
def k101_1 : VC := .reg [oM 3 τ0,oD 4 (.callF 77 [τ3]),oD 5 (.bin .eql τ4 (.const (.int .i64 65535))),oM 2 τ5]
def k101_2 : VC := .seq k101_1 .ret
def k101_3 : VC := .seq k101_0 k101_2
def fn101 : VFn := ⟨6, k101_3, [.tmp 2]⟩
def k77_0 : VC := .reg [oD 2 (.mv (.const (.int .i64 0)))]
def k77_1 : VC := .reg [oD 3 (.alloc [(.int .i64 0)]),oN (.store 1 τ3 (.const (.int .i64 0)))]
def k77_2 : VC := .reg [oM 5 τ0,oD 6 (.callF 42 [τ5])]
def k77_3 : VC := .reg [oM 4 τ7]
def k77_4 : VC := .reg [oD 8 (.load1 (.int .i64) τ3),oM 9 τ4,oD 10 (.bin .add τ8 τ9),oD 11 (.callF 73 [τ10]),oN (.store 1 τ3 τ11)]
def k77_5 : VC := .block 1 k77_4
def k77_6 : VC := .rangeF τ6 [7] k77_3 k77_5
def k77_7 : VC := .block 0 k77_6
def k77_8 : VC := .seq k77_2 k77_7
def k77_9 : VC := .reg [oD 12 (.load1 (.int .i64) τ3),oM 2 τ12]
def k77_10 : VC := .seq k77_9 .ret
def k77_11 : VC := .seq k77_8 k77_10
def k77_12 : VC := .seq k77_1 k77_11
def k77_13 : VC := .seq k77_0 k77_12
def fn77 : VFn := ⟨13, k77_13, [.tmp 2]⟩
def k42_0 : VC := .reg [oD 1 (.box τ0),oM 2 (.const .nilFunc)]
def k42_1 : VC := .reg [oD 3 (.mkFunc 71 [] [τ1]),oM 2 τ3]
def k42_2 : VC := .seq k42_1 .ret
def k42_3 : VC := .seq k42_0 k42_2
def fn42 : VFn := ⟨4, k42_3, [.tmp 2]⟩
def k71_0 : VC := .reg [oD 3 (.mv (.const (.int .i64 0)))]
def k71_1 : VC := .reg [oM 5 τ3,oD 6 (.load1 .str τ1),oD 7 (.lenS τ6),oD 8 (.bin .lss τ5 τ7)]
def k71_2 : VC := .cond τ8 .skip (.exit 0)
def k71_3 : VC := .seq k71_1 k71_2
def k71_4 : VC := .reg [oD 11 (.load1 .str τ1),oM 12 τ3,oD 13 (.idxS τ11 τ12),oD 14 (.conv .i64 τ13),oD 15 (.bin .shl τ14 (.const (.int .u64 8))),oM 4 τ15]
def k71_5 : VC := .reg [oM 16 τ3,oD 17 (.bin .add τ16 (.const (.int .i64 1))),oD 18 (.load1 .str τ1),oD 19 (.lenS τ18),oD 20 (.bin .lss τ17 τ19)]
def k71_6 : VC := .reg [oM 21 τ4,oD 22 (.load1 .str τ1),oM 23 τ3,oD 24 (.bin .add τ23 (.const (.int .i64 1))),oD 25 (.idxS τ22 τ24),oD 26 (.conv .i64 τ25),oD 27 (.bin .or τ21 τ26),oM 4 τ27]
def k71_7 : VC := .cond τ20 k71_6 .skip
def k71_8 : VC := .seq k71_5 k71_7
def k71_9 : VC := .reg [oM 28 τ0,oM 29 τ4,oD 30 (.callV τ28 [τ29]),oD 31 (.not τ30)]
def k71_10 : VC := .cond τ31 .ret .skip
def k71_11 : VC := .seq k71_9 k71_10
def k71_12 : VC := .seq k71_8 k71_11
def k71_13 : VC := .seq k71_4 k71_12
def k71_14 : VC := .block 1 k71_13
def k71_15 : VC := .reg [oM 9 τ3,oD 10 (.bin .add τ9 (.const (.int .i64 2))),oM 3 τ10]
def k71_16 : VC := .seq k71_14 k71_15
def k71_17 : VC := .seq k71_3 k71_16
def k71_18 : VC := .loop k71_17
def k71_19 : VC := .block 0 k71_18
def k71_20 : VC := .seq k71_0 k71_19
def fn71 : VFn := ⟨32, k71_20, []⟩
def k73_0 : VC := .reg [oD 2 (.mv (.const (.int .i64 0)))]
def k73_1 : VC := .reg [oM 3 τ0,oD 4 (.bin .gtr τ3 (.const (.int .i64 65535)))]
def k73_2 : VC := .cond τ4 .skip (.exit 0)
def k73_3 : VC := .seq k73_1 k73_2
def k73_4 : VC := .reg [oM 5 τ0,oD 6 (.bin .and τ5 (.const (.int .i64 65535))),oM 7 τ0,oD 8 (.bin .shr τ7 (.const (.int .u64 16))),oD 9 (.bin .add τ6 τ8),oM 0 τ9]
def k73_5 : VC := .block 1 k73_4
def k73_6 : VC := .seq k73_3 k73_5
def k73_7 : VC := .loop k73_6
def k73_8 : VC := .block 0 k73_7
def k73_9 : VC := .reg [oM 10 τ0,oM 2 τ10]
def k73_10 : VC := .seq k73_9 .ret
def k73_11 : VC := .seq k73_8 k73_10
def k73_12 : VC := .seq k73_0 k73_11
def fn73 : VFn := ⟨11, k73_12, [.tmp 2]⟩
def k116_0 : VC := .reg [oD 1 (.box τ0),oD 2 (.alloc [(.bool false), (.int .u64 0), (.int .u64 0)])]
def k116_1 : VC := .reg [oD 6 (.fieldA 0 τ1),oD 7 (.load1 .oth τ6),oD 8 (.callF 106 [τ7, (.const (.int .i64 4))]),oD 9 (.callF 117 [τ8]),oM 5 τ9,oE 10 0 τ5,oE 11 1 τ5,oD 3 (.alloc [(.bool false), (.int .u64 0), (.int .u64 0)]),oN (.store 3 τ3 τ10),oM 4 τ11]
def k116_2 : VC := .reg [oD 12 (.loadN [.bool, (.int .u64), (.int .u64)] τ3),oN (.store 3 τ2 τ12)]
def k116_3 : VC := .seq k116_2 .ret
def k116_4 : VC := .seq k116_1 k116_3
def k116_5 : VC := .seq k116_0 k116_4
def fn116 : VFn := ⟨13, k116_5, [.cell 2 [.bool, (.int .u64), (.int .u64)] true]⟩
def k117_0 : VC := .reg [oD 2 (.alloc [(.bool false), (.int .u64 0), (.int .u64 0)]),oD 3 (.mv (.const (.bool false)))]
def k117_1 : VC := .reg [oM 7 τ0,oD 8 (.lenS τ7)]
def k117_2 : VC := .reg [oD 10 (.bin .eql τ8 (.const (.int .i64 4))),oM 9 τ10]
def k117_3 : VC := .reg [oM 12 τ0,oD 13 (.callF 25 [τ12, (.const (.int .i64 0)), (.const (.int .i64 4))]),oM 11 τ13,oE 14 0 τ11,oE 15 1 τ11,oM 4 τ14,oM 5 τ15]
def k117_4 : VC := .reg [oM 16 τ4,oD 17 (.build [(.bool false), (.int .u64 0), (.int .u64 0)] [(2, 1, τ16)]),oN (.store 3 τ2 τ17),oD 3 (.mv (.const (.bool true)))]
def k117_5 : VC := .seq k117_4 .ret
def k117_6 : VC := .seq k117_3 k117_5
def k117_7 : VC := .reg [oD 19 (.bin .eql τ8 (.const (.int .i64 16))),oM 18 τ19]
def k117_8 : VC := .reg [oD 20 (.build [(.bool false), (.int .u64 0), (.int .u64 0)] [(0, 1, (.const (.bool true)))]),oD 6 (.alloc [(.bool false), (.int .u64 0), (.int .u64 0)]),oN (.store 3 τ6 τ20)]
def k117_9 : VC := .reg [oM 22 τ0,oD 23 (.callF 25 [τ22, (.const (.int .i64 0)), (.const (.int .i64 8))]),oM 21 τ23,oE 24 0 τ21,oE 25 1 τ21,oD 26 (.fieldA 1 τ6),oN (.store 1 τ26 τ24)]
def k117_10 : VC := .reg [oM 28 τ0,oD 29 (.callF 25 [τ28, (.const (.int .i64 8)), (.const (.int .i64 8))]),oM 27 τ29,oE 30 0 τ27,oE 31 1 τ27,oD 32 (.fieldA 2 τ6),oN (.store 1 τ32 τ30)]
def k117_11 : VC := .reg [oD 33 (.loadN [.bool, (.int .u64), (.int .u64)] τ6),oN (.store 3 τ2 τ33),oD 3 (.mv (.const (.bool true)))]
def k117_12 : VC := .seq k117_11 .ret
def k117_13 : VC := .seq k117_10 k117_12
def k117_14 : VC := .seq k117_9 k117_13
def k117_15 : VC := .seq k117_8 k117_14
def k117_16 : VC := .cond τ18 k117_15 .skip
def k117_17 : VC := .seq k117_7 k117_16
def k117_18 : VC := .cond τ9 k117_6 k117_17
def k117_19 : VC := .seq k117_2 k117_18
def k117_20 : VC := .block 0 k117_19
def k117_21 : VC := .seq k117_1 k117_20
def k117_22 : VC := .reg [oD 34 (.build [(.bool false), (.int .u64 0), (.int .u64 0)] []),oN (.store 3 τ2 τ34),oD 3 (.mv (.const (.bool false)))]
def k117_23 : VC := .seq k117_22 .ret
def k117_24 : VC := .seq k117_21 k117_23
def k117_25 : VC := .seq k117_0 k117_24
def fn117 : VFn := ⟨35, k117_25, [.cell 2 [.bool, (.int .u64), (.int .u64)] true, .tmp 3]⟩
def k100_0 : VC := .reg [oD 2 (.alloc [(.int .i64 0), (.int .i64 0), (.int .i64 0), (.int .i64 0), (.bool false), (.int .u64 0), (.int .u64 0), (.bool false), (.int .u64 0), (.int .u64 0)]),oD 3 (.mv (.const (.string ⟨⟨[]⟩⟩))),oD 4 (.mv (.const (.int .i64 0)))]
def k100_1 : VC := .reg [oM 12 τ0,oD 13 (.callF 103 [τ12]),oM 5 τ13]
def k100_2 : VC := .reg [oM 14 τ5,oD 15 (.callF 104 [τ14, (.const (.int .i64 4))]),oM 16 τ5,oD 17 (.callF 104 [τ16, (.const (.int .i64 2))]),oM 6 τ15,oM 7 τ17]
def k100_3 : VC := .reg [oM 18 τ6,oD 19 (.bin .shr τ18 (.const (.int .u64 20))),oD 20 (.bin .and τ19 (.const (.int .i64 255))),oM 21 τ6,oD 22 (.bin .and τ21 (.const (.int .i64 1048575))),oM 23 τ5,oD 24 (.callF 104 [τ23, (.const (.int .i64 1))]),oM 25 τ5,oD 26 (.callF 104 [τ25, (.const (.int .i64 1))]),oD 27 (.build [(.int .i64 0), (.int .i64 0), (.int .i64 0), (.int .i64 0), (.bool false), (.int .u64 0), (.int .u64 0), (.bool false), (.int .u64 0), (.int .u64 0)] [(0, 1, τ20), (1, 1, τ22), (2, 1, τ24), (3, 1, τ26)]),oD 8 (.alloc [(.int .i64 0), (.int .i64 0), (.int .i64 0), (.int .i64 0), (.bool false), (.int .u64 0), (.int .u64 0), (.bool false), (.int .u64 0), (.int .u64 0)]),oN (.store 10 τ8 τ27)]
def k100_4 : VC := .reg [oM 28 τ5,oD 29 (.callF 106 [τ28, (.const (.int .i64 16))]),oM 30 τ5,oD 31 (.callF 106 [τ30, (.const (.int .i64 16))]),oM 9 τ29,oM 10 τ31]
def k100_5 : VC := .reg [oM 32 τ5,oD 33 (.callF 105 [τ32])]
def k100_6 : VC := .reg [oD 34 (.build [(.int .i64 0), (.int .i64 0), (.int .i64 0), (.int .i64 0), (.bool false), (.int .u64 0), (.int .u64 0), (.bool false), (.int .u64 0), (.int .u64 0)] []),oN (.store 10 τ2 τ34),oD 3 (.mv (.const (.string ⟨⟨[]⟩⟩))),oD 4 (.mv (.const (.int .i64 2)))]
def k100_7 : VC := .seq k100_6 .ret
def k100_8 : VC := .cond τ33 k100_7 .skip
def k100_9 : VC := .seq k100_5 k100_8
def k100_10 : VC := .reg [oM 35 τ6,oD 36 (.bin .shr τ35 (.const (.int .u64 28))),oD 37 (.bin .neq τ36 (.const (.int .i64 6)))]
def k100_11 : VC := .reg [oD 38 (.build [(.int .i64 0), (.int .i64 0), (.int .i64 0), (.int .i64 0), (.bool false), (.int .u64 0), (.int .u64 0), (.bool false), (.int .u64 0), (.int .u64 0)] []),oN (.store 10 τ2 τ38),oD 3 (.mv (.const (.string ⟨⟨[]⟩⟩))),oD 4 (.mv (.const (.int .i64 3)))]
def k100_12 : VC := .seq k100_11 .ret
def k100_13 : VC := .cond τ37 k100_12 .skip
def k100_14 : VC := .seq k100_10 k100_13
def k100_15 : VC := .reg [oM 40 τ9,oD 41 (.callF 117 [τ40]),oM 39 τ41,oE 42 0 τ39,oE 43 1 τ39,oD 44 (.fieldA 4 τ8),oN (.store 3 τ44 τ42)]
def k100_16 : VC := .reg [oM 46 τ10,oD 47 (.callF 117 [τ46]),oM 45 τ47,oE 48 0 τ45,oE 49 1 τ45,oD 50 (.fieldA 7 τ8),oN (.store 3 τ50 τ48)]
def k100_17 : VC := .reg [oM 51 τ5,oM 52 τ7,oD 53 (.callF 106 [τ51, τ52]),oM 11 τ53]
def k100_18 : VC := .reg [oM 54 τ5,oD 55 (.callF 105 [τ54])]
def k100_19 : VC := .reg [oD 56 (.build [(.int .i64 0), (.int .i64 0), (.int .i64 0), (.int .i64 0), (.bool false), (.int .u64 0), (.int .u64 0), (.bool false), (.int .u64 0), (.int .u64 0)] []),oN (.store 10 τ2 τ56),oD 3 (.mv (.const (.string ⟨⟨[]⟩⟩))),oD 4 (.mv (.const (.int .i64 2)))]
def k100_20 : VC := .seq k100_19 .ret
def k100_21 : VC := .cond τ55 k100_20 .skip
def k100_22 : VC := .seq k100_18 k100_21
def k100_23 : VC := .reg [oD 57 (.loadN [(.int .i64), (.int .i64), (.int .i64), (.int .i64), .bool, (.int .u64), (.int .u64), .bool, (.int .u64), (.int .u64)] τ8),oM 58 τ11,oN (.store 10 τ2 τ57),oM 3 τ58,oD 4 (.mv (.const (.int .i64 0)))]
def k100_24 : VC := .seq k100_23 .ret
def k100_25 : VC := .seq k100_22 k100_24
def k100_26 : VC := .seq k100_17 k100_25
def k100_27 : VC := .seq k100_16 k100_26
def k100_28 : VC := .seq k100_15 k100_27
def k100_29 : VC := .seq k100_14 k100_28
def k100_30 : VC := .seq k100_9 k100_29
def k100_31 : VC := .seq k100_4 k100_30
def k100_32 : VC := .seq k100_3 k100_31
def k100_33 : VC := .seq k100_2 k100_32
def k100_34 : VC := .seq k100_1 k100_33
def k100_35 : VC := .seq k100_0 k100_34
def fn100 : VFn := ⟨59, k100_35, [.cell 2 [(.int .i64), (.int .i64), (.int .i64), (.int .i64), .bool, (.int .u64), (.int .u64), .bool, (.int .u64), (.int .u64)] true, .tmp 3, .tmp 4]⟩
def k54_0 : VC := .reg [oD 2 (.box τ0),oD 4 (.mv (.const (.int .i64 0))),oD 5 (.mv (.const (.int .i64 0)))]
def k54_1 : VC := .reg [oD 13 (.fieldA 7 τ2),oD 14 (.load1 .str τ13),oD 15 (.fieldA 0 τ2),oD 16 (.loadN [.bool, (.int .u64), (.int .u64)] τ15),oD 17 (.fieldA 3 τ2),oD 18 (.loadN [.bool, (.int .u64), (.int .u64)] τ17),oD 19 (.callF 81 [τ14, τ16, τ18]),oM 12 τ19,oE 20 0 τ12,oE 21 1 τ12,oE 22 2 τ12,oD 6 (.alloc [(.int .i64 0), (.int .i64 0), (.int .u32 0), (.int .u32 0), (.int .i64 0), (.int .i64 0), (.int .i64 0), (.string ⟨⟨[]⟩⟩)]),oN (.store 8 τ6 τ20),oM 7 τ21,oM 8 τ22]
def k54_2 : VC := .reg [oM 23 τ8,oD 24 (.bin .neq τ23 (.const (.int .i64 0)))]
def k54_3 : VC := .reg [oM 25 τ8,oD 4 (.mv (.const (.int .i64 0))),oM 5 τ25]
def k54_4 : VC := .seq k54_3 .ret
def k54_5 : VC := .cond τ24 k54_4 .skip
def k54_6 : VC := .seq k54_2 k54_5
def k54_7 : VC := .regD [oM 26 τ1,oM 27 τ1,oM 28 τ1,oD 29 (.fieldA 0 τ6),oD 30 (.load1 (.int .i64) τ29),oD 31 (.fieldA 1 τ6),oD 32 (.load1 (.int .i64) τ31),oD 33 (.fieldA 4 τ6),oD 34 (.load1 (.int .i64) τ33),oD 35 (.nilCheck τ26),oD 36 (.fieldA 0 τ35),oD 37 (.fieldA 7 τ36),oN (.store 1 τ37 τ30),oD 38 (.nilCheck τ27),oD 39 (.fieldA 0 τ38),oD 40 (.fieldA 8 τ39),oN (.store 1 τ40 τ32)] [(6, 12), (8, 12), (8, 16)] [oD 41 (.nilCheck τ28),oD 42 (.fieldA 9 τ41),oN (.store 1 τ42 τ34)]
def k54_8 : VC := .reg [oD 44 (.fieldA 7 τ6),oD 45 (.load1 .str τ44),oD 46 (.callF 64 [τ45]),oM 43 τ46,oE 47 0 τ43,oE 48 1 τ43,oE 49 2 τ43,oM 9 τ47,oM 10 τ48,oM 11 τ49]
def k54_9 : VC := .reg [oM 50 τ11,oD 51 (.bin .geq τ50 (.const (.int .i64 0)))]
def k54_10 : VC := .reg [oM 52 τ1,oM 53 τ1,oM 54 τ1,oM 55 τ9,oM 56 τ10,oD 57 (.nilCheck τ52),oD 58 (.fieldA 10 τ57),oN (.store 1 τ58 (.const (.bool true))),oD 59 (.nilCheck τ53),oD 60 (.fieldA 11 τ59),oN (.store 1 τ60 τ55),oD 61 (.nilCheck τ54),oD 62 (.fieldA 12 τ61),oN (.store 1 τ62 τ56)]
def k54_11 : VC := .cond τ51 k54_10 .skip
def k54_12 : VC := .seq k54_9 k54_11
def k54_13 : VC := .seq k54_8 k54_12
def k54_14 : VC := .reg [oM 63 τ7,oD 64 (.lenS τ63),oM 4 τ64,oD 5 (.mv (.const (.int .i64 0)))]
def k54_15 : VC := .seq k54_14 .ret
def k54_16 : VC := .seq k54_13 k54_15
def k54_17 : VC := .seq k54_7 k54_16
def k54_18 : VC := .seq k54_6 k54_17
def k54_19 : VC := .seq k54_1 k54_18
def k54_20 : VC := .seq k54_0 k54_19
def fn54 : VFn := ⟨65, k54_20, [.tmp 4, .tmp 5]⟩
def k81_0 : VC := .reg [oD 4 (.box τ1),oD 5 (.box τ2),oD 6 (.alloc [(.int .i64 0), (.int .i64 0), (.int .u32 0), (.int .u32 0), (.int .i64 0), (.int .i64 0), (.int .i64 0), (.string ⟨⟨[]⟩⟩)]),oD 7 (.mv (.const (.string ⟨⟨[]⟩⟩))),oD 8 (.mv (.const (.int .i64 0)))]
def k81_1 : VC := .reg [oM 16 τ0,oD 17 (.lenS τ16),oD 18 (.bin .lss τ17 (.const (.int .i64 20)))]
def k81_2 : VC := .reg [oD 19 (.build [(.int .i64 0), (.int .i64 0), (.int .u32 0), (.int .u32 0), (.int .i64 0), (.int .i64 0), (.int .i64 0), (.string ⟨⟨[]⟩⟩)] []),oN (.store 8 τ6 τ19),oD 7 (.mv (.const (.string ⟨⟨[]⟩⟩))),oD 8 (.mv (.const (.int .i64 2)))]
def k81_3 : VC := .seq k81_2 .ret
def k81_4 : VC := .cond τ18 k81_3 .skip
def k81_5 : VC := .seq k81_1 k81_4
def k81_6 : VC := .regD [oM 20 τ0,oD 21 (.idxS τ20 (.const (.int .i64 12))),oD 22 (.bin .shr τ21 (.const (.int .u64 4))),oD 23 (.conv .i64 τ22),oM 24 τ0,oD 25 (.idxS τ24 (.const (.int .i64 12))),oD 26 (.bin .and τ25 (.const (.int .u8 15))),oM 9 τ23] [] [oM 10 τ26]
def k81_7 : VC := .reg [oM 27 τ9,oD 28 (.bin .mul (.const (.int .i64 4)) τ27),oM 11 τ28]
def k81_8 : VC := .reg [oM 30 τ11,oD 31 (.bin .lss τ30 (.const (.int .i64 20))),oM 32 τ31,oG 33 (.mv τ10) 32 false,oG 34 (.bin .neq τ33 (.const (.int .u8 0))) 32 false,oD 35 (.pick τ32 (.const (.bool true)) τ34),oM 29 τ35]
def k81_9 : VC := .reg [oD 36 (.build [(.int .i64 0), (.int .i64 0), (.int .u32 0), (.int .u32 0), (.int .i64 0), (.int .i64 0), (.int .i64 0), (.string ⟨⟨[]⟩⟩)] []),oN (.store 8 τ6 τ36),oD 7 (.mv (.const (.string ⟨⟨[]⟩⟩))),oD 8 (.mv (.const (.int .i64 3)))]
def k81_10 : VC := .seq k81_9 .ret
def k81_11 : VC := .reg [oM 38 τ11,oM 39 τ0,oD 40 (.lenS τ39),oD 41 (.bin .gtr τ38 τ40),oM 37 τ41]
def k81_12 : VC := .reg [oD 42 (.build [(.int .i64 0), (.int .i64 0), (.int .u32 0), (.int .u32 0), (.int .i64 0), (.int .i64 0), (.int .i64 0), (.string ⟨⟨[]⟩⟩)] []),oN (.store 8 τ6 τ42),oD 7 (.mv (.const (.string ⟨⟨[]⟩⟩))),oD 8 (.mv (.const (.int .i64 2)))]
def k81_13 : VC := .seq k81_12 .ret
def k81_14 : VC := .cond τ37 k81_13 .skip
def k81_15 : VC := .seq k81_11 k81_14
def k81_16 : VC := .cond τ29 k81_10 k81_15
def k81_17 : VC := .seq k81_8 k81_16
def k81_18 : VC := .block 0 k81_17
def k81_19 : VC := .reg [oD 43 (.loadN [.bool, (.int .u64), (.int .u64)] τ4),oD 44 (.loadN [.bool, (.int .u64), (.int .u64)] τ5),oM 45 τ0,oD 46 (.lenS τ45),oD 47 (.callF 46 [τ43, τ44, (.const (.int .i64 6)), τ46]),oM 12 τ47]
def k81_20 : VC := .reg [oM 49 τ12,oD 50 (.bin .eql τ49 (.const (.string ⟨⟨[]⟩⟩))),oM 48 τ50]
def k81_21 : VC := .reg [oD 51 (.build [(.int .i64 0), (.int .i64 0), (.int .u32 0), (.int .u32 0), (.int .i64 0), (.int .i64 0), (.int .i64 0), (.string ⟨⟨[]⟩⟩)] []),oN (.store 8 τ6 τ51),oD 7 (.mv (.const (.string ⟨⟨[]⟩⟩))),oD 8 (.mv (.const (.int .i64 1)))]
def k81_22 : VC := .seq k81_21 .ret
def k81_23 : VC := .reg [oM 53 τ12,oM 54 τ0,oD 55 (.bin .add τ53 τ54),oD 56 (.callF 101 [τ55]),oD 57 (.not τ56),oM 52 τ57]
def k81_24 : VC := .reg [oD 58 (.build [(.int .i64 0), (.int .i64 0), (.int .u32 0), (.int .u32 0), (.int .i64 0), (.int .i64 0), (.int .i64 0), (.string ⟨⟨[]⟩⟩)] []),oN (.store 8 τ6 τ58),oD 7 (.mv (.const (.string ⟨⟨[]⟩⟩))),oD 8 (.mv (.const (.int .i64 4)))]
def k81_25 : VC := .seq k81_24 .ret
def k81_26 : VC := .cond τ52 k81_25 .skip
def k81_27 : VC := .seq k81_23 k81_26
def k81_28 : VC := .cond τ48 k81_22 k81_27
def k81_29 : VC := .seq k81_20 k81_28
def k81_30 : VC := .block 1 k81_29
def k81_31 : VC := .reg [oM 59 τ0,oM 60 τ11,oD 61 (.callF 102 [τ59, τ60]),oD 13 (.alloc [(.int .i64 0), (.int .i64 0), (.int .u32 0), (.int .u32 0), (.int .i64 0), (.int .i64 0), (.int .i64 0), (.string ⟨⟨[]⟩⟩)]),oN (.store 8 τ13 τ61)]
def k81_32 : VC := .reg [oD 63 (.fieldA 7 τ13),oD 64 (.load1 .str τ63),oD 65 (.callF 91 [τ64]),oM 62 τ65,oE 66 0 τ62,oE 67 1 τ62,oM 14 τ66,oM 15 τ67]
def k81_33 : VC := .reg [oM 68 τ15,oD 69 (.bin .neq τ68 (.const (.int .i64 0)))]
def k81_34 : VC := .reg [oD 70 (.build [(.int .i64 0), (.int .i64 0), (.int .u32 0), (.int .u32 0), (.int .i64 0), (.int .i64 0), (.int .i64 0), (.string ⟨⟨[]⟩⟩)] []),oM 71 τ15,oN (.store 8 τ6 τ70),oD 7 (.mv (.const (.string ⟨⟨[]⟩⟩))),oM 8 τ71]
def k81_35 : VC := .seq k81_34 .ret
def k81_36 : VC := .cond τ69 k81_35 .skip
def k81_37 : VC := .seq k81_33 k81_36
def k81_38 : VC := .seq k81_32 k81_37
def k81_39 : VC := .regD [oD 72 (.loadN [(.int .i64), (.int .i64), (.int .u32), (.int .u32), (.int .i64), (.int .i64), (.int .i64), .str] τ13),oM 73 τ0,oM 74 τ11,oD 75 (.sliceS τ73 (some τ74) none),oN (.store 8 τ6 τ72)] [] [oM 7 τ75,oD 8 (.mv (.const (.int .i64 0)))]
def k81_40 : VC := .seq k81_39 .ret
def k81_41 : VC := .seq k81_38 k81_40
def k81_42 : VC := .seq k81_31 k81_41
def k81_43 : VC := .seq k81_30 k81_42
def k81_44 : VC := .seq k81_19 k81_43
def k81_45 : VC := .seq k81_18 k81_44
def k81_46 : VC := .seq k81_7 k81_45
def k81_47 : VC := .seq k81_6 k81_46
def k81_48 : VC := .seq k81_5 k81_47
def k81_49 : VC := .seq k81_0 k81_48
def fn81 : VFn := ⟨76, k81_49, [.cell 6 [(.int .i64), (.int .i64), (.int .u32), (.int .u32), (.int .i64), (.int .i64), (.int .i64), .str] true, .tmp 7, .tmp 8]⟩
def k46_0 : VC := .reg [oD 4 (.box τ0),oD 5 (.box τ1),oD 8 (.mv (.const (.string ⟨⟨[]⟩⟩)))]
def k46_1 : VC := .reg [oD 10 (.loadN [.bool, (.int .u64), (.int .u64)] τ4),oD 11 (.callF 50 [τ10]),oD 12 (.not τ11),oM 13 τ12,oG 14 (.loadN [.bool, (.int .u64), (.int .u64)] τ5) 13 false,oG 15 (.callF 50 [τ14]) 13 false,oG 16 (.not τ15) 13 false,oD 17 (.pick τ13 (.const (.bool true)) τ16),oM 18 τ17,oG 19 (.fieldA 0 τ4) 18 false,oG 20 (.load1 .bool τ19) 18 false,oG 21 (.fieldA 0 τ5) 18 false,oG 22 (.load1 .bool τ21) 18 false,oG 23 (.eqB true τ20 τ22) 18 false,oD 24 (.pick τ18 (.const (.bool true)) τ23)]
def k46_2 : VC := .reg [oD 8 (.mv (.const (.string ⟨⟨[]⟩⟩)))]
def k46_3 : VC := .seq k46_2 .ret
def k46_4 : VC := .cond τ24 k46_3 .skip
def k46_5 : VC := .seq k46_1 k46_4
def k46_6 : VC := .regD [oD 25 (.loadN [.bool, (.int .u64), (.int .u64)] τ4),oD 26 (.callF 74 [τ25]),oD 27 (.loadN [.bool, (.int .u64), (.int .u64)] τ5)] [(1, 2)] [oD 28 (.callF 74 [τ27]),oD 29 (.bin .add τ26 τ28),oM 9 τ29]
def k46_7 : VC := .reg [oD 30 (.fieldA 0 τ4),oD 31 (.load1 .bool τ30)]
def k46_8 : VC := .reg [oM 32 τ9,oM 33 τ3,oM 34 τ2,oD 35 (.buildSl 6 1 [(.int .i64 0), (.int .i64 0), (.int .i64 0), (.int .i64 0), (.int .i64 0), (.int .i64 0)] [(0, 1, τ33), (1, 1, (.const (.int .i64 4))), (2, 1, (.const (.int .i64 0))), (3, 1, (.const (.int .i64 3))), (4, 1, τ34), (5, 1, (.const (.int .i64 1)))]),oD 36 (.callF 75 [τ35]),oD 37 (.bin .add τ32 τ36),oM 8 τ37]
def k46_9 : VC := .seq k46_8 .ret
def k46_10 : VC := .cond τ31 k46_9 .skip
def k46_11 : VC := .seq k46_7 k46_10
def k46_12 : VC := .reg [oM 38 τ9,oM 39 τ2,oM 40 τ3,oD 41 (.buildSl 6 1 [(.int .i64 0), (.int .i64 0), (.int .i64 0), (.int .i64 0), (.int .i64 0), (.int .i64 0)] [(0, 1, (.const (.int .i64 0))), (1, 1, (.const (.int .i64 1))), (2, 1, τ39), (3, 1, (.const (.int .i64 1))), (4, 1, τ40), (5, 1, (.const (.int .i64 2)))]),oD 42 (.callF 75 [τ41]),oD 43 (.bin .add τ38 τ42),oM 8 τ43]
def k46_13 : VC := .seq k46_12 .ret
def k46_14 : VC := .seq k46_11 k46_13
def k46_15 : VC := .seq k46_6 k46_14
def k46_16 : VC := .seq k46_5 k46_15
def k46_17 : VC := .seq k46_0 k46_16
def fn46 : VFn := ⟨44, k46_17, [.tmp 8]⟩
def k50_0 : VC := .reg [oD 1 (.box τ0),oD 2 (.mv (.const (.bool false)))]
def k50_1 : VC := .reg [oD 3 (.fieldA 0 τ1),oD 4 (.load1 .bool τ3),oM 5 τ4,oG 6 (.fieldA 1 τ1) 5 false,oG 7 (.load1 (.int .u64) τ6) 5 false,oG 8 (.bin .eql τ7 (.const (.int .u64 0))) 5 false,oG 9 (.mv τ8) 5 false,oG 10 (.fieldA 2 τ1) 9 true,oG 11 (.load1 (.int .u64) τ10) 9 true,oG 12 (.bin .lss τ11 (.const (.int .u64 4294967296))) 9 true,oG 13 (.pick τ9 τ12 (.const (.bool false))) 5 false,oD 14 (.pick τ5 (.const (.bool true)) τ13),oM 2 τ14]
def k50_2 : VC := .seq k50_1 .ret
def k50_3 : VC := .seq k50_0 k50_2
def fn50 : VFn := ⟨15, k50_3, [.tmp 2]⟩
def k74_0 : VC := .reg [oD 1 (.box τ0),oD 2 (.mv (.const (.string ⟨⟨[]⟩⟩)))]
def k74_1 : VC := .reg [oD 4 (.loadN [.bool, (.int .u64), (.int .u64)] τ1),oD 5 (.callF 50 [τ4]),oD 6 (.not τ5),oM 3 τ6]
def k74_2 : VC := .reg [oD 2 (.mv (.const (.string ⟨⟨[]⟩⟩)))]
def k74_3 : VC := .seq k74_2 .ret
def k74_4 : VC := .reg [oD 8 (.fieldA 0 τ1),oD 9 (.load1 .bool τ8),oM 7 τ9]
def k74_5 : VC := .regD [oD 10 (.fieldA 1 τ1),oD 11 (.load1 (.int .u64) τ10),oD 12 (.callF 44 [τ11, (.const (.int .i64 8))]),oD 13 (.fieldA 2 τ1),oD 14 (.load1 (.int .u64) τ13)] [(2, 4)] [oD 15 (.callF 44 [τ14, (.const (.int .i64 8))]),oD 16 (.bin .add τ12 τ15),oM 2 τ16]
def k74_6 : VC := .seq k74_5 .ret
def k74_7 : VC := .cond τ7 k74_6 .skip
def k74_8 : VC := .seq k74_4 k74_7
def k74_9 : VC := .cond τ3 k74_3 k74_8
def k74_10 : VC := .seq k74_1 k74_9
def k74_11 : VC := .block 0 k74_10
def k74_12 : VC := .reg [oD 17 (.fieldA 2 τ1),oD 18 (.load1 (.int .u64) τ17),oD 19 (.callF 44 [τ18, (.const (.int .i64 4))]),oM 2 τ19]
def k74_13 : VC := .seq k74_12 .ret
def k74_14 : VC := .seq k74_11 k74_13
def k74_15 : VC := .seq k74_0 k74_14
def fn74 : VFn := ⟨20, k74_15, [.tmp 2]⟩
def k44_0 : VC := .reg [oD 4 (.mv (.const (.string ⟨⟨[]⟩⟩)))]
def k44_1 : VC := .reg [oM 7 τ1,oD 8 (.bin .lss τ7 (.const (.int .i64 1))),oM 9 τ8,oG 10 (.mv τ1) 9 false,oG 11 (.bin .gtr τ10 (.const (.int .i64 8))) 9 false,oD 12 (.pick τ9 (.const (.bool true)) τ11)]
def k44_2 : VC := .reg [oD 4 (.mv (.const (.string ⟨⟨[]⟩⟩)))]
def k44_3 : VC := .seq k44_2 .ret
def k44_4 : VC := .cond τ12 k44_3 .skip
def k44_5 : VC := .seq k44_1 k44_4
def k44_6 : VC := .reg [oM 13 τ1,oD 14 (.mkSl 1 1 [(.int .u8 0)] τ13 τ13),oM 5 τ14]
def k44_7 : VC := .reg [oM 15 τ5,oD 16 (.lenL τ15),oD 17 (.mv (.const (.int .i64 0)))]
def k44_8 : VC := .reg [oD 18 (.bin .lss τ17 τ16)]
def k44_9 : VC := .cond τ18 .skip (.exit 0)
def k44_10 : VC := .reg [oM 19 τ17,oM 6 τ19]
def k44_11 : VC := .reg [oM 20 τ5,oM 21 τ6,oM 22 τ0,oM 23 τ1,oD 24 (.bin .sub τ23 (.const (.int .i64 1))),oM 25 τ6,oD 26 (.bin .sub τ24 τ25),oD 27 (.bin .mul (.const (.int .i64 8)) τ26),oD 28 (.bin .shr τ22 τ27),oD 29 (.conv .u8 τ28),oD 30 (.idxAL 1 τ20 τ21),oN (.store 1 τ30 τ29)]
def k44_12 : VC := .seq k44_10 k44_11
def k44_13 : VC := .block 1 k44_12
def k44_14 : VC := .reg [oD 31 (.bin .add τ17 (.const (.int .i64 1))),oM 17 τ31]
def k44_15 : VC := .seq k44_13 k44_14
def k44_16 : VC := .seq k44_9 k44_15
def k44_17 : VC := .seq k44_8 k44_16
def k44_18 : VC := .loop k44_17
def k44_19 : VC := .block 0 k44_18
def k44_20 : VC := .seq k44_7 k44_19
def k44_21 : VC := .reg [oM 32 τ5,oD 33 (.b2s τ32),oM 4 τ33]
def k44_22 : VC := .seq k44_21 .ret
def k44_23 : VC := .seq k44_20 k44_22
def k44_24 : VC := .seq k44_6 k44_23
def k44_25 : VC := .seq k44_5 k44_24
def k44_26 : VC := .seq k44_0 k44_25
def fn44 : VFn := ⟨34, k44_26, [.tmp 4]⟩
def k75_0 : VC := .reg [oD 2 (.mv (.const (.string ⟨⟨[]⟩⟩)))]
def k75_1 : VC := .reg [oD 3 (.allocB 103 5)]
def k75_2 : VC := .reg [oD 4 (.mv (.const (.int .i64 0)))]
def k75_3 : VC := .reg [oM 5 τ4,oD 6 (.bin .add τ5 (.const (.int .i64 1))),oM 7 τ0,oD 8 (.lenL τ7),oD 9 (.bin .lss τ6 τ8)]
def k75_4 : VC := .cond τ9 .skip (.exit 0)
def k75_5 : VC := .seq k75_3 k75_4
def k75_6 : VC := .regD [oM 12 τ0,oM 13 τ4,oD 14 (.idxAL 1 τ12 τ13),oD 15 (.load1 (.int .i64) τ14),oD 16 (.conv .u64 τ15),oM 17 τ0,oM 18 τ4,oD 19 (.bin .add τ18 (.const (.int .i64 1))),oD 20 (.idxAL 1 τ17 τ19),oD 21 (.load1 (.int .i64) τ20)] [] [oD 22 (.callF 44 [τ16, τ21]),oD 23 (.callF 57 [τ3, τ22])]
def k75_7 : VC := .block 1 k75_6
def k75_8 : VC := .reg [oM 10 τ4,oD 11 (.bin .add τ10 (.const (.int .i64 2))),oM 4 τ11]
def k75_9 : VC := .seq k75_7 k75_8
def k75_10 : VC := .seq k75_5 k75_9
def k75_11 : VC := .loop k75_10
def k75_12 : VC := .block 0 k75_11
def k75_13 : VC := .seq k75_2 k75_12
def k75_14 : VC := .reg [oD 24 (.callF 58 [τ3]),oM 2 τ24]
def k75_15 : VC := .seq k75_14 .ret
def k75_16 : VC := .seq k75_13 k75_15
def k75_17 : VC := .seq k75_1 k75_16
def k75_18 : VC := .seq k75_0 k75_17
def fn75 : VFn := ⟨25, k75_18, [.tmp 2]⟩
def k57_0 : VC := .reg [oD 4 (.mv (.const (.int .i64 0))),oM 5 (.const .nilIface)]
def k57_1 : VC := .reg [oM 6 τ0,oD 7 (.callF 84 [τ6])]
def k57_2 : VC := .reg [oM 8 τ0,oM 9 τ0,oD 10 (.nilCheck τ9),oD 11 (.fieldA 1 τ10),oD 12 (.load1 .oth τ11),oM 13 τ1,oD 14 (.app 5 1 1 τ12 τ13),oD 15 (.nilCheck τ8),oD 16 (.fieldA 1 τ15),oN (.store 1 τ16 τ14)]
def k57_3 : VC := .reg [oM 17 τ1,oD 18 (.lenS τ17),oM 4 τ18,oM 5 (.const .nilIface)]
def k57_4 : VC := .seq k57_3 .ret
def k57_5 : VC := .seq k57_2 k57_4
def k57_6 : VC := .seq k57_1 k57_5
def k57_7 : VC := .seq k57_0 k57_6
def fn57 : VFn := ⟨19, k57_7, [.tmp 4, .tmp 5]⟩
def k84_0 : VC := .reg [oM 2 τ0,oD 3 (.nilCheck τ2),oD 4 (.fieldA 0 τ3),oD 5 (.load1 .oth τ4),oD 6 (.isNil 0 false τ5)]
def k84_1 : VC := .reg [oM 7 τ0,oM 8 τ0,oD 9 (.toU τ8),oM 10 τ9,oD 11 (.ofU 103 2 τ10),oD 12 (.nilCheck τ7),oD 13 (.fieldA 0 τ12),oN (.store 1 τ13 τ11)]
def k84_2 : VC := .reg [oM 14 τ0,oD 15 (.nilCheck τ14),oD 16 (.fieldA 0 τ15),oD 17 (.load1 .oth τ16),oM 18 τ0,oD 19 (.eqP true τ17 τ18)]
def k84_3 : VC := .cond τ19 .stuck .skip
def k84_4 : VC := .seq k84_2 k84_3
def k84_5 : VC := .cond τ6 k84_1 k84_4
def k84_6 : VC := .seq k84_0 k84_5
def fn84 : VFn := ⟨20, k84_6, []⟩
def k58_0 : VC := .reg [oD 2 (.mv (.const (.string ⟨⟨[]⟩⟩)))]
def k58_1 : VC := .regD [oM 3 τ0,oD 4 (.nilCheck τ3),oD 5 (.fieldA 1 τ4),oD 6 (.load1 .oth τ5),oD 7 (.sdata τ6),oM 8 τ0,oD 9 (.nilCheck τ8),oD 10 (.fieldA 1 τ9),oD 11 (.load1 .oth τ10),oD 12 (.lenL τ11)] [] [oD 13 (.ustr 5 τ7 τ12),oM 2 τ13]
def k58_2 : VC := .seq k58_1 .ret
def k58_3 : VC := .seq k58_0 k58_2
def fn58 : VFn := ⟨14, k58_3, [.tmp 2]⟩
def k102_0 : VC := .reg [oD 4 (.alloc [(.int .i64 0), (.int .i64 0), (.int .u32 0), (.int .u32 0), (.int .i64 0), (.int .i64 0), (.int .i64 0), (.string ⟨⟨[]⟩⟩)])]
def k102_1 : VC := .reg [oM 7 τ0,oD 8 (.callF 103 [τ7]),oM 5 τ8]
def k102_2 : VC := .reg [oM 9 τ5,oD 10 (.callF 104 [τ9, (.const (.int .i64 2))]),oM 11 τ5,oD 12 (.callF 104 [τ11, (.const (.int .i64 2))]),oM 13 τ5,oD 14 (.callF 104 [τ13, (.const (.int .i64 4))]),oD 15 (.conv .u32 τ14),oM 16 τ5,oD 17 (.callF 104 [τ16, (.const (.int .i64 4))]),oD 18 (.conv .u32 τ17),oD 19 (.build [(.int .i64 0), (.int .i64 0), (.int .u32 0), (.int .u32 0), (.int .i64 0), (.int .i64 0), (.int .i64 0), (.string ⟨⟨[]⟩⟩)] [(0, 1, τ10), (1, 1, τ12), (2, 1, τ15), (3, 1, τ18)]),oD 6 (.alloc [(.int .i64 0), (.int .i64 0), (.int .u32 0), (.int .u32 0), (.int .i64 0), (.int .i64 0), (.int .i64 0), (.string ⟨⟨[]⟩⟩)]),oN (.store 8 τ6 τ19)]
def k102_3 : VC := .reg [oM 20 τ5,oD 21 (.callF 104 [τ20, (.const (.int .i64 2))]),oD 22 (.bin .and τ21 (.const (.int .i64 255))),oD 23 (.fieldA 4 τ6),oN (.store 1 τ23 τ22)]
def k102_4 : VC := .reg [oM 24 τ5,oD 25 (.callF 104 [τ24, (.const (.int .i64 2))]),oD 26 (.fieldA 5 τ6),oN (.store 1 τ26 τ25)]
def k102_5 : VC := .reg [oM 27 τ5,oD 28 (.callF 104 [τ27, (.const (.int .i64 2))])]
def k102_6 : VC := .reg [oM 29 τ5,oD 30 (.callF 104 [τ29, (.const (.int .i64 2))]),oD 31 (.fieldA 6 τ6),oN (.store 1 τ31 τ30)]
def k102_7 : VC := .reg [oM 32 τ5,oM 33 τ1,oD 34 (.bin .sub τ33 (.const (.int .i64 20))),oD 35 (.callF 106 [τ32, τ34]),oD 36 (.fieldA 7 τ6),oN (.store 1 τ36 τ35)]
def k102_8 : VC := .reg [oD 37 (.loadN [(.int .i64), (.int .i64), (.int .u32), (.int .u32), (.int .i64), (.int .i64), (.int .i64), .str] τ6),oN (.store 8 τ4 τ37)]
def k102_9 : VC := .seq k102_8 .ret
def k102_10 : VC := .seq k102_7 k102_9
def k102_11 : VC := .seq k102_6 k102_10
def k102_12 : VC := .seq k102_5 k102_11
def k102_13 : VC := .seq k102_4 k102_12
def k102_14 : VC := .seq k102_3 k102_13
def k102_15 : VC := .seq k102_2 k102_14
def k102_16 : VC := .seq k102_1 k102_15
def k102_17 : VC := .seq k102_0 k102_16
def fn102 : VFn := ⟨38, k102_17, [.cell 4 [(.int .i64), (.int .i64), (.int .u32), (.int .u32), (.int .i64), (.int .i64), (.int .i64), .str] true]⟩
def k91_0 : VC := .reg [oD 2 (.alloc [(.slice none 0 0)]),oD 3 (.alloc [(.int .i64 0)])]
def k91_1 : VC := .reg [oD 4 (.alloc [(.slice none 0 0)])]
def k91_2 : VC := .reg [oM 6 τ0,oD 7 (.callF 92 [τ6])]
def k91_3 : VC := .reg [oD 5 (.alloc [(.int .i64 0), (.string ⟨⟨[]⟩⟩), (.int .i64 0)]),oN (.store 3 τ5 τ8)]
def k91_4 : VC := .reg [oD 9 (.fieldA 2 τ5),oD 10 (.load1 (.int .i64) τ9),oD 11 (.bin .lss τ10 (.const (.int .i64 0)))]
def k91_5 : VC := .reg [oN (.store 1 τ2 (.const (.slice none 0 0))),oN (.store 1 τ3 (.const (.int .i64 3)))]
def k91_6 : VC := .seq k91_5 .ret
def k91_7 : VC := .cond τ11 k91_6 .skip
def k91_8 : VC := .seq k91_4 k91_7
def k91_9 : VC := .reg [oD 12 (.load1 .oth τ4),oD 13 (.fieldA 0 τ5),oD 14 (.loadN [(.int .i64), .str] τ13),oD 15 (.buildSl 1 2 [(.int .i64 0), (.string ⟨⟨[]⟩⟩)] [(0, 2, τ14)]),oD 16 (.app 153 2 24 τ12 τ15),oN (.store 1 τ4 τ16)]
def k91_10 : VC := .seq k91_8 k91_9
def k91_11 : VC := .block 1 k91_10
def k91_12 : VC := .rangeF τ7 [8] k91_3 k91_11
def k91_13 : VC := .block 0 k91_12
def k91_14 : VC := .seq k91_2 k91_13
def k91_15 : VC := .reg [oD 17 (.load1 .oth τ4),oN (.store 1 τ2 τ17),oN (.store 1 τ3 (.const (.int .i64 0)))]
def k91_16 : VC := .seq k91_15 .ret
def k91_17 : VC := .seq k91_14 k91_16
def k91_18 : VC := .seq k91_1 k91_17
def k91_19 : VC := .seq k91_0 k91_18
def fn91 : VFn := ⟨18, k91_19, [.cell 2 [.oth] false, .cell 3 [(.int .i64)] false]⟩
def k92_0 : VC := .reg [oD 1 (.box τ0),oM 2 (.const .nilFunc)]
def k92_1 : VC := .reg [oD 3 (.mkFunc 114 [] [τ1]),oM 2 τ3]
def k92_2 : VC := .seq k92_1 .ret
def k92_3 : VC := .seq k92_0 k92_2
def fn92 : VFn := ⟨4, k92_3, [.tmp 2]⟩
def k114_0 : VC := .reg [oD 3 (.mv (.const (.int .i64 0)))]
def k114_1 : VC := .reg [oM 5 τ3,oD 6 (.load1 .str τ1),oD 7 (.lenS τ6),oD 8 (.bin .lss τ5 τ7)]
def k114_2 : VC := .cond τ8 .skip (.exit 0)
def k114_3 : VC := .seq k114_1 k114_2
def k114_4 : VC := .reg [oD 9 (.load1 .str τ1),oM 10 τ3,oD 11 (.idxS τ9 τ10)]
def k114_5 : VC := .reg [oD 13 (.bin .eql τ11 (.const (.int .u8 0))),oM 12 τ13]
def k114_6 : VC := .reg [oD 15 (.bin .eql τ11 (.const (.int .u8 1))),oM 14 τ15]
def k114_7 : VC := .reg [oM 16 τ3,oD 17 (.bin .add τ16 (.const (.int .i64 1))),oM 3 τ17]
def k114_8 : VC := .seq k114_7 (.exit 1)
def k114_9 : VC := .cond τ14 k114_8 .skip
def k114_10 : VC := .seq k114_6 k114_9
def k114_11 : VC := .cond τ12 .ret k114_10
def k114_12 : VC := .seq k114_5 k114_11
def k114_13 : VC := .block 2 k114_12
def k114_14 : VC := .seq k114_4 k114_13
def k114_15 : VC := .reg [oD 4 (.mv (.const (.int .i64 0)))]
def k114_16 : VC := .reg [oM 18 τ3,oD 19 (.bin .add τ18 (.const (.int .i64 1))),oD 20 (.load1 .str τ1),oD 21 (.lenS τ20),oD 22 (.bin .lss τ19 τ21)]
def k114_17 : VC := .reg [oD 23 (.load1 .str τ1),oM 24 τ3,oD 25 (.bin .add τ24 (.const (.int .i64 1))),oD 26 (.idxS τ23 τ25),oD 27 (.conv .i64 τ26),oM 4 τ27]
def k114_18 : VC := .cond τ22 k114_17 .skip
def k114_19 : VC := .seq k114_16 k114_18
def k114_20 : VC := .reg [oM 28 τ4,oD 29 (.bin .lss τ28 (.const (.int .i64 2))),oM 30 τ29,oG 31 (.mv τ4) 30 false,oG 32 (.load1 .str τ1) 30 false,oG 33 (.lenS τ32) 30 false,oG 34 (.mv τ3) 30 false,oG 35 (.bin .sub τ33 τ34) 30 false,oG 36 (.bin .gtr τ31 τ35) 30 false,oD 37 (.pick τ30 (.const (.bool true)) τ36)]
def k114_21 : VC := .reg [oM 38 τ0,oD 39 (.build [(.int .i64 0), (.string ⟨⟨[]⟩⟩), (.int .i64 0)] [(2, 1, (.const (.int .i64 (-1))))]),oD 40 (.callV τ38 [τ39])]
def k114_22 : VC := .seq k114_21 .ret
def k114_23 : VC := .cond τ37 k114_22 .skip
def k114_24 : VC := .seq k114_20 k114_23
def k114_25 : VC := .regD [oM 41 τ0,oD 42 (.load1 .str τ1),oM 43 τ3,oD 44 (.idxS τ42 τ43),oD 45 (.conv .i64 τ44),oD 46 (.load1 .str τ1),oM 47 τ3,oD 48 (.bin .add τ47 (.const (.int .i64 2))),oM 49 τ3,oM 50 τ4,oD 51 (.bin .add τ49 τ50),oD 52 (.sliceS τ46 (some τ48) (some τ51)),oD 53 (.build [(.int .i64 0), (.string ⟨⟨[]⟩⟩)] [(0, 1, τ45), (1, 1, τ52)]),oM 54 τ3,oD 55 (.bin .add τ54 (.const (.int .i64 2))),oD 56 (.build [(.int .i64 0), (.string ⟨⟨[]⟩⟩), (.int .i64 0)] [(0, 2, τ53), (2, 1, τ55)])] [] [oD 57 (.callV τ41 [τ56]),oD 58 (.not τ57)]
def k114_26 : VC := .cond τ58 .ret .skip
def k114_27 : VC := .seq k114_25 k114_26
def k114_28 : VC := .reg [oM 59 τ3,oM 60 τ4,oD 61 (.bin .add τ59 τ60),oM 3 τ61]
def k114_29 : VC := .seq k114_27 k114_28
def k114_30 : VC := .seq k114_24 k114_29
def k114_31 : VC := .seq k114_19 k114_30
def k114_32 : VC := .seq k114_15 k114_31
def k114_33 : VC := .seq k114_14 k114_32
def k114_34 : VC := .block 1 k114_33
def k114_35 : VC := .seq k114_3 k114_34
def k114_36 : VC := .loop k114_35
def k114_37 : VC := .block 0 k114_36
def k114_38 : VC := .seq k114_0 k114_37
def fn114 : VFn := ⟨62, k114_38, []⟩
def k64_0 : VC := .reg [oD 2 (.alloc [(.int .u32 0)]),oD 3 (.alloc [(.int .u32 0)]),oD 4 (.alloc [(.int .i64 0)])]
def k64_1 : VC := .reg [oM 11 τ0,oD 12 (.callF 91 [τ11]),oM 10 τ12,oE 13 0 τ10,oE 14 1 τ10,oM 5 τ13,oM 6 τ14]
def k64_2 : VC := .reg [oM 15 τ6,oD 16 (.bin .neq τ15 (.const (.int .i64 0)))]
def k64_3 : VC := .reg [oN (.store 1 τ2 (.const (.int .u32 0))),oN (.store 1 τ3 (.const (.int .u32 0))),oN (.store 1 τ4 (.const (.int .i64 (-1))))]
def k64_4 : VC := .seq k64_3 .ret
def k64_5 : VC := .cond τ16 k64_4 .skip
def k64_6 : VC := .seq k64_2 k64_5
def k64_7 : VC := .seq k64_1 k64_6
def k64_8 : VC := .reg [oM 17 τ0,oD 18 (.callF 92 [τ17])]
def k64_9 : VC := .reg [oD 7 (.alloc [(.int .i64 0), (.string ⟨⟨[]⟩⟩), (.int .i64 0)]),oN (.store 3 τ7 τ19)]
def k64_10 : VC := .reg [oD 20 (.fieldA 0 τ7),oD 21 (.fieldA 0 τ20),oD 22 (.load1 (.int .i64) τ21),oD 23 (.bin .neq τ22 (.const (.int .i64 8)))]
def k64_11 : VC := .cond τ23 (.exit 1) .skip
def k64_12 : VC := .seq k64_10 k64_11
def k64_13 : VC := .reg [oD 25 (.fieldA 0 τ7),oD 26 (.fieldA 1 τ25),oD 27 (.load1 .str τ26),oD 28 (.callF 25 [τ27, (.const (.int .i64 0)), (.const (.int .i64 8))]),oM 24 τ28,oE 29 0 τ24,oE 30 1 τ24,oM 8 τ29,oM 9 τ30]
def k64_14 : VC := .reg [oM 31 τ9,oM 32 τ31,oG 33 (.fieldA 0 τ7) 32 true,oG 34 (.fieldA 1 τ33) 32 true,oG 35 (.load1 .str τ34) 32 true,oG 36 (.lenS τ35) 32 true,oG 37 (.bin .eql τ36 (.const (.int .i64 8))) 32 true,oD 38 (.pick τ32 τ37 (.const (.bool false)))]
def k64_15 : VC := .regD [oM 39 τ8,oD 40 (.bin .shr τ39 (.const (.int .u64 32))),oD 41 (.conv .u32 τ40),oM 42 τ8,oD 43 (.conv .u32 τ42),oD 44 (.fieldA 2 τ7),oD 45 (.load1 (.int .i64) τ44),oN (.store 1 τ2 τ41),oN (.store 1 τ3 τ43)] [(6, 7), (6, 8)] [oN (.store 1 τ4 τ45)]
def k64_16 : VC := .seq k64_15 .ret
def k64_17 : VC := .cond τ38 k64_16 .skip
def k64_18 : VC := .seq k64_14 k64_17
def k64_19 : VC := .seq k64_13 k64_18
def k64_20 : VC := .seq k64_19 (.exit 0)
def k64_21 : VC := .seq k64_12 k64_20
def k64_22 : VC := .block 1 k64_21
def k64_23 : VC := .rangeF τ18 [19] k64_9 k64_22
def k64_24 : VC := .block 0 k64_23
def k64_25 : VC := .seq k64_8 k64_24
def k64_26 : VC := .reg [oN (.store 1 τ2 (.const (.int .u32 0))),oN (.store 1 τ3 (.const (.int .u32 0))),oN (.store 1 τ4 (.const (.int .i64 (-1))))]
def k64_27 : VC := .seq k64_26 .ret
def k64_28 : VC := .seq k64_25 k64_27
def k64_29 : VC := .seq k64_7 k64_28
def k64_30 : VC := .seq k64_0 k64_29
def fn64 : VFn := ⟨46, k64_30, [.cell 2 [(.int .u32)] false, .cell 3 [(.int .u32)] false, .cell 4 [(.int .i64)] false]⟩
def k55_0 : VC := .reg [oD 2 (.box τ0),oD 4 (.mv (.const (.int .i64 0))),oD 5 (.mv (.const (.int .i64 0)))]
def k55_1 : VC := .reg [oD 12 (.fieldA 7 τ2),oD 13 (.load1 .str τ12),oD 14 (.fieldA 0 τ2),oD 15 (.loadN [.bool, (.int .u64), (.int .u64)] τ14),oD 16 (.fieldA 3 τ2),oD 17 (.loadN [.bool, (.int .u64), (.int .u64)] τ16),oD 18 (.callF 82 [τ13, τ15, τ17]),oM 11 τ18,oE 19 0 τ11,oE 20 1 τ11,oE 21 2 τ11,oD 6 (.alloc [(.int .i64 0), (.int .i64 0)]),oN (.store 2 τ6 τ19),oM 7 τ20,oM 8 τ21]
def k55_2 : VC := .reg [oM 23 τ8,oD 24 (.bin .neq τ23 (.const (.int .i64 0))),oM 22 τ24]
def k55_3 : VC := .reg [oM 25 τ8,oD 4 (.mv (.const (.int .i64 0))),oM 5 τ25]
def k55_4 : VC := .seq k55_3 .ret
def k55_5 : VC := .reg [oM 27 τ7,oD 28 (.lenS τ27),oD 29 (.fieldA 7 τ2),oD 30 (.load1 .str τ29),oD 31 (.lenS τ30),oD 32 (.bin .sub τ31 (.const (.int .i64 8))),oD 33 (.bin .neq τ28 τ32),oM 26 τ33]
def k55_6 : VC := .reg [oD 4 (.mv (.const (.int .i64 0))),oD 5 (.mv (.const (.int .i64 5)))]
def k55_7 : VC := .seq k55_6 .ret
def k55_8 : VC := .cond τ26 k55_7 .skip
def k55_9 : VC := .seq k55_5 k55_8
def k55_10 : VC := .cond τ22 k55_4 k55_9
def k55_11 : VC := .seq k55_2 k55_10
def k55_12 : VC := .block 0 k55_11
def k55_13 : VC := .regD [oM 34 τ1,oM 35 τ1,oD 36 (.fieldA 0 τ6),oD 37 (.load1 (.int .i64) τ36),oD 38 (.fieldA 1 τ6),oD 39 (.load1 (.int .i64) τ38),oD 40 (.nilCheck τ34),oD 41 (.fieldA 0 τ40),oD 42 (.fieldA 7 τ41),oN (.store 1 τ42 τ37)] [(5, 9)] [oD 43 (.nilCheck τ35),oD 44 (.fieldA 0 τ43),oD 45 (.fieldA 8 τ44),oN (.store 1 τ45 τ39)]
def k55_14 : VC := .reg [oM 47 τ7,oD 48 (.callF 83 [τ47]),oM 46 τ48,oE 49 0 τ46,oE 50 1 τ46,oD 9 (.alloc [(.bool false), (.int .i64 0), (.int .u32 0), (.string ⟨⟨[]⟩⟩), (.string ⟨⟨[]⟩⟩), (.string ⟨⟨[]⟩⟩)]),oN (.store 6 τ9 τ49),oM 10 τ50]
def k55_15 : VC := .reg [oM 51 τ10,oD 52 (.bin .eql τ51 (.const (.int .i64 0)))]
def k55_16 : VC := .regD [oM 53 τ1,oM 54 τ1,oD 55 (.fieldA 0 τ9),oD 56 (.load1 .bool τ55),oD 57 (.fieldA 3 τ9),oD 58 (.load1 .str τ57),oD 59 (.nilCheck τ53),oD 60 (.fieldA 13 τ59),oN (.store 1 τ60 τ56)] [(5, 8)] [oD 61 (.nilCheck τ54),oD 62 (.fieldA 14 τ61),oN (.store 1 τ62 τ58)]
def k55_17 : VC := .cond τ52 k55_16 .skip
def k55_18 : VC := .seq k55_15 k55_17
def k55_19 : VC := .seq k55_14 k55_18
def k55_20 : VC := .reg [oM 63 τ7,oD 64 (.lenS τ63),oM 4 τ64,oD 5 (.mv (.const (.int .i64 0)))]
def k55_21 : VC := .seq k55_20 .ret
def k55_22 : VC := .seq k55_19 k55_21
def k55_23 : VC := .seq k55_13 k55_22
def k55_24 : VC := .seq k55_12 k55_23
def k55_25 : VC := .seq k55_1 k55_24
def k55_26 : VC := .seq k55_0 k55_25
def fn55 : VFn := ⟨65, k55_26, [.tmp 4, .tmp 5]⟩
def k82_0 : VC := .reg [oD 4 (.box τ1),oD 5 (.box τ2),oD 6 (.alloc [(.int .i64 0), (.int .i64 0)]),oD 7 (.mv (.const (.string ⟨⟨[]⟩⟩))),oD 8 (.mv (.const (.int .i64 0)))]
def k82_1 : VC := .reg [oM 14 τ0,oD 15 (.callF 103 [τ14]),oM 9 τ15]
def k82_2 : VC := .reg [oM 16 τ9,oD 17 (.callF 104 [τ16, (.const (.int .i64 2))]),oM 18 τ9,oD 19 (.callF 104 [τ18, (.const (.int .i64 2))]),oD 20 (.build [(.int .i64 0), (.int .i64 0)] [(0, 1, τ17), (1, 1, τ19)]),oD 10 (.alloc [(.int .i64 0), (.int .i64 0)]),oN (.store 2 τ10 τ20)]
def k82_3 : VC := .reg [oM 21 τ9,oD 22 (.callF 104 [τ21, (.const (.int .i64 2))]),oM 23 τ9,oD 24 (.callF 104 [τ23, (.const (.int .i64 2))]),oM 11 τ22,oM 12 τ24]
def k82_4 : VC := .reg [oM 26 τ9,oD 27 (.callF 105 [τ26]),oM 25 τ27]
def k82_5 : VC := .reg [oD 28 (.build [(.int .i64 0), (.int .i64 0)] []),oN (.store 2 τ6 τ28),oD 7 (.mv (.const (.string ⟨⟨[]⟩⟩))),oD 8 (.mv (.const (.int .i64 2)))]
def k82_6 : VC := .seq k82_5 .ret
def k82_7 : VC := .reg [oM 30 τ11,oD 31 (.bin .lss τ30 (.const (.int .i64 8))),oM 29 τ31]
def k82_8 : VC := .reg [oD 32 (.build [(.int .i64 0), (.int .i64 0)] []),oN (.store 2 τ6 τ32),oD 7 (.mv (.const (.string ⟨⟨[]⟩⟩))),oD 8 (.mv (.const (.int .i64 3)))]
def k82_9 : VC := .seq k82_8 .ret
def k82_10 : VC := .reg [oM 34 τ11,oM 35 τ0,oD 36 (.lenS τ35),oD 37 (.bin .gtr τ34 τ36),oM 33 τ37]
def k82_11 : VC := .reg [oD 38 (.build [(.int .i64 0), (.int .i64 0)] []),oN (.store 2 τ6 τ38),oD 7 (.mv (.const (.string ⟨⟨[]⟩⟩))),oD 8 (.mv (.const (.int .i64 2)))]
def k82_12 : VC := .seq k82_11 .ret
def k82_13 : VC := .cond τ33 k82_12 .skip
def k82_14 : VC := .seq k82_10 k82_13
def k82_15 : VC := .cond τ29 k82_9 k82_14
def k82_16 : VC := .seq k82_7 k82_15
def k82_17 : VC := .cond τ25 k82_6 k82_16
def k82_18 : VC := .seq k82_4 k82_17
def k82_19 : VC := .block 0 k82_18
def k82_20 : VC := .reg [oD 39 (.loadN [.bool, (.int .u64), (.int .u64)] τ4),oD 40 (.loadN [.bool, (.int .u64), (.int .u64)] τ5),oM 41 τ11,oD 42 (.callF 46 [τ39, τ40, (.const (.int .i64 17)), τ41]),oM 13 τ42]
def k82_21 : VC := .reg [oM 44 τ13,oD 45 (.bin .eql τ44 (.const (.string ⟨⟨[]⟩⟩))),oM 43 τ45]
def k82_22 : VC := .reg [oD 46 (.build [(.int .i64 0), (.int .i64 0)] []),oN (.store 2 τ6 τ46),oD 7 (.mv (.const (.string ⟨⟨[]⟩⟩))),oD 8 (.mv (.const (.int .i64 1)))]
def k82_23 : VC := .seq k82_22 .ret
def k82_24 : VC := .reg [oM 48 τ12,oD 49 (.bin .eql τ48 (.const (.int .i64 0))),oM 50 τ49,oG 51 (.fieldA 0 τ4) 50 true,oG 52 (.load1 .bool τ51) 50 true,oD 53 (.pick τ50 τ52 (.const (.bool false))),oM 47 τ53]
def k82_25 : VC := .reg [oM 54 τ12,oD 55 (.bin .neq τ54 (.const (.int .i64 0))),oM 56 τ55,oG 57 (.mv τ13) 56 true,oG 58 (.mv τ0) 56 true,oG 59 (.mv τ11) 56 true,oG 60 (.sliceS τ58 none (some τ59)) 56 true,oG 61 (.bin .add τ57 τ60) 56 true,oG 62 (.callF 101 [τ61]) 56 true,oG 63 (.not τ62) 56 true,oD 64 (.pick τ56 τ63 (.const (.bool false))),oM 47 τ64]
def k82_26 : VC := .cond τ47 .skip k82_25
def k82_27 : VC := .seq k82_24 k82_26
def k82_28 : VC := .reg [oD 65 (.build [(.int .i64 0), (.int .i64 0)] []),oN (.store 2 τ6 τ65),oD 7 (.mv (.const (.string ⟨⟨[]⟩⟩))),oD 8 (.mv (.const (.int .i64 4)))]
def k82_29 : VC := .seq k82_28 .ret
def k82_30 : VC := .cond τ47 k82_29 .skip
def k82_31 : VC := .seq k82_27 k82_30
def k82_32 : VC := .cond τ43 k82_23 k82_31
def k82_33 : VC := .seq k82_21 k82_32
def k82_34 : VC := .block 1 k82_33
def k82_35 : VC := .regD [oD 66 (.loadN [(.int .i64), (.int .i64)] τ10),oM 67 τ0,oM 68 τ11,oD 69 (.sliceS τ67 (some (.const (.int .i64 8))) (some τ68)),oN (.store 2 τ6 τ66)] [] [oM 7 τ69,oD 8 (.mv (.const (.int .i64 0)))]
def k82_36 : VC := .seq k82_35 .ret
def k82_37 : VC := .seq k82_34 k82_36
def k82_38 : VC := .seq k82_20 k82_37
def k82_39 : VC := .seq k82_19 k82_38
def k82_40 : VC := .seq k82_3 k82_39
def k82_41 : VC := .seq k82_2 k82_40
def k82_42 : VC := .seq k82_1 k82_41
def k82_43 : VC := .seq k82_0 k82_42
def fn82 : VFn := ⟨70, k82_43, [.cell 6 [(.int .i64), (.int .i64)] true, .tmp 7, .tmp 8]⟩
def k83_0 : VC := .reg [oD 2 (.alloc [(.bool false), (.int .i64 0), (.int .u32 0), (.string ⟨⟨[]⟩⟩), (.string ⟨⟨[]⟩⟩), (.string ⟨⟨[]⟩⟩)]),oD 3 (.mv (.const (.int .i64 0)))]
def k83_1 : VC := .reg [oM 9 τ0,oD 10 (.callF 103 [τ9]),oM 4 τ10]
def k83_2 : VC := .reg [oM 11 τ4,oD 12 (.callF 104 [τ11, (.const (.int .i64 1))]),oM 5 τ12]
def k83_3 : VC := .reg [oM 14 τ4,oD 15 (.callF 105 [τ14]),oM 13 τ15]
def k83_4 : VC := .reg [oD 16 (.build [(.bool false), (.int .i64 0), (.int .u32 0), (.string ⟨⟨[]⟩⟩), (.string ⟨⟨[]⟩⟩), (.string ⟨⟨[]⟩⟩)] []),oN (.store 6 τ2 τ16),oD 3 (.mv (.const (.int .i64 2)))]
def k83_5 : VC := .seq k83_4 .ret
def k83_6 : VC := .reg [oM 18 τ5,oD 19 (.bin .and τ18 (.const (.int .i64 64))),oD 20 (.bin .eql τ19 (.const (.int .i64 0))),oM 17 τ20]
def k83_7 : VC := .reg [oD 21 (.build [(.bool false), (.int .i64 0), (.int .u32 0), (.string ⟨⟨[]⟩⟩), (.string ⟨⟨[]⟩⟩), (.string ⟨⟨[]⟩⟩)] []),oN (.store 6 τ2 τ21),oD 3 (.mv (.const (.int .i64 3)))]
def k83_8 : VC := .seq k83_7 .ret
def k83_9 : VC := .cond τ17 k83_8 .skip
def k83_10 : VC := .seq k83_6 k83_9
def k83_11 : VC := .cond τ13 k83_5 k83_10
def k83_12 : VC := .seq k83_3 k83_11
def k83_13 : VC := .block 0 k83_12
def k83_14 : VC := .reg [oM 22 τ5,oD 23 (.bin .and τ22 (.const (.int .i64 128))),oD 24 (.bin .neq τ23 (.const (.int .i64 0))),oM 25 τ5,oD 26 (.bin .and τ25 (.const (.int .i64 63))),oD 27 (.build [(.bool false), (.int .i64 0), (.int .u32 0), (.string ⟨⟨[]⟩⟩), (.string ⟨⟨[]⟩⟩), (.string ⟨⟨[]⟩⟩)] [(0, 1, τ24), (1, 1, τ26)]),oD 6 (.alloc [(.bool false), (.int .i64 0), (.int .u32 0), (.string ⟨⟨[]⟩⟩), (.string ⟨⟨[]⟩⟩), (.string ⟨⟨[]⟩⟩)]),oN (.store 6 τ6 τ27)]
def k83_15 : VC := .reg [oD 28 (.fieldA 0 τ6),oD 29 (.load1 .bool τ28),oD 30 (.not τ29)]
def k83_16 : VC := .reg [oM 31 τ4,oD 32 (.mkFunc 106 [τ31] []),oM 7 τ32]
def k83_17 : VC := .reg [oM 33 τ7,oD 34 (.callV τ33 [(.const (.int .i64 8))]),oD 35 (.fieldA 3 τ6),oN (.store 1 τ35 τ34)]
def k83_18 : VC := .reg [oM 36 τ4,oD 37 (.callF 105 [τ36])]
def k83_19 : VC := .reg [oD 38 (.build [(.bool false), (.int .i64 0), (.int .u32 0), (.string ⟨⟨[]⟩⟩), (.string ⟨⟨[]⟩⟩), (.string ⟨⟨[]⟩⟩)] []),oN (.store 6 τ2 τ38),oD 3 (.mv (.const (.int .i64 2)))]
def k83_20 : VC := .seq k83_19 .ret
def k83_21 : VC := .cond τ37 k83_20 .skip
def k83_22 : VC := .seq k83_18 k83_21
def k83_23 : VC := .seq k83_17 k83_22
def k83_24 : VC := .reg [oM 39 τ4,oD 40 (.callF 107 [τ39]),oD 41 (.fieldA 5 τ6),oN (.store 1 τ41 τ40)]
def k83_25 : VC := .reg [oD 42 (.loadN [.bool, (.int .i64), (.int .u32), .str, .str, .str] τ6),oN (.store 6 τ2 τ42),oD 3 (.mv (.const (.int .i64 0)))]
def k83_26 : VC := .seq k83_25 .ret
def k83_27 : VC := .seq k83_24 k83_26
def k83_28 : VC := .seq k83_23 k83_27
def k83_29 : VC := .seq k83_16 k83_28
def k83_30 : VC := .cond τ30 k83_29 .skip
def k83_31 : VC := .seq k83_15 k83_30
def k83_32 : VC := .reg [oM 43 τ4,oD 44 (.callF 104 [τ43, (.const (.int .i64 4))]),oD 45 (.conv .u32 τ44),oD 46 (.fieldA 2 τ6),oN (.store 1 τ46 τ45)]
def k83_33 : VC := .reg [oM 47 τ4,oD 48 (.fieldA 3 τ6),oD 49 (.fieldA 4 τ6),oD 50 (.buildSl 2 1 [(.pointer none), (.pointer none)] [(0, 1, τ48), (1, 1, τ49)]),oD 51 (.callF 108 [(.func 109), τ47, τ50]),oM 8 τ51]
def k83_34 : VC := .reg [oM 52 τ8,oD 53 (.bin .neq τ52 (.const (.int .i64 0)))]
def k83_35 : VC := .reg [oD 54 (.build [(.bool false), (.int .i64 0), (.int .u32 0), (.string ⟨⟨[]⟩⟩), (.string ⟨⟨[]⟩⟩), (.string ⟨⟨[]⟩⟩)] []),oM 55 τ8,oN (.store 6 τ2 τ54),oM 3 τ55]
def k83_36 : VC := .seq k83_35 .ret
def k83_37 : VC := .cond τ53 k83_36 .skip
def k83_38 : VC := .seq k83_34 k83_37
def k83_39 : VC := .seq k83_33 k83_38
def k83_40 : VC := .reg [oM 56 τ4,oD 57 (.callF 107 [τ56]),oD 58 (.fieldA 5 τ6),oN (.store 1 τ58 τ57)]
def k83_41 : VC := .reg [oD 59 (.loadN [.bool, (.int .i64), (.int .u32), .str, .str, .str] τ6),oN (.store 6 τ2 τ59),oD 3 (.mv (.const (.int .i64 0)))]
def k83_42 : VC := .seq k83_41 .ret
def k83_43 : VC := .seq k83_40 k83_42
def k83_44 : VC := .seq k83_39 k83_43
def k83_45 : VC := .seq k83_32 k83_44
def k83_46 : VC := .seq k83_31 k83_45
def k83_47 : VC := .seq k83_14 k83_46
def k83_48 : VC := .seq k83_13 k83_47
def k83_49 : VC := .seq k83_2 k83_48
def k83_50 : VC := .seq k83_1 k83_49
def k83_51 : VC := .seq k83_0 k83_50
def fn83 : VFn := ⟨60, k83_51, [.cell 2 [.bool, (.int .i64), (.int .u32), .str, .str, .str] true, .tmp 3]⟩
def k107_0 : VC := .reg [oD 2 (.mv (.const (.string ⟨⟨[]⟩⟩)))]
def k107_1 : VC := .reg [oM 3 τ0,oD 4 (.callF 105 [τ3])]
def k107_2 : VC := .reg [oD 2 (.mv (.const (.string ⟨⟨[]⟩⟩)))]
def k107_3 : VC := .seq k107_2 .ret
def k107_4 : VC := .cond τ4 k107_3 .skip
def k107_5 : VC := .seq k107_1 k107_4
def k107_6 : VC := .reg [oM 5 τ0,oM 6 τ0,oD 7 (.nilCheck τ6),oD 8 (.fieldA 0 τ7),oD 9 (.load1 .str τ8),oD 10 (.lenS τ9),oD 11 (.callF 106 [τ5, τ10]),oM 2 τ11]
def k107_7 : VC := .seq k107_6 .ret
def k107_8 : VC := .seq k107_5 k107_7
def k107_9 : VC := .seq k107_0 k107_8
def fn107 : VFn := ⟨12, k107_9, [.tmp 2]⟩
def k108_0 : VC := .reg [oD 6 (.mv (.const (.int .i64 0)))]
def k108_1 : VC := .reg [oM 11 τ2,oD 12 (.lenL τ11),oD 13 (.mv (.const (.int .i64 0)))]
def k108_2 : VC := .reg [oD 14 (.bin .lss τ13 τ12)]
def k108_3 : VC := .cond τ14 .skip (.exit 0)
def k108_4 : VC := .reg [oD 15 (.idxAL 1 τ11 τ13),oD 16 (.load1 .oth τ15),oM 8 τ16]
def k108_5 : VC := .reg [oM 18 τ0,oM 19 τ1,oD 20 (.callV τ18 [τ19]),oM 17 τ20,oE 21 0 τ17,oE 22 1 τ17,oM 9 τ21,oM 10 τ22]
def k108_6 : VC := .reg [oM 23 τ10,oD 24 (.bin .neq τ23 (.const (.int .i64 0)))]
def k108_7 : VC := .reg [oM 25 τ10,oM 6 τ25]
def k108_8 : VC := .seq k108_7 .ret
def k108_9 : VC := .cond τ24 k108_8 .skip
def k108_10 : VC := .seq k108_6 k108_9
def k108_11 : VC := .reg [oM 26 τ8,oM 27 τ9,oD 28 (.nilCheck τ26),oN (.store 1 τ28 τ27)]
def k108_12 : VC := .seq k108_10 k108_11
def k108_13 : VC := .seq k108_5 k108_12
def k108_14 : VC := .seq k108_4 k108_13
def k108_15 : VC := .block 1 k108_14
def k108_16 : VC := .reg [oD 29 (.bin .add τ13 (.const (.int .i64 1))),oM 13 τ29]
def k108_17 : VC := .seq k108_15 k108_16
def k108_18 : VC := .seq k108_3 k108_17
def k108_19 : VC := .seq k108_2 k108_18
def k108_20 : VC := .loop k108_19
def k108_21 : VC := .block 0 k108_20
def k108_22 : VC := .seq k108_1 k108_21
def k108_23 : VC := .reg [oD 6 (.mv (.const (.int .i64 0)))]
def k108_24 : VC := .seq k108_23 .ret
def k108_25 : VC := .seq k108_22 k108_24
def k108_26 : VC := .seq k108_0 k108_25
def fn108 : VFn := ⟨30, k108_26, [.tmp 6]⟩
def k109_0 : VC := .reg [oD 2 (.mv (.const (.string ⟨⟨[]⟩⟩))),oD 3 (.mv (.const (.int .i64 0)))]
def k109_1 : VC := .reg [oM 6 τ0,oD 7 (.callF 104 [τ6, (.const (.int .i64 1))]),oM 4 τ7]
def k109_2 : VC := .reg [oM 8 τ0,oD 9 (.callF 105 [τ8]),oD 10 (.not τ9),oM 11 τ10,oG 12 (.mv τ4) 11 true,oG 13 (.bin .gtr τ12 (.const (.int .i64 20))) 11 true,oD 14 (.pick τ11 τ13 (.const (.bool false)))]
def k109_3 : VC := .reg [oD 2 (.mv (.const (.string ⟨⟨[]⟩⟩))),oD 3 (.mv (.const (.int .i64 3)))]
def k109_4 : VC := .seq k109_3 .ret
def k109_5 : VC := .cond τ14 k109_4 .skip
def k109_6 : VC := .seq k109_2 k109_5
def k109_7 : VC := .reg [oM 15 τ0,oM 16 τ4,oD 17 (.callF 106 [τ15, τ16]),oM 5 τ17]
def k109_8 : VC := .reg [oM 18 τ0,oD 19 (.callF 105 [τ18])]
def k109_9 : VC := .reg [oD 2 (.mv (.const (.string ⟨⟨[]⟩⟩))),oD 3 (.mv (.const (.int .i64 2)))]
def k109_10 : VC := .seq k109_9 .ret
def k109_11 : VC := .cond τ19 k109_10 .skip
def k109_12 : VC := .seq k109_8 k109_11
def k109_13 : VC := .reg [oM 20 τ5,oM 2 τ20,oD 3 (.mv (.const (.int .i64 0)))]
def k109_14 : VC := .seq k109_13 .ret
def k109_15 : VC := .seq k109_12 k109_14
def k109_16 : VC := .seq k109_7 k109_15
def k109_17 : VC := .seq k109_6 k109_16
def k109_18 : VC := .seq k109_1 k109_17
def k109_19 : VC := .seq k109_0 k109_18
def fn109 : VFn := ⟨21, k109_19, [.tmp 2, .tmp 3]⟩
def k18_0 : VC := .reg [oD 2 (.mv (.const (.int .i64 0))),oD 3 (.mv (.const (.int .i64 0))),oD 4 (.mv (.const (.int .i64 0)))]
def k18_1 : VC := .reg [oM 10 τ0,oD 11 (.callF 34 [τ10]),oM 9 τ11,oE 12 0 τ9,oE 13 1 τ9,oE 14 2 τ9,oE 15 3 τ9,oD 5 (.alloc [(.int .i64 0), (.bool false), (.int .u64 0), (.int .u64 0), (.bool false), (.int .u64 0), (.int .u64 0), (.int .i64 0), (.int .i64 0), (.int .i64 0), (.bool false), (.int .u32 0), (.int .u32 0), (.bool false), (.string ⟨⟨[]⟩⟩), (.int .i64 0)]),oN (.store 16 τ5 τ12),oM 6 τ13,oM 7 τ14,oM 8 τ15]
def k18_2 : VC := .reg [oM 16 τ8,oD 17 (.bin .neq τ16 (.const (.int .i64 0)))]
def k18_3 : VC := .reg [oM 18 τ8,oD 2 (.mv (.const (.int .i64 0))),oD 3 (.mv (.const (.int .i64 0))),oM 4 τ18]
def k18_4 : VC := .seq k18_3 .ret
def k18_5 : VC := .cond τ17 k18_4 .skip
def k18_6 : VC := .seq k18_2 k18_5
def k18_7 : VC := .reg [oM 19 τ0,oD 20 (.lenS τ19),oM 21 τ6,oD 22 (.bin .sub τ20 τ21),oM 23 τ0,oD 24 (.lenS τ23),oM 25 τ7,oD 26 (.bin .sub τ24 τ25),oM 2 τ22,oM 3 τ26,oD 4 (.mv (.const (.int .i64 0)))]
def k18_8 : VC := .seq k18_7 .ret
def k18_9 : VC := .seq k18_6 k18_8
def k18_10 : VC := .seq k18_1 k18_9
def k18_11 : VC := .seq k18_0 k18_10
def fn18 : VFn := ⟨27, k18_11, [.tmp 2, .tmp 3, .tmp 4]⟩
def k11_0 : VC := .reg [oD 8 (.mv (.const (.string ⟨⟨[]⟩⟩))),oD 9 (.mv (.const (.bool false)))]
def k11_1 : VC := .reg [oM 17 τ1,oM 18 τ2,oD 19 (.lenS τ18),oD 20 (.bin .add τ17 τ19),oM 10 τ20]
def k11_2 : VC := .reg [oM 22 τ1,oD 23 (.bin .lss τ22 (.const (.int .i64 0))),oM 24 τ23,oG 25 (.mv τ0) 24 false,oG 26 (.lenS τ25) 24 false,oG 27 (.mv τ2) 24 false,oG 28 (.lenS τ27) 24 false,oG 29 (.bin .sub τ26 τ28) 24 false,oG 30 (.mv τ1) 24 false,oG 31 (.bin .lss τ29 τ30) 24 false,oD 32 (.pick τ24 (.const (.bool true)) τ31),oM 33 τ32,oG 34 (.mv τ3) 33 false,oG 35 (.bin .lss τ34 (.const (.int .i64 0))) 33 false,oD 36 (.pick τ33 (.const (.bool true)) τ35),oM 37 τ36,oG 38 (.mv τ3) 37 false,oG 39 (.bin .rem τ38 (.const (.int .i64 2))) 37 false,oG 40 (.bin .eql τ39 (.const (.int .i64 1))) 37 false,oD 41 (.pick τ37 (.const (.bool true)) τ40),oM 42 τ41,oG 43 (.mv τ0) 42 false,oG 44 (.lenS τ43) 42 false,oG 45 (.bin .sub τ44 (.const (.int .i64 2))) 42 false,oG 46 (.mv τ3) 42 false,oG 47 (.bin .lss τ45 τ46) 42 false,oD 48 (.pick τ42 (.const (.bool true)) τ47),oM 21 τ48]
def k11_3 : VC := .reg [oD 8 (.mv (.const (.string ⟨⟨[]⟩⟩))),oD 9 (.mv (.const (.bool false)))]
def k11_4 : VC := .seq k11_3 .ret
def k11_5 : VC := .reg [oM 50 τ2,oD 51 (.bin .eql τ50 (.const (.string ⟨⟨[]⟩⟩))),oM 49 τ51]
def k11_6 : VC := .reg [oM 52 τ0,oM 8 τ52,oD 9 (.mv (.const (.bool true)))]
def k11_7 : VC := .seq k11_6 .ret
def k11_8 : VC := .reg [oM 54 τ1,oM 55 τ3,oD 56 (.bin .add τ55 (.const (.int .i64 2))),oD 57 (.bin .lss τ54 τ56),oM 58 τ57,oG 59 (.mv τ3) 58 true,oG 60 (.mv τ10) 58 true,oG 61 (.bin .lss τ59 τ60) 58 true,oD 62 (.pick τ58 τ61 (.const (.bool false))),oM 53 τ62]
def k11_9 : VC := .reg [oD 8 (.mv (.const (.string ⟨⟨[]⟩⟩))),oD 9 (.mv (.const (.bool false)))]
def k11_10 : VC := .seq k11_9 .ret
def k11_11 : VC := .cond τ53 k11_10 .skip
def k11_12 : VC := .seq k11_8 k11_11
def k11_13 : VC := .cond τ49 k11_7 k11_12
def k11_14 : VC := .seq k11_5 k11_13
def k11_15 : VC := .cond τ21 k11_4 k11_14
def k11_16 : VC := .seq k11_2 k11_15
def k11_17 : VC := .block 0 k11_16
def k11_18 : VC := .regD [oM 63 τ0,oM 64 τ1,oD 65 (.sliceS τ63 none (some τ64)),oM 66 τ2,oD 67 (.bin .add τ65 τ66),oM 68 τ0,oM 69 τ10,oD 70 (.sliceS τ68 (some τ69) none)] [] [oD 71 (.bin .add τ67 τ70),oM 11 τ71]
def k11_19 : VC := .reg [oM 72 τ1,oD 73 (.bin .andNot τ72 (.const (.int .i64 1))),oM 74 τ10,oD 75 (.bin .add τ74 (.const (.int .i64 1))),oD 76 (.bin .andNot τ75 (.const (.int .i64 1))),oM 12 τ73,oM 13 τ76]
def k11_20 : VC := .reg [oM 78 τ0,oM 79 τ3,oD 80 (.callF 25 [τ78, τ79, (.const (.int .i64 2))]),oM 77 τ80,oE 81 0 τ77,oE 82 1 τ77,oM 14 τ81,oM 15 τ82]
def k11_21 : VC := .reg [oM 83 τ14,oD 84 (.conv .i64 τ83),oM 85 τ0,oM 86 τ12,oM 87 τ13,oD 88 (.callF 27 [τ85, τ86, τ87]),oM 89 τ11,oM 90 τ12,oM 91 τ13,oD 92 (.callF 27 [τ89, τ90, τ91]),oD 93 (.callF 26 [τ84, τ88, τ92]),oM 16 τ93]
def k11_22 : VC := .reg [oM 94 τ11,oM 95 τ3,oM 96 τ16,oD 97 (.conv .u64 τ96),oD 98 (.callF 28 [τ94, τ95, (.const (.int .i64 2)), τ97]),oM 8 τ98,oD 9 (.mv (.const (.bool true)))]
def k11_23 : VC := .seq k11_22 .ret
def k11_24 : VC := .seq k11_21 k11_23
def k11_25 : VC := .seq k11_20 k11_24
def k11_26 : VC := .seq k11_19 k11_25
def k11_27 : VC := .seq k11_18 k11_26
def k11_28 : VC := .seq k11_17 k11_27
def k11_29 : VC := .seq k11_1 k11_28
def k11_30 : VC := .seq k11_0 k11_29
def fn11 : VFn := ⟨99, k11_30, [.tmp 8, .tmp 9]⟩
def k27_0 : VC := .reg [oD 6 (.mv (.const (.string ⟨⟨[]⟩⟩)))]
def k27_1 : VC := .reg [oM 7 τ2,oM 8 τ0,oD 9 (.lenS τ8),oD 10 (.bin .gtr τ7 τ9)]
def k27_2 : VC := .reg [oM 11 τ0,oM 12 τ1,oD 13 (.sliceS τ11 (some τ12) none),oD 14 (.bin .add τ13 (.const (.string ⟨⟨[0]⟩⟩))),oM 6 τ14]
def k27_3 : VC := .seq k27_2 .ret
def k27_4 : VC := .cond τ10 k27_3 .skip
def k27_5 : VC := .seq k27_1 k27_4
def k27_6 : VC := .reg [oM 15 τ0,oM 16 τ1,oM 17 τ2,oD 18 (.sliceS τ15 (some τ16) (some τ17)),oM 6 τ18]
def k27_7 : VC := .seq k27_6 .ret
def k27_8 : VC := .seq k27_5 k27_7
def k27_9 : VC := .seq k27_0 k27_8
def fn27 : VFn := ⟨19, k27_9, [.tmp 6]⟩
def k26_0 : VC := .reg [oD 3 (.box τ0),oD 5 (.box τ2),oD 6 (.mv (.const (.int .i64 0)))]
def k26_1 : VC := .reg [oM 11 τ1,oD 12 (.lenS τ11),oD 13 (.load1 .str τ5),oD 14 (.lenS τ13),oD 15 (.bin .neq τ12 τ14),oM 16 τ15,oG 17 (.mv τ1) 16 false,oG 18 (.lenS τ17) 16 false,oG 19 (.bin .rem τ18 (.const (.int .i64 2))) 16 false,oG 20 (.bin .gtr τ19 (.const (.int .i64 0))) 16 false,oD 21 (.pick τ16 (.const (.bool true)) τ20)]
def k26_2 : VC := .reg [oD 22 (.load1 (.int .i64) τ3),oM 6 τ22]
def k26_3 : VC := .seq k26_2 .ret
def k26_4 : VC := .cond τ21 k26_3 .skip
def k26_5 : VC := .seq k26_1 k26_4
def k26_6 : VC := .reg [oD 7 (.alloc [(.int .i64 0)]),oN (.store 1 τ7 (.const (.int .i64 0)))]
def k26_7 : VC := .reg [oM 23 τ1,oD 24 (.callF 42 [τ23])]
def k26_8 : VC := .reg [oM 8 τ25]
def k26_9 : VC := .reg [oD 27 (.load1 .str τ5),oD 28 (.load1 (.int .i64) τ7),oD 29 (.callF 25 [τ27, τ28, (.const (.int .i64 2))]),oM 26 τ29,oE 30 0 τ26,oE 31 1 τ26,oM 9 τ30,oM 10 τ31]
def k26_10 : VC := .reg [oD 32 (.load1 (.int .i64) τ3),oM 33 τ8,oM 34 τ9,oD 35 (.conv .i64 τ34),oD 36 (.callF 43 [τ32, τ33, τ35]),oN (.store 1 τ3 τ36)]
def k26_11 : VC := .reg [oD 37 (.load1 (.int .i64) τ7),oD 38 (.bin .add τ37 (.const (.int .i64 2))),oN (.store 1 τ7 τ38)]
def k26_12 : VC := .seq k26_10 k26_11
def k26_13 : VC := .seq k26_9 k26_12
def k26_14 : VC := .block 1 k26_13
def k26_15 : VC := .rangeF τ24 [25] k26_8 k26_14
def k26_16 : VC := .block 0 k26_15
def k26_17 : VC := .seq k26_7 k26_16
def k26_18 : VC := .reg [oD 39 (.load1 (.int .i64) τ3),oM 6 τ39]
def k26_19 : VC := .seq k26_18 .ret
def k26_20 : VC := .seq k26_17 k26_19
def k26_21 : VC := .seq k26_6 k26_20
def k26_22 : VC := .seq k26_5 k26_21
def k26_23 : VC := .seq k26_0 k26_22
def fn26 : VFn := ⟨40, k26_23, [.tmp 6]⟩
def k43_0 : VC := .reg [oD 6 (.mv (.const (.int .i64 0)))]
def k43_1 : VC := .reg [oM 7 τ0,oM 8 τ1,oM 9 τ2,oD 10 (.buildSl 3 1 [(.int .i64 0), (.int .i64 0), (.int .i64 0)] [(0, 1, τ7), (1, 1, τ8), (2, 1, τ9)]),oD 11 (.callF 72 [τ10]),oD 12 (.not τ11)]
def k43_2 : VC := .reg [oD 6 (.mv (.const (.int .i64 0)))]
def k43_3 : VC := .seq k43_2 .ret
def k43_4 : VC := .cond τ12 k43_3 .skip
def k43_5 : VC := .seq k43_1 k43_4
def k43_6 : VC := .reg [oM 13 τ0,oD 14 (.bin .sub (.const (.int .i64 65535)) τ13),oD 15 (.bin .add τ14 (.const (.int .i64 65535))),oM 16 τ1,oD 17 (.bin .sub τ15 τ16),oM 18 τ2,oD 19 (.bin .add τ17 τ18),oD 20 (.callF 73 [τ19]),oD 21 (.bin .sub (.const (.int .i64 65535)) τ20),oM 6 τ21]
def k43_7 : VC := .seq k43_6 .ret
def k43_8 : VC := .seq k43_5 k43_7
def k43_9 : VC := .seq k43_0 k43_8
def fn43 : VFn := ⟨22, k43_9, [.tmp 6]⟩
def k72_0 : VC := .reg [oD 2 (.mv (.const (.bool false)))]
def k72_1 : VC := .reg [oM 5 τ0,oD 6 (.lenL τ5),oD 7 (.mv (.const (.int .i64 0)))]
def k72_2 : VC := .reg [oD 8 (.bin .lss τ7 τ6)]
def k72_3 : VC := .cond τ8 .skip (.exit 0)
def k72_4 : VC := .reg [oD 9 (.idxAL 1 τ5 τ7),oD 10 (.load1 (.int .i64) τ9),oM 4 τ10]
def k72_5 : VC := .reg [oM 11 τ4,oD 12 (.bin .lss τ11 (.const (.int .i64 0))),oM 13 τ12,oG 14 (.mv τ4) 13 false,oG 15 (.bin .gtr τ14 (.const (.int .i64 65535))) 13 false,oD 16 (.pick τ13 (.const (.bool true)) τ15)]
def k72_6 : VC := .reg [oD 2 (.mv (.const (.bool false)))]
def k72_7 : VC := .seq k72_6 .ret
def k72_8 : VC := .cond τ16 k72_7 .skip
def k72_9 : VC := .seq k72_5 k72_8
def k72_10 : VC := .seq k72_4 k72_9
def k72_11 : VC := .block 1 k72_10
def k72_12 : VC := .reg [oD 17 (.bin .add τ7 (.const (.int .i64 1))),oM 7 τ17]
def k72_13 : VC := .seq k72_11 k72_12
def k72_14 : VC := .seq k72_3 k72_13
def k72_15 : VC := .seq k72_2 k72_14
def k72_16 : VC := .loop k72_15
def k72_17 : VC := .block 0 k72_16
def k72_18 : VC := .seq k72_1 k72_17
def k72_19 : VC := .reg [oD 2 (.mv (.const (.bool true)))]
def k72_20 : VC := .seq k72_19 .ret
def k72_21 : VC := .seq k72_18 k72_20
def k72_22 : VC := .seq k72_0 k72_21
def fn72 : VFn := ⟨18, k72_22, [.tmp 2]⟩
def k28_0 : VC := .reg [oD 8 (.mv (.const (.string ⟨⟨[]⟩⟩)))]
def k28_1 : VC := .reg [oM 10 τ3,oM 11 τ2,oD 12 (.callF 44 [τ10, τ11]),oM 9 τ12]
def k28_2 : VC := .reg [oM 13 τ9,oD 14 (.bin .eql τ13 (.const (.string ⟨⟨[]⟩⟩))),oM 15 τ14,oG 16 (.mv τ1) 15 false,oG 17 (.bin .lss τ16 (.const (.int .i64 0))) 15 false,oD 18 (.pick τ15 (.const (.bool true)) τ17),oM 19 τ18,oG 20 (.mv τ0) 19 false,oG 21 (.lenS τ20) 19 false,oG 22 (.mv τ2) 19 false,oG 23 (.bin .sub τ21 τ22) 19 false,oG 24 (.mv τ1) 19 false,oG 25 (.bin .lss τ23 τ24) 19 false,oD 26 (.pick τ19 (.const (.bool true)) τ25)]
def k28_3 : VC := .reg [oM 27 τ0,oM 8 τ27]
def k28_4 : VC := .seq k28_3 .ret
def k28_5 : VC := .cond τ26 k28_4 .skip
def k28_6 : VC := .seq k28_2 k28_5
def k28_7 : VC := .regD [oM 28 τ0,oM 29 τ1,oD 30 (.sliceS τ28 none (some τ29)),oM 31 τ9,oD 32 (.bin .add τ30 τ31),oM 33 τ0,oM 34 τ1,oM 35 τ2,oD 36 (.bin .add τ34 τ35),oD 37 (.sliceS τ33 (some τ36) none)] [] [oD 38 (.bin .add τ32 τ37),oM 8 τ38]
def k28_8 : VC := .seq k28_7 .ret
def k28_9 : VC := .seq k28_6 k28_8
def k28_10 : VC := .seq k28_1 k28_9
def k28_11 : VC := .seq k28_0 k28_10
def fn28 : VFn := ⟨39, k28_11, [.tmp 8]⟩
def k22_0 : VC := .reg [oD 2 (.alloc [(.int .i64 0), (.bool false), (.int .u64 0), (.int .u64 0), (.bool false), (.int .u64 0), (.int .u64 0), (.int .i64 0), (.int .i64 0), (.int .i64 0), (.bool false), (.int .u32 0), (.int .u32 0), (.bool false), (.string ⟨⟨[]⟩⟩), (.int .i64 0)]),oD 3 (.mv (.const (.int .i64 0)))]
def k22_1 : VC := .reg [oM 9 τ0,oD 10 (.callF 41 [τ9]),oM 8 τ10,oE 11 0 τ8,oE 12 1 τ8,oE 13 2 τ8,oE 14 3 τ8,oD 4 (.alloc [(.int .i64 0), (.bool false), (.int .u64 0), (.int .u64 0), (.bool false), (.int .u64 0), (.int .u64 0), (.int .i64 0), (.int .i64 0), (.int .i64 0), (.bool false), (.int .u32 0), (.int .u32 0), (.bool false), (.string ⟨⟨[]⟩⟩), (.int .i64 0)]),oN (.store 16 τ4 τ11),oM 5 τ12,oM 6 τ13,oM 7 τ14]
def k22_2 : VC := .reg [oD 15 (.loadN [(.int .i64), .bool, (.int .u64), (.int .u64), .bool, (.int .u64), (.int .u64), (.int .i64), (.int .i64), (.int .i64), .bool, (.int .u32), (.int .u32), .bool, .str, (.int .i64)] τ4),oM 16 τ7,oN (.store 16 τ2 τ15),oM 3 τ16]
def k22_3 : VC := .seq k22_2 .ret
def k22_4 : VC := .seq k22_1 k22_3
def k22_5 : VC := .seq k22_0 k22_4
def fn22 : VFn := ⟨17, k22_5, [.cell 2 [(.int .i64), .bool, (.int .u64), (.int .u64), .bool, (.int .u64), (.int .u64), (.int .i64), (.int .i64), (.int .i64), .bool, (.int .u32), (.int .u32), .bool, .str, (.int .i64)] true, .tmp 3]⟩
theorem fn3_ok : (Try.prog.funcs[3]?).bind (compFn Try.prog) = some fn3 := by kernel_rfl
theorem fn7_ok : (Try.prog.funcs[7]?).bind (compFn Try.prog) = some fn7 := by kernel_rfl
theorem fn8_ok : (Try.prog.funcs[8]?).bind (compFn Try.prog) = some fn8 := by kernel_rfl
theorem fn20_ok : (Try.prog.funcs[20]?).bind (compFn Try.prog) = some fn20 := by kernel_rfl
theorem fn36_ok : (Try.prog.funcs[36]?).bind (compFn Try.prog) = some fn36 := by kernel_rfl
theorem fn59_ok : (Try.prog.funcs[59]?).bind (compFn Try.prog) = some fn59 := by kernel_rfl
theorem fn61_ok : (Try.prog.funcs[61]?).bind (compFn Try.prog) = some fn61 := by kernel_rfl
theorem fn85_ok : (Try.prog.funcs[85]?).bind (compFn Try.prog) = some fn85 := by kernel_rfl
theorem fn24_ok : (Try.prog.funcs[24]?).bind (compFn Try.prog) = some fn24 := by kernel_rfl
theorem fn86_ok : (Try.prog.funcs[86]?).bind (compFn Try.prog) = some fn86 := by kernel_rfl
theorem fn60_ok : (Try.prog.funcs[60]?).bind (compFn Try.prog) = some fn60 := by kernel_rfl
theorem fn87_ok : (Try.prog.funcs[87]?).bind (compFn Try.prog) = some fn87 := by kernel_rfl
theorem fn33_ok : (Try.prog.funcs[33]?).bind (compFn Try.prog) = some fn33 := by kernel_rfl
theorem fn10_ok : (Try.prog.funcs[10]?).bind (compFn Try.prog) = some fn10 := by kernel_rfl
theorem fn12_ok : (Try.prog.funcs[12]?).bind (compFn Try.prog) = some fn12 := by kernel_rfl
theorem fn30_ok : (Try.prog.funcs[30]?).bind (compFn Try.prog) = some fn30 := by kernel_rfl
theorem fn45_ok : (Try.prog.funcs[45]?).bind (compFn Try.prog) = some fn45 := by kernel_rfl
theorem fn23_ok : (Try.prog.funcs[23]?).bind (compFn Try.prog) = some fn23 := by kernel_rfl
theorem fn29_ok : (Try.prog.funcs[29]?).bind (compFn Try.prog) = some fn29 := by kernel_rfl
theorem fn9_ok : (Try.prog.funcs[9]?).bind (compFn Try.prog) = some fn9 := by kernel_rfl
theorem fn37_ok : (Try.prog.funcs[37]?).bind (compFn Try.prog) = some fn37 := by kernel_rfl
theorem fn62_ok : (Try.prog.funcs[62]?).bind (compFn Try.prog) = some fn62 := by kernel_rfl
theorem fn88_ok : (Try.prog.funcs[88]?).bind (compFn Try.prog) = some fn88 := by kernel_rfl
theorem fn111_ok : (Try.prog.funcs[111]?).bind (compFn Try.prog) = some fn111 := by kernel_rfl
theorem fn89_ok : (Try.prog.funcs[89]?).bind (compFn Try.prog) = some fn89 := by kernel_rfl
theorem fn63_ok : (Try.prog.funcs[63]?).bind (compFn Try.prog) = some fn63 := by kernel_rfl
theorem fn90_ok : (Try.prog.funcs[90]?).bind (compFn Try.prog) = some fn90 := by kernel_rfl
theorem fn112_ok : (Try.prog.funcs[112]?).bind (compFn Try.prog) = some fn112 := by kernel_rfl
theorem fn113_ok : (Try.prog.funcs[113]?).bind (compFn Try.prog) = some fn113 := by kernel_rfl
theorem fn15_ok : (Try.prog.funcs[15]?).bind (compFn Try.prog) = some fn15 := by kernel_rfl
theorem fn21_ok : (Try.prog.funcs[21]?).bind (compFn Try.prog) = some fn21 := by kernel_rfl
theorem fn39_ok : (Try.prog.funcs[39]?).bind (compFn Try.prog) = some fn39 := by kernel_rfl
theorem fn40_ok : (Try.prog.funcs[40]?).bind (compFn Try.prog) = some fn40 := by kernel_rfl
theorem fn65_ok : (Try.prog.funcs[65]?).bind (compFn Try.prog) = some fn65 := by kernel_rfl
theorem fn38_ok : (Try.prog.funcs[38]?).bind (compFn Try.prog) = some fn38 := by kernel_rfl
theorem fn16_ok : (Try.prog.funcs[16]?).bind (compFn Try.prog) = some fn16 := by kernel_rfl
theorem fn34_ok : (Try.prog.funcs[34]?).bind (compFn Try.prog) = some fn34 := by kernel_rfl
theorem fn53_ok : (Try.prog.funcs[53]?).bind (compFn Try.prog) = some fn53 := by kernel_rfl
theorem fn80_ok : (Try.prog.funcs[80]?).bind (compFn Try.prog) = some fn80 := by kernel_rfl
theorem fn99_ok : (Try.prog.funcs[99]?).bind (compFn Try.prog) = some fn99 := by kernel_rfl
theorem fn103_ok : (Try.prog.funcs[103]?).bind (compFn Try.prog) = some fn103 := by kernel_rfl
theorem fn104_ok : (Try.prog.funcs[104]?).bind (compFn Try.prog) = some fn104 := by kernel_rfl
theorem fn106_ok : (Try.prog.funcs[106]?).bind (compFn Try.prog) = some fn106 := by kernel_rfl
theorem fn105_ok : (Try.prog.funcs[105]?).bind (compFn Try.prog) = some fn105 := by kernel_rfl
theorem fn25_ok : (Try.prog.funcs[25]?).bind (compFn Try.prog) = some fn25 := by kernel_rfl
theorem fn101_ok : (Try.prog.funcs[101]?).bind (compFn Try.prog) = some fn101 := by kernel_rfl
theorem fn77_ok : (Try.prog.funcs[77]?).bind (compFn Try.prog) = some fn77 := by kernel_rfl
theorem fn42_ok : (Try.prog.funcs[42]?).bind (compFn Try.prog) = some fn42 := by kernel_rfl
theorem fn71_ok : (Try.prog.funcs[71]?).bind (compFn Try.prog) = some fn71 := by kernel_rfl
theorem fn73_ok : (Try.prog.funcs[73]?).bind (compFn Try.prog) = some fn73 := by kernel_rfl
theorem fn116_ok : (Try.prog.funcs[116]?).bind (compFn Try.prog) = some fn116 := by kernel_rfl
theorem fn117_ok : (Try.prog.funcs[117]?).bind (compFn Try.prog) = some fn117 := by kernel_rfl
theorem fn100_ok : (Try.prog.funcs[100]?).bind (compFn Try.prog) = some fn100 := by kernel_rfl
theorem fn54_ok : (Try.prog.funcs[54]?).bind (compFn Try.prog) = some fn54 := by kernel_rfl
theorem fn81_ok : (Try.prog.funcs[81]?).bind (compFn Try.prog) = some fn81 := by kernel_rfl
theorem fn46_ok : (Try.prog.funcs[46]?).bind (compFn Try.prog) = some fn46 := by kernel_rfl
theorem fn50_ok : (Try.prog.funcs[50]?).bind (compFn Try.prog) = some fn50 := by kernel_rfl
theorem fn74_ok : (Try.prog.funcs[74]?).bind (compFn Try.prog) = some fn74 := by kernel_rfl
theorem fn44_ok : (Try.prog.funcs[44]?).bind (compFn Try.prog) = some fn44 := by kernel_rfl
theorem fn75_ok : (Try.prog.funcs[75]?).bind (compFn Try.prog) = some fn75 := by kernel_rfl
theorem fn57_ok : (Try.prog.funcs[57]?).bind (compFn Try.prog) = some fn57 := by kernel_rfl
theorem fn84_ok : (Try.prog.funcs[84]?).bind (compFn Try.prog) = some fn84 := by kernel_rfl
theorem fn58_ok : (Try.prog.funcs[58]?).bind (compFn Try.prog) = some fn58 := by kernel_rfl
theorem fn102_ok : (Try.prog.funcs[102]?).bind (compFn Try.prog) = some fn102 := by kernel_rfl
theorem fn91_ok : (Try.prog.funcs[91]?).bind (compFn Try.prog) = some fn91 := by kernel_rfl
theorem fn92_ok : (Try.prog.funcs[92]?).bind (compFn Try.prog) = some fn92 := by kernel_rfl
theorem fn114_ok : (Try.prog.funcs[114]?).bind (compFn Try.prog) = some fn114 := by kernel_rfl
theorem fn64_ok : (Try.prog.funcs[64]?).bind (compFn Try.prog) = some fn64 := by kernel_rfl
theorem fn55_ok : (Try.prog.funcs[55]?).bind (compFn Try.prog) = some fn55 := by kernel_rfl
theorem fn82_ok : (Try.prog.funcs[82]?).bind (compFn Try.prog) = some fn82 := by kernel_rfl
theorem fn83_ok : (Try.prog.funcs[83]?).bind (compFn Try.prog) = some fn83 := by kernel_rfl
theorem fn107_ok : (Try.prog.funcs[107]?).bind (compFn Try.prog) = some fn107 := by kernel_rfl
theorem fn108_ok : (Try.prog.funcs[108]?).bind (compFn Try.prog) = some fn108 := by kernel_rfl
theorem fn109_ok : (Try.prog.funcs[109]?).bind (compFn Try.prog) = some fn109 := by kernel_rfl
theorem fn18_ok : (Try.prog.funcs[18]?).bind (compFn Try.prog) = some fn18 := by kernel_rfl
theorem fn11_ok : (Try.prog.funcs[11]?).bind (compFn Try.prog) = some fn11 := by kernel_rfl
theorem fn27_ok : (Try.prog.funcs[27]?).bind (compFn Try.prog) = some fn27 := by kernel_rfl
theorem fn26_ok : (Try.prog.funcs[26]?).bind (compFn Try.prog) = some fn26 := by kernel_rfl
theorem fn43_ok : (Try.prog.funcs[43]?).bind (compFn Try.prog) = some fn43 := by kernel_rfl
theorem fn72_ok : (Try.prog.funcs[72]?).bind (compFn Try.prog) = some fn72 := by kernel_rfl
theorem fn28_ok : (Try.prog.funcs[28]?).bind (compFn Try.prog) = some fn28 := by kernel_rfl
theorem fn22_ok : (Try.prog.funcs[22]?).bind (compFn Try.prog) = some fn22 := by kernel_rfl
end Go.Vm.Code
