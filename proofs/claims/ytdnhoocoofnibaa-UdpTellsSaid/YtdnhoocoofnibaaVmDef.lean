/- The engine, part 1: a small deterministic machine with virtual memory (definitions only). -/
import Derived.Calls
namespace Go.Vm
open Go

/-! association lists -/
def aget {α : Type} : List (Nat × α) → Nat → Option α
  | [], _ => none
  | (i, x) :: l, j => cond (Nat.beq i j) (some x) (aget l j)
def adel {α : Type} : List (Nat × α) → Nat → List (Nat × α)
  | [], _ => []
  | (i, x) :: l, j => cond (Nat.beq i j) (adel l j) ((i, x) :: adel l j)
def aput {α : Type} (l : List (Nat × α)) (i : Nat) (x : α) : List (Nat × α) := (i, x) :: adel l i

abbrev Env := List (Nat × Value)

/-- The kind of one cell: a hint for the symbolic evaluator. -/
inductive SK where
  | bool | int (k : IntKind) | str | oth

inductive VOp where
  | mv (x : Operand)
  | pick (c a b : Operand)
  | alloc (z : List Value)
  | box (x : Operand)
  | build (z : List Value) (ps : List (Nat × Nat × Operand))
  | buildSl (len sz : Nat) (z : List Value) (ps : List (Nat × Nat × Operand))
  | load1 (k : SK) (a : Operand)
  | loadN (ks : List SK) (a : Operand)
  | store (n : Nat) (a x : Operand)
  | nilCheck (x : Operand)
  | bin (op : BinOp) (x y : Operand)
  | eqB (neg : Bool) (x y : Operand)
  | isNil (k : Nat) (neg : Bool) (x : Operand)
  | eqAgg (neg : Bool) (os : List (Nat × SK)) (x y : Operand)
  | not (x : Operand)
  | neg (x : Operand)
  | cmpl (x : Operand)
  | conv (k : IntKind) (x : Operand)
  | s2b (x : Operand)
  | b2s (x : Operand)
  | s2s (x : Operand)
  | iface (t : Nat) (x : Operand)
  | tassert (t : Nat) (z : Value) (x : Operand)
  | mkFunc (f : Nat) (first caps : List Operand)
  | mkSl (sz bytes : Nat) (z : List Value) (len cap : Operand)
  | sliceS (x : Operand) (lo hi : Option Operand)
  | sliceL (sz : Nat) (x : Operand) (lo hi : Option Operand)
  | sliceA (n sz : Nat) (x : Operand) (lo hi : Option Operand)
  | fieldA (off : Nat) (x : Operand)
  | part1 (off : Nat) (x : Operand)
  | partN (off n : Nat) (x : Operand)
  | idxAA (n sz : Nat) (x i : Operand)
  | idxAL (sz : Nat) (x i : Operand)
  | idxV1 (n : Nat) (x i : Operand)
  | idxVN (n sz : Nat) (x i : Operand)
  | idxS (x i : Operand)
  | extract (i : Nat) (x : Operand)
  | lenS (x : Operand)
  | lenL (x : Operand)
  | lenN (n : Nat)
  | minmax (mx : Bool) (xs : List Operand)
  | app (t sz bytes : Nat) (x y : Operand)
  | allocB (t e : Nat)
  | eqP (neg : Bool) (x y : Operand)
  | toU (x : Operand)
  | ofU (u n : Nat) (x : Operand)
  | sdata (x : Operand)
  | ustr (t : Nat) (x n : Operand)
  | callF (f : Nat) (xs : List Operand)
  | callV (fv : Operand) (xs : List Operand)
  | rangeS (x : Operand)
  | nextS (it : Operand)

structure VOper where
  dst : Option Nat
  op : VOp
  g : Option (Nat × Bool)

inductive VC where
  | skip
  | reg (ops : List VOper)
  | regD (ops : List VOper) (chk : List (Nat × Nat)) (post : List VOper)
  | stuck
  | seq (a b : VC)
  | cond (c : Operand) (a b : VC)
  | block (id : Nat) (b : VC)
  | loop (b : VC)
  | rangeF (f : Operand) (ps : List Nat) (asg body : VC)
  | exit (id : Nat)
  | ret

structure VLoop where
  state : LoopState
  pending : Option VC
  fn : Nat
  nt : Nat
  env : Env
  params : List Nat
  asg : VC
  body : VC
  defers : Nat

inductive VObj where
  | cells (cs : List Value)
  | row (own : Bool) (cs : List Value)
  | ty (t : Nat) (cs : List Value)
  | siter (s : ByteArray) (pos : Nat)
  | loop (l : VLoop)
  | marks

abbrev Hp := List (Nat × VObj)

inductive VItem where
  | code (c : VC)
  | inBlock (id : Nat)
  | inLoop (b : VC)
  | inReg (ops : List VOper)
  | inRangeFunc (l : Nat)
  | endRangeFunc (l : Nat)
  | beginRound

structure VFrame where
  fn : Nat
  nt : Nat
  env : Env
  todo : List VItem
  defers : List Nat
  ret : Bool
  round : Option Nat

structure VM where
  cur : VFrame
  up : List VFrame
  heap : Hp
  top : Nat

inductive VRes where
  | tmp (t : Nat)
  | cell (t : Nat) (ks : List SK) (agg : Bool)

structure VFn where
  nt : Nat
  body : VC
  results : List VRes

/-! operands -/
def evalO (e : Env) : Operand → Option Value
  | .tmp t => aget e t
  | .const v => some v
  | .global _ => none
  | .func f => some (.func (.func f) #[] #[])

def evalL (e : Env) : List Operand → Option (List Value)
  | [] => some []
  | o :: os => match evalO e o with
    | some v => match evalL e os with
      | some vs => some (v :: vs)
      | none => none
    | none => none

def VOp.ops : VOp → List Operand
  | .mv x | .box x | .load1 _ x | .loadN _ x | .nilCheck x | .isNil _ _ x | .not x | .neg x | .cmpl x | .conv _ x | .s2b x | .b2s x | .s2s x
  | .iface _ x | .tassert _ _ x | .fieldA _ x | .part1 _ x | .partN _ _ x | .extract _ x | .lenS x | .lenL x | .rangeS x | .nextS x | .toU x | .ofU _ _ x | .sdata x => [x]
  | .pick c a b => [c, a, b]
  | .alloc _ | .lenN _ | .allocB _ _ => []
  | .build _ ps | .buildSl _ _ _ ps => ps.map (·.2.2)
  | .store _ a x | .bin _ a x | .eqB _ a x | .eqAgg _ _ a x | .mkSl _ _ _ a x | .idxAA _ _ a x | .idxAL _ a x | .idxV1 _ a x | .idxVN _ _ a x | .idxS a x
  | .app _ _ _ a x | .eqP _ a x | .ustr _ a x => [a, x]
  | .mkFunc _ first caps => first ++ caps
  | .sliceS x lo hi | .sliceL _ x lo hi | .sliceA _ _ x lo hi => x :: (lo.toList ++ hi.toList)
  | .minmax _ xs => xs
  | .callF _ xs => xs
  | .callV f xs => f :: xs

/-! plain operations -/
def undefV : Value := .tuple #[]

def binV (op : BinOp) : Value → Value → Option Value
  | .int k a, .int k' b => match op with
    | .shl => if 0 ≤ b then some (.int k (k.wrap (a * 2 ^ (min b.toNat k.bits)))) else none
    | .shr => if 0 ≤ b then some (.int k (a.fdiv (2 ^ (min b.toNat k.bits)))) else none
    | op => if k = k' then match op with
      | .add => some (.int k (k.wrap (a + b)))
      | .sub => some (.int k (k.wrap (a - b)))
      | .mul => some (.int k (k.wrap (a * b)))
      | .quo => if b = 0 then none else some (.int k (k.wrap (a.tdiv b)))
      | .rem => if b = 0 then none else some (.int k (a.tmod b))
      | .and => some (.int k (k.wrap (BitVec.ofInt k.bits a &&& BitVec.ofInt k.bits b).toNat))
      | .or => some (.int k (k.wrap (BitVec.ofInt k.bits a ||| BitVec.ofInt k.bits b).toNat))
      | .xor => some (.int k (k.wrap (BitVec.ofInt k.bits a ^^^ BitVec.ofInt k.bits b).toNat))
      | .andNot => some (.int k (k.wrap (BitVec.ofInt k.bits a &&& ~~~ BitVec.ofInt k.bits b).toNat))
      | .eql => some (.bool (a == b))
      | .neq => some (.bool (a != b))
      | .lss => some (.bool (decide (a < b)))
      | .leq => some (.bool (decide (a ≤ b)))
      | .gtr => some (.bool (decide (a > b)))
      | .geq => some (.bool (decide (a ≥ b)))
      | _ => none
      else none
  | .string a, .string b => match op with
    | .add => if a.data.toList.length + b.data.toList.length < 2 ^ 63 then some (.string ⟨⟨a.data.toList ++ b.data.toList⟩⟩) else none
    | .eql => some (.bool (a.data.toList == b.data.toList))
    | .neq => some (.bool (!(a.data.toList == b.data.toList)))
    | .lss => some (.bool (Op.bytesLess a.data.toList b.data.toList))
    | _ => none
  | _, _ => none

/-- is it nil? of a pointer (0), a slice (1), a function (2), an interface value (3) -/
def nilV : Nat → Value → Option Bool
  | 0, .pointer none => some true
  | 0, .pointer (some _) => some false
  | 1, .slice none 0 _ => some true
  | 1, .slice (some _) (_ + 1) _ => some false
  | 2, .nilFunc => some true
  | 2, .func (.func _) _ _ => some false
  | 2, .func (.yield _) _ _ => some false
  | 3, .nilIface => some true
  | 3, .iface .. => some false
  | _, _ => none

/-- equality of two leaf cells -/
def leafEq : SK → Value → Value → Option Bool
  | .bool, .bool a, .bool b => some (a == b)
  | .int _, .int k a, .int k' b => if k = k' then some (a == b) else none
  | .str, .string a, .string b => some (a.data.toList == b.data.toList)
  | _, _, _ => none

def leavesEq (xs ys : List Value) : List (Nat × SK) → Option Bool
  | [] => some true
  | (o, k) :: os => match xs[o]?, ys[o]? with
    | some x, some y => match leafEq k x y with
      | some b => match leavesEq xs ys os with
        | some c => some (b && c)
        | none => none
      | none => none
    | _, _ => none

def setAt {α : Type} : List α → Nat → List α → List α
  | cs, _, [] => cs
  | cs, o, v :: vs => setAt (cs.set o v) (o + 1) vs

def cellsL (v : Value) : List Value := v.cells.toList

def oneC : Value → Bool
  | .agg _ => false
  | .tuple _ => false
  | _ => true

def fillL : List Value → List (Nat × Nat × Value) → Option (List Value)
  | cs, [] => some cs
  | cs, (off, size, v) :: rest =>
    if (cellsL v).length = size ∧ off + size ≤ cs.length then fillL (setAt cs off (cellsL v)) rest else none

def zipP : List (Nat × Nat × Operand) → List Value → List (Nat × Nat × Value)
  | (o, s, _) :: ps, v :: vs => (o, s, v) :: zipP ps vs
  | _, _ => []

def VObj.cs : VObj → Option (List Value)
  | .cells cs | .row _ cs | .ty _ cs => some cs
  | _ => none

def VObj.wr : VObj → List Value → Option VObj
  | .cells _, cs => some (.cells cs)
  | .row true _, cs => some (.row true cs)
  | .ty t _, cs => some (.ty t cs)
  | _, _ => none

def toBytes : List Value → Option (List UInt8)
  | [] => some []
  | .int .u8 n :: l => match toBytes l with
    | some bs => some (UInt8.ofNat n.toNat :: bs)
    | none => none
  | _ :: _ => none

def ofBytes (l : List UInt8) : List Value := l.map fun b => .int .u8 b.toNat

/-- bounds of a slice expression: (low, high) -/
def loHi (n : Nat) (hasLo hasHi : Bool) (bs : List Value) : Option (Nat × Nat) :=
  match hasLo, hasHi, bs with
  | false, false, [] => some (0, n)
  | true, false, [.int _ l] => if 0 ≤ l ∧ l ≤ n then some (l.toNat, n) else none
  | false, true, [.int _ h] => if 0 ≤ h ∧ h ≤ n then some (0, h.toNat) else none
  | true, true, [.int _ l, .int _ h] => if 0 ≤ h ∧ h ≤ n ∧ 0 ≤ l ∧ l ≤ h.toNat then some (l.toNat, h.toNat) else none
  | _, _, _ => none

def addrBlk : Value → List Nat
  | .pointer (some a) => [a.block]
  | .slice (some a) _ _ => [a.block]
  | .func (.method _) ⟨[.slice (some a) _ _]⟩ _ => [a.block]
  | _ => []

def needs : VOp → List Value → List Nat
  | .load1 .., vs | .loadN .., vs | .b2s _, vs | .nextS _, vs | .sliceA .., vs | .toU _, vs | .ofU .., vs | .ustr .., vs => (vs.take 1).flatMap addrBlk
  | .store .., vs => (vs.take 1).flatMap addrBlk
  | .app .., vs => (vs.take 2).flatMap addrBlk
  | _, _ => []

def minmaxV (mx : Bool) : Value → Value → Option Value
  | .int k x, .int k' y => if k = k' then some (.int k (if mx then (if y > x then y else x) else (if y < x then y else x))) else none
  | _, _ => none

def foldV (mx : Bool) : Value → List Value → Option Value
  | x, [] => some x
  | x, y :: l => match minmaxV mx x y with
    | some z => foldV mx z l
    | none => none

structure CoreR where
  v : Option Value
  objs : List (Option VObj)
  fresh : Option VObj

def val (v : Value) : Option CoreR := some ⟨some v, [], none⟩

def srcCells (sz : Nat) : Value → List VObj → Option (List Value)
  | .string s, _ => some (ofBytes s.data.toList)
  | .slice none 0 _, _ => some []
  | .slice (some a) n _, [o] => match o.cs with
    | some cs => if a.off + n * sz ≤ cs.length then some ((cs.drop a.off).take (n * sz)) else none
    | none => none
  | _, _ => none

def srcLen : Value → Option Nat
  | .string s => some s.data.toList.length
  | .slice _ n _ => some n
  | _ => none

def c_mv  (vals : List Value) (objs : List VObj) : Option CoreR :=
  match vals, objs with
  | [v], [] => val v
  | _, _ => none

def c_pick  (vals : List Value) (objs : List VObj) : Option CoreR :=
  match vals, objs with
  | [.bool c, a, b], [] => val (if c then a else b)
  | _, _ => none

def c_alloc (z : List Value) (vals : List Value) (objs : List VObj) (top : Nat) : Option CoreR :=
  match vals, objs with
  | [], [] => some ⟨some (.pointer (some ⟨top, 0, none⟩)), [], some (.cells z)⟩
  | _, _ => none

def c_box  (vals : List Value) (objs : List VObj) (top : Nat) : Option CoreR :=
  match vals, objs with
  | [v], [] => some ⟨some (.pointer (some ⟨top, 0, none⟩)), [], some (.cells (cellsL v))⟩
  | _, _ => none

def c_build (z : List Value) (ps : List (Nat × Nat × Operand)) (vals : List Value) (objs : List VObj) : Option CoreR :=
  match vals, objs with
  | vs, [] => if vs.length = ps.length then match fillL z (zipP ps vs) with | some cs => val (.agg ⟨cs⟩) | none => none else none
  | _, _ => none

def c_buildSl (len : Nat) (sz : Nat) (z : List Value) (ps : List (Nat × Nat × Operand)) (vals : List Value) (objs : List VObj) (top : Nat) : Option CoreR :=
  match vals, objs with
  | vs, [] => if vs.length = ps.length then match fillL z (zipP ps vs) with
      | some cs => some ⟨some (.slice (some ⟨top, 0, none⟩) len sz), [], some (.row true cs)⟩
      | none => none else none
  | _, _ => none

def c_load1  (vals : List Value) (objs : List VObj) : Option CoreR :=
  match vals, objs with
  | [.pointer (some ⟨_, o, none⟩)], [ob] => match ob.cs with
      | some cs => match cs[o]? with | some v => some ⟨some v, [some ob], none⟩ | none => none
      | none => none
  | _, _ => none

def c_loadN (n : Nat) (vals : List Value) (objs : List VObj) : Option CoreR :=
  match vals, objs with
  | [.pointer (some ⟨_, o, none⟩)], [ob] => match ob.cs with
      | some cs => if o + n ≤ cs.length then some ⟨some (.agg ⟨(cs.drop o).take n⟩), [some ob], none⟩ else none
      | none => none
  | _, _ => none

def c_store (n : Nat) (vals : List Value) (objs : List VObj) : Option CoreR :=
  match vals, objs with
  | [.pointer (some ⟨_, o, none⟩), v], [ob] => match ob.cs with
      | some cs => if (cellsL v).length = n ∧ o + n ≤ cs.length ∧ (cellsL v).all oneC = true then match ob.wr (setAt cs o (cellsL v)) with
          | some ob' => some ⟨none, [some ob'], none⟩
          | none => none else none
      | none => none
  | _, _ => none

def c_nilCheck  (vals : List Value) (objs : List VObj) : Option CoreR :=
  match vals, objs with
  | [.pointer (some a)], [] => val (.pointer (some a))
  | [.func (.func f) a b], [] => val (.func (.func f) a b)
  | [.func (.yield f) a b], [] => val (.func (.yield f) a b)
  | _, _ => none

def c_bin (op : BinOp) (vals : List Value) (objs : List VObj) : Option CoreR :=
  match vals, objs with
  | [x, y], [] => match binV op x y with | some v => val v | none => none
  | _, _ => none

def c_eqB (neg : Bool) (vals : List Value) (objs : List VObj) : Option CoreR :=
  match vals, objs with
  | [.bool x, .bool y], [] => val (.bool (if neg then !(x == y) else (x == y)))
  | _, _ => none

def c_isNil (k : Nat) (neg : Bool) (vals : List Value) (objs : List VObj) : Option CoreR :=
  match vals, objs with
  | [x], [] => match nilV k x with | some b => val (.bool (if neg then !b else b)) | none => none
  | _, _ => none

def c_eqAgg (neg : Bool) (os : List (Nat × SK)) (vals : List Value) (objs : List VObj) : Option CoreR :=
  match vals, objs with
  | [.agg ⟨xs⟩, .agg ⟨ys⟩], [] => match leavesEq xs ys os with | some b => val (.bool (if neg then !b else b)) | none => none
  | _, _ => none

def c_not  (vals : List Value) (objs : List VObj) : Option CoreR :=
  match vals, objs with
  | [.bool b], [] => val (.bool (!b))
  | _, _ => none

def c_neg  (vals : List Value) (objs : List VObj) : Option CoreR :=
  match vals, objs with
  | [.int k n], [] => val (.int k (k.wrap (0 - n)))
  | _, _ => none

def c_cmpl  (vals : List Value) (objs : List VObj) : Option CoreR :=
  match vals, objs with
  | [.int k n], [] => val (.int k (k.wrap (BitVec.ofInt k.bits (if k.signed then -1 else k.max) ^^^ BitVec.ofInt k.bits n).toNat))
  | _, _ => none

def c_conv (k : IntKind) (vals : List Value) (objs : List VObj) : Option CoreR :=
  match vals, objs with
  | [.int _ n], [] => val (.int k (k.wrap n))
  | _, _ => none

def c_s2b  (vals : List Value) (objs : List VObj) (top : Nat) : Option CoreR :=
  match vals, objs with
  | [.string s], [] => some ⟨some (.slice (some ⟨top, 0, none⟩) s.data.toList.length 1), [], some (.row true (ofBytes s.data.toList))⟩
  | _, _ => none

def c_b2s  (vals : List Value) (objs : List VObj) : Option CoreR :=
  match vals, objs with
  | [.slice none 0 _], [] => val (.string ⟨⟨[]⟩⟩)
  | [.slice (some ⟨_, o, none⟩) n 1], [ob] => match ob.cs with
      | some cs => if o + n ≤ cs.length then match toBytes ((cs.drop o).take n) with
          | some bs => some ⟨some (.string ⟨⟨bs⟩⟩), [some ob], none⟩
          | none => none else none
      | none => none
  | _, _ => none

def c_s2s  (vals : List Value) (objs : List VObj) : Option CoreR :=
  match vals, objs with
  | [.string s], [] => val (.string s)
  | _, _ => none

def c_iface (t : Nat) (vals : List Value) (objs : List VObj) : Option CoreR :=
  match vals, objs with
  | [v], [] => val (.iface t v)
  | _, _ => none

def c_tassert (t : Nat) (z : Value) (vals : List Value) (objs : List VObj) : Option CoreR :=
  match vals, objs with
  | [.iface t' v], [] => if t' = t then val (.tuple #[v, .bool true]) else val (.tuple #[z, .bool false])
  | [.nilIface], [] => val (.tuple #[z, .bool false])
  | _, _ => none

def c_mkFunc (f n : Nat) (vals : List Value) (objs : List VObj) : Option CoreR :=
  match vals, objs with
  | vs, [] => val (.func (.func f) ⟨vs.take n⟩ ⟨vs.drop n⟩)
  | _, _ => none

def c_mkSl (sz : Nat) (bytes : Nat) (z : List Value) (vals : List Value) (objs : List VObj) (top : Nat) : Option CoreR :=
  match vals, objs with
  | [.int _ l, .int _ c], [] =>
      if 0 ≤ l ∧ l ≤ c ∧ c < 2 ^ 63 ∧ (bytes : Int) * c ≤ 2 ^ 48 then
        some ⟨some (.slice (some ⟨top, 0, none⟩) l.toNat sz), [], some (.row true (List.replicate c.toNat z).flatten)⟩
      else none
  | _, _ => none

def c_sliceS (bl : Bool) (bh : Bool) (vals : List Value) (objs : List VObj) : Option CoreR :=
  match vals, objs with
  | .string s :: bs, [] => match loHi s.data.toList.length bl bh bs with
      | some (l, h) => val (.string ⟨⟨(s.data.toList.drop l).take (h - l)⟩⟩)
      | none => none
  | _, _ => none

def c_sliceL (sz : Nat) (bl : Bool) (bh : Bool) (vals : List Value) (objs : List VObj) : Option CoreR :=
  match vals, objs with
  | .slice none 0 c :: bs, [] => match loHi 0 bl bh bs with
      | some _ => val (.slice none 0 c)
      | none => none
  | .slice (some ⟨b, o, none⟩) n sz' :: bs, [] => if sz = sz' then match loHi n bl bh bs with
      | some (l, h) => val (.slice (some ⟨b, o + l * sz, none⟩) (h - l) sz)
      | none => none else none
  | _, _ => none

def c_sliceA (n : Nat) (sz : Nat) (bl : Bool) (bh : Bool) (vals : List Value) (objs : List VObj) : Option CoreR :=
  match vals, objs with
  | .pointer (some ⟨b, o, none⟩) :: bs, [ob] => match ob.cs with
    | some cs => if o + n * sz ≤ cs.length then match loHi n bl bh bs with
      | some (l, h) => some ⟨some (.slice (some ⟨b, o + l * sz, none⟩) (h - l) sz), [some ob], none⟩
      | none => none else none
    | none => none
  | _, _ => none

def c_fieldA (off : Nat) (vals : List Value) (objs : List VObj) : Option CoreR :=
  match vals, objs with
  | [.pointer (some ⟨b, o, none⟩)], [] => val (.pointer (some ⟨b, o + off, none⟩))
  | _, _ => none

def c_part1 (off : Nat) (vals : List Value) (objs : List VObj) : Option CoreR :=
  match vals, objs with
  | [.agg ⟨cs⟩], [] => match cs[off]? with | some v => val v | none => none
  | _, _ => none

def c_partN (off : Nat) (n : Nat) (vals : List Value) (objs : List VObj) : Option CoreR :=
  match vals, objs with
  | [.agg ⟨cs⟩], [] => if off + n ≤ cs.length then val (.agg ⟨(cs.drop off).take n⟩) else none
  | _, _ => none

def c_idxAA (n : Nat) (sz : Nat) (vals : List Value) (objs : List VObj) : Option CoreR :=
  match vals, objs with
  | [.pointer (some ⟨b, o, none⟩), .int _ i], [] => if 0 ≤ i ∧ i < n then val (.pointer (some ⟨b, o + i.toNat * sz, none⟩)) else none
  | _, _ => none

def c_idxAL (sz : Nat) (vals : List Value) (objs : List VObj) : Option CoreR :=
  match vals, objs with
  | [.slice (some ⟨b, o, none⟩) n _, .int _ i], [] => if 0 ≤ i ∧ i < n then val (.pointer (some ⟨b, o + i.toNat * sz, none⟩)) else none
  | _, _ => none

def c_idxV1 (n : Nat) (vals : List Value) (objs : List VObj) : Option CoreR :=
  match vals, objs with
  | [.agg ⟨cs⟩, .int _ i], [] => if 0 ≤ i ∧ i < n then match cs[i.toNat]? with | some v => val v | none => none else none
  | _, _ => none

def c_idxVN (n : Nat) (sz : Nat) (vals : List Value) (objs : List VObj) : Option CoreR :=
  match vals, objs with
  | [.agg ⟨cs⟩, .int _ i], [] => if 0 ≤ i ∧ i < n ∧ i.toNat * sz + sz ≤ cs.length then val (.agg ⟨(cs.drop (i.toNat * sz)).take sz⟩) else none
  | _, _ => none

def c_idxS  (vals : List Value) (objs : List VObj) : Option CoreR :=
  match vals, objs with
  | [.string s, .int _ i], [] => if 0 ≤ i then match s.data.toList[i.toNat]? with | some b => val (.int .u8 b.toNat) | none => none else none
  | _, _ => none

def c_extract (i : Nat) (vals : List Value) (objs : List VObj) : Option CoreR :=
  match vals, objs with
  | [.tuple ⟨vs⟩], [] => match vs[i]? with | some v => val v | none => none
  | _, _ => none

def c_lenS (vals : List Value) (objs : List VObj) : Option CoreR :=
  match vals, objs with
  | [.string s], [] => val (.int .i64 s.data.toList.length)
  | _, _ => none

def c_lenL (vals : List Value) (objs : List VObj) : Option CoreR :=
  match vals, objs with
  | [.slice _ n _], [] => val (.int .i64 n)
  | [.func (.method _) ⟨[.slice _ n _]⟩ ⟨[]⟩], [] => val (.int .i64 n)
  | _, _ => none

def c_lenN (n : Nat) (vals : List Value) (objs : List VObj) : Option CoreR :=
  match vals, objs with
  | [], [] => val (.int .i64 n)
  | _, _ => none

def c_minmax (mx : Bool) (vals : List Value) (objs : List VObj) : Option CoreR :=
  match vals, objs with
  | .int k n :: vs, [] => match foldV mx (.int k n) vs with | some z => val z | none => none
  | _, _ => none

/-- a slice of a builder's own (its row is typed, or it is nil) -/
def bSl (b n : Nat) : Value := .func (.method "") ⟨[.slice (some ⟨b, 0, none⟩) n 1]⟩ ⟨[]⟩

def c_allocB (t e : Nat) (vals : List Value) (objs : List VObj) (top : Nat) : Option CoreR :=
  match vals, objs with
  | [], [] => some ⟨some (.pointer (some ⟨top, 0, none⟩)), [], some (.ty t [.pointer none, .func (.method "") ⟨[.slice none 0 e]⟩ ⟨[]⟩])⟩
  | _, _ => none

def c_eqP (neg : Bool) (vals : List Value) (objs : List VObj) : Option CoreR :=
  match vals, objs with
  | [.pointer (some ⟨b, o, none⟩), .pointer (some ⟨b', o', none⟩)], [] => if b = b' ∧ o = o' then val (.bool (!neg)) else none
  | _, _ => none

def c_toU (vals : List Value) (objs : List VObj) : Option CoreR :=
  match vals, objs with
  | [.pointer (some ⟨b, o, none⟩)], [.ty e cs] => if o < cs.length then some ⟨some (.pointer (some ⟨b, o, none⟩)), [some (.ty e cs)], none⟩ else none
  | _, _ => none

def c_ofU (u n : Nat) (vals : List Value) (objs : List VObj) : Option CoreR :=
  match vals, objs with
  | [.pointer (some ⟨b, 0, none⟩)], [.ty e cs] => if e = u ∧ n ≤ cs.length then some ⟨some (.pointer (some ⟨b, 0, none⟩)), [some (.ty e cs)], none⟩ else none
  | _, _ => none

def c_sdata (vals : List Value) (objs : List VObj) : Option CoreR :=
  match vals, objs with
  | [.func (.method _) ⟨[.slice none 0 _]⟩ ⟨[]⟩], [] => val (.pointer none)
  | [.func (.method _) ⟨[.slice (some ⟨b, 0, none⟩) n 1]⟩ ⟨[]⟩], [] => val (.func (.method "") ⟨[.slice (some ⟨b, 0, none⟩) n 1]⟩ ⟨[.bool true]⟩)
  | _, _ => none

def c_ustr (t : Nat) (vals : List Value) (objs : List VObj) : Option CoreR :=
  match vals, objs with
  | [.pointer none, .int .i64 0], [] => val (.string ⟨⟨[]⟩⟩)
  | [.func (.method _) ⟨[.slice (some ⟨_, 0, none⟩) n 1]⟩ ⟨[.bool true]⟩, .int .i64 m], [.ty e cs] => if e = t ∧ m = n ∧ n ≤ cs.length ∧ n < 2 ^ 63 then match toBytes (cs.take n) with
      | some bs => some ⟨some (.string ⟨⟨bs⟩⟩), [some (.row false cs)], none⟩
      | none => none else none
  | _, _ => none

def c_app (t sz bytes : Nat) (vals : List Value) (objs : List VObj) (top : Nat) : Option CoreR :=
  match vals, objs with
  | [.slice none 0 _, y], objs => match srcCells sz y objs, srcLen y with
      | some new, some m => if m * bytes ≤ 2 ^ 47 ∧ new.length = m * sz then
          some ⟨some (.slice (some ⟨top, 0, none⟩) m sz), objs.map some, some (.row true new)⟩ else none
      | _, _ => none
  | [.slice (some ⟨b, o, none⟩) n sz', y], .row true cs :: objs => match srcCells sz y objs, srcLen y with
      | some new, some m => if (n + m) * bytes ≤ 2 ^ 47 ∧ o + n * sz ≤ cs.length ∧ sz = sz' ∧ new.length = m * sz ∧ new.all oneC = true ∧ (addrBlk y).all (fun c => !Nat.beq b c) = true then
          some ⟨some (.slice (some ⟨top, 0, none⟩) (n + m) sz), none :: objs.map some, some (.row true ((cs.drop o).take (n * sz) ++ new))⟩ else none
      | _, _ => none
  | [.func (.method _) ⟨[.slice none 0 e]⟩ ⟨[]⟩, y], objs => match srcCells sz y objs, srcLen y with
      | some new, some m => if m * bytes ≤ 2 ^ 47 ∧ new.length = m * sz ∧ sz = 1 ∧ e = t then
          some ⟨some (bSl top m), objs.map some, some (.ty t new)⟩ else none
      | _, _ => none
  | [.func (.method _) ⟨[.slice (some ⟨b, 0, none⟩) n 1]⟩ ⟨[]⟩, y], .ty e cs :: objs => match srcCells sz y objs, srcLen y with
      | some new, some m => if (n + m) * bytes ≤ 2 ^ 47 ∧ n ≤ cs.length ∧ sz = 1 ∧ e = t ∧ new.length = m ∧ new.all oneC = true ∧ (addrBlk y).all (fun c => !Nat.beq b c) = true then
          some ⟨some (bSl top (n + m)), none :: objs.map some, some (.ty t (cs.take n ++ new))⟩ else none
      | _, _ => none
  | _, _ => none

def c_rangeS  (vals : List Value) (objs : List VObj) (top : Nat) : Option CoreR :=
  match vals, objs with
  | [.string s], [] => some ⟨some (.pointer (some ⟨top, 0, none⟩)), [], some (.siter s 0)⟩
  | _, _ => none

def c_nextS  (vals : List Value) (objs : List VObj) : Option CoreR :=
  match vals, objs with
  | [.pointer (some ⟨_, 0, none⟩)], [.siter s pos] =>
      if pos < s.size then some ⟨some (.tuple #[.bool true, .int .i64 pos, .int .i32 (Utf8.decode s pos).1]), [some (.siter s (pos + (Utf8.decode s pos).2))], none⟩
      else some ⟨some (.tuple #[.bool false]), [some (.siter s pos)], none⟩
  | _, _ => none

def core (op : VOp) (vals : List Value) (objs : List VObj) (top : Nat) : Option CoreR :=
  match op with
  | .mv _ => c_mv  vals objs
  | .pick _ _ _ => c_pick  vals objs
  | .alloc z => c_alloc z vals objs top
  | .box _ => c_box  vals objs top
  | .build z ps => c_build z ps vals objs
  | .buildSl len sz z ps => c_buildSl len sz z ps vals objs top
  | .load1 _ _ => c_load1  vals objs
  | .loadN ks _ => c_loadN ks.length vals objs
  | .store n _ _ => c_store n vals objs
  | .nilCheck _ => c_nilCheck  vals objs
  | .bin op _ _ => c_bin op vals objs
  | .eqB neg _ _ => c_eqB neg vals objs
  | .isNil k neg _ => c_isNil k neg vals objs
  | .eqAgg neg os _ _ => c_eqAgg neg os vals objs
  | .not _ => c_not  vals objs
  | .neg _ => c_neg  vals objs
  | .cmpl _ => c_cmpl  vals objs
  | .conv k _ => c_conv k vals objs
  | .s2b _ => c_s2b  vals objs top
  | .b2s _ => c_b2s  vals objs
  | .s2s _ => c_s2s  vals objs
  | .iface t _ => c_iface t vals objs
  | .tassert t z _ => c_tassert t z vals objs
  | .mkFunc f first _ => c_mkFunc f first.length vals objs
  | .mkSl sz bytes z _ _ => c_mkSl sz bytes z vals objs top
  | .sliceS _ lo hi => c_sliceS lo.isSome hi.isSome vals objs
  | .sliceL sz _ lo hi => c_sliceL sz lo.isSome hi.isSome vals objs
  | .sliceA n sz _ lo hi => c_sliceA n sz lo.isSome hi.isSome vals objs
  | .fieldA off _ => c_fieldA off vals objs
  | .part1 off _ => c_part1 off vals objs
  | .partN off n _ => c_partN off n vals objs
  | .idxAA n sz _ _ => c_idxAA n sz vals objs
  | .idxAL sz _ _ => c_idxAL sz vals objs
  | .idxV1 n _ _ => c_idxV1 n vals objs
  | .idxVN n sz _ _ => c_idxVN n sz vals objs
  | .idxS _ _ => c_idxS  vals objs
  | .extract i _ => c_extract i vals objs
  | .lenS _ => c_lenS vals objs
  | .lenL _ => c_lenL vals objs
  | .lenN n => c_lenN n vals objs
  | .minmax mx _ => c_minmax mx vals objs
  | .app t sz bytes _ _ => c_app t sz bytes vals objs top
  | .allocB t e => c_allocB t e vals objs top
  | .eqP neg _ _ => c_eqP neg vals objs
  | .toU _ => c_toU vals objs
  | .ofU u n _ => c_ofU u n vals objs
  | .sdata _ => c_sdata vals objs
  | .ustr t _ _ => c_ustr t vals objs
  | .rangeS _ => c_rangeS  vals objs top
  | .nextS _ => c_nextS  vals objs
  | .callF .. => none
  | .callV .. => none

def agets (h : Hp) : List Nat → Option (List VObj)
  | [] => some []
  | i :: is => match aget h i with
    | some o => match agets h is with
      | some os => some (o :: os)
      | none => none
    | none => none

def aputs (h : Hp) : List Nat → List (Option VObj) → Hp
  | i :: is, some o :: os => aputs (aput h i o) is os
  | i :: is, none :: os => aputs (adel h i) is os
  | _, _ => h

def opRun (op : VOp) (vals : List Value) (h : Hp) (top : Nat) : Option (Option Value × Hp × Nat) :=
  match agets h (needs op vals) with
  | none => none
  | some objs => match core op vals objs top with
    | none => none
    | some ⟨v, objs', fr⟩ => match fr with
      | none => some (v, aputs h (needs op vals) objs', top)
      | some o => some (v, aput (aputs h (needs op vals) objs') top o, top + 1)

/-- A way to a block: from a cell of the argument (src none), or of the src-th block found, the k-th address in it. kind: 0 it is only read, as a row; 1 cells; 2 a row of one's own. nil sz: a nil slice that stands there counts as one of no elements (of sz cells). -/
structure Path where
  src : Option Nat
  cell : Nat
  k : Nat
  kind : Nat
  nil : Option Nat

/-- How a summary reads an argument: a value without pointers; a slice (cells of an element) that is only read; a pointer to cells that may be written; any value, with the blocks to which it leads. -/
inductive Md where
  | v
  | sl (sz : Nat)
  | pt (n : Nat)
  | tr (ps : List Path)

/-- What a function answers: a value, the new rows, and what the windows hold afterwards (none: no more than it matters to nobody). Numbers of blocks in it: first the new rows, then the windows. -/
structure SRes where
  v : Value
  new : List (List Value)
  wr : List (Option (List Value))

/-- A summary of a function that keeps nothing of what it was handed: what it does to the arguments, in a numbering of its own, and to what the windows hold. -/
structure Summ where
  modes : List Md
  run : List Value → List (Option (List Value)) → Option SRes

abbrev Fns := Nat → Option VFn
abbrev Sums := Nat → Option Summ

def flatV : Value → Bool
  | .bool _ | .int .. | .string _ | .pointer none | .slice none 0 0 | .nilFunc | .nilIface => true
  | .agg ⟨l⟩ => flatL l
  | .tuple ⟨l⟩ => flatL l
  | .iface _ v => flatV v
  | _ => false
where flatL : List Value → Bool
  | [] => true
  | v :: l => flatV v && flatL l

/-- the cells of an object that may be written -/
def VObj.wcs : VObj → Option (List Value)
  | .cells cs | .row true cs => some cs
  | _ => none

/-- the blocks that a value leads to, in their order; none: an address that is nil -/
def addrsV : Value → List (Option Nat)
  | .pointer none => [none]
  | .pointer (some a) => [some a.block]
  | .slice none _ _ => [none]
  | .slice (some a) _ _ => [some a.block]
  | .func _ ⟨f⟩ ⟨c⟩ => addrsL f ++ addrsL c
  | .iface _ v => addrsV v
  | .agg ⟨l⟩ => addrsL l
  | .tuple ⟨l⟩ => addrsL l
  | _ => []
where addrsL : List Value → List (Option Nat)
  | [] => []
  | v :: l => addrsV v ++ addrsL l

/-- what lies at a path: nothing, a nil slice (cells of an element), a block -/
inductive PR where
  | no
  | nil (sz : Nat)
  | hit (b : Nat)

def prOf (p : Path) : Option Value → PR
  | none => .no
  | some c => match p.nil, c with
    | some sz, .slice none 0 _ => .nil sz
    | _, c => match (addrsV c)[p.k]? with
      | some (some b) => .hit b
      | _ => .no

def findP (h : Hp) (v : Value) (bs : List PR) (p : Path) : PR :=
  match p.src with
  | none => prOf p (cellsL v)[p.cell]?
  | some i => match bs[i]? with
    | some (.hit b) => match aget h b with
      | some ob => match ob.cs with
        | some cs => prOf p cs[p.cell]?
        | none => .no
      | none => .no
    | _ => .no

def walkP (h : Hp) (v : Value) : List Path → List PR → List PR
  | [], bs => bs
  | p :: ps, bs => walkP h v ps (bs ++ [findP h v bs p])

/-- the number of a block that was found -/
def numB (k : Nat) : List PR → Nat → Option Nat
  | [], _ => none
  | .hit c :: l, b => cond (Nat.beq c b) (some k) (numB (k + 1) l b)
  | _ :: l, b => numB (k + 1) l b

/-- the cells of one source where nil slices stand, and what takes their place -/
def patsP (k : Nat) (src : Option Nat) : List Path → List PR → List (Nat × Value)
  | p :: ps, .nil sz :: bs => cond (p.src == src) ((p.cell, .slice (some ⟨k, 0, none⟩) 0 sz) :: patsP (k + 1) src ps bs) (patsP (k + 1) src ps bs)
  | _ :: ps, _ :: bs => patsP (k + 1) src ps bs
  | _, _ => []
def setsL : List Value → List (Nat × Value) → List Value
  | cs, [] => cs
  | cs, (i, x) :: l => setsL (cs.set i x) l
def patchV (v : Value) (l : List (Nat × Value)) : Value :=
  match l with
  | [] => v
  | (_, x) :: _ => match v with
    | .agg ⟨cs⟩ => .agg ⟨setsL cs l⟩
    | _ => x

def mkObj (kind : Nat) (cs : List Value) : VObj :=
  match kind with
  | 0 => .row false cs
  | 1 => .cells cs
  | _ => .row true cs

/-- where what an argument leads to lies: nowhere; in a row of no cells (that may be written?); in a window of a block; in a whole block -/
inductive Wd where
  | no
  | emp (wr : Bool)
  | win (b off n : Nat) (wr : Bool)
  | blk (b : Nat) (wr : Bool)

def isW (kind : Nat) : Bool := match kind with | 0 => false | _ => true

def winP : List Path → List PR → List Wd
  | _ :: ps, .no :: bs => .no :: winP ps bs
  | p :: ps, .nil _ :: bs => .emp (isW p.kind) :: winP ps bs
  | p :: ps, .hit b :: bs => .blk b (isW p.kind) :: winP ps bs
  | _, _ => []

def winM (h : Hp) : Md → Value → List Wd
  | .v, _ => []
  | .sl sz, .slice (some a) n _ => [.win a.block a.off (n * sz) false]
  | .sl _, _ => [.emp false]
  | .pt n, .pointer (some a) => [.win a.block a.off n true]
  | .pt _, _ => [.no]
  | .tr ps, v => winP ps (walkP h v ps [])

/-- the arguments' windows, in their order -/
def winL (h : Hp) : List Md → List Value → List Wd
  | m :: ms, v :: vs => winM h m v ++ winL h ms vs
  | _, _ => []

def Wd.wr : Wd → Bool
  | .no => false
  | .emp w => w
  | .win _ _ _ w => w
  | .blk _ w => w
def Wd.blk? : Wd → Option Nat
  | .win b _ _ _ => some b
  | .blk b _ => some b
  | _ => none

/-- renaming of a value -/
def renV (s : Nat → Option Nat) : Value → Option Value
  | .pointer (some ⟨b, o, none⟩) => match s b with
    | some c => some (.pointer (some ⟨c, o, none⟩))
    | none => none
  | .slice (some ⟨b, o, none⟩) n sz => match s b with
    | some c => some (.slice (some ⟨c, o, none⟩) n sz)
    | none => none
  | .func (.func f) ⟨a⟩ ⟨b⟩ => match renL a, renL b with
    | some a', some b' => some (.func (.func f) ⟨a'⟩ ⟨b'⟩)
    | _, _ => none
  | .func (.yield l) ⟨[]⟩ ⟨[]⟩ => match s l with
    | some c => some (.func (.yield c) ⟨[]⟩ ⟨[]⟩)
    | none => none
  | .func (.method m) ⟨[.slice none 0 e]⟩ ⟨[]⟩ => some (.func (.method m) ⟨[.slice none 0 e]⟩ ⟨[]⟩)
  | .func (.method m) ⟨[.slice (some ⟨b, 0, none⟩) n 1]⟩ ⟨[]⟩ => match s b with
    | some c => some (.func (.method m) ⟨[.slice (some ⟨c, 0, none⟩) n 1]⟩ ⟨[]⟩)
    | none => none
  | .iface t v => match renV s v with
    | some v' => some (.iface t v')
    | none => none
  | .agg ⟨l⟩ => match renL l with
    | some l' => some (.agg ⟨l'⟩)
    | none => none
  | .tuple ⟨l⟩ => match renL l with
    | some l' => some (.tuple ⟨l'⟩)
    | none => none
  | .bool b => some (.bool b)
  | .int k n => some (.int k n)
  | .string x => some (.string x)
  | .float k n => some (.float k n)
  | .pointer none => some (.pointer none)
  | .slice none n c => some (.slice none n c)
  | .nilFunc => some .nilFunc
  | .nilIface => some .nilIface
  | _ => none
where renL : List Value → Option (List Value)
  | [] => some []
  | v :: l => match renV s v with
    | some v' => match renL l with
      | some l' => some (v' :: l')
      | none => none
    | none => none

/-- what the windows of a tree hold, as the function sees it -/
def viewP (h : Hp) (s : Nat → Option Nat) (pat : Option Nat → List (Nat × Value)) (i : Nat) : List Path → List PR → Option (List (Option VObj))
  | _ :: ps, .no :: bs => match viewP h s pat (i + 1) ps bs with
    | some l => some (none :: l)
    | none => none
  | p :: ps, .nil _ :: bs => match viewP h s pat (i + 1) ps bs with
    | some l => some (some (mkObj p.kind []) :: l)
    | none => none
  | p :: ps, .hit b :: bs => match aget h b with
    | some ob => match (cond (isW p.kind) ob.wcs ob.cs) with
      | some cs => match renV.renL s cs with
        | some cs' => match viewP h s pat (i + 1) ps bs with
          | some l => some (some (mkObj p.kind (setsL cs' (pat (some i)))) :: l)
          | none => none
        | none => none
      | none => none
    | none => none
  | [], [] => some []
  | _, _ => none

/-- an argument as the function sees it (k: the number of its first window), and what its windows hold -/
def readArg (h : Hp) (k : Nat) : Md → Value → Option (Value × List (Option VObj))
  | .v, v => if flatV v then some (v, []) else none
  | .sl sz, .slice none 0 _ => some (.slice (some ⟨k, 0, none⟩) 0 sz, [some (.row false [])])
  | .sl sz, .slice (some ⟨b, o, none⟩) n sz' => if sz = sz' then match aget h b with
    | some ob => match ob.cs with
      | some cs => if o + n * sz ≤ cs.length then (if flatV.flatL ((cs.drop o).take (n * sz)) then some (.slice (some ⟨k, 0, none⟩) n sz, [some (.row false ((cs.drop o).take (n * sz)))]) else none) else none
      | none => none
    | none => none else none
  | .pt _, .pointer none => some (.pointer none, [none])
  | .pt n, .pointer (some ⟨b, o, none⟩) => match aget h b with
    | some ob => match ob.wcs with
      | some cs => if o + n ≤ cs.length then (if flatV.flatL ((cs.drop o).take n) then some (.pointer (some ⟨k, 0, none⟩), [some (.cells ((cs.drop o).take n))]) else none) else none
      | none => none
    | none => none
  | .tr ps, v => match renV (numB k (walkP h v ps [])) v with
    | some v' => match viewP h (numB k (walkP h v ps [])) (fun s => patsP k s ps (walkP h v ps [])) 0 ps (walkP h v ps []) with
      | some l => some (patchV v' (patsP k none ps (walkP h v ps [])), l)
      | none => none
    | none => none
  | _, _ => none

def readArgs (h : Hp) (k : Nat) : List Md → List Value → Option (List Value × List (Option VObj))
  | [], [] => some ([], [])
  | m :: ms, v :: vs => match readArg h k m v with
    | some (a, os) => match readArgs h (k + os.length) ms vs with
      | some (aqs, os') => some (a :: aqs, os ++ os')
      | none => none
    | none => none
  | _, _ => none

def conts : List (Option VObj) → List (Option (List Value))
  | [] => []
  | none :: l => none :: conts l
  | some o :: l => o.cs :: conts l

def winsBut (b : Nat) (wr : Bool) : List Wd → Bool
  | [] => true
  | x :: l => match x.blk? with
    | none => winsBut b wr l
    | some c => cond (Nat.beq b c) (cond wr false (cond x.wr false (winsBut b wr l))) (winsBut b wr l)

/-- no writable window lies in another one's block -/
def apartB : List Wd → Bool
  | [] => true
  | x :: l => match x.blk? with
    | none => apartB l
    | some b => cond (winsBut b x.wr l) (apartB l) false

/-- the numbers of an answer's blocks in the memory of the caller: the new rows, the windows that are whole blocks, the rows of no cells -/
def numW (m : Nat) : List Wd → Nat → Option Nat
  | [], _ => none
  | x :: _, 0 => match x with
    | .blk b _ => some b
    | .emp _ => some m
    | _ => none
  | .emp _ :: ws, j + 1 => numW (m + 1) ws j
  | _ :: ws, j + 1 => numW m ws j
def numR (top n : Nat) (ws : List Wd) (i : Nat) : Option Nat := cond (Nat.blt i n) (some (top + i)) (numW (top + n) ws (i - n))
def emps : List Wd → Nat
  | [] => 0
  | .emp _ :: ws => emps ws + 1
  | _ :: ws => emps ws

/-- what the writable windows hold now -/
def wback (h : Hp) (s : Nat → Option Nat) : List Wd → List (Option (List Value)) → Option Hp
  | [], [] => some h
  | .win b off n true :: ws, some c :: cs => match aget h b with
    | some ob => match ob.wcs with
      | some x => match renV.renL s c with
        | some c' => if c'.length = n ∧ off + n ≤ x.length then (match ob.wr (setAt x off c') with | some ob' => wback (aput h b ob') s ws cs | none => none) else none
        | none => none
      | none => none
    | none => none
  | .win _ _ _ true :: _, none :: _ => none
  | .blk b true :: ws, some c :: cs => match aget h b with
    | some ob => match ob.wcs with
      | some _ => match renV.renL s c with
        | some c' => match ob.wr c' with
          | some ob' => wback (aput h b ob') s ws cs
          | none => none
        | none => none
      | none => none
    | none => none
  | .blk b true :: ws, none :: cs => wback (adel h b) s ws cs
  | _ :: ws, _ :: cs => wback h s ws cs
  | _, _ => none

def addNew (h : Hp) (s : Nat → Option Nat) (top : Nat) : List (List Value) → Option Hp
  | [] => some h
  | c :: cs => match renV.renL s c with
    | some c' => addNew (aput h top (.row true c')) s (top + 1) cs
    | none => none

/-- rows of no cells -/
def addEmp (h : Hp) (top : Nat) : Nat → Hp
  | 0 => h
  | n + 1 => addEmp (aput h top (.row true [])) (top + 1) n

def sumRun (s : Summ) (vals : List Value) (h : Hp) (top : Nat) : Option (Value × Hp × Nat) :=
  match readArgs h 0 s.modes vals with
  | none => none
  | some (aqs, os) => match s.run aqs (conts os) with
    | none => none
    | some ⟨v, new, wr⟩ => match apartB (winL h s.modes vals) with
      | false => none
      | true => match wback h (numR top new.length (winL h s.modes vals)) (winL h s.modes vals) wr with
        | none => none
        | some h1 => match addNew h1 (numR top new.length (winL h s.modes vals)) top new with
          | none => none
          | some h2 => match renV (numR top new.length (winL h s.modes vals)) v with
            | none => none
            | some v' => some (v', addEmp h2 (top + new.length) (emps (winL h s.modes vals)), top + new.length + emps (winL h s.modes vals))

def putD (n : Nat) (e : Env) (d : Option Nat) (v : Value) : Env := match d with | some i => cond (Nat.blt i n) (aput e i v) e | none => e

def enumEnv (i : Nat) : List Value → Env
  | [] => []
  | v :: vs => (i, v) :: enumEnv (i + 1) vs

def exitTo (id : Nat) : List VItem → Option (List VItem)
  | .inBlock id' :: k => if id' = id then some k else exitTo id k
  | _ :: k => exitTo id k
  | [] => none

def finish (u : VFrame) (v : Value) : Option VFrame :=
  match u.todo with
  | .inReg (o :: rest) :: k => some { u with env := putD u.nt u.env o.dst v, todo := .inReg rest :: k }
  | .inRangeFunc l :: k => some { u with todo := .endRangeFunc l :: k }
  | _ => none

def resV (e : Env) (h : Hp) : VRes → Option Value
  | .tmp t => aget e t
  | .cell t ks agg => match aget e t with
    | some (.pointer (some ⟨b, o, none⟩)) => match aget h b with
      | some ob => match ob.cs with
        | some cs => if agg then (if o + ks.length ≤ cs.length then some (.agg ⟨(cs.drop o).take ks.length⟩) else none) else cs[o]?
        | none => none
      | none => none
    | _ => none

def resVs (e : Env) (h : Hp) : List VRes → Option (List Value)
  | [] => some []
  | r :: rs => match resV e h r with
    | some v => match resVs e h rs with
      | some vs => some (v :: vs)
      | none => none
    | none => none

def tupV : List Value → Value
  | [v] => v
  | vs => .tuple ⟨vs⟩

/-- is an operation to be carried out? -/
def wantedV (e : Env) : Option (Nat × Bool) → Option Bool
  | none => some true
  | some (d, w) => match aget e d with
    | some (.bool b) => some (b == w)
    | some (.tuple ⟨[]⟩) => some false
    | _ => none

def enterF (F : Fns) (f : Nat) (args : List Value) : Option VFrame :=
  match F f with
  | some fn => if args.length ≤ fn.nt then some ⟨f, fn.nt, enumEnv 0 args, [.code fn.body], [], false, none⟩ else none
  | none => none

def putParams (n : Nat) : Env → List Nat → List Value → Env
  | e, p :: ps, v :: vs => putParams n (putD n e (some p) v) ps vs
  | e, _, _ => e

/-- leave a round: by no jump, or by one -/
def leaveRound (l : Nat) (jump : Option VC) (up : List VFrame) (h : Hp) (top : Nat) : Option VM :=
  match aget h l with
  | some (.loop r) => match up with
    | u :: us => match finish u (.bool jump.isNone) with
      | some u' => some ⟨u', us, aput h l (.loop { r with state := if jump.isNone then .ready else .done, pending := jump }), top⟩
      | none => none
    | [] => none
  | _ => none

def callRound (l : Nat) (args : List Value) (h : Hp) : Option VFrame :=
  match aget h l with
  | some (.loop r) => if args.length = r.params.length then
      some ⟨r.fn, r.nt, putParams r.nt r.env r.params args, [.code r.asg, .beginRound, .code r.body], [], false, some l⟩ else none
  | _ => none

def stepOp (F : Fns) (S : Sums) (o : VOper) (rest : List VOper) (k : List VItem) (fr : VFrame) (up : List VFrame) (h : Hp) (top : Nat) : Option VM :=
  match evalL fr.env o.op.ops with
  | none => none
  | some vals => match o.op with
    | .callF f _ => match S f with
      | some s => match sumRun s vals h top with
        | some (v, h', top') => some ⟨{ fr with env := putD fr.nt fr.env o.dst v, todo := .inReg rest :: k }, up, h', top'⟩
        | none => none
      | none => match enterF F f vals with
        | some c => some ⟨c, { fr with todo := .inReg (o :: rest) :: k } :: up, h, top⟩
        | none => none
    | .callV _ _ => match vals with
      | .func (.func f) ⟨first⟩ ⟨caps⟩ :: args => match S f with
        | some s => match sumRun s (first ++ args ++ caps) h top with
          | some (v, h', top') => some ⟨{ fr with env := putD fr.nt fr.env o.dst v, todo := .inReg rest :: k }, up, h', top'⟩
          | none => none
        | none => match enterF F f (first ++ args ++ caps) with
          | some c => some ⟨c, { fr with todo := .inReg (o :: rest) :: k } :: up, h, top⟩
          | none => none
      | .func (.yield l) ⟨[]⟩ ⟨[]⟩ :: args => match callRound l args h with
        | some c => some ⟨c, { fr with todo := .inReg (o :: rest) :: k } :: up, h, top⟩
        | none => none
      | _ => none
    | op => match opRun op vals h top with
      | some (v, h', top') => some ⟨{ fr with env := putD fr.nt fr.env o.dst (v.getD undefV), todo := .inReg rest :: k }, up, h', top'⟩
      | none => none

/-! regions whose order is drawn -/
def wrOp : VOp → Bool
  | .store .. | .app .. | .nextS .. | .ustr .. => true
  | _ => false

def winBlks : List Wd → List Nat
  | [] => []
  | x :: l => match x.blk? with
    | none => winBlks l
    | some b => b :: winBlks l
def winWr : List Wd → List Nat
  | [] => []
  | x :: l => match x.blk? with
    | none => winWr l
    | some b => cond x.wr (b :: winWr l) (winWr l)

/-- one operation, at m as the number of the next new block; with the blocks that it reads and writes. Calls by summaries alone. -/
def stepD (S : Sums) (nt : Nat) (o : VOper) (e : Env) (h : Hp) (m : Nat) : Option (Env × Hp × Nat × List Nat × List Nat) :=
  match wantedV e o.g with
  | none => none
  | some false => some (putD nt e o.dst undefV, h, m, [], [])
  | some true => match evalL e o.op.ops with
    | none => none
    | some vals => match o.op with
      | .callF f _ => match S f with
        | some s => match sumRun s vals h m with
          | some (v, h', m') => some (putD nt e o.dst v, h', m', winBlks (winL h s.modes vals), winWr (winL h s.modes vals))
          | none => none
        | none => none
      | .callV _ _ => match vals with
        | .func (.func f) ⟨first⟩ ⟨caps⟩ :: args => match S f with
          | some s => match sumRun s (first ++ args ++ caps) h m with
            | some (v, h', m') => some (putD nt e o.dst v, h', m', winBlks (winL h s.modes (first ++ args ++ caps)), winWr (winL h s.modes (first ++ args ++ caps)))
            | none => none
          | none => none
        | _ => none
      | op => match opRun op vals h m with
        | some (v, h', m') => some (putD nt e o.dst (v.getD undefV), h', m', needs op vals, cond (wrOp op) (needs op vals) [])
        | none => none

abbrev Fp := List Nat × List Nat

def runD (S : Sums) (nt : Nat) : List VOper → Env → Hp → Nat → Option (List Fp × Env × Hp × Nat)
  | [], e, h, m => some ([], e, h, m)
  | o :: os, e, h, m => match stepD S nt o e h m with
    | none => none
    | some (e1, h1, m1, r, w) => match runD S nt os e1 h1 (m1 + 1) with
      | none => none
      | some (fps, e', h', m') => some ((r, w ++ List.range' m (m1 - m)) :: fps, e', h', m')

def bitAt (m i : Nat) : Bool := Nat.beq (Nat.land 1 (Nat.shiftRight m i)) 1
def memB (x : Nat) : List Nat → Bool
  | [] => false
  | y :: l => cond (Nat.beq x y) true (memB x l)
def disjB : List Nat → List Nat → Bool
  | [], _ => true
  | x :: l, k => cond (memB x k) false (disjB l k)
/-- neither writes what the other one reads or writes -/
def noConf (a b : Fp) : Bool := disjB a.2 b.1 && disjB a.2 b.2 && disjB b.2 a.1
def okCol (i : Nat) (f : Fp) : List Nat → List Fp → Bool
  | _, [] => true
  | m :: ms, g :: gs => (bitAt m i || noConf f g) && okCol i f ms gs
  | [], _ :: _ => false
/-- of two operations that no rule orders, neither writes what the other one reads or writes -/
def okAll (i : Nat) : List Nat → List Fp → Bool
  | _, [] => true
  | _ :: ms, f :: fs => okCol i f ms fs && okAll (i + 1) ms fs
  | [], _ :: _ => false

/-- 0: touches no memory; 1: only reads it; 2: may write it, or have a new block -/
def memK : VOp → Nat
  | .load1 .. | .loadN .. | .b2s _ | .sliceA .. | .toU _ | .ofU .. => 1
  | .allocB .. | .ustr .. => 2
  | .store .. | .app .. | .nextS .. | .alloc _ | .box _ | .buildSl .. | .s2b _ | .mkSl .. | .rangeS _ | .callF .. | .callV .. => 2
  | _ => 0
def pairFree (a b : VOp) : Bool := Nat.beq (memK a) 0 || (Nat.beq (memK b) 0 || (Nat.beq (memK a) 1 && Nat.beq (memK b) 1))
def frCol (i j : Nat) (a : VOp) : List Nat → List VOper → List (Nat × Nat)
  | m :: ms, o :: os => cond (bitAt m i || pairFree a o.op) (frCol i (j + 1) a ms os) ((i, j) :: frCol i (j + 1) a ms os)
  | _, _ => []
/-- the pairs of operations that no rule orders, and whose memory is to be looked at -/
def freePairs (i : Nat) : List Nat → List VOper → List (Nat × Nat)
  | _ :: ms, o :: os => frCol i (i + 1) o.op ms os ++ freePairs (i + 1) ms os
  | _, _ => []
def okPairs (fps : List Fp) : List (Nat × Nat) → Bool
  | [] => true
  | (i, j) :: l => (match fps[i]?, fps[j]? with | some a, some b => noConf a b | _, _ => false) && okPairs fps l

def tmpsOf : List Operand → List Nat
  | [] => []
  | .tmp t :: l => t :: tmpsOf l
  | _ :: l => tmpsOf l
/-- the temporaries that an operation reads, and the one that it writes -/
def tmpFp (o : VOper) : Fp := ((match o.g with | some (d, _) => [d] | none => []) ++ tmpsOf o.op.ops, match o.dst with | some d => [d] | none => [])

def vstep (F : Fns) (S : Sums) : VM → Option VM
  | ⟨fr, up, h, top⟩ =>
    match fr.ret with
    | true => match fr.defers with
      | r :: ds => match aget h r with
        | some .marks => some ⟨{ fr with defers := ds }, up, adel h r, top⟩
        | _ => none
      | [] => match F fr.fn, up with
        | some f, u :: us => match resVs fr.env h f.results with
          | some vs => match finish u (tupV vs) with
            | some u' => some ⟨u', us, h, top⟩
            | none => none
          | none => none
        | _, _ => none
    | false => match fr.todo with
      | [] => match fr.round with
        | none => some ⟨{ fr with ret := true }, up, h, top⟩
        | some l => leaveRound l none up h top
      | .code .ret :: _ => match fr.round with
        | none => some ⟨{ fr with ret := true }, up, h, top⟩
        | some l => leaveRound l (some .ret) up h top
      | .code .skip :: k => some ⟨{ fr with todo := k }, up, h, top⟩
      | .inBlock _ :: k => some ⟨{ fr with todo := k }, up, h, top⟩
      | .code (.seq a b) :: k => some ⟨{ fr with todo := .code a :: .code b :: k }, up, h, top⟩
      | .code (.cond c a b) :: k => match evalO fr.env c with
        | some (.bool x) => some ⟨{ fr with todo := .code (if x then a else b) :: k }, up, h, top⟩
        | _ => none
      | .code (.block id b) :: k => some ⟨{ fr with todo := .code b :: .inBlock id :: k }, up, h, top⟩
      | .code (.loop b) :: k => some ⟨{ fr with todo := .code b :: .inLoop b :: k }, up, h, top⟩
      | .inLoop b :: k => some ⟨{ fr with todo := .code b :: .inLoop b :: k }, up, h, top⟩
      | .code (.exit id) :: k => match exitTo id k with
        | some k' => some ⟨{ fr with todo := k' }, up, h, top⟩
        | none => match fr.round with
          | none => none
          | some l => leaveRound l (some (.exit id)) up h top
      | .code (.reg ops) :: k => some ⟨{ fr with todo := .inReg ops :: k }, up, h, top⟩
      | .code .stuck :: _ => none
      | .code (.regD ops chk post) :: k => match runD S fr.nt ops fr.env h top with
        | none => none
        | some (fps, e', h', top') => match okPairs fps chk with
          | false => none
          | true => some ⟨{ fr with env := e', todo := .inReg post :: k }, up, h', top'⟩
      | .inReg [] :: k => some ⟨{ fr with todo := k }, up, h, top⟩
      | .inReg (o :: rest) :: k => match wantedV fr.env o.g with
        | none => none
        | some false => some ⟨{ fr with env := putD fr.nt fr.env o.dst undefV, todo := .inReg rest :: k }, up, h, top⟩
        | some true => stepOp F S o rest k fr up h top
      | .code (.rangeF f ps asg body) :: k => match evalO fr.env f, fr.round with
        | some (.func (.func g) ⟨first⟩ ⟨caps⟩), none =>
          match enterF F g (first ++ [.func (.yield (top + 1)) #[] #[]] ++ caps) with
          | some c => some ⟨c, { fr with todo := .inRangeFunc (top + 1) :: k, defers := top :: fr.defers } :: up,
              aput (aput h top .marks) (top + 1) (.loop ⟨.ready, none, fr.fn, fr.nt, fr.env, ps, asg, body, top⟩), top + 2⟩
          | none => none
        | some (.func (.func g) ⟨first⟩ ⟨caps⟩), some l0 => match aget h l0 with
          | some (.loop r0) => match enterF F g (first ++ [.func (.yield top) #[] #[]] ++ caps) with
            | some c => some ⟨c, { fr with todo := .inRangeFunc top :: k } :: up,
                aput h top (.loop ⟨.ready, none, fr.fn, fr.nt, fr.env, ps, asg, body, r0.defers⟩), top + 1⟩
            | none => none
          | _ => none
        | _, _ => none
      | .inRangeFunc _ :: _ => none
      | .endRangeFunc l :: k => match aget h l with
        | some (.loop r) => match r.state with
          | .busy => none
          | _ => some ⟨{ fr with todo := (match r.pending with | some c => [.code c] | none => []) ++ k }, up,
              aput h l (.loop { r with state := .exhausted }), top⟩
        | _ => none
      | .beginRound :: k => match fr.round with
        | some l => match aget h l with
          | some (.loop r) => match r.state with
            | .ready => some ⟨{ fr with todo := k }, up, aput h l (.loop { r with state := .busy }), top⟩
            | _ => none
          | _ => none
        | none => none

end Go.Vm
