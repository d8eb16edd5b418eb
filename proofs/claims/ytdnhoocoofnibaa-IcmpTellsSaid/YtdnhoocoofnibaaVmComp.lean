import Derived.Test.YtdnhoocoofnibaaVmRel
namespace Go.Vm
open Go Go.RowKit
def okO : Operand → Bool
  | .tmp _ => true
  | .const v => flatV v
  | .global _ => false
  | .func _ => true
def skOf (P : Program) (t : TypeId) : SK :=
  match P.underlying t with
  | some .bool => .bool
  | some (.int k) => .int k
  | some .string => .str
  | _ => .oth
def isAggB (P : Program) (t : TypeId) : Bool :=
  match P.underlying t with
  | some (.struct _) => true
  | some (.array _ _) => true
  | _ => false
def leaves (P : Program) : Nat → TypeId → List SK
  | 0, _ => []
  | n + 1, t => match P.underlying t with
    | some (.struct fs) => fs.toList.flatMap fun f => leaves P n f.type
    | some (.array m e) => (List.replicate m (leaves P n e)).flatten
    | _ => [skOf P t]
def eqFields (P : Program) (g : TypeId → Nat → Option (List (Nat × SK))) (o size : Nat) : List Field → Option (List (Nat × SK))
  | [] => some []
  | f :: fs => if f.name = "_" ∨ size < f.offset + P.cellsOf f.type ∨ P.cellsOf f.type = 0 ∨ (P.info? f.type).isNone = true then none else match g f.type (o + f.offset) with
    | some a => match eqFields P g o size fs with
      | some b => some (a ++ b)
      | none => none
    | none => none
def eqElems (g : TypeId → Nat → Option (List (Nat × SK))) (o : Nat) (e : TypeId) (sz : Nat) (i : Nat) : Nat → Option (List (Nat × SK))
  | 0 => some []
  | m + 1 => match g e (o + i * sz) with
    | some a => match eqElems g o e sz (i + 1) m with
      | some b => some (a ++ b)
      | none => none
    | none => none
def eqOffs (P : Program) : Nat → TypeId → Nat → Option (List (Nat × SK))
  | 0, _, _ => none
  | n + 1, t, o => match P.underlying t with
    | some .bool => some [(o, .bool)]
    | some (.int k) => some [(o, .int k)]
    | some .string => some [(o, .str)]
    | some (.struct fs) => if P.stoodInHeld t then none else eqFields P (eqOffs P n) o (P.cellsOf t) fs.toList
    | some (.array m e) => if m * P.cellsOf e ≤ P.cellsOf t ∧ 1 ≤ P.cellsOf e ∧ (P.info? e).isSome = true then eqElems (eqOffs P n) o e (P.cellsOf e) 0 m else none
    | _ => none
def nilOf : Nat → Operand → Bool
  | 0, .const (.pointer none) => true
  | 1, .const (.slice none 0 0) => true
  | 2, .const .nilFunc => true
  | 3, .const .nilIface => true
  | _, _ => false
def compNil (k : Nat) (op : BinOp) (x y : Operand) : Option VOp :=
  match op with
  | .eql => if nilOf k y then some (.isNil k false x) else none
  | .neq => if nilOf k y then some (.isNil k true x) else none
  | _ => none
def compBin (P : Program) (op : BinOp) (t : TypeId) (x y : Operand) : Option VOp :=
  match P.underlying t with
  | some .bool => match op with
    | .eql => some (.eqB false x y)
    | .neq => some (.eqB true x y)
    | _ => none
  | some (.int _) | some .string => some (.bin op x y)
  | some (.pointer te) => match compNil 0 op x y with
    | some v => some v
    | none => match op with
      | .neq => if (P.info? te).isSome = true then some (.eqP true x y) else none
      | _ => none
  | some (.slice _) => compNil 1 op x y
  | some (.func ..) => compNil 2 op x y
  | some (.interface _) => compNil 3 op x y
  | some (.struct _) | some (.array ..) =>
    match op with
    | .eql => if P.eqGuardType P.depth t then none else match eqOffs P 12 t 0 with | some os => some (.eqAgg false os x y) | none => none
    | .neq => if P.eqGuardType P.depth t then none else match eqOffs P 12 t 0 with | some os => some (.eqAgg true os x y) | none => none
    | _ => none
  | _ => none
def isBld (P : Program) (i : TypeInfo) (t : TypeId) : Option TypeId :=
  match i.desc with
  | .named n _ => if n = "strings.Builder" then match P.underlying t with
    | some (.struct ⟨[_, f]⟩) => match P.underlying f.type with
      | some (.slice e) => match i.zero with
        | some (.agg ⟨[.pointer none, .slice none 0 0]⟩) => if i.size = 2 then some e else none
        | _ => none
      | _ => none
    | _ => none else none
  | _ => none
def compPlaces (P : Program) (fields : Array Field) : List (Nat × Operand) → Option (List (Nat × Nat × Operand))
  | [] => some []
  | (i, x) :: l => match fields[i]? with
    | some f => match P.info? f.type with
      | some _ => match compPlaces P fields l with
        | some r => some ((f.offset, P.cellsOf f.type, x) :: r)
        | none => none
      | none => none
    | none => none
def compOp (P : Program) (op : Op) : Option VOp :=
  match op with
  | .move x => some (.mv x)
  | .assign x => some (.mv x)
  | .pick c a b => some (.pick c a b)
  | .alloc t => match P.info? t with
    | some i => match isBld P i t with
      | some e => some (.allocB t e)
      | none => match i.zero with
        | some z => if flatV z then some (.alloc (cellsL z)) else none
        | none => none
    | none => none
  | .box _ x => some (.box x)
  | .build t ps => match P.info? t with
    | some i => match i.zero with
      | some z => if flatV z then match P.underlying t with
        | some (.struct fs) => if fs.toList.all (fun f => (P.info? f.type).isSome) then match compPlaces P fs ps.toList with
          | some q => some (.build (cellsL z) q)
          | none => none else none
        | some (.array _ e) => match P.info? e with
          | some _ => some (.build (cellsL z) (ps.toList.map fun (i, x) => (i * P.cellsOf e, P.cellsOf e, x)))
          | none => none
        | _ => none else none
      | none => none
    | none => none
  | .buildSlice t len ps => match P.underlying t with
    | some (.slice e) => match P.info? e with
      | some i => match i.zero with
        | some z => if flatV z ∧ (cellsL z).length = i.size ∧ 1 ≤ len * i.size ∧ len * i.size ≤ 2 ^ 24 then
            some (.buildSl len i.size ((List.replicate len (cellsL z)).flatten) (ps.toList.map fun (j, x) => (j * i.size, i.size, x))) else none
        | none => none
      | none => none
    | _ => none
  | .load t a => match P.info? t with
    | some i => match P.underlying t with
      | some _ => if isAggB P t then (if (leaves P 12 t).length = i.size then some (.loadN (leaves P 12 t) a) else none) else some (.load1 (skOf P t) a)
      | none => none
    | none => none
  | .store t a x => match P.info? t with
    | some i => some (.store i.size a x)
    | none => none
  | .nilCheck x => some (.nilCheck x)
  | .binOp op t x y _ => compBin P op t x y
  | .unOp op _ x => match op with
    | .not => some (.not x)
    | .neg => some (.neg x)
    | .xor => some (.cmpl x)
    | _ => none
  | .convert s d x => match P.underlying s, P.underlying d with
    | some (.int _), some (.int k) => some (.conv k x)
    | some .string, some .string => some (.s2s x)
    | some (.pointer t), some .unsafePointer => match P.info? t with
      | some i => if i.size = 0 then none else some (.toU x)
      | none => none
    | some .unsafePointer, some (.pointer u) => match P.info? u with
      | some i => if i.size = 0 then none else some (.ofU u i.size x)
      | none => none
    | some .string, some (.slice e) => match P.underlying e with
      | some (.int .u8) => some (.s2b x)
      | _ => none
    | some (.slice e), some .string => match P.underlying e with
      | some (.int .u8) => some (.b2s x)
      | _ => none
    | _, _ => none
  | .makeInterface t x => match P.underlying t with
    | some (.interface _) => none
    | some _ => some (.iface t x)
    | none => none
  | .typeAssert x _ t true => match P.underlying t with
    | some (.interface _) => none
    | some _ => match P.info? t with
      | some i => match i.zero with
        | some z => if flatV z then some (.tassert t z x) else none
        | none => none
      | none => none
    | none => none
  | .makeFunc (.func f) first caps => some (.mkFunc f first.toList caps.toList)
  | .makeSlice t l c => match P.underlying t with
    | some (.slice e) => match P.info? e with
      | some i => match i.zero with
        | some z => if flatV z ∧ (cellsL z).length = i.size ∧ 1 ≤ i.size then some (.mkSl i.size i.bytes (cellsL z) l c) else none
        | none => none
      | none => none
    | _ => none
  | .slice t x lo hi none => match P.underlying t with
    | some .string => some (.sliceS x lo hi)
    | some (.slice e) => match P.info? e with
      | some i => some (.sliceL i.size x lo hi)
      | none => none
    | some (.array n e) => match P.info? e with
      | some i => some (.sliceA n i.size x lo hi)
      | none => none
    | _ => none
  | .fieldAddr t x f => match P.underlying t with
    | some (.struct fs) => match fs[f]? with
      | some fd => match P.info? fd.type with
        | some i => if i.size = 0 then none else some (.fieldA fd.offset x)
        | none => none
      | none => none
    | _ => none
  | .field t x f => match P.underlying t with
    | some (.struct fs) => match fs[f]? with
      | some fd => match P.info? fd.type with
        | some i => match P.underlying fd.type with
          | some _ => if isAggB P fd.type then some (.partN fd.offset i.size x) else some (.part1 fd.offset x)
          | none => none
        | none => none
      | none => none
    | _ => none
  | .indexAddr t x i => match P.underlying t with
    | some (.array n e) => match P.info? e with
      | some j => some (.idxAA n j.size x i)
      | none => none
    | some (.slice e) => match P.info? e with
      | some j => some (.idxAL j.size x i)
      | none => none
    | _ => none
  | .index t x i => match P.underlying t with
    | some (.array n e) => match P.info? e with
      | some j => match P.underlying e with
        | some _ => if isAggB P e then some (.idxVN n j.size x i) else (if j.size = 1 then some (.idxV1 n x i) else none)
        | none => none
      | none => none
    | some .string => some (.idxS x i)
    | _ => none
  | .extract x i => some (.extract i x)
  | .call ⟨.builtin .len, ⟨[x]⟩, ⟨[t]⟩⟩ => match P.underlying t with
    | some .string => some (.lenS x)
    | some (.slice _) => some (.lenL x)
    | some (.array n _) => some (.lenN n)
    | some (.pointer a) => match P.underlying a with
      | some (.array n _) => some (.lenN n)
      | _ => none
    | _ => none
  | .call ⟨.builtin .max, xs, _⟩ => some (.minmax true xs.toList)
  | .call ⟨.builtin .min, xs, _⟩ => some (.minmax false xs.toList)
  | .call ⟨.builtin .append, ⟨[x, y]⟩, ⟨[s, u]⟩⟩ => match P.underlying s, P.underlying u with
    | some (.slice e), some (.slice _) | some (.slice e), some .string => match P.info? e with
      | some i => match i.zero with
        | some z => if 1 ≤ i.bytes ∧ 1 ≤ i.size ∧ (cellsL z).length = i.size then some (.app e i.size i.bytes x y) else none
        | none => none
      | none => none
    | _, _ => none
  | .call ⟨.builtin .unsafeSliceData, ⟨[x]⟩, _⟩ => some (.sdata x)
  | .call ⟨.builtin .unsafeString, ⟨[x, y]⟩, ⟨[pt, _]⟩⟩ => match P.underlying pt with
    | some (.pointer e) => match P.info? e with
      | some i => if i.size = 1 then some (.ustr e x y) else none
      | none => none
    | _ => none
  | .call ⟨.value (.func f), ⟨[x]⟩, _⟩ => match P.funcs[f]? with
    | some fn => if fn.body.isNone = true ∧ fn.name = "internal/abi.NoEscape" ∧ (fn.origin = "" ∨ fn.origin = "internal/abi.NoEscape") then some (.mv x) else none
    | none => none
  | .range t x => match P.underlying t with
    | some .string => some (.rangeS x)
    | _ => none
  | .next it true => some (.nextS it)
  | _ => none
def compCall : Op → Option VOp
  | .call ⟨.value (.func f), xs, _⟩ => some (.callF f xs.toList)
  | .call ⟨.value (.tmp t), xs, _⟩ => some (.callV (.tmp t) xs.toList)
  | _ => none
def isCallV : VOp → Bool
  | .callF .. => true
  | .callV .. => true
  | _ => false
def compAny (P : Program) (op : Op) : Option VOp :=
  match compOp P op with
  | some v => if isCallV v then none else some v
  | none => compCall op
theorem compAny_call {P : Program} {op : Op} {v : VOp} (h : compAny P op = some v) : (∀ f xs, v = .callF f xs → ∃ ys ts, op = .call ⟨.value (.func f), ys, ts⟩ ∧ xs = ys.toList) ∧
    (∀ x xs, v = .callV x xs → ∃ t ys ts, x = .tmp t ∧ op = .call ⟨.value (.tmp t), ys, ts⟩ ∧ xs = ys.toList) ∧ (isCallV v = false → compOp P op = some v) ∧ (∀ c, op ≠ .defer c) := by
  unfold compAny at h
  split at h
  · rename_i v' hv
    split at h <;> try (cases h; done)
    rename_i hn
    cases h
    refine ⟨fun f xs e => ?_, fun f xs e => ?_, fun _ => hv, fun c e => ?_⟩
    · subst e; exact absurd rfl hn
    · subst e; exact absurd rfl hn
    · subst e; simp [compOp] at hv
  · unfold compCall at h
    split at h
    · cases h; exact ⟨fun _ _ e => by cases e; exact ⟨_, _, rfl, rfl⟩, fun _ _ e => (by cases e), fun e => (by cases e), fun _ e => by cases e⟩
    · cases h; exact ⟨fun _ _ e => (by cases e), fun _ _ e => by cases e; exact ⟨_, _, _, rfl, rfl, rfl⟩, fun e => (by cases e), fun _ e => by cases e⟩
    · cases h
def compOper (P : Program) (ops : Array Oper) (o : Oper) : Option VOper :=
  match compAny P o.op with
  | some v => if v.ops.all okO then match o.guard with
      | none => some ⟨o.dst, v, none⟩
      | some (j, w) => match ops[j]? with
        | some p => match p.dst with
          | some d => some ⟨o.dst, v, some (d, w)⟩
          | none => none
        | none => none
      else none
  | none => none
def compOpers (P : Program) (ops : Array Oper) : List Oper → Option (List VOper)
  | [] => some []
  | o :: l => match compOper P ops o with
    | some v => match compOpers P ops l with
      | some vs => some (v :: vs)
      | none => none
    | none => none
def ordOf (ops : List Oper) : List Nat :=
  go [] ops
where
  go (acc : List Nat) : List Oper → List Nat
    | [] => acc
    | o :: l => go (acc ++ [o.after.toList.foldl (fun s e => if Region.binds .any e then s ||| 2 ^ e.on ||| acc.getD e.on 0 else s) 0]) l
def rankB (md : Region.Mode) (rk : Nat → Nat) (n : Nat) (i : Nat) : List Oper → Bool
  | [] => true
  | o :: l => o.after.toList.all (fun e => !Region.binds md e || (Nat.blt e.on n && Nat.blt (rk e.on) (rk i))) && rankB md rk n (i + 1) l
def idxIn : List Nat → Nat → Nat
  | [], _ => 0
  | x :: l, y => cond (Nat.beq x y) 0 (idxIn l y + 1)
def ordersB (ops : Array Oper) : Bool :=
  rankB .any (fun i => i) ops.size 0 ops.toList && (!Region.departs ops || (rankB .text (idxIn (Region.linearise .text ops 0)) ops.size 0 ops.toList && rankB .gc (idxIn (Region.linearise .gc ops 0)) ops.size 0 ops.toList))
def sufP (j : Nat) : List Nat → Nat → Nat
  | [], p => p
  | m :: ms, p => sufP (j + 1) ms (cond (Nat.beq m (2 ^ j - 1)) p (j + 1))
def compC (P : Program) : Code → Option VC
  | .refuse _ => some .stuck
  | .skip => some .skip
  | .region _ ops false => match compOpers P ops ops.toList with
    | some l => some (.reg l)
    | none => none
  | .region _ ops true => match compOpers P ops ops.toList with
    | some l => if ordersB ops = true ∧ okAll 0 (ordOf ops.toList) (l.map tmpFp) = true then some (.regD (l.take (sufP 0 (ordOf ops.toList) 0)) (freePairs 0 ((ordOf ops.toList).take (sufP 0 (ordOf ops.toList) 0)) (l.take (sufP 0 (ordOf ops.toList) 0))) (l.drop (sufP 0 (ordOf ops.toList) 0))) else none
    | none => none
  | .seq a b => match compC P a with
    | some x => match compC P b with
      | some y => some (.seq x y)
      | none => none
    | none => none
  | .cond c a b => match okO c, compC P a with
    | true, some x => match compC P b with
      | some y => some (.cond c x y)
      | none => none
    | _, _ => none
  | .block id b => match compC P b with
    | some x => some (.block id x)
    | none => none
  | .loop b => match compC P b with
    | some x => some (.loop x)
    | none => none
  | .rangeFunc f ps a b => match okO f, compC P a with
    | true, some x => match compC P b with
      | some y => some (.rangeF f ps.toList x y)
      | none => none
    | _, _ => none
  | .exit id => some (.exit id)
  | .ret => some .ret
  | _ => none
def compRes (P : Program) : ResultVar → Option VRes
  | .tmp t => some (.tmp t)
  | .cell a t => match P.info? t with
    | some i => match P.underlying t with
      | some _ => if isAggB P t then (if (leaves P 12 t).length = i.size then some (.cell a (leaves P 12 t) true) else none) else some (.cell a [skOf P t] false)
      | none => none
    | none => none
def compRess (P : Program) : List ResultVar → Option (List VRes)
  | [] => some []
  | o :: l => match compRes P o with
    | some v => match compRess P l with
      | some vs => some (v :: vs)
      | none => none
    | none => none
def compFn (P : Program) (fn : Func) : Option VFn :=
  match fn.body with
  | some b => if fn.name = "runtime.NumGoroutine" then none else match compC P b with
    | some c => match compRess P fn.results.toList with
      | some rs => some ⟨fn.ntmps, c, rs⟩
      | none => none
    | none => none
  | none => none
def FnsOK (P : Program) (F : Fns) : Prop := ∀ f vf, F f = some vf → ∃ fn, P.funcs[f]? = some fn ∧ compFn P fn = some vf
end Go.Vm
