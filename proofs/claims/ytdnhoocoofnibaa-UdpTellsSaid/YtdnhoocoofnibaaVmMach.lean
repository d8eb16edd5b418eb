/- The engine, part 14: the real machine's steps. -/
import Derived.Test.YtdnhoocoofnibaaVmDisp
import Derived.RangeFuncLeaves
import Derived.RangeFuncRecord
namespace Go.Vm
open Go Go.RowKit

abbrev mkF (fn : FuncId) (tmps : Array Value) (todo : List Item) (defers : List Deferred) (round : Option Nat) : Frame :=
  { fn, tmps, todo, defers, mode := .run, kind := .normal, roundOf := round }
abbrev mkR (fn : FuncId) (tmps : Array Value) (todo : List Item) (defers : List Deferred) (round : Option Nat) : Frame :=
  { fn, tmps, todo, defers, mode := .returning, kind := .normal, roundOf := round }

section
variable {P : Program} {fn : FuncId} {t : Array Value} {k : List Item} {d : List Deferred} {r : Option Nat} {cs : List Frame} {w w' : World}

theorem st_end : step P (lone (mkF fn t [] d none) cs w) = .next (lone (mkR fn t [] d none) cs w) := step_lone_go (by simp [stepG, stepG.exec])
theorem st_ret : step P (lone (mkF fn t (.code .ret :: k) d none) cs w) = .next (lone (mkR fn t (.code .ret :: k) d none) cs w) := step_lone_go (by simp [stepG, stepG.exec])
theorem st_skip : step P (lone (mkF fn t (.code .skip :: k) d r) cs w) = .next (lone (mkF fn t k d r) cs w) := step_lone_go (by simp [stepG, stepG.exec])
theorem st_inBlock {id : Nat} : step P (lone (mkF fn t (.inBlock id :: k) d r) cs w) = .next (lone (mkF fn t k d r) cs w) := step_lone_go (by simp [stepG, stepG.exec])
theorem st_seq {x y : Code} : step P (lone (mkF fn t (.code (.seq x y) :: k) d r) cs w) = .next (lone (mkF fn t (.code x :: .code y :: k) d r) cs w) := step_lone_go (by simp [stepG, stepG.exec])
theorem st_cond {c : Operand} {x y : Code} {b : Bool} (h : (mkF fn t (.code (.cond c x y) :: k) d r).eval c = .bool b) :
    step P (lone (mkF fn t (.code (.cond c x y) :: k) d r) cs w) = .next (lone (mkF fn t (.code (if b then x else y) :: k) d r) cs w) := step_lone_go (by simp [stepG, stepG.exec, h])
theorem st_block {id : Nat} {c : Code} : step P (lone (mkF fn t (.code (.block id c) :: k) d r) cs w) = .next (lone (mkF fn t (.code c :: .inBlock id :: k) d r) cs w) := step_lone_go (by simp [stepG, stepG.exec])
theorem st_loop {c : Code} : step P (lone (mkF fn t (.code (.loop c) :: k) d r) cs w) = .next (lone (mkF fn t (.code c :: .inLoop c :: k) d r) cs w) := step_lone_go (by simp [stepG, stepG.exec])
theorem st_inLoop {c : Code} : step P (lone (mkF fn t (.inLoop c :: k) d r) cs w) = .next (lone (mkF fn t (.code c :: .inLoop c :: k) d r) cs w) := step_lone_go (by simp [stepG, stepG.exec])
theorem st_exit {id : Nat} {k' : List Item} (h : Go.exitTo id k = some k') : step P (lone (mkF fn t (.code (.exit id) :: k) d r) cs w) = .next (lone (mkF fn t k' d r) cs w) :=
  step_lone_go (by simp [stepG, stepG.exec, h])
theorem st_reg {id : Nat} {ops : Array Oper} : step P (lone (mkF fn t (.code (.region id ops false) :: k) d r) cs w) = .next (lone (mkF fn t (.inRegion ops (List.range ops.size) :: k) d r) cs w) :=
  step_lone_go (by simp [stepG, stepG.exec])
theorem st_regEnd {ops : Array Oper} : step P (lone (mkF fn t (.inRegion ops [] :: k) d r) cs w) = .next (lone (mkF fn t k d r) cs w) := step_lone_go (by simp [stepG, stepG.exec])
theorem st_opSkip {ops : Array Oper} {i : Nat} {rest : List Nat} (h : ((ops[i]?).map (Region.wanted · (yielded ops t))).getD false = false) :
    step P (lone (mkF fn t (.inRegion ops (i :: rest) :: k) d r) cs w) = .next (lone ((mkF fn t (.inRegion ops (i :: rest) :: k) d r).finish undef) cs w) := by
  refine step_lone_go ?_
  simp only [stepG, stepG.exec, h]
  rfl

/-- an operation's step, whatever it comes to -/
theorem stG_op {ops : Array Oper} {i : Nat} {rest : List Nat} {o : Oper} (ho : ops[i]? = some o) (hw : Region.wanted o (yielded ops t) = true) (hd : ∀ c, o.op ≠ .defer c) :
    stepG P true { frame := mkF fn t (.inRegion ops (i :: rest) :: k) d r, callers := cs, status := .running, dying := none } w =
      stepG.apply P true (mkF fn t (.inRegion ops (i :: rest) :: k) d r) cs none (execOp (mkF fn t (.inRegion ops (i :: rest) :: k) d r).eval o) w := by
  simp only [stepG, stepG.exec, ho, Option.map_some, hw, Option.getD_some, ↓reduceIte, stepG.oper, Frame.oper?]
  cases r with
  | none => rfl
  | some l =>
    cases hop : o.op <;> first | rfl | exact absurd hop (hd _)

theorem st_value {ops : Array Oper} {i : Nat} {rest : List Nat} {o : Oper} {v : Value} (ho : ops[i]? = some o) (hw : Region.wanted o (yielded ops t) = true) (hd : ∀ c, o.op ≠ .defer c)
    (hr : (execOp (mkF fn t (.inRegion ops (i :: rest) :: k) d r).eval o).run P w = .ok (.value v) w') :
    step P (lone (mkF fn t (.inRegion ops (i :: rest) :: k) d r) cs w) = .next (lone ((mkF fn t (.inRegion ops (i :: rest) :: k) d r).finish v) cs w') :=
  step_lone_go (by rw [stG_op ho hw hd]; simp only [stepG.apply, Sem.runT_eq, hr, ↓reduceIte, GStep.bare_after]; rfl)
theorem st_opUnit {ops : Array Oper} {i : Nat} {rest : List Nat} {o : Oper} (ho : ops[i]? = some o) (hw : Region.wanted o (yielded ops t) = true) (hd : ∀ c, o.op ≠ .defer c)
    (hr : (execOp (mkF fn t (.inRegion ops (i :: rest) :: k) d r).eval o).run P w = .ok .skip w') :
    step P (lone (mkF fn t (.inRegion ops (i :: rest) :: k) d r) cs w) = .next (lone ((mkF fn t (.inRegion ops (i :: rest) :: k) d r).finish undef) cs w') :=
  step_lone_go (by rw [stG_op ho hw hd]; simp only [stepG.apply, Sem.runT_eq, hr, ↓reduceIte, GStep.bare_after]; rfl)
theorem st_enter {ops : Array Oper} {i : Nat} {rest : List Nat} {o : Oper} {f : FuncId} {args : Array Value} (ho : ops[i]? = some o) (hw : Region.wanted o (yielded ops t) = true) (hd : ∀ c, o.op ≠ .defer c)
    (hr : (execOp (mkF fn t (.inRegion ops (i :: rest) :: k) d r).eval o).run P w = .ok (.enter f args) w') :
    step P (lone (mkF fn t (.inRegion ops (i :: rest) :: k) d r) cs w) = .next (lone (Frame.enter P f args .normal) (mkF fn t (.inRegion ops (i :: rest) :: k) d r :: cs) w') :=
  step_lone_go (by rw [stG_op ho hw hd]; simp only [stepG.apply, Sem.runT_eq, hr, ↓reduceIte, GStep.bare_after]; rfl)
theorem st_round {ops : Array Oper} {i : Nat} {rest : List Nat} {o : Oper} {l : Nat} {f : FuncId} {tm : Array Value} {aqs bd : Code} (ho : ops[i]? = some o) (hw : Region.wanted o (yielded ops t) = true) (hd : ∀ c, o.op ≠ .defer c)
    (hr : (execOp (mkF fn t (.inRegion ops (i :: rest) :: k) d r).eval o).run P w = .ok (.round l f tm aqs bd) w') :
    step P (lone (mkF fn t (.inRegion ops (i :: rest) :: k) d r) cs w) = .next (lone (mkF f tm [.code aqs, .beginRound, .code bd] [] (some l)) (mkF fn t (.inRegion ops (i :: rest) :: k) d r :: cs) w') :=
  step_lone_go (by rw [stG_op ho hw hd]; simp only [stepG.apply, Sem.runT_eq, hr, ↓reduceIte, GStep.bare_after]; rfl)

/-- a return -/
theorem st_leave {f : Func} {v : Value} {c : Frame} (hf : P.funcs[fn]? = some f) (hr : (results f t).run P w = .ok v w) :
    step P (lone (mkR fn t k [] r) (c :: cs) w) = .next (lone (c.finish v) cs w) :=
  step_lone_go (by simp [stepG, unwind, doReturn, hf, hr])

end
end Go.Vm
