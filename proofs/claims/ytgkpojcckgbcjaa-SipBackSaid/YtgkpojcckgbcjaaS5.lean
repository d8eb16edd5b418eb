import Derived.Test.YtgkpojcckgbcjaaS4
namespace Go.Vm.Code
open Go Go.Vm Go.Proofs
set_option maxRecDepth 20000
set_option maxHeartbeats 1000000
/-- a word mixed in -/
def takeI (F : Int → Q → Q) (q : Q) (m : Int) : Q :=
  let q2 := F 2 ⟨q.a, q.b, q.c, xorI q.d m⟩
  ⟨xorI q2.a m, q2.b, q2.c, q2.d⟩
def rTakeT (T : Q → Int → Q) : List SArg → Option SRes
  | [.pt [.int .u64 a, .int .u64 b, .int .u64 c, .int .u64 d], .v (.int .u64 m)] => some ⟨.tuple ⟨[]⟩, [], [qcells (T ⟨a, b, c, d⟩ m)]⟩
  | _ => none
def sTake (F : Int → Q → Q) : Summ := ⟨[.pt 4, .v], rTakeT (takeI F)⟩
theorem take_of (F : Int → Q → Q) (hS : SumsOK Try.prog (aget (sumsC F))) : SumOK Try.prog 64 (sTake F) := by
  refine SumOK.of_leads tab_ok (fun ar r ha hr => ?_) ⟨Try.f64, rfl, by decide, rfl⟩
  simp only [sTake] at ha hr
  unfold rTakeT at hr
  split at hr <;> cases hr
  rename_i a b c d m
  refine ⟨_, rfl, ?_⟩
  refine ev_ok tab_ok hS true 500 ?_
  conv => whnf
  exact Res.val rfl ⟨rfl, rfl, trivial⟩
def sumsD (F : Int → Q → Q) (T : Q → Int → Q) : List (Nat × Summ) := (64, ⟨[.pt 4, .v], rTakeT T⟩) :: (36, sFlat 5 (gMix F)) :: (38, sFlat 4 gBack) :: sumsC F
theorem sumsD_ok : SumsOK Try.prog (aget (sumsD mixF (takeI mixF))) := SumsOK.of_tab ⟨take_of mixF sumsC_ok, smix_of mixF sumsC_ok, back_ok, mix_ok, round_ok, rround_ok, rot_ok, turn_ok, trivial⟩

/-- a hasher -/
structure HQ where
  q : Q
  last : Int
  count : Int
def hcells (h : HQ) : List Value := [.bool true, .int .u64 h.q.a, .int .u64 h.q.b, .int .u64 h.q.c, .int .u64 h.q.d, .int .u64 h.last, .int .i64 h.count]
def sumI (F : Int → Q → Q) (T : Q → Int → Q) (h : HQ) : Int :=
  let q1 := T h.q (orI h.last (IntKind.wrap .u64 (IntKind.wrap .u64 h.count * 2 ^ 56)))
  let q2 := F 4 ⟨q1.a, q1.b, xorI q1.c 255, q1.d⟩
  xorI (xorI (xorI q2.a q2.b) q2.c) q2.d
def rSum (X : HQ → Int) : List SArg → Option SRes
  | [.pt [.bool true, .int .u64 a, .int .u64 b, .int .u64 c, .int .u64 d, .int .u64 l, .int .i64 n]] => some ⟨.int .u64 (X ⟨⟨a, b, c, d⟩, l, n⟩), [], [hcells ⟨⟨a, b, c, d⟩, l, n⟩]⟩
  | [.pt [.bool false, .int .u64 a, .int .u64 b, .int .u64 c, .int .u64 d, .int .u64 l, .int .i64 n]] => some ⟨.int .u64 0, [], [[.bool false, .int .u64 a, .int .u64 b, .int .u64 c, .int .u64 d, .int .u64 l, .int .i64 n]]⟩
  | [.v (.pointer none)] => some ⟨.int .u64 0, [], []⟩
  | _ => none
def sSum (X : HQ → Int) : Summ := ⟨[.pt 7], rSum X⟩
theorem sum_of (F : Int → Q → Q) (T : Q → Int → Q) (hS : SumsOK Try.prog (aget (sumsD F T))) : SumOK Try.prog 33 (sSum (sumI F T)) := by
  refine SumOK.of_leads tab_ok (fun ar r ha hr => ?_) ⟨Try.f33, rfl, by decide, rfl⟩
  simp only [sSum] at ha hr
  unfold rSum at hr
  split at hr <;> cases hr
  · refine ⟨_, rfl, ?_⟩
    refine ev_ok tab_ok hS true 500 ?_
    conv => whnf
    exact Res.val rfl ⟨rfl, rfl, trivial⟩
  · refine ⟨_, rfl, ?_⟩
    refine ev_ok tab_ok hS true 500 ?_
    conv => whnf
    exact Res.val rfl ⟨rfl, rfl, trivial⟩
  · refine ⟨_, rfl, ?_⟩
    refine ev_ok tab_ok hS true 500 ?_
    conv => whnf
    exact Res.val rfl trivial
end Go.Vm.Code
