import Derived.Test.YtgkpojcckgbcjaaS7
namespace Go.Vm.Code
open Go Go.Vm Go.Proofs
set_option maxRecDepth 20000
set_option maxHeartbeats 1000000
def fits : Int → Nat → Bool
  | .ofNat k, m => Nat.blt (k + m) (2 ^ 62)
  | .negSucc _, _ => false
theorem fits_iff (n : Int) (m : Nat) : fits n m = true ↔ 0 ≤ n ∧ n + m < 2 ^ 62 := by
  cases n with
  | ofNat k => rw [fits, Nat.blt_eq]; simp only [Int.ofNat_eq_natCast]; omega
  | negSucc k => simp [fits]
def rWrite (W : HQ → List UInt8 → HQ) : List SArg → Option SRes
  | [.pt [.bool true, .int .u64 a, .int .u64 b, .int .u64 c, .int .u64 d, .int .u64 l, .int .i64 n], .v (.string s)] => match fits n s.data.toList.length with
    | true => some ⟨.tuple ⟨[]⟩, [], [hcells (W ⟨⟨a, b, c, d⟩, l, n⟩ s.data.toList)]⟩
    | false => none
  | [.pt [.bool false, .int .u64 a, .int .u64 b, .int .u64 c, .int .u64 d, .int .u64 l, .int .i64 n], .v (.string _)] => some ⟨.tuple ⟨[]⟩, [], [[.bool false, .int .u64 a, .int .u64 b, .int .u64 c, .int .u64 d, .int .u64 l, .int .i64 n]]⟩
  | [.v (.pointer none), .v (.string _)] => some ⟨.tuple ⟨[]⟩, [], []⟩
  | _ => none
def sWrite (W : HQ → List UInt8 → HQ) : Summ := ⟨[.pt 7, .v], rWrite W⟩
def writeL (T : Q → Int → Q) (h : HQ) (l : List UInt8) : HQ := l.foldl (writeB T) h
theorem write_of (F : Int → Q → Q) (T : Q → Int → Q) (hS : SumsOK Try.prog (aget (sumsD F T))) : SumOK Try.prog 32 (sWrite (writeL T)) := by
  refine SumOK.of_leads tab_ok (fun ar r ha hr => ?_) ⟨Try.f32, rfl, by decide, rfl⟩
  simp only [sWrite] at ha hr
  unfold rWrite at hr
  split at hr <;> try (cases hr; done)
  · split at hr <;> cases hr
    rename_i a b c d l n s _ hd
    obtain ⟨h1, h2⟩ := (fits_iff _ _).1 hd
    have h3 : s.data.toList.length < 2 ^ 62 := by omega
    refine ⟨_, rfl, ?_⟩
    refine ev_ok tab_ok hS true 500 ?_
    conv => whnf
    refine Leads.mono (R := fun v H _ => v = .tuple ⟨[]⟩ ∧ aget H 0 = some (.cells (hcells (writeL T ⟨⟨a, b, c, d⟩, l, n⟩ s.data.toList)))) ?_ (fun v H t h => by obtain ⟨rfl, h⟩ := h; exact Res.val rfl ⟨h, rfl, trivial⟩)
    have := loop32 F T hS s.data.toList s.data.toList.length 0 ⟨⟨a, b, c, d⟩, l, n⟩ (by omega) h1 h2 h3
    rw [List.drop_zero] at this
    refine Leads.re this [(0, 0), (1, 1)] rfl ?_ ?_
    · repeat' first | exact trivial | refine ⟨⟨_, rfl, rfl⟩, ?_⟩
    · exact ⟨⟨_, _, rfl, rfl, .cells rfl⟩, ⟨_, _, rfl, rfl, .rowF (flatL_map (fun _ => rfl) _) id⟩, trivial⟩
  · cases hr
    refine ⟨_, rfl, ?_⟩
    refine ev_ok tab_ok hS true 500 ?_
    conv => whnf
    exact Res.val rfl ⟨rfl, rfl, trivial⟩
  · cases hr
    refine ⟨_, rfl, ?_⟩
    refine ev_ok tab_ok hS true 500 ?_
    conv => whnf
    exact Res.val rfl trivial
end Go.Vm.Code
