import Derived.Test.YtdnhoocoofnibaaVmBld
namespace Go.Vm
open Go Go.RowKit
section
variable {P : Program} {w0 : World} {U : UG} {ρ : Ren} {o : Oper} {a : Operand → Value} {w : World} {H : Hp} {top : Nat} [NG U top]
  {x : Option Value} {H' : Hp} {top' : Nat} {vals : List Value}
theorem nil0 {e : TypeId} : ∀ z', nilOf 0 (.const z') = true → nilCase 0 (.pointer e) z' := (fun z' hn => by unfold nilOf at hn; split at hn <;> first | (cases hn; done) | (exfalso; omega) | (rename_i e1; cases e1; rfl))
theorem nil1 {e : TypeId} : ∀ z', nilOf 1 (.const z') = true → nilCase 1 (.slice e) z' := (fun z' hn => by unfold nilOf at hn; split at hn <;> first | (cases hn; done) | (exfalso; omega) | (rename_i e1; cases e1; rfl))
theorem nil2 {p q : Array TypeId} {r : Bool} : ∀ z', nilOf 2 (.const z') = true → nilCase 2 (.func p q r) z' := (fun z' hn => by unfold nilOf at hn; split at hn <;> first | (cases hn; done) | (exfalso; omega) | (rename_i e1; cases e1; rfl))
theorem nil3 {e : Array (String × TypeId)} : ∀ z', nilOf 3 (.const z') = true → nilCase 3 (.interface e) z' := (fun z' hn => by unfold nilOf at hn; split at hn <;> first | (cases hn; done) | (exfalso; omega) | (rename_i e1; cases e1; rfl))
theorem opSound (h : HpR P w0 U ρ H top w) {v : VOp} (hc : compOp P o.op = some v) (ha : ∀ c, a (.const c) = c) (haf : ∀ f, a (.func f) = .func (.func f) #[] #[]) (hv : VRL ρ vals (v.ops.map a)) (hr : opRun v vals H top = some (x, H', top')) : Done P w0 U ρ o a w x H' top' := by
  cases hop : o.op <;> rw [hop] at hc
  case move y =>
    simp only [compOp, Option.some.injEq] at hc; subst hc
    exact op_mv h (by simp [execOp, hop]) hv hr
  case assign y =>
    simp only [compOp, Option.some.injEq] at hc; subst hc
    exact op_mv h (by simp [execOp, hop]) hv hr
  case pick c y z =>
    simp only [compOp, Option.some.injEq] at hc; subst hc
    exact op_pick h hop hv hr
  case alloc t =>
    simp only [compOp] at hc
    split at hc <;> try (cases hc; done)
    rename_i i hi
    split at hc
    · rename_i e hb
      cases hc
      exact op_allocB h hop hi hb hv hr
    · split at hc <;> try (cases hc; done)
      rename_i z hz
      split at hc <;> try (cases hc; done)
      rename_i hf
      cases hc
      exact op_alloc h hop hi hz hf hv hr
  case box t y =>
    simp only [compOp, Option.some.injEq] at hc; subst hc
    exact op_box h hop hv hr
  case build t ps =>
    simp only [compOp] at hc
    split at hc <;> try (cases hc; done)
    rename_i i hi
    split at hc <;> try (cases hc; done)
    rename_i z hz
    split at hc <;> try (cases hc; done)
    rename_i hf
    split at hc <;> try (cases hc; done)
    · rename_i fs hd
      split at hc <;> try (cases hc; done)
      rename_i hall
      split at hc <;> try (cases hc; done)
      rename_i q hq
      cases hc
      refine op_buildS h hop hi hz hf hd hall hq ?_ hr
      simpa [VOp.ops, Function.comp_def] using hv
    · rename_i m e hd
      split at hc <;> try (cases hc; done)
      rename_i j hj
      cases hc
      refine op_buildA h hop hi hz hf hd hj ?_ hr
      simpa [VOp.ops, Function.comp_def] using hv
  case buildSlice t len ps =>
    simp only [compOp] at hc
    split at hc <;> try (cases hc; done)
    rename_i e hd
    split at hc <;> try (cases hc; done)
    rename_i i hi
    split at hc <;> try (cases hc; done)
    rename_i z hz
    split at hc <;> try (cases hc; done)
    rename_i hf
    cases hc
    refine op_buildSl h hop hd hi hz hf.1 hf.2.1 hf.2.2.1 hf.2.2.2 ?_ hr
    simpa [VOp.ops, Function.comp_def] using hv
  case load t y =>
    simp only [compOp] at hc
    split at hc <;> try (cases hc; done)
    rename_i i hi
    split at hc <;> try (cases hc; done)
    rename_i d hd
    split at hc
    · rename_i hag
      split at hc <;> try (cases hc; done)
      rename_i hl
      cases hc
      exact op_loadN h hop hd hag hi hl hv hr
    · rename_i hag
      cases hc
      exact op_load1 h hop hd (by simpa using hag) hv hr
  case store t y z =>
    simp only [compOp] at hc
    split at hc <;> try (cases hc; done)
    rename_i i hi
    cases hc
    exact op_store h hop hi hv hr
  case nilCheck y =>
    simp only [compOp, Option.some.injEq] at hc; subst hc
    exact op_nilCheck h hop hv hr
  case binOp op t y z u =>
    simp only [compOp] at hc
    unfold compBin at hc
    have nilc : ∀ k d, P.underlying t = some d → (∀ z', nilOf k (.const z') = true → nilCase k d z') → compNil k op y z = some v → Done P w0 U ρ o a w x H' top' := by
      intro k d hd hcase hcn
      unfold compNil at hcn
      split at hcn <;> try (cases hcn; done)
      all_goals
        split at hcn <;> try (cases hcn; done)
        rename_i hn
        cases hcn
        cases z with
        | const z' => exact op_isNil h (neg := _) (by first | (exact hop) | (simpa using hop)) hd (hcase z' hn) (ha _) hv hr
        | _ => cases k <;> simp [nilOf] at hn
    split at hc <;> try (cases hc; done)
    · rename_i hd
      split at hc <;> try (cases hc; done)
      · cases hc; exact op_eqB h (neg := false) hop hd hv hr
      · cases hc; exact op_eqB h (neg := true) hop hd hv hr
    · cases hc; exact op_bin h hop hv hr
    · cases hc; exact op_bin h hop hv hr
    · rename_i e hd
      split at hc
      · rename_i v' hv'
        cases hc
        exact nilc 0 _ hd nil0 hv'
      · split at hc <;> try (cases hc; done)
        split at hc <;> try (cases hc; done)
        rename_i hi
        cases hc
        exact op_eqP h hop hd hi hv hr
    · rename_i e hd
      exact nilc 1 _ hd nil1 hc
    · rename_i p q r hd
      exact nilc 2 _ hd nil2 hc
    · rename_i e hd
      exact nilc 3 _ hd nil3 hc
    · rename_i fs hd
      split at hc <;> try (cases hc; done)
      all_goals
        split at hc <;> try (cases hc; done)
        rename_i hg
        split at hc <;> try (cases hc; done)
        rename_i os hos
        cases hc
      · exact op_eqAgg h (neg := false) hop hd (.inl ⟨_, rfl⟩) (by simpa using hg) hos hv hr
      · exact op_eqAgg h (neg := true) hop hd (.inl ⟨_, rfl⟩) (by simpa using hg) hos hv hr
    · rename_i n e hd
      split at hc <;> try (cases hc; done)
      all_goals
        split at hc <;> try (cases hc; done)
        rename_i hg
        split at hc <;> try (cases hc; done)
        rename_i os hos
        cases hc
      · exact op_eqAgg h (neg := false) hop hd (.inr ⟨_, _, rfl⟩) (by simpa using hg) hos hv hr
      · exact op_eqAgg h (neg := true) hop hd (.inr ⟨_, _, rfl⟩) (by simpa using hg) hos hv hr
  case unOp op t y =>
    simp only [compOp] at hc
    split at hc <;> try (cases hc; done)
    · cases hc; exact op_not h hop hv hr
    · cases hc; exact op_neg h hop hv hr
    · cases hc; exact op_cmpl h hop hv hr
  case convert s t y =>
    simp only [compOp] at hc
    split at hc <;> try (cases hc; done)
    · rename_i k k' hs ht
      cases hc; exact op_conv h hop hs ht hv hr
    · rename_i hs ht
      cases hc; exact op_s2s h hop hs ht hv hr
    · rename_i q hs ht
      split at hc <;> try (cases hc; done)
      rename_i i hi
      split at hc <;> try (cases hc; done)
      rename_i hz
      cases hc; exact op_toU h hop hs ht hi hz hv hr
    · rename_i q hs ht
      split at hc <;> try (cases hc; done)
      rename_i i hi
      split at hc <;> try (cases hc; done)
      rename_i hz
      cases hc; exact op_ofU h hop hs ht hi hz hv hr
    · rename_i e hs ht
      split at hc <;> try (cases hc; done)
      rename_i he
      cases hc; exact op_s2b h hop hs ht he hv hr
    · rename_i e hs ht
      split at hc <;> try (cases hc; done)
      rename_i he
      cases hc; exact op_b2s h hop hs ht he hv hr
  case makeInterface t y =>
    simp only [compOp] at hc
    split at hc <;> try (cases hc; done)
    rename_i d hn hd
    cases hc; exact op_iface h hop hd (fun ms e => hn ms e) hv hr
  case typeAssert y s t ok =>
    cases ok
    · simp [compOp] at hc
    · simp only [compOp] at hc
      split at hc <;> try (cases hc; done)
      rename_i d hn hd
      split at hc <;> try (cases hc; done)
      rename_i i hi
      split at hc <;> try (cases hc; done)
      rename_i z hz
      split at hc <;> try (cases hc; done)
      rename_i hf
      cases hc; exact op_tassert h hop hd (fun ms e => hn ms e) hi hz hf hv hr
  case makeFunc fn first caps =>
    cases fn <;> simp only [compOp] at hc <;> try (cases hc; done)
    cases hc
    exact op_mkFunc h hop hv hr
  case makeSlice t y n =>
    simp only [compOp] at hc
    split at hc <;> try (cases hc; done)
    rename_i e hd
    split at hc <;> try (cases hc; done)
    rename_i i hi
    split at hc <;> try (cases hc; done)
    rename_i z hz
    split at hc <;> try (cases hc; done)
    rename_i hf
    cases hc
    exact op_mkSl h hop hd hi hz hf.1 hf.2.1 hf.2.2 hv hr
  case slice t y lo hi mx =>
    cases mx with
    | some m => simp [compOp] at hc
    | none =>
      simp only [compOp] at hc
      split at hc <;> try (cases hc; done)
      · rename_i hd
        cases hc; exact op_sliceS h hop hd hv hr
      · rename_i e hd
        split at hc <;> try (cases hc; done)
        rename_i j hj
        cases hc; exact op_sliceL h hop hd hj hv hr
      · rename_i n e hd
        split at hc <;> try (cases hc; done)
        rename_i j hj
        cases hc; exact op_sliceA h hop hd hj hv hr
  case fieldAddr t y f =>
    simp only [compOp] at hc
    split at hc <;> try (cases hc; done)
    rename_i fs hd
    split at hc <;> try (cases hc; done)
    rename_i fd hf
    split at hc <;> try (cases hc; done)
    rename_i i hi
    split at hc <;> try (cases hc; done)
    rename_i hs
    cases hc; exact op_fieldA h hop hd hf hi hs hv hr
  case field t y f =>
    simp only [compOp] at hc
    split at hc <;> try (cases hc; done)
    rename_i fs hd
    split at hc <;> try (cases hc; done)
    rename_i fd hf
    split at hc <;> try (cases hc; done)
    rename_i i hi
    split at hc <;> try (cases hc; done)
    rename_i d hdd
    split at hc
    · rename_i hag
      cases hc; exact op_partN h hop hd hf hdd hi hag hv hr
    · rename_i hag
      cases hc; exact op_part1 h hop hd hf hdd (by simpa using hag) hv hr
  case indexAddr t y i =>
    simp only [compOp] at hc
    split at hc <;> try (cases hc; done)
    · rename_i n e hd
      split at hc <;> try (cases hc; done)
      rename_i j hj
      cases hc; exact op_idxAA h hop hd hj hv hr
    · rename_i e hd
      split at hc <;> try (cases hc; done)
      rename_i j hj
      cases hc; exact op_idxAL h hop hd hj hv hr
  case index t y i =>
    simp only [compOp] at hc
    split at hc <;> try (cases hc; done)
    · rename_i n e hd
      split at hc <;> try (cases hc; done)
      rename_i j hj
      split at hc <;> try (cases hc; done)
      rename_i d hdd
      split at hc
      · rename_i hag
        cases hc; exact op_idxVN h hop hd hj hdd hag hv hr
      · rename_i hag
        split at hc <;> try (cases hc; done)
        rename_i h1
        cases hc; exact op_idxV1 h hop hd hj hdd (by simpa using hag) h1 hv hr
    · rename_i hd
      cases hc; exact op_idxS h hop hd hv hr
  case extract y i =>
    simp only [compOp, Option.some.injEq] at hc; subst hc
    exact op_extract h hop hv hr
  case range t y =>
    simp only [compOp] at hc
    split at hc <;> try (cases hc; done)
    rename_i hd
    cases hc; exact op_rangeS h hop hd hv hr
  case next it s =>
    cases s
    · simp [compOp] at hc
    · simp only [compOp, Option.some.injEq] at hc; subst hc
      exact op_nextS h hop hv hr
  case call c =>
    obtain ⟨callee, args, tys⟩ := c
    cases callee with
    | value f =>
      cases f <;> first | (simp [compOp] at hc; done) | skip
      rcases args with ⟨_ | ⟨y, _ | _⟩⟩ <;> first | (simp [compOp] at hc; done) | skip
      simp only [compOp] at hc
      split at hc <;> try (cases hc; done)
      rename_i fn hf
      split at hc <;> try (cases hc; done)
      rename_i hcond
      cases hc
      exact op_noesc h hop (haf _) hf hcond.1 hcond.2.1 hcond.2.2 hv hr
    | invoke r m => simp [compOp] at hc
    | builtin b =>
      cases b <;> first | (simp [compOp] at hc; done) | skip
      case append =>
        rcases args with ⟨_ | ⟨s, _ | ⟨y, _ | _⟩⟩⟩ <;> first | (simp [compOp] at hc; done) | skip
        rcases tys with ⟨_ | ⟨t, _ | ⟨u, _ | _⟩⟩⟩ <;> first | (simp [compOp] at hc; done) | skip
        simp only [compOp] at hc
        split at hc <;> try (cases hc; done)
        · rename_i e e' ht hu
          split at hc <;> try (cases hc; done)
          rename_i i hi
          split at hc <;> try (cases hc; done)
          rename_i z hz
          split at hc <;> try (cases hc; done)
          rename_i hb
          cases hc
          exact op_app h hop ht hu (.inr ⟨_, rfl⟩) hi hz hb.1 hb.2.2 hv hr
        · rename_i e ht hu
          split at hc <;> try (cases hc; done)
          rename_i i hi
          split at hc <;> try (cases hc; done)
          rename_i z hz
          split at hc <;> try (cases hc; done)
          rename_i hb
          cases hc
          exact op_app h hop ht hu (.inl rfl) hi hz hb.1 hb.2.2 hv hr
      case len =>
        rcases args with ⟨_ | ⟨y, _ | _⟩⟩ <;> first | (simp [compOp] at hc; done) | skip
        rcases tys with ⟨_ | ⟨t, _ | _⟩⟩ <;> first | (simp [compOp] at hc; done) | skip
        simp only [compOp] at hc
        split at hc <;> try (cases hc; done)
        · rename_i ht
          cases hc; exact op_lenS h hop ht hv hr
        · rename_i e ht
          cases hc; exact op_lenL h hop ht hv hr
        · rename_i n e ht
          cases hc; exact op_lenN h hop (.inl ht) hv hr
        · rename_i q ht
          split at hc <;> try (cases hc; done)
          rename_i n e hq
          cases hc; exact op_lenN h hop (.inr ⟨_, ht, hq⟩) hv hr
      case unsafeSliceData =>
        rcases args with ⟨_ | ⟨y, _ | _⟩⟩ <;> first | (simp [compOp] at hc; done) | skip
        simp only [compOp, Option.some.injEq] at hc; subst hc
        exact op_sdata h hop hv hr
      case unsafeString =>
        rcases args with ⟨_ | ⟨y, _ | ⟨z, _ | _⟩⟩⟩ <;> first | (simp [compOp] at hc; done) | skip
        rcases tys with ⟨_ | ⟨t, _ | ⟨u, _ | _⟩⟩⟩ <;> first | (simp [compOp] at hc; done) | skip
        simp only [compOp] at hc
        split at hc <;> try (cases hc; done)
        rename_i e ht
        split at hc <;> try (cases hc; done)
        rename_i i hi
        split at hc <;> try (cases hc; done)
        rename_i hs
        cases hc
        exact op_ustr h hop ht hi hs hv hr
      case max =>
        simp only [compOp, Option.some.injEq] at hc; subst hc
        exact op_minmax h (mx := true) hop hv hr
      case min =>
        simp only [compOp, Option.some.injEq] at hc; subst hc
        exact op_minmax h (mx := false) hop hv hr
  all_goals (simp [compOp] at hc)
end
end Go.Vm
