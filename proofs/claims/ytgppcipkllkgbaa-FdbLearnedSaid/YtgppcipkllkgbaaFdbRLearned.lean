/- Proved: the law FdbLearned returns true for every call and leaves what it is handed as it was. No condition. -/
import Derived.Test.YtgppcipkllkgbaaFdbRf
import Derived.Test.YtgppcipkllkgbaaFdbYa
set_option linter.unusedVariables false
namespace Go.Proofs.Ytgppcipkllkgbaa.fdbLearnedDone
open Go.ChangeShapes Go.WideShapes Go.ChangeAt Go.RowKit Go.Ai
set_option maxRecDepth 100000 in
theorem lifted (os : Os) (started : os.Started) (H : Type) (enc : TypeId × Value → H) :
    ReturnsInHanded {} Try.checked os 3 .any (Rows.fdbLearnedSpec.pre6 enc Try.prog Try.f3 Rows.fdbLearnedRow.domain false) (Rows.fdbLearnedSpec.post enc Try.prog Try.f3 false true false false) := by
  refine returnsInHanded_of_change (C := Try.checked) own started (by kernel_rfl) Try.func3
    (ChangeSpec.witness6 (enc := enc) (C := Try.checked) false ⟨#[], #[.int .i64 0, .agg #[.int .u8 0, .int .u8 0, .int .u8 0, .int .u8 0, .int .u8 0, .int .u8 0], .int .i64 0, .int .i64 0, .slice none 0 0, .int .u8 0], []⟩ 8 (by kernel_rfl) (by kernel_rfl) (by kernel_rfl) (by kernel_rfl)) ?_
  intro W base args ds gs before hval0 hW hcnd _
  have hval : ∀ (j : Nat) t v, Try.f3.params[j]? = some t → args[j]? = some v → Value.okWide Try.prog W .any base t v := hval0
  have hW' := hW
  obtain ⟨p, q, hA0, hV, rfl, hfz, hnd⟩ := hW
  have hA : DataW.TrodAll enc Try.prog W 0 (fun _ => true) true Try.f3.params.toList args.toList ds p := hA0
  rw [Try.params3] at hA hval
  obtain ⟨v0, vs0, d0, ds0, p0, q0, hargs, rfl, rfl, h0, r0⟩ := trodAll_cons hA
  obtain ⟨v1, vs1, d1, ds1, p1, q1, rfl, rfl, rfl, h1, r1⟩ := trodAll_cons r0
  obtain ⟨v2, vs2, d2, ds2, p2, q2, rfl, rfl, rfl, h2, r2⟩ := trodAll_cons r1
  obtain ⟨v3, vs3, d3, ds3, p3, q3, rfl, rfl, rfl, h3, r3⟩ := trodAll_cons r2
  obtain ⟨v4, vs4, d4, ds4, p4, q4, rfl, rfl, rfl, h4, r4⟩ := trodAll_cons r3
  obtain ⟨v5, vs5, d5, ds5, p5, q5, rfl, rfl, rfl, h5, r5⟩ := trodAll_cons r4
  obtain ⟨rfl, rfl, rfl⟩ := trodAll_nil r5
  obtain rfl : args = #[v0, v1, v2, v3, v4, v5] := by cases args; simp_all
  obtain ⟨rfl, rfl⟩ := trodVars_none hV
  obtain ⟨_, x0, v, rfl, w0⟩ := got_int Try.underlying3 (hval 0 3 v0 rfl rfl) h0
  obtain ⟨_, x1, m, w1⟩ := got_macB (hval 1 23 v1 rfl rfl) h1
  obtain ⟨_, x2, p, rfl, w2⟩ := got_int Try.underlying3 (hval 2 3 v2 rfl rfl) h2
  obtain ⟨_, x3, t, rfl, w3⟩ := got_int Try.underlying3 (hval 3 3 v3 rfl rfl) h3
  obtain ⟨_, x4, l, w4⟩ := got_ops (hval 4 24 v4 rfl rfl) h4
  obtain ⟨_, x5, n, rfl, w5⟩ := got_int Try.underlying5 (hval 5 5 v5 rfl rfl) h5
  clear hval0
  obtain ⟨rfl, hm⟩ := w1
  obtain ⟨rfl, hl⟩ := w4
  have hac := gr3 v p t n m hm (bounds_u8 w5) l hl
  refine (law_calls hac (vs := [v0, v1, v2, v3, v4, v5]) ⟨x0, x1, x2, x3, x4, x5, trivial⟩).mono fun e W' ⟨he, bel⟩ => ?_
  subst he
  exact ⟨_, rfl, _, _, _, [], _, [], hW', trodAll_mk1 (shut_bool Try.underlying4 _), trodAll_below laidOut bel (by kernel_rfl) hA0, rfl, bel.frame _, fun h => by cases h⟩
theorem over : Rows.fdbLearnedRow.holds Try.pinned (OpenSpec.ofChange Rows.fdbLearnedSpec) :=
  OpenClaim.holds_of_wide 3 Try.f3 rfl rfl rfl rfl rfl rfl rfl ⟨rfl, rfl, rfl, rfl, rfl⟩ rfl rfl rfl rfl rfl (by kernel_rfl) Try.func3 (by kernel_rfl)
    (of_decide_eq_true (by kernel_rfl)) (by unfold Func.isWrapper; first | (rw [if_pos (by decide +kernel)]; kernel_rfl) | (rw [if_neg (by decide +kernel)]; exact ⟨rfl, rfl⟩))
    (fun os started H enc _ => lifted os started H enc)
theorem proved : Rows.FdbLearnedSaid := over
end Go.Proofs.Ytgppcipkllkgbaa.fdbLearnedDone
