/- Proved: the law ProvUndone returns true for every call and leaves what it is handed as it was. No condition. -/
import Derived.Test.YtbiolkmddpkheaaGreatPrvMc
set_option linter.unusedVariables false
namespace Go.Proofs.YtbiolkmddpkheaaGreat.provUndoneDone
open Go.ChangeShapes Go.WideShapes Go.ChangeAt Go.RowKit Go.Ai
set_option maxRecDepth 100000 in
theorem lifted (os : Os) (started : os.Started) (H : Type) (enc : TypeId × Value → H) :
    ReturnsInHanded {} Tryz.checked os 5 .any (Rows.provUndoneSpec.pre6 enc Tryz.prog Tryz.f5 Rows.provUndoneRow.domain false) (Rows.provUndoneSpec.post enc Tryz.prog Tryz.f5 false true false false) := by
  refine returnsInHanded_of_change (C := Tryz.checked) own started (by kernel_rfl) Tryz.func5
    (ChangeSpec.witness6 (enc := enc) (C := Tryz.checked) false ⟨#[], #[.int .u8 0, .int .u8 0, .slice none 0 0, .agg #[.int .i64 0, .int .i64 0, .int .i64 0], .agg #[.int .i64 0, .int .i64 0], .agg #[.int .i64 0, .slice none 0 0]], []⟩ 8 (by kernel_rfl) (by kernel_rfl) (by kernel_rfl) (by kernel_rfl)) ?_
  intro W base args ds gs before hval0 hW hcnd _
  have hval : ∀ (j : Nat) t v, Tryz.f5.params[j]? = some t → args[j]? = some v → Value.okWide Tryz.prog W .any base t v := hval0
  have hW' := hW
  obtain ⟨p, q, hA0, hV, rfl, hfz, hnd⟩ := hW
  have hA : DataW.TrodAll enc Tryz.prog W 0 (fun _ => true) true Tryz.f5.params.toList args.toList ds p := hA0
  rw [Tryz.params5] at hA hval
  obtain ⟨v0, vs0, d0, ds0, p0, q0, hargs, rfl, rfl, h0, r0⟩ := trodAll_cons hA
  obtain ⟨v1, vs1, d1, ds1, p1, q1, rfl, rfl, rfl, h1, r1⟩ := trodAll_cons r0
  obtain ⟨v2, vs2, d2, ds2, p2, q2, rfl, rfl, rfl, h2, r2⟩ := trodAll_cons r1
  obtain ⟨v3, vs3, d3, ds3, p3, q3, rfl, rfl, rfl, h3, r3⟩ := trodAll_cons r2
  obtain ⟨v4, vs4, d4, ds4, p4, q4, rfl, rfl, rfl, h4, r4⟩ := trodAll_cons r3
  obtain ⟨v5, vs5, d5, ds5, p5, q5, rfl, rfl, rfl, h5, r5⟩ := trodAll_cons r4
  obtain ⟨rfl, rfl, rfl⟩ := trodAll_nil r5
  obtain rfl : args = #[v0, v1, v2, v3, v4, v5] := by cases args; simp_all
  obtain ⟨rfl, rfl⟩ := trodVars_none hV
  obtain ⟨_, x0, b, rfl, w0⟩ := got_int Tryz.underlying5 (hval 0 5 v0 rfl rfl) h0
  obtain ⟨_, x1, n, rfl, w1⟩ := got_int Tryz.underlying5 (hval 1 5 v1 rfl rfl) h1
  obtain ⟨_, x2, l, w2⟩ := got_cms (hval 2 52 v2 rfl rfl) h2
  obtain ⟨_, x3, m, w3⟩ := got_mp (hval 3 32 v3 rfl rfl) h3
  obtain ⟨_, x4, c, w4⟩ := got_cr (hval 4 34 v4 rfl rfl) h4
  obtain ⟨_, x5, w, w5⟩ := got_mb (hval 5 37 v5 rfl rfl) h5
  clear hval0
  obtain ⟨rfl, hl⟩ := w2
  subst w3 w4 w5
  have hac := pl5 b n (bounds_u8 w0) (bounds_u8 w1) l m c w
  refine (law_calls hac (vs := [v0, v1, v2, v3, v4, v5]) ⟨x0, x1, x2, x3, x4, x5, trivial⟩).mono fun e W' ⟨he, bel⟩ => ?_
  subst he
  exact ⟨_, rfl, _, _, _, [], _, [], hW', trodAll_mk1 (shut_bool Tryz.underlying4 _), trodAll_below laidOut bel (by kernel_rfl) hA0, rfl, bel.frame _, fun h => by cases h⟩
theorem over : Rows.provUndoneRow.holds Tryz.pinned (OpenSpec.ofChange Rows.provUndoneSpec) :=
  OpenClaim.holds_of_wide 5 Tryz.f5 rfl rfl rfl rfl rfl rfl rfl ⟨rfl, rfl, rfl, rfl, rfl⟩ rfl rfl rfl rfl rfl (by kernel_rfl) Tryz.func5 (by kernel_rfl)
    (of_decide_eq_true (by kernel_rfl)) (by unfold Func.isWrapper; first | (rw [if_pos (by decide +kernel)]; kernel_rfl) | (rw [if_neg (by decide +kernel)]; exact ⟨rfl, rfl⟩))
    (fun os started H enc _ => lifted os started H enc)
theorem proved : Rows.ProvUndoneSaid := over
end Go.Proofs.YtbiolkmddpkheaaGreat.provUndoneDone
