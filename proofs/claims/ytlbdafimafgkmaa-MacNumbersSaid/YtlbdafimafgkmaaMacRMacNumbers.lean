/- Proved: the law MacNumbers returns true for every two addresses and number and leaves them as they were. No condition. -/
import Derived.Test.YtlbdafimafgkmaaMacRd
import Derived.Test.YtlbdafimafgkmaaMacM
set_option linter.unusedVariables false
namespace Go.Proofs.Ytlbdafimafgkmaa.macNumbersDone
open Go.ChangeShapes Go.WideShapes Go.ChangeAt Go.RowKit Go.Ai
set_option maxRecDepth 100000 in
theorem lifted (os : Os) (started : os.Started) (H : Type) (enc : TypeId × Value → H) :
    ReturnsInHanded {} Try.checked os 8 .any (Rows.macNumbersSpec.pre6 enc Try.prog Try.f8 Rows.macNumbersRow.domain false) (Rows.macNumbersSpec.post enc Try.prog Try.f8 false true false false) := by
  refine returnsInHanded_of_change (C := Try.checked) own started (by kernel_rfl) Try.func8
    (ChangeSpec.witness6 (enc := enc) (C := Try.checked) false ⟨#[], #[.agg #[.int .u8 0, .int .u8 0, .int .u8 0, .int .u8 0, .int .u8 0, .int .u8 0], .agg #[.int .u8 0, .int .u8 0, .int .u8 0, .int .u8 0, .int .u8 0, .int .u8 0], .int .u64 0], []⟩ 8 (by kernel_rfl) (by kernel_rfl) (by kernel_rfl) (by kernel_rfl)) ?_
  intro W base args ds gs before hval0 hW hcnd _
  have hval : ∀ (j : Nat) t v, Try.f8.params[j]? = some t → args[j]? = some v → Value.okWide Try.prog W .any base t v := hval0
  have hW' := hW
  obtain ⟨p, q, hA0, hV, rfl, hfz, hnd⟩ := hW
  have hA : DataW.TrodAll enc Try.prog W 0 (fun _ => true) true Try.f8.params.toList args.toList ds p := hA0
  rw [Try.params8] at hA hval
  obtain ⟨v0, vs0, d0, ds0, p0, q0, hargs, rfl, rfl, h0, r0⟩ := trodAll_cons hA
  obtain ⟨v1, vs1, d1, ds1, p1, q1, rfl, rfl, rfl, h1, r1⟩ := trodAll_cons r0
  obtain ⟨v2, vs2, d2, ds2, p2, q2, rfl, rfl, rfl, h2, r2⟩ := trodAll_cons r1
  obtain ⟨rfl, rfl, rfl⟩ := trodAll_nil r2
  obtain rfl : args = #[v0, v1, v2] := by cases args; simp_all
  obtain ⟨rfl, rfl⟩ := trodVars_none hV
  obtain ⟨_, x0, m, w0⟩ := got_mac (hval 0 23 v0 rfl rfl) h0
  obtain ⟨_, x1, k, w1⟩ := got_mac (hval 1 23 v1 rfl rfl) h1
  obtain ⟨_, x2, n, rfl, w2⟩ := got_int Try.underlying41 (hval 2 41 v2 rfl rfl) h2
  clear hval0
  obtain ⟨b, c, d, e, f, rfl, ha, hb, hc, hd, he, hf⟩ := w0
  obtain ⟨b', c', d', e', f', rfl, ha', hb', hc', hd', he', hf'⟩ := w1
  have wn := bounds_u64 w2
  have hac := ac8 m b c d e f k b' c' d' e' f' n ha hb hc hd he hf ha' hb' hc' hd' he' hf' wn.1 wn.2
  refine (law_calls hac (vs := [v0, v1, v2]) ⟨x0, x1, x2, trivial⟩).mono fun e W' ⟨he, bel⟩ => ?_
  subst he
  exact ⟨_, rfl, _, _, _, [], _, [], hW', trodAll_mk1 (shut_bool Try.underlying4 _), trodAll_below laidOut bel (by kernel_rfl) hA0, rfl, bel.frame _, fun h => by cases h⟩
theorem over : Rows.macNumbersRow.holds Try.pinned (OpenSpec.ofChange Rows.macNumbersSpec) :=
  OpenClaim.holds_of_wide 8 Try.f8 rfl rfl rfl rfl rfl rfl rfl ⟨rfl, rfl, rfl, rfl, rfl⟩ rfl rfl rfl rfl rfl (by kernel_rfl) Try.func8 (by kernel_rfl)
    (of_decide_eq_true (by kernel_rfl)) (by unfold Func.isWrapper; first | (rw [if_pos (by decide +kernel)]; kernel_rfl) | (rw [if_neg (by decide +kernel)]; exact ⟨rfl, rfl⟩))
    (fun os started H enc _ => lifted os started H enc)
theorem proved : Rows.MacNumbersSaid := over
end Go.Proofs.Ytlbdafimafgkmaa.macNumbersDone
