/- Contracts of functions of the loaded program: called with data in the ranges that each names, it returns this value and writes to no old memory. -/
import Derived.Test.YtlbdafimafgkmaaRows
import Derived.Test.YtlbdafimafgkmaaAiR
import Derived.Test.YtlbdafimafgkmaaMacC

set_option linter.unusedVariables false
namespace Go.Proofs.Ytlbdafimafgkmaa
open Go.ChangeShapes Go.WideShapes Go.ChangeAt Go.RowKit Go.Ai
theorem own : ownKnob Try.prog.godebug = none := by kernel_rfl
theorem laidOut : laidOutB Try.prog = true := by kernel_rfl
theorem rdMac (W : World) : Rd Try.prog W 23 fun ts => ∃ a b c d e f : Int, ts = [.s (.int .u8 a), .s (.int .u8 b), .s (.int .u8 c), .s (.int .u8 d), .s (.int .u8 e), .s (.int .u8 f)] ∧ isB a ∧ isB b ∧ isB c ∧ isB d ∧ isB e ∧ isB f :=
  Rd.mono (rd_array (n := 6) (e := 5) Try.underlying23 (by kernel_rfl) (rd_int Try.underlying5 (by kernel_rfl))) fun ts ⟨rows, e, hn, hr⟩ => by
    subst e
    match rows, hn, hr with
    | [a, b, c, d, e, f], _, hr =>
      obtain ⟨a, rfl, ha⟩ := hr a (by simp)
      obtain ⟨b, rfl, hb⟩ := hr b (by simp)
      obtain ⟨c, rfl, hc⟩ := hr c (by simp)
      obtain ⟨d, rfl, hd⟩ := hr d (by simp)
      obtain ⟨e, rfl, he⟩ := hr e (by simp)
      obtain ⟨f, rfl, hf⟩ := hr f (by simp)
      exact ⟨a, b, c, d, e, f, rfl, bounds_u8 ha, bounds_u8 hb, bounds_u8 hc, bounds_u8 hd, bounds_u8 he, bounds_u8 hf⟩
theorem got_mac {H : Type} {enc : TypeId × Value → H} {W : World} {r : Reach} {b0 : Nat} {v : Value} {d : DataW H} {ps : List MemPlace} (hval : Value.okWide Try.prog W r b0 23 v) (hd : DataW.Trod enc Try.prog W 0 (fun _ => true) true 23 v d ps) :
    ∃ x, VR noB (memI W) x v ∧ ∃ a b c d e f : Int, x = M6 a b c d e f ∧ isB a ∧ isB b ∧ isB c ∧ isB d ∧ isB e ∧ isB f := by
  obtain ⟨x, h1, ts, rfl, a, b, c, d, e, f, rfl, h2⟩ := got_agg (.inr ⟨6, 5, Try.underlying23⟩) (rdMac W) hval hd
  exact ⟨_, h1, a, b, c, d, e, f, rfl, h2⟩
end Go.Proofs.Ytlbdafimafgkmaa
