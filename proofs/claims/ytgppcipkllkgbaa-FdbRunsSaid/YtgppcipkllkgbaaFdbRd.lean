/- Contracts of functions of the loaded program: called with data in the ranges that each names, it returns this value and writes to no old memory. -/
import Derived.Test.YtgppcipkllkgbaaRows
import Derived.Test.YtgppcipkllkgbaaAiG
import Derived.Test.YtgppcipkllkgbaaFdbF
set_option linter.unusedVariables false
set_option maxRecDepth 100000
namespace Go.Proofs.Ytgppcipkllkgbaa
open Go.ChangeShapes Go.WideShapes Go.ChangeAt Go.RowKit Go.Ai
theorem own : ownKnob Try.prog.godebug = none := by kernel_rfl
theorem laidOut : laidOutB Try.prog = true := by kernel_rfl
theorem rdMac (W : World) : Rd Try.prog W 23 fun ts => ∃ a b c d e f : Int, ts = [.s (.int .u8 a), .s (.int .u8 b), .s (.int .u8 c), .s (.int .u8 d), .s (.int .u8 e), .s (.int .u8 f)] :=
  Rd.mono (rd_array (n := 6) (e := 5) Try.underlying23 (by kernel_rfl) (rd_int Try.underlying5 (by kernel_rfl))) fun ts ⟨rows, e, hn, hr⟩ => by
    subst e
    match rows, hn, hr with
    | [a, b, c, d, e, f], _, hr =>
      obtain ⟨a, rfl, ha⟩ := hr a (by simp)
      obtain ⟨b, rfl, hb⟩ := hr b (by simp)
      obtain ⟨c, rfl, hc⟩ := hr c (by simp)
      obtain ⟨d, rfl, hd⟩ := hr d (by simp)
      obtain ⟨e, rfl, he⟩ := hr e (by simp)
      obtain ⟨f, rfl, hf⟩ := hr f (by simp)
      exact ⟨a, b, c, d, e, f, rfl⟩
theorem rdOp (W : World) : Rd Try.prog W 35 fun ts => ∃ k v a1 a2 a3 a4 a5 a6 p t : Int, ts = [.s (.int .i64 k), .s (.int .i64 v), .s (.int .u8 a1), .s (.int .u8 a2), .s (.int .u8 a3), .s (.int .u8 a4), .s (.int .u8 a5), .s (.int .u8 a6), .s (.int .i64 p), .s (.int .i64 t)] := by
  refine Rd.mono (rd_struct Try.underlying35 (by kernel_rfl) (gs := [_, _, _, _, _]) ⟨by kernel_rfl, rd_int Try.underlying3 (by kernel_rfl), by kernel_rfl, rd_int Try.underlying3 (by kernel_rfl), by kernel_rfl, rdMac W, by kernel_rfl, rd_int Try.underlying3 (by kernel_rfl), by kernel_rfl, rd_int Try.underlying3 (by kernel_rfl), trivial⟩) fun ts h => ?_
  obtain ⟨_, _, rfl, ⟨k, rfl, _⟩, _, _, rfl, ⟨v, rfl, _⟩, _, _, rfl, ⟨a1, a2, a3, a4, a5, a6, rfl⟩, _, _, rfl, ⟨p, rfl, _⟩, _, _, rfl, ⟨t, rfl, _⟩, rfl⟩ := h
  exact ⟨k, v, a1, a2, a3, a4, a5, a6, p, t, rfl⟩
theorem got_op {H : Type} {enc : TypeId × Value → H} {W : World} {r : Reach} {b0 : Nat} {v : Value} {d : DataW H} {ps : List MemPlace} (hval : Value.okWide Try.prog W r b0 35 v) (hd : DataW.Trod enc Try.prog W 0 (fun _ => true) true 35 v d ps) :
    ∃ x, VR noB (memI W) x v ∧ ∃ k v a1 a2 a3 a4 a5 a6 p t : Int, x = .agg [.s (.int .i64 k), .s (.int .i64 v), .s (.int .u8 a1), .s (.int .u8 a2), .s (.int .u8 a3), .s (.int .u8 a4), .s (.int .u8 a5), .s (.int .u8 a6), .s (.int .i64 p), .s (.int .i64 t)] := by
  obtain ⟨x, h1, ts, rfl, k, v, a1, a2, a3, a4, a5, a6, p, t, rfl⟩ := got_agg (.inl ⟨_, Try.underlying35⟩) (rdOp W) hval hd
  exact ⟨_, h1, k, v, a1, a2, a3, a4, a5, a6, p, t, rfl⟩
end Go.Proofs.Ytgppcipkllkgbaa
