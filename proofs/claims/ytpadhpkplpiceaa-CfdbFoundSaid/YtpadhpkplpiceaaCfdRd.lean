/- Contracts of functions of the loaded program: called with data in the ranges that each names, it returns this value and writes to no old memory. -/
import Derived.Test.YtpadhpkplpiceaaRows
import Derived.Test.YtpadhpkplpiceaaAiR
import Derived.Test.YtpadhpkplpiceaaCfdC
set_option linter.unusedVariables false
set_option maxRecDepth 100000
namespace Go.Proofs.Ytpadhpkplpiceaa
open Go.ChangeShapes Go.WideShapes Go.ChangeAt Go.RowKit Go.Ai
theorem own : ownKnob Try.prog.godebug = none := by kernel_rfl
theorem laidOut : laidOutB Try.prog = true := by kernel_rfl
theorem rdMac (W : World) : Rd Try.prog W 31 fun ts => ∃ a b c d e f : Int, ts = [.s (.int .u8 a), .s (.int .u8 b), .s (.int .u8 c), .s (.int .u8 d), .s (.int .u8 e), .s (.int .u8 f)] :=
  Rd.mono (rd_array (n := 6) (e := 5) Try.underlying31 (by kernel_rfl) (rd_int Try.underlying5 (by kernel_rfl))) fun ts ⟨rows, e, hn, hr⟩ => by
    subst e
    match rows, hn, hr with
    | [a, b, c, d, e, f], _, hr =>
      obtain ⟨a, rfl, ha⟩ := hr a (by simp)
      obtain ⟨b, rfl, hb⟩ := hr b (by simp)
      obtain ⟨c, rfl, hc⟩ := hr c (by simp)
      obtain ⟨d, rfl, hd⟩ := hr d (by simp)
      obtain ⟨e, rfl, he⟩ := hr e (by simp)
      obtain ⟨f, rfl, hf⟩ := hr f (by simp)
      exact ⟨a, b, c, d, e, f, rfl⟩
theorem rdOp (W : World) : Rd Try.prog W 40 fun ts => ∃ d i o a1 a2 a3 a4 a5 a6 b1 b2 b3 b4 b5 b6 t : Int, ts = [.s (.int .u8 d), .s (.int .i64 i), .s (.int .i64 o), .s (.int .u8 a1), .s (.int .u8 a2), .s (.int .u8 a3), .s (.int .u8 a4), .s (.int .u8 a5), .s (.int .u8 a6), .s (.int .u8 b1), .s (.int .u8 b2), .s (.int .u8 b3), .s (.int .u8 b4), .s (.int .u8 b5), .s (.int .u8 b6), .s (.int .i64 t)] := by
  refine Rd.mono (rd_struct Try.underlying40 (by kernel_rfl) (gs := [_, _, _, _, _, _]) ⟨by kernel_rfl, rd_int Try.underlying5 (by kernel_rfl), by kernel_rfl, rd_int Try.underlying3 (by kernel_rfl), by kernel_rfl, rd_int Try.underlying3 (by kernel_rfl), by kernel_rfl, rdMac W, by kernel_rfl, rdMac W, by kernel_rfl, rd_int Try.underlying3 (by kernel_rfl), trivial⟩) fun ts h => ?_
  obtain ⟨_, _, rfl, ⟨d, rfl, _⟩, _, _, rfl, ⟨i, rfl, _⟩, _, _, rfl, ⟨o, rfl, _⟩, _, _, rfl, ⟨a1, a2, a3, a4, a5, a6, rfl⟩, _, _, rfl, ⟨b1, b2, b3, b4, b5, b6, rfl⟩, _, _, rfl, ⟨t, rfl, _⟩, rfl⟩ := h
  exact ⟨d, i, o, a1, a2, a3, a4, a5, a6, b1, b2, b3, b4, b5, b6, t, rfl⟩
theorem got_op {H : Type} {enc : TypeId × Value → H} {W : World} {r : Reach} {b0 : Nat} {v : Value} {d : DataW H} {ps : List MemPlace} (hval : Value.okWide Try.prog W r b0 40 v) (hd : DataW.Trod enc Try.prog W 0 (fun _ => true) true 40 v d ps) :
    ∃ x, VR noB (memI W) x v ∧ ∃ d i o a1 a2 a3 a4 a5 a6 b1 b2 b3 b4 b5 b6 t : Int, x = .agg [.s (.int .u8 d), .s (.int .i64 i), .s (.int .i64 o), .s (.int .u8 a1), .s (.int .u8 a2), .s (.int .u8 a3), .s (.int .u8 a4), .s (.int .u8 a5), .s (.int .u8 a6), .s (.int .u8 b1), .s (.int .u8 b2), .s (.int .u8 b3), .s (.int .u8 b4), .s (.int .u8 b5), .s (.int .u8 b6), .s (.int .i64 t)] := by
  obtain ⟨x, h1, ts, rfl, d, i, o, a1, a2, a3, a4, a5, a6, b1, b2, b3, b4, b5, b6, t, rfl⟩ := got_agg (.inl ⟨_, Try.underlying40⟩) (rdOp W) hval hd
  exact ⟨_, h1, d, i, o, a1, a2, a3, a4, a5, a6, b1, b2, b3, b4, b5, b6, t, rfl⟩
end Go.Proofs.Ytpadhpkplpiceaa
