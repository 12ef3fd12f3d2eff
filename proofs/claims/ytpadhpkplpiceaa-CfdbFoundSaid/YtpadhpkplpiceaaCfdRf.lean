/- Contracts of functions of the loaded program: called with data in the ranges that each names, it returns this value and writes to no old memory. -/
import Derived.Test.YtpadhpkplpiceaaCfdRd
import Derived.Test.YtpadhpkplpiceaaCfdOp
set_option linter.unusedVariables false
set_option maxRecDepth 100000
namespace Go.Proofs.Ytpadhpkplpiceaa
open Go.ChangeShapes Go.WideShapes Go.ChangeAt Go.RowKit Go.Ai
theorem rdMacB (W : World) : Rd Try.prog W 31 fun ts => ∃ m : Mc, okM m ∧ ts = [.s (.int .u8 m.a), .s (.int .u8 m.b), .s (.int .u8 m.c), .s (.int .u8 m.d), .s (.int .u8 m.e), .s (.int .u8 m.f)] :=
  Rd.mono (rd_array (n := 6) (e := 5) Try.underlying31 (by kernel_rfl) (rd_int Try.underlying5 (by kernel_rfl))) fun ts ⟨rows, e, hn, hr⟩ => by
    subst e
    match rows, hn, hr with
    | [a, b, c, d, e, f], _, hr =>
      obtain ⟨a, rfl, ha⟩ := hr a (by simp)
      obtain ⟨b, rfl, hb⟩ := hr b (by simp)
      obtain ⟨c, rfl, hc⟩ := hr c (by simp)
      obtain ⟨d, rfl, hd⟩ := hr d (by simp)
      obtain ⟨e, rfl, he⟩ := hr e (by simp)
      obtain ⟨f, rfl, hf⟩ := hr f (by simp)
      exact ⟨⟨a, b, c, d, e, f⟩, ⟨bounds_u8 ha, bounds_u8 hb, bounds_u8 hc, bounds_u8 hd, bounds_u8 he, bounds_u8 hf⟩, rfl⟩
theorem rdOpB (W : World) : Rd Try.prog W 40 fun ts => ∃ x : OpR, okO x ∧ ts = opT x := by
  refine Rd.mono (rd_struct Try.underlying40 (by kernel_rfl) (gs := [_, _, _, _, _, _]) ⟨by kernel_rfl, rd_int Try.underlying5 (by kernel_rfl), by kernel_rfl, rd_int Try.underlying3 (by kernel_rfl), by kernel_rfl, rd_int Try.underlying3 (by kernel_rfl), by kernel_rfl, rdMacB W, by kernel_rfl, rdMacB W, by kernel_rfl, rd_int Try.underlying3 (by kernel_rfl), trivial⟩) fun ts h => ?_
  obtain ⟨_, _, rfl, ⟨d, rfl, _⟩, _, _, rfl, ⟨i, rfl, _⟩, _, _, rfl, ⟨o, rfl, _⟩, _, _, rfl, ⟨c, hc, rfl⟩, _, _, rfl, ⟨b, hb, rfl⟩, _, _, rfl, ⟨t, rfl, _⟩, rfl⟩ := h
  exact ⟨⟨d, i, o, c, b, t⟩, ⟨hc, hb⟩, rfl⟩
theorem rows_op : ∀ {rows : List (List T)}, (∀ r ∈ rows, ∃ x : OpR, okO x ∧ r = opT x) → ∃ l : List OpR, rows = l.map opT ∧ ∀ x ∈ l, okO x
  | [], _ => ⟨[], rfl, by simp⟩
  | r :: rows, h => by
    obtain ⟨x, hx, rfl⟩ := h r (by simp)
    obtain ⟨l, rfl, hl⟩ := rows_op (rows := rows) (fun r hr => h r (by simp [hr]))
    refine ⟨x :: l, rfl, fun y hy => ?_⟩
    rcases List.mem_cons.1 hy with rfl | hy
    · exact hx
    · exact hl y hy
theorem got_ops {H : Type} {enc : TypeId × Value → H} {W : World} {r : Reach} {b0 : Nat} {v : Value} {d : DataW H} {ps : List MemPlace} (hval : Value.okWide Try.prog W r b0 37 v) (hd : DataW.Trod enc Try.prog W 0 (fun _ => true) true 37 v d ps) :
    ∃ x, VR noB (memI W) x v ∧ ∃ l : List OpR, x = .sl 16 (l.map opT) ∧ ∀ x ∈ l, okO x := by
  have hc : Try.prog.cellsOf 40 = 16 := by kernel_rfl
  obtain ⟨x, h1, rows, rfl, _, hr⟩ := got_slice Try.underlying37 (by kernel_rfl) (by rw [hc]; omega) (rdOpB W) hval hd
  obtain ⟨l, rfl, hl⟩ := rows_op (rows := rows) (fun r hr' => (hr r hr').2)
  rw [hc] at h1
  exact ⟨_, h1, l, rfl, hl⟩
end Go.Proofs.Ytpadhpkplpiceaa
