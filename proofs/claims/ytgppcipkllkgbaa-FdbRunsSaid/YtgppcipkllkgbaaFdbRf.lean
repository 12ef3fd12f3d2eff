/- Contracts of functions of the loaded program: called with data in the ranges that each names, it returns this value and writes to no old memory. -/
import Derived.Test.YtgppcipkllkgbaaFdbRd
import Derived.Test.YtgppcipkllkgbaaFdbQ
set_option linter.unusedVariables false
set_option maxRecDepth 100000
namespace Go.Proofs.Ytgppcipkllkgbaa
open Go.ChangeShapes Go.WideShapes Go.ChangeAt Go.RowKit Go.Ai
theorem rdMacB (W : World) : Rd Try.prog W 23 fun ts => ∃ m : Mc, okM m ∧ ts = [.s (.int .u8 m.a), .s (.int .u8 m.b), .s (.int .u8 m.c), .s (.int .u8 m.d), .s (.int .u8 m.e), .s (.int .u8 m.f)] :=
  Rd.mono (rd_array (n := 6) (e := 5) Try.underlying23 (by kernel_rfl) (rd_int Try.underlying5 (by kernel_rfl))) fun ts ⟨rows, e, hn, hr⟩ => by
    subst e
    match rows, hn, hr with
    | [a, b, c, d, e, f], _, hr =>
      obtain ⟨a, rfl, ha⟩ := hr a (by simp)
      obtain ⟨b, rfl, hb⟩ := hr b (by simp)
      obtain ⟨c, rfl, hc⟩ := hr c (by simp)
      obtain ⟨d, rfl, hd⟩ := hr d (by simp)
      obtain ⟨e, rfl, he⟩ := hr e (by simp)
      obtain ⟨f, rfl, hf⟩ := hr f (by simp)
      exact ⟨⟨a, b, c, d, e, f⟩, ⟨bounds_u8 ha, bounds_u8 hb, bounds_u8 hc, bounds_u8 hd, bounds_u8 he, bounds_u8 hf⟩, rfl⟩
theorem got_macB {H : Type} {enc : TypeId × Value → H} {W : World} {r : Reach} {b0 : Nat} {v : Value} {d : DataW H} {ps : List MemPlace} (hval : Value.okWide Try.prog W r b0 23 v) (hd : DataW.Trod enc Try.prog W 0 (fun _ => true) true 23 v d ps) :
    ∃ x, VR noB (memI W) x v ∧ ∃ m : Mc, x = mV m ∧ okM m := by
  obtain ⟨x, h1, ts, rfl, m, hm, rfl⟩ := got_agg (.inr ⟨_, _, Try.underlying23⟩) (rdMacB W) hval hd
  exact ⟨_, h1, m, rfl, hm⟩
theorem rdOpB (W : World) : Rd Try.prog W 35 fun ts => ∃ x : OpR, okM x.m ∧ ts = opT x := by
  refine Rd.mono (rd_struct Try.underlying35 (by kernel_rfl) (gs := [_, _, _, _, _]) ⟨by kernel_rfl, rd_int Try.underlying3 (by kernel_rfl), by kernel_rfl, rd_int Try.underlying3 (by kernel_rfl), by kernel_rfl, rdMacB W, by kernel_rfl, rd_int Try.underlying3 (by kernel_rfl), by kernel_rfl, rd_int Try.underlying3 (by kernel_rfl), trivial⟩) fun ts h => ?_
  obtain ⟨_, _, rfl, ⟨k, rfl, _⟩, _, _, rfl, ⟨v, rfl, _⟩, _, _, rfl, ⟨m, hm, rfl⟩, _, _, rfl, ⟨p, rfl, _⟩, _, _, rfl, ⟨t, rfl, _⟩, rfl⟩ := h
  exact ⟨⟨k, v, m, p, t⟩, hm, rfl⟩
theorem rows_op : ∀ {rows : List (List T)}, (∀ r ∈ rows, ∃ x : OpR, okM x.m ∧ r = opT x) → ∃ l : List OpR, rows = l.map opT ∧ ∀ x ∈ l, okM x.m
  | [], _ => ⟨[], rfl, by simp⟩
  | r :: rows, h => by
    obtain ⟨x, hx, rfl⟩ := h r (by simp)
    obtain ⟨l, rfl, hl⟩ := rows_op (rows := rows) (fun r hr => h r (by simp [hr]))
    refine ⟨x :: l, rfl, fun y hy => ?_⟩
    rcases List.mem_cons.1 hy with rfl | hy
    · exact hx
    · exact hl y hy
theorem got_ops {H : Type} {enc : TypeId × Value → H} {W : World} {r : Reach} {b0 : Nat} {v : Value} {d : DataW H} {ps : List MemPlace} (hval : Value.okWide Try.prog W r b0 24 v) (hd : DataW.Trod enc Try.prog W 0 (fun _ => true) true 24 v d ps) :
    ∃ x, VR noB (memI W) x v ∧ ∃ l : List OpR, x = .sl 10 (l.map opT) ∧ ∀ x ∈ l, okM x.m := by
  have hc : Try.prog.cellsOf 35 = 10 := by kernel_rfl
  obtain ⟨x, h1, rows, rfl, _, hr⟩ := got_slice Try.underlying24 (by kernel_rfl) (by rw [hc]; omega) (rdOpB W) hval hd
  obtain ⟨l, rfl, hl⟩ := rows_op (rows := rows) (fun r hr' => (hr r hr').2)
  rw [hc] at h1
  exact ⟨_, h1, l, rfl, hl⟩
theorem got_opB {H : Type} {enc : TypeId × Value → H} {W : World} {r : Reach} {b0 : Nat} {v : Value} {d : DataW H} {ps : List MemPlace} (hval : Value.okWide Try.prog W r b0 35 v) (hd : DataW.Trod enc Try.prog W 0 (fun _ => true) true 35 v d ps) :
    ∃ x, VR noB (memI W) x v ∧ ∃ o : OpR, x = opV o ∧ okM o.m := by
  obtain ⟨x, h1, ts, rfl, o, ho, rfl⟩ := got_agg (.inl ⟨_, Try.underlying35⟩) (rdOpB W) hval hd
  exact ⟨_, h1, o, rfl, ho⟩
end Go.Proofs.Ytgppcipkllkgbaa
