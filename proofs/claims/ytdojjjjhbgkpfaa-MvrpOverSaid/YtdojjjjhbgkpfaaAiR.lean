/- An interpreter of the language over data, and the proof that what it answers is what the machine does; no condition. -/
import Derived.Test.YtdojjjjhbgkpfaaAiG
import Derived.Carry
set_option linter.unusedVariables false
set_option linter.unusedSimpArgs false
namespace Go.Ai
open Go.ChangeShapes Go.RowKit
section
variable {H : Type} {enc : TypeId × Value → H} {P : Program} {W W' : World}
theorem trodAll_below (hl : laidOutB P = true) (bel : Below W.heap.size W W') : ∀ {ts : List TypeId} {vs : List Value} {ds : List (DataW H)} {ps : List MemPlace},
    (ts.all fun t => P.readableRec t && decide (t < P.types.size)) = true → DataW.TrodAll enc P W 0 (fun _ => true) true ts vs ds ps →
    DataW.TrodAll enc P W' 0 (fun b => decide (b < W.heap.size)) true ts vs ds ps
  | [], vs, ds, ps, _, h => by
    obtain ⟨rfl, rfl, rfl⟩ := trodAll_nil h
    rfl
  | t :: ts, vs, ds, ps, hr, h => by
    obtain ⟨v, vs', d, ds', p, q, rfl, rfl, rfl, h0, h1⟩ := trodAll_cons h
    simp only [List.all_cons, Bool.and_eq_true, decide_eq_true_eq] at hr
    have lt : ∀ x ∈ p, x.block < W.heap.size := by obtain ⟨m, hm⟩ := h0; exact DataW.trod_lt m _ _ _ hm
    exact trodAll_cons_mk (Below.trod hl hr.1.1 hr.1.2 h0 bel lt) (trodAll_below hl bel (by simpa using hr.2) h1)
theorem okWide_agg {r : Reach} {b0 : Nat} {t : TypeId} {v : Value} (ht : (∃ fs, P.underlying t = some (.struct fs)) ∨ ∃ n e, P.underlying t = some (.array n e)) (h : Value.okWide P W r b0 t v) : ∃ cs, v = .agg cs := by
  rcases ht with ⟨fs, ht⟩ | ⟨n, e, ht⟩
  · simp only [Value.okWide, ht] at h
    obtain ⟨cs, h, _⟩ := h
    exact ⟨cs, h⟩
  · simp only [Value.okWide, ht] at h
    obtain ⟨cs, h, _⟩ := h
    exact ⟨cs, h⟩
/-- One argument is data of this form. -/
def Got (W : World) (v : Value) (G : V → Prop) : Prop := ∃ x, VR noB (memI W) x v ∧ G x
theorem got_int {t : TypeId} {k : IntKind} {r : Reach} {b0 : Nat} {v : Value} {d : DataW H} {ps : List MemPlace} (ht : P.underlying t = some (.int k)) (hval : Value.okWide P W r b0 t v) (hd : DataW.Trod enc P W 0 (fun _ => true) true t v d ps) :
    Got W v fun x => ∃ n, x = .s (.int k n) ∧ (Lit.int k n).wf = true := by
  obtain ⟨n, rfl, _, _, hw⟩ := open_int ht hval hd
  exact ⟨.s (.int k n), by simp [VR, scalar], n, rfl, hw⟩
theorem got_bool {t : TypeId} {r : Reach} {b0 : Nat} {v : Value} {d : DataW H} {ps : List MemPlace} (ht : P.underlying t = some .bool) (hval : Value.okWide P W r b0 t v) (hd : DataW.Trod enc P W 0 (fun _ => true) true t v d ps) :
    Got W v fun x => ∃ b, x = .s (.bool b) := by
  obtain ⟨fuel, hf⟩ := hd
  obtain ⟨b, h, _⟩ := DataW.trod_bool ht hf
  simp only [Value.okWide, ht, Cell.okWide] at hval
  have : ∃ b, v = .bool b := by cases v <;> simp_all [Cell.ok]
  obtain ⟨b, rfl⟩ := this
  exact ⟨.s (.bool b), by simp [VR, scalar], b, rfl⟩
theorem got_agg {t : TypeId} {G : List T → Prop} {r : Reach} {b0 : Nat} {v : Value} {d : DataW H} {ps : List MemPlace} (ht : (∃ fs, P.underlying t = some (.struct fs)) ∨ ∃ n e, P.underlying t = some (.array n e)) (he : Rd P W t G)
    (hval : Value.okWide P W r b0 t v) (hd : DataW.Trod enc P W 0 (fun _ => true) true t v d ps) :
    Got W v fun x => ∃ ts, x = .agg (ts.map T.v) ∧ G ts := by
  obtain ⟨cs, rfl⟩ := okWide_agg ht hval
  obtain ⟨ts, hx, h⟩ := arg_agg he hd
  exact ⟨_, hx, ts, rfl, h⟩
end
end Go.Ai
