/- Contracts of functions of the loaded program: called with data in the ranges that each names, it returns this value and writes to no old memory. -/
import Derived.Test.YtpadhpkplpiceaaCfdRd
import Derived.Test.YtpadhpkplpiceaaCfdL
set_option linter.unusedVariables false
set_option maxRecDepth 100000
namespace Go.Proofs.Ytpadhpkplpiceaa
open Go.ChangeShapes Go.WideShapes Go.ChangeAt Go.RowKit Go.Ai
theorem rows_u8 : ∀ {rows : List (List T)}, (∀ r ∈ rows, ∃ n : Int, r = [.s (.int .u8 n)] ∧ 0 ≤ n ∧ n ≤ 255) → ∃ l : List Int, rows = l.map u8r ∧ ∀ x ∈ l, 0 ≤ x ∧ x ≤ 255
  | [], _ => ⟨[], rfl, by simp⟩
  | r :: rows, h => by
    obtain ⟨n, rfl, hn⟩ := h r (by simp)
    obtain ⟨l, rfl, hl⟩ := rows_u8 (rows := rows) (fun r hr => h r (by simp [hr]))
    refine ⟨n :: l, rfl, fun x hx => ?_⟩
    rcases List.mem_cons.1 hx with rfl | hx
    · exact hn
    · exact hl x hx
theorem got_u8s {H : Type} {enc : TypeId × Value → H} {W : World} {r : Reach} {b0 : Nat} {v : Value} {d : DataW H} {ps : List MemPlace} (hval : Value.okWide Try.prog W r b0 22 v) (hd : DataW.Trod enc Try.prog W 0 (fun _ => true) true 22 v d ps) :
    ∃ x, VR noB (memI W) x v ∧ ∃ l : List Int, x = .sl 1 (l.map u8r) ∧ ∀ x ∈ l, 0 ≤ x ∧ x ≤ 255 := by
  obtain ⟨x, h1, rows, rfl, _, hr⟩ := got_slice Try.underlying22 (by kernel_rfl) (by rw [show Try.prog.cellsOf 5 = 1 by kernel_rfl]; omega) (rd_int Try.underlying5 (by kernel_rfl)) hval hd
  have hc : Try.prog.cellsOf 5 = 1 := by kernel_rfl
  obtain ⟨l, rfl, hl⟩ := rows_u8 (rows := rows) (fun r hr' => by obtain ⟨_, n, rfl, hn⟩ := hr r hr'; exact ⟨n, rfl, bounds_u8 hn⟩)
  rw [hc] at h1
  exact ⟨_, h1, l, rfl, hl⟩
end Go.Proofs.Ytpadhpkplpiceaa
