/- Contracts of functions of the loaded program: called with data in the ranges that each names, it returns this value and writes to no old memory. -/
import Derived.Test.YtpadhpkplpiceaaCfdU
set_option linter.unusedVariables false
set_option linter.unusedSimpArgs false
namespace Go.Ai
open Go.Proofs
theorem learnR_len (r : Int) (L : List Ent) (e : Ent) : (learnR r L e).length ≤ L.length + 1 := by
  unfold learnR
  split
  · rw [insE_len]; have := List.length_eraseIdx_le L ‹Nat›; omega
  · split
    · rw [insE_len]; have := List.length_eraseIdx_le L (eld L); omega
    · rw [insE_len]; omega
structure OpR where
  d : Int
  i : Int
  o : Int
  c : Mc
  b : Mc
  t : Int
abbrev opT (x : OpR) : List T := [.s (.int .u8 x.d), .s (.int .i64 x.i), .s (.int .i64 x.o), .s (.int .u8 x.c.a), .s (.int .u8 x.c.b), .s (.int .u8 x.c.c), .s (.int .u8 x.c.d), .s (.int .u8 x.c.e), .s (.int .u8 x.c.f), .s (.int .u8 x.b.a), .s (.int .u8 x.b.b), .s (.int .u8 x.b.c), .s (.int .u8 x.b.d), .s (.int .u8 x.b.e), .s (.int .u8 x.b.f), .s (.int .i64 x.t)]
def okO (x : OpR) : Prop := okM x.c ∧ okM x.b
theorem rep0 (k : Nat) : Rep [] k [] := ⟨List.Perm.refl _, by simp [Srt], by simp, by simp, by simp⟩
end Go.Ai
