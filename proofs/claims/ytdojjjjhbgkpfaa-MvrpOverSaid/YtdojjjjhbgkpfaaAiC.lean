/- An interpreter of the language over data, and the proof that what it answers is what the machine does; no condition. -/
import Derived.Test.YtdojjjjhbgkpfaaAiY
set_option linter.unusedVariables false
set_option linter.unusedSimpArgs false
namespace Go.Ai
/-! ## A slice that grows while others look elsewhere -/
section
variable {P : Program} {W : List FuncId}
theorem two_mk {ops : Array Oper} {i j : Nat} {B1 B2 : List Nat} {Q : Ctl → St → Prop} {S : St} (S0 : St) (h1 : awpD P W ops (weakQ S0 .normal) (i :: j :: B1) S) (h2 : awpD P W ops (weakQ S0 .normal) (j :: i :: B2) S) (h3 : Q .normal S0) : twoQ P W ops i j B1 B2 Q .normal S := ⟨S0, h1, h2, h3⟩
theorem weak_mk {S0 S : St} {c : Ctl} (h : Weak S S0) : weakQ S0 c S := h
end
end Go.Ai
