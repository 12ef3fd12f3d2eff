/- An interpreter of the language over data, and the proof that what it answers is what the machine does; no condition. -/
import Derived.Test.YtbiolkmddpkheaaAiK
import Derived.ProofKit
import Derived.OpenShut
import Derived.ShutString
import Derived.ChangeOld
import Derived.Below
set_option linter.unusedVariables false
set_option linter.unusedSimpArgs false
namespace Go.Ai
/-! ## From a contract over the empty heap to the law's row -/
/-- All of memory, as it stands. -/
def memI (w : World) : Imm := fun b o => w.cell? ⟨b, o, none⟩
def noB : Nat → Option BV := fun _ => none
theorem inv_nil (w : World) : Inv noB (memI w) [] w := ⟨fun _ _ _ h => h, fun t k h => by simp at h, fun t x h => by simp [noB] at h, fun t t' x x' h => by simp [noB] at h⟩
theorem law_calls {P : Program} {f : FuncId} {args : List V} (h : AC P f args [] (eqR (.s (.bool true)))) {w : World} {vs : List Value} (hv : VRs noB (memI w) args vs) :
    Calls P f vs.toArray w fun e w' => e = .returned (.bool true) ∧ RowKit.Below w.heap.size w w' :=
  (h.2 _ _ w vs (inv_nil w) hv).mono fun e w' ⟨c, β', I', r, σ', mv, h1, ⟨h2, _, _⟩, h3, h4, h5, h6⟩ => by
    subst h2
    simp only [VR] at h3
    exact ⟨by rw [h1, h3.1], ⟨h5.os, h5.tape, h5.output, h5.size, fun k hk => h5.frame k hk (fun t x hx => by simp [noB] at hx)⟩⟩
/-! ## Readers: what a reading met, as data -/
section
variable {P : Program} {w : World}
/-- Whatever is read at this type is data of this form. -/
def Rd (P : Program) (w : World) (t : TypeId) (G : List T → Prop) : Prop :=
  ∀ (H : Type) (enc : TypeId × Value → H) (base : Nat) (spare : Nat → Bool) (held : Bool) (fuel : Nat) (cs : List Value) (x : DataW H × List MemPlace),
    DataW.trod enc P w base spare held fuel t cs = some x → ∃ ts, TRl (memI w) ts cs ∧ ts.length = P.cellsOf t ∧ G ts
theorem Rd.mono {t : TypeId} {G G' : List T → Prop} (h : Rd P w t G) (k : ∀ ts, G ts → G' ts) : Rd P w t G' := fun H enc base spare held fuel cs x e =>
  let ⟨ts, h1, h2, h3⟩ := h H enc base spare held fuel cs x e
  ⟨ts, h1, h2, k ts h3⟩
theorem TRl.app {I : Imm} : ∀ {a b : List T} {c d : List Value}, TRl I a c → TRl I b d → TRl I (a ++ b) (c ++ d)
  | [], b, [], d, _, h => h
  | x :: a, b, y :: c, d, h, k => by
    simp only [TRl, List.cons_append] at h ⊢
    exact ⟨h.1, TRl.app h.2 k⟩
  | [], _, _ :: _, _, h, _ => by simp [TRl] at h
  | _ :: _, _, [], _, h, _ => by simp [TRl] at h
/-! ### An argument, as a value -/
def T.v : T → V
  | .s v => .s v
  | .sl z rows => .sl z rows
theorem TR.v {β : Nat → Option BV} {I : Imm} {t : T} {c : Value} (h : TR I t c) : VR β I t.v c := by
  cases t with
  | s v => simpa [VR, T.v, TR] using h
  | sl z rows => simpa [VR, T.v] using h
theorem TRl.vs {β : Nat → Option BV} {I : Imm} : ∀ {ts : List T} {cs : List Value}, TRl I ts cs → VRs β I (ts.map T.v) cs
  | [], [], _ => by simp [VRs]
  | t :: ts, c :: cs, h => by
    simp only [TRl] at h
    simp only [List.map_cons, VRs]
    exact ⟨TR.v h.1, TRl.vs h.2⟩
  | [], _ :: _, h => by simp [TRl] at h
  | _ :: _, [], h => by simp [TRl] at h
end
end Go.Ai
