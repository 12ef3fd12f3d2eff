/- An interpreter of the language over data, and the proof that what it answers is what the machine does; no condition. -/
import Derived.Test.YtdojjjjhbgkpfaaAiK
import Derived.ProofKit
import Derived.OpenShut
import Derived.ShutString
import Derived.ChangeOld
import Derived.Below
set_option linter.unusedVariables false
set_option linter.unusedSimpArgs false
namespace Go.Ai
/-! ## From a contract over the empty heap to the law's row -/
/-- All of memory, as it stands. -/
def memI (w : World) : Imm := fun b o => w.cell? ⟨b, o, none⟩
def noB : Nat → Option BV := fun _ => none
theorem inv_nil (w : World) : Inv noB (memI w) [] w := ⟨fun _ _ _ h => h, fun t k h => by simp at h, fun t x h => by simp [noB] at h, fun t t' x x' h => by simp [noB] at h⟩
theorem law_calls {P : Program} {f : FuncId} {args : List V} (h : AC P f args [] (eqR (.s (.bool true)))) {w : World} {vs : List Value} (hv : VRs noB (memI w) args vs) :
    Calls P f vs.toArray w fun e w' => e = .returned (.bool true) ∧ RowKit.Below w.heap.size w w' :=
  (h.2 _ _ w vs (inv_nil w) hv).mono fun e w' ⟨c, β', I', r, σ', mv, h1, ⟨h2, _, _⟩, h3, h4, h5, h6⟩ => by
    subst h2
    simp only [VR] at h3
    exact ⟨by rw [h1, h3.1], ⟨h5.os, h5.tape, h5.output, h5.size, fun k hk => h5.frame k hk (fun t x hx => by simp [noB] at hx)⟩⟩
/-! ## Readers: what a reading met, as data -/
section
variable {P : Program} {w : World}
/-- Whatever is read at this type is data of this form. -/
def Rd (P : Program) (w : World) (t : TypeId) (G : List T → Prop) : Prop :=
  ∀ (H : Type) (enc : TypeId × Value → H) (base : Nat) (spare : Nat → Bool) (held : Bool) (fuel : Nat) (cs : List Value) (x : DataW H × List MemPlace),
    DataW.trod enc P w base spare held fuel t cs = some x → ∃ ts, TRl (memI w) ts cs ∧ ts.length = P.cellsOf t ∧ G ts
theorem Rd.mono {t : TypeId} {G G' : List T → Prop} (h : Rd P w t G) (k : ∀ ts, G ts → G' ts) : Rd P w t G' := fun H enc base spare held fuel cs x e =>
  let ⟨ts, h1, h2, h3⟩ := h H enc base spare held fuel cs x e
  ⟨ts, h1, h2, k ts h3⟩
theorem rd_int {t : TypeId} {k : IntKind} (ht : P.underlying t = some (.int k)) (hc : P.cellsOf t = 1) : Rd P w t fun ts => ∃ n, ts = [.s (.int k n)] ∧ (Lit.int k n).wf = true := fun H enc base spare held fuel cs x e => by
  obtain ⟨n, rfl, _, hw⟩ := DataW.trod_int ht e
  exact ⟨[.s (.int k n)], by simp [TRl, TR, scalar], by simp [hc], n, rfl, hw⟩
theorem TRl.app {I : Imm} : ∀ {a b : List T} {c d : List Value}, TRl I a c → TRl I b d → TRl I (a ++ b) (c ++ d)
  | [], b, [], d, _, h => h
  | x :: a, b, y :: c, d, h, k => by
    simp only [TRl, List.cons_append] at h ⊢
    exact ⟨h.1, TRl.app h.2 k⟩
  | [], _, _ :: _, _, h, _ => by simp [TRl] at h
  | _ :: _, _, [], _, h, _ => by simp [TRl] at h
/-- The fields of a struct, one behind the other from cell o on. -/
def RdF (P : Program) (w : World) : Nat → List Field → List (List T → Prop) → Prop
  | _, [], [] => True
  | o, f :: fs, G :: Gs => f.offset = o ∧ Rd P w f.type G ∧ RdF P w (o + P.cellsOf f.type) fs Gs
  | _, _, _ => False
/-- What is data of these forms, one behind the other. -/
def Gs : List (List T → Prop) → List T → Prop
  | [], ts => ts = []
  | G :: gs, ts => ∃ a b, ts = a ++ b ∧ G a ∧ Gs gs b
theorem rd_fields {H : Type} {enc : TypeId × Value → H} {base : Nat} {spare : Nat → Bool} {held : Bool} {m : Nat} {all : List Value} :
    ∀ (fs : List Field) (gs : List (List T → Prop)) (o : Nat), RdF P w o fs gs → (∀ f ∈ fs, ∃ x, DataW.trod enc P w base spare held m f.type ((all.drop f.offset).take (P.cellsOf f.type)) = some x) →
      all.length = o + (fs.map fun f => P.cellsOf f.type).sum → ∃ ts, TRl (memI w) ts (all.drop o) ∧ Gs gs ts
  | [], [], o, _, _, hl => ⟨[], by rw [List.drop_eq_nil_of_le (by simp at hl; omega)]; simp [TRl], rfl⟩
  | f :: fs, G :: gs, o, h, hx, hl => by
    simp only [RdF] at h
    obtain ⟨ho, hr, hf⟩ := h
    obtain ⟨x, hx0⟩ := hx f (by simp)
    obtain ⟨a, h1, h2, h3⟩ := hr _ _ _ _ _ _ _ _ hx0
    obtain ⟨b, k1, k2⟩ := rd_fields fs gs (o + P.cellsOf f.type) hf (fun f hm => hx f (by simp [hm])) (by simp at hl; omega)
    refine ⟨a ++ b, ?_, a, b, rfl, h3, k2⟩
    rw [ho] at h1
    have e : all.drop o = (all.drop o).take (P.cellsOf f.type) ++ all.drop (o + P.cellsOf f.type) := by rw [← List.drop_drop]; exact (List.take_append_drop _ _).symm
    rw [e]
    exact TRl.app h1 k1
  | [], _ :: _, _, h, _, _ => by simp [RdF] at h
  | _ :: _, [], _, h, _, _ => by simp [RdF] at h
theorem rd_struct {t : TypeId} {fs : Array Field} {gs : List (List T → Prop)} (ht : P.underlying t = some (.struct fs)) (hc : P.cellsOf t = (fs.toList.map fun f => P.cellsOf f.type).sum) (hf : RdF P w 0 fs.toList gs) :
    Rd P w t (Gs gs) := fun H enc base spare held fuel cs x h => by
  cases fuel with
  | zero => simp [DataW.trod] at h
  | succ m =>
    unfold DataW.trod at h
    rw [ht] at h
    simp only at h
    split at h
    · rename_i hl
      simp only [Option.map_eq_some_iff] at h
      obtain ⟨xs, hm, _⟩ := h
      obtain ⟨ts, h1, h2⟩ := rd_fields fs.toList gs 0 hf (fun f hmem => by
        obtain ⟨i, hi⟩ := List.getElem?_of_mem hmem
        have := mapM_some_get hm i f hi
        have hlen := mapM_some_length hm
        have hib := (List.getElem?_eq_some_iff.1 hi).1
        exact ⟨xs[i], by rw [this, List.getElem?_eq_getElem (by omega)]⟩) (by rw [hl, hc]; simp)
      rw [List.drop_zero] at h1
      exact ⟨ts, h1, by rw [TRl.length h1, hl], h2⟩
    · simp at h
/-! ### An argument, as a value -/
def T.v : T → V
  | .s v => .s v
  | .sl z rows => .sl z rows
theorem TR.v {β : Nat → Option BV} {I : Imm} {t : T} {c : Value} (h : TR I t c) : VR β I t.v c := by
  cases t with
  | s v => simpa [VR, T.v, TR] using h
  | sl z rows => simpa [VR, T.v] using h
theorem TRl.vs {β : Nat → Option BV} {I : Imm} : ∀ {ts : List T} {cs : List Value}, TRl I ts cs → VRs β I (ts.map T.v) cs
  | [], [], _ => by simp [VRs]
  | t :: ts, c :: cs, h => by
    simp only [TRl] at h
    simp only [List.map_cons, VRs]
    exact ⟨TR.v h.1, TRl.vs h.2⟩
  | [], _ :: _, h => by simp [TRl] at h
  | _ :: _, [], h => by simp [TRl] at h
theorem arg_agg {t : TypeId} {G : List T → Prop} {cs : Array Value} {H : Type} {enc : TypeId × Value → H} {base : Nat} {spare : Nat → Bool} {held : Bool} {d : DataW H} {ps : List MemPlace}
    (h : Rd P w t G) (hd : DataW.Trod enc P w base spare held t (.agg cs) d ps) : ∃ ts, VR noB (memI w) (.agg (ts.map T.v)) (.agg cs) ∧ G ts := by
  obtain ⟨fuel, hf⟩ := hd
  obtain ⟨ts, h1, h2, h3⟩ := h _ _ _ _ _ _ _ _ hf
  refine ⟨ts, ?_, h3⟩
  simp only [VR]
  exact ⟨cs, rfl, TRl.vs h1⟩
end
end Go.Ai
