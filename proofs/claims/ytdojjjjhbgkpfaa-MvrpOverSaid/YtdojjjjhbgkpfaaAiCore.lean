/- An interpreter of the language over data, and the proof that what it answers is what the machine does; no condition. -/
import Derived.WalkKit
import Derived.LoopN
import Derived.Maps.AppendAt
import Derived.KernelRfl
namespace Go.Ai
/-! ## 1. Abstract values -/
/-- Data that nobody changes any more. -/
inductive T where
  | s (v : Value)
  | sl (z : Nat) (rows : List (List T))
  deriving Inhabited
/-- Values of one activation: data, and references into its own abstract heap. -/
inductive V where
  | s (v : Value)
  | sl (z : Nat) (rows : List (List T))
  | emp
  | own (tag off len : Nat)
  | win (tag off len z : Nat)
  | ptr (tag i o : Nat)
  | mref (tag : Nat)
  | iref (cs : List T)
  | clo (fn : Fn) (first captured : List V)
  | agg (cs : List V)
  | tuple (vs : List V)
  | undef
  deriving Inhabited
def scalar : Value → Bool
  | .bool _ | .int _ _ | .float _ _ | .string _ | .pointer none | .slice none 0 0 | .map none | .chan none | .nilFunc | .nilIface => true
  | _ => false
/-- Where a tag's block lies: its number, its room (in rows), cells a row. -/
structure Bl where
  b : Nat
  cap : Nat
  z : Nat
inductive BV where
  | real (x : Bl)
  | virt
/-- Cells that nobody changes any more. -/
abbrev Imm := Nat → Nat → Option Value
mutual
def TR (I : Imm) : T → Value → Prop
  | .s v, c => c = v ∧ scalar v = true
  | .sl z rows, c => ∃ a cap, c = .slice a rows.length cap ∧ rows.length ≤ cap ∧ (rows = [] ∨ ∃ b off, a = some ⟨b, off, none⟩ ∧ TRrows I b off z rows)
def TRrows (I : Imm) (b off z : Nat) : List (List T) → Prop
  | [] => True
  | r :: rs => r.length = z ∧ TRcells I b off r ∧ TRrows I b (off + z) z rs
def TRcells (I : Imm) (b off : Nat) : List T → Prop
  | [] => True
  | t :: ts => (∃ u, I b off = some u ∧ TR I t u) ∧ TRcells I b (off + 1) ts
end
mutual
def VR (β : Nat → Option BV) (I : Imm) : V → Value → Prop
  | .s v, c => c = v ∧ scalar v = true
  | .sl z rows, c => TR I (.sl z rows) c
  | .emp, c => ∃ a, c = .slice a 0 0
  | .own t off len, c => (∃ x, β t = some (.real x) ∧ ((off + len ≤ x.cap ∧ c = .slice (some ⟨x.b, off * x.z, none⟩) len (x.cap - off)) ∨ (len = 0 ∧ x.cap ≤ off ∧ ∃ a, c = .slice a 0 0))) ∨
      (β t = some .virt ∧ off = 0 ∧ len = 0 ∧ ∃ a, c = .slice a 0 0)
  | .win t off len _, c => ∃ x a cap, β t = some (.real x) ∧ len ≤ cap ∧ c = .slice a len cap ∧ (len = 0 ∨ a = some ⟨x.b, off, none⟩)
  | .ptr t i o, c => ∃ x, β t = some (.real x) ∧ c = .pointer (some ⟨x.b, i * x.z + o, none⟩)
  | .mref t, c => ∃ x, β t = some (.real x) ∧ c = .map (some x.b)
  | .iref cs, c => ∃ b o, c = .pointer (some ⟨b, o, none⟩) ∧ TRcells I b o cs
  | .clo fn first captured, c => ∃ fv cv, c = .func fn fv cv ∧ VRs β I first fv.toList ∧ VRs β I captured cv.toList
  | .agg cs, c => ∃ vs, c = .agg vs ∧ VRs β I cs vs.toList
  | .tuple cs, c => ∃ vs, c = .tuple vs ∧ VRs β I cs vs.toList
  | .undef, _ => True
def VRs (β : Nat → Option BV) (I : Imm) : List V → List Value → Prop
  | [], [] => True
  | v :: vs, c :: cs => VR β I v c ∧ VRs β I vs cs
  | _, _ => False
end
/-! ## 2. The abstract heap -/
inductive Blk where
  | dead
  | box (cells : List V) (ro : Bool)
  | rows (z : Nat) (xs : List (List T)) (ro : Bool)
  | capd (z : Nat) (xs : List (List T)) (k : Nat)
  | mp (es : List (V × V × Nat)) (clock : Nat)
  | it (m : Option Nat) (since : Nat) (seen : List Nat) (last : Nat)
  deriving Inhabited
def TRl (I : Imm) : List T → List Value → Prop
  | [], [] => True
  | t :: ts, c :: cs => TR I t c ∧ TRl I ts cs
  | _, _ => False
/-- A map's entries. -/
def EsR (β : Nat → Option BV) (I : Imm) : List (V × V × Nat) → List MapEntry → Prop
  | [], [] => True
  | (k, v, n) :: es, e :: cs => (VR β I k e.key ∧ VR β I v e.val ∧ e.born = n) ∧ EsR β I es cs
  | _, _ => False
/-- What a block of the abstract heap says of the world. -/
def BlkR (β : Nat → Option BV) (I : Imm) (w : World) (t : Nat) : Blk → Prop
  | .dead => True
  | .box cells ro => ∃ b cs e, β t = some (.real ⟨b, 1, cells.length⟩) ∧ w.heap[b]? = some (.cells cs e (0, 0)) ∧ VRs β I cells cs.toList ∧
      ∀ o, ro = false ∨ cells.length ≤ o → I b o = none
  | .rows z xs ro => (β t = some .virt ∧ xs = []) ∨
      ∃ b cap cs e, β t = some (.real ⟨b, cap, z⟩) ∧ w.heap[b]? = some (.cells cs e (0, 0)) ∧ cs.size = cap * z ∧ xs.length ≤ cap ∧ cap ≤ maxLen ∧
        (∀ r ∈ xs, r.length = z) ∧ TRl I xs.flatten (cs.toList.take (xs.length * z)) ∧
        ∀ o, ro = false ∨ xs.length * z ≤ o → I b o = none
  | .capd z xs k => ∃ b cs e, β t = some (.real ⟨b, xs.length + k, z⟩) ∧ w.heap[b]? = some (.cells cs e (0, 0)) ∧ cs.size = (xs.length + k) * z ∧ xs.length + k ≤ maxLen ∧
        (∀ r ∈ xs, r.length = z) ∧ TRl I xs.flatten (cs.toList.take (xs.length * z)) ∧ ∀ o, I b o = none
  | .mp es clock => ∃ b cs, β t = some (.real ⟨b, 1, 0⟩) ∧ w.heap[b]? = some (.map cs clock) ∧ EsR β I es cs.toList
  | .it m since seen last => ∃ b, β t = some (.real ⟨b, 1, 0⟩) ∧ ∃ mv, w.heap[b]? = some (.mapIter mv since seen.toArray last) ∧
        ((m = none ∧ mv = none) ∨ ∃ tm x, m = some tm ∧ β tm = some (.real x) ∧ mv = some x.b)
/-- The invariant of one activation. -/
structure Inv (β : Nat → Option BV) (I : Imm) (σ : List Blk) (w : World) : Prop where
  imm : ∀ b o v, I b o = some v → w.cell? ⟨b, o, none⟩ = some v
  blk : ∀ t k, σ[t]? = some k → BlkR β I w t k
  live : ∀ t x, β t = some x → ∃ k, σ[t]? = some k ∧ (∀ y, x = .real y → y.b < w.heap.size)
  inj : ∀ t t' x x', β t = some (.real x) → β t' = some (.real x') → x.b = x'.b → t = t'
/-- From one moment to a later one: nothing but what is owned, and what is new, has turned. -/
structure Step (β : Nat → Option BV) (I : Imm) (w : World) (β' : Nat → Option BV) (I' : Imm) (w' : World) : Prop where
  os : w'.os = w.os
  tape : w'.tape = w.tape
  output : w'.output = w.output
  size : w.heap.size ≤ w'.heap.size
  frame : ∀ b, b < w.heap.size → (∀ t x, β t = some (.real x) → x.b ≠ b) → w'.heap[b]? = w.heap[b]?
  mono : ∀ b o v, I b o = some v → I' b o = some v
  fresh : ∀ b o v, I' b o = some v → I b o = some v ∨ (∃ t x, β t = some (.real x) ∧ x.b = b) ∨ w.heap.size ≤ b
  tags : ∀ t x, β' t = some (.real x) → (∃ t' x', β t' = some (.real x') ∧ x'.b = x.b) ∨ w.heap.size ≤ x.b
theorem Step.refl (β : Nat → Option BV) (I : Imm) (w : World) : Step β I w β I w :=
  ⟨rfl, rfl, rfl, Nat.le_refl _, fun _ _ _ => rfl, fun _ _ _ h => h, fun _ _ _ h => .inl h, fun t x h => .inl ⟨t, x, h, rfl⟩⟩
theorem Step.trans {β1 β2 β3 : Nat → Option BV} {I1 I2 I3 : Imm} {w1 w2 w3 : World} (h : Step β1 I1 w1 β2 I2 w2) (k : Step β2 I2 w2 β3 I3 w3) : Step β1 I1 w1 β3 I3 w3 where
  os := k.os.trans h.os
  tape := k.tape.trans h.tape
  output := k.output.trans h.output
  size := Nat.le_trans h.size k.size
  frame := fun b hb hn => by
    rw [k.frame b (Nat.lt_of_lt_of_le hb h.size) ?_, h.frame b hb hn]
    intro t x hx e
    rcases h.tags t x hx with ⟨t', x', h1, h2⟩ | h1
    · exact hn t' x' h1 (h2.trans e)
    · omega
  mono := fun b o v hv => k.mono b o v (h.mono b o v hv)
  fresh := fun b o v hv => by
    rcases k.fresh b o v hv with h1 | ⟨t, x, h1, h2⟩ | h1
    · exact h.fresh b o v h1
    · rcases h.tags t x h1 with ⟨t', x', h3, h4⟩ | h3
      · exact .inr (.inl ⟨t', x', h3, h4.trans h2⟩)
      · exact .inr (.inr (by omega))
    · exact .inr (.inr (Nat.le_trans h.size h1))
  tags := fun t x hx => by
    rcases k.tags t x hx with ⟨t', x', h1, h2⟩ | h1
    · rcases h.tags t' x' h1 with ⟨t2, x2, h3, h4⟩ | h3
      · exact .inl ⟨t2, x2, h3, h4.trans h2⟩
      · exact .inr (by omega)
    · exact .inr (Nat.le_trans h.size h1)
/-! ## 3. What stays true as memory grows -/
/-- All tags but those of 'mv' lie where they lay. -/
def Keeps (mv : List Nat) (β β' : Nat → Option BV) : Prop := ∀ t x, β t = some x → t ∉ mv → β' t = some x
mutual
theorem TR.mono {I I' : Imm} (h : ∀ b o v, I b o = some v → I' b o = some v) : ∀ (t : T) (c : Value), TR I t c → TR I' t c
  | .s v, c, k => by simpa [TR] using k
  | .sl z rows, c, k => by
    simp only [TR] at k ⊢
    obtain ⟨a, cap, h1, h2, h3⟩ := k
    refine ⟨a, cap, h1, h2, ?_⟩
    rcases h3 with h3 | ⟨b, off, h3, h4⟩
    · exact .inl h3
    · exact .inr ⟨b, off, h3, TRrows.mono h rows b off z h4⟩
theorem TRrows.mono {I I' : Imm} (h : ∀ b o v, I b o = some v → I' b o = some v) : ∀ (rows : List (List T)) (b off z : Nat), TRrows I b off z rows → TRrows I' b off z rows
  | [], _, _, _, _ => by simp [TRrows]
  | r :: rs, b, off, z, k => by
    simp only [TRrows] at k ⊢
    exact ⟨k.1, TRcells.mono h r b off k.2.1, TRrows.mono h rs b (off + z) z k.2.2⟩
theorem TRcells.mono {I I' : Imm} (h : ∀ b o v, I b o = some v → I' b o = some v) : ∀ (ts : List T) (b off : Nat), TRcells I b off ts → TRcells I' b off ts
  | [], _, _, _ => by simp [TRcells]
  | t :: ts, b, off, k => by
    simp only [TRcells] at k ⊢
    obtain ⟨⟨u, h1, h2⟩, h3⟩ := k
    exact ⟨⟨u, h _ _ _ h1, TR.mono h t u h2⟩, TRcells.mono h ts b (off + 1) h3⟩
end
theorem TRl.mono {I I' : Imm} (h : ∀ b o v, I b o = some v → I' b o = some v) : ∀ (ts : List T) (cs : List Value), TRl I ts cs → TRl I' ts cs
  | [], [], _ => by simp [TRl]
  | t :: ts, c :: cs, k => by
    simp only [TRl] at k ⊢
    exact ⟨TR.mono h t c k.1, TRl.mono h ts cs k.2⟩
  | [], _ :: _, k => by simp [TRl] at k
  | _ :: _, [], k => by simp [TRl] at k
mutual
/-- A value without what refers to a tag of 'mv'. -/
def V.pz (mv : List Nat) : V → V
  | .own t off len => if t ∈ mv then .undef else .own t off len
  | .win t off len z => if t ∈ mv then .undef else .win t off len z
  | .ptr t i o => if t ∈ mv then .undef else .ptr t i o
  | .mref t => if t ∈ mv then .undef else .mref t
  | .clo fn first captured => .clo fn (V.pzs mv first) (V.pzs mv captured)
  | .agg cs => .agg (V.pzs mv cs)
  | .tuple cs => .tuple (V.pzs mv cs)
  | v => v
def V.pzs (mv : List Nat) : List V → List V
  | [] => []
  | v :: vs => v.pz mv :: V.pzs mv vs
end
mutual
theorem V.pz_nil : ∀ v : V, v.pz [] = v
  | .s _ => by simp [V.pz]
  | .sl _ _ => by simp [V.pz]
  | .emp => by simp [V.pz]
  | .own _ _ _ => by simp [V.pz]
  | .win _ _ _ _ => by simp [V.pz]
  | .ptr _ _ _ => by simp [V.pz]
  | .mref _ => by simp [V.pz]
  | .iref _ => by simp [V.pz]
  | .clo _ a b => by simp [V.pz, V.pzs_nil a, V.pzs_nil b]
  | .agg a => by simp [V.pz, V.pzs_nil a]
  | .tuple a => by simp [V.pz, V.pzs_nil a]
  | .undef => by simp [V.pz]
theorem V.pzs_nil : ∀ vs : List V, V.pzs [] vs = vs
  | [] => by simp [V.pzs]
  | v :: vs => by simp [V.pzs, V.pz_nil v, V.pzs_nil vs]
end
mutual
theorem VR.keep {β β' : Nat → Option BV} {I I' : Imm} {mv : List Nat} (hk : Keeps mv β β') (h : ∀ b o v, I b o = some v → I' b o = some v) :
    ∀ (v : V) (c : Value), VR β I v c → VR β' I' (v.pz mv) c
  | .s v, c, k => by simpa [VR, V.pz] using k
  | .sl z rows, c, k => by
    simp only [VR, V.pz] at k ⊢
    exact TR.mono h _ _ k
  | .emp, c, k => by simpa [VR, V.pz] using k
  | .own t off len, c, k => by
    simp only [V.pz]
    split
    · simp [VR]
    · rename_i hm
      simp only [VR] at k ⊢
      rcases k with ⟨x, h1, h2⟩ | ⟨h1, h2⟩
      · exact .inl ⟨x, hk _ _ h1 hm, h2⟩
      · exact .inr ⟨hk _ _ h1 hm, h2⟩
  | .win t off len z, c, k => by
    simp only [V.pz]
    split
    · simp [VR]
    · rename_i hm
      simp only [VR] at k ⊢
      obtain ⟨x, a, cap, h1, h2⟩ := k
      exact ⟨x, a, cap, hk _ _ h1 hm, h2⟩
  | .ptr t i o, c, k => by
    simp only [V.pz]
    split
    · simp [VR]
    · rename_i hm
      simp only [VR] at k ⊢
      obtain ⟨x, h1, h2⟩ := k
      exact ⟨x, hk _ _ h1 hm, h2⟩
  | .mref t, c, k => by
    simp only [V.pz]
    split
    · simp [VR]
    · rename_i hm
      simp only [VR] at k ⊢
      obtain ⟨x, h1, h2⟩ := k
      exact ⟨x, hk _ _ h1 hm, h2⟩
  | .iref cs, c, k => by
    simp only [VR, V.pz] at k ⊢
    obtain ⟨b, o, h1, h2⟩ := k
    exact ⟨b, o, h1, TRcells.mono h _ _ _ h2⟩
  | .clo fn first captured, c, k => by
    simp only [VR, V.pz] at k ⊢
    obtain ⟨fv, cv, h1, h2, h3⟩ := k
    exact ⟨fv, cv, h1, VRs.keep hk h _ _ h2, VRs.keep hk h _ _ h3⟩
  | .agg cs, c, k => by
    simp only [VR, V.pz] at k ⊢
    obtain ⟨vs, h1, h2⟩ := k
    exact ⟨vs, h1, VRs.keep hk h _ _ h2⟩
  | .tuple cs, c, k => by
    simp only [VR, V.pz] at k ⊢
    obtain ⟨vs, h1, h2⟩ := k
    exact ⟨vs, h1, VRs.keep hk h _ _ h2⟩
  | .undef, c, k => by simp [VR, V.pz]
theorem VRs.keep {β β' : Nat → Option BV} {I I' : Imm} {mv : List Nat} (hk : Keeps mv β β') (h : ∀ b o v, I b o = some v → I' b o = some v) :
    ∀ (vs : List V) (cs : List Value), VRs β I vs cs → VRs β' I' (V.pzs mv vs) cs
  | [], [], _ => by simp [VRs, V.pzs]
  | v :: vs, c :: cs, k => by
    simp only [VRs, V.pzs] at k ⊢
    exact ⟨VR.keep hk h v c k.1, VRs.keep hk h vs cs k.2⟩
  | [], _ :: _, k => by simp [VRs] at k
  | _ :: _, [], k => by simp [VRs] at k
end
theorem VR.mono {β β' : Nat → Option BV} {I I' : Imm} (hk : Keeps [] β β') (h : ∀ b o v, I b o = some v → I' b o = some v) {v : V} {c : Value} (k : VR β I v c) : VR β' I' v c := by
  have := VR.keep hk h v c k
  rwa [V.pz_nil] at this
theorem VRs.mono {β β' : Nat → Option BV} {I I' : Imm} (hk : Keeps [] β β') (h : ∀ b o v, I b o = some v → I' b o = some v) {v : List V} {c : List Value} (k : VRs β I v c) : VRs β' I' v c := by
  have := VRs.keep hk h v c k
  rwa [V.pzs_nil] at this
theorem EsR.keep {β β' : Nat → Option BV} {I I' : Imm} {mv : List Nat} (hk : Keeps mv β β') (h : ∀ b o v, I b o = some v → I' b o = some v) :
    ∀ (es : List (V × V × Nat)) (cs : List MapEntry), EsR β I es cs → EsR β' I' (es.map fun e => (e.1.pz mv, e.2.1.pz mv, e.2.2)) cs
  | [], [], _ => by simp [EsR]
  | (k, v, n) :: es, e :: cs, hh => by
    simp only [EsR, List.map_cons] at hh ⊢
    exact ⟨⟨VR.keep hk h _ _ hh.1.1, VR.keep hk h _ _ hh.1.2.1, hh.1.2.2⟩, EsR.keep hk h es cs hh.2⟩
  | [], _ :: _, k => by simp [EsR] at k
  | _ :: _, [], k => by simp [EsR] at k
theorem EsR.mono {β β' : Nat → Option BV} {I I' : Imm} (hk : Keeps [] β β') (h : ∀ b o v, I b o = some v → I' b o = some v) {es : List (V × V × Nat)} {cs : List MapEntry} (k : EsR β I es cs) : EsR β' I' es cs := by
  have := EsR.keep hk h es cs k
  simpa [V.pz_nil] using this
end Go.Ai
