/- A part of an interpreter of the language over data, and the proof that what it answers is what the machine does; no condition. -/
import Derived.Test.YtlbdafimafgkmaaAiW0
import Derived.Orders
set_option linter.unusedVariables false
set_option linter.unusedSimpArgs false
namespace Go.Ai

/-! ## Regions that draw their order -/

/-- 0: looks at its operands alone · 1: leaves the heap alone · 2: writes · 3: grows a row. -/
def opCls (o : Oper) : Nat :=
  match o.op with
  | .move _ | .assign _ | .pick .. | .build .. | .binOp .. | .unOp .. | .field .. | .index .. | .extract .. | .fieldAddr .. | .nilCheck _ | .makeFunc .. => 0
  | .load .. | .convert .. | .indexAddr .. | .slice .. | .sliceToArrayPointer .. => 1
  | .call c => match c.callee with
    | .value _ => 1
    | .builtin .len | .builtin .min | .builtin .max => 1
    | .builtin .append => 3
    | _ => 2
  | _ => 2

def precB (ops : Array Oper) : Nat → Nat → Nat → Bool
  | 0, _, _ => false
  | d + 1, j, i => match ops[i]? with
    | some o => o.after.any fun e => Region.binds .any e && (e.on == j || precB ops d j e.on)
    | none => false

def indep (ops : Array Oper) (x y : Oper) : Bool :=
  let a := opCls x
  let b := opCls y
  ((a ≤ 1 && b ≤ 1) || (a == 0 && b ≤ 2) || (b == 0 && a ≤ 2)) && x.apart ops y && y.apart ops x

def drawOK (ops : Array Oper) : Bool :=
  (List.range ops.size).all fun i => match ops[i]? with
    | some y => (y.after.all fun e => !Region.binds .any e || decide (e.on < i)) && (List.range i).all fun j => match ops[j]? with
      | some x => precB ops ops.size j i || indep ops x y
      | none => false
    | none => false

def ACq (P : Program) (f : FuncId) (args : List V) (σ : List Blk) (r : V) : Prop := AC P f args σ fun r' σ' mv => r' = r ∧ σ' = σ ∧ mv = []

/-- What an operation gives, calls leaving the heap alone. -/
def ValD (P : Program) (o : Oper) (tm : Nat → V) (σ : List Blk) (v : V) (σ' : List Blk) (mv : List Nat) : Prop :=
  match o.op with
  | .call c => match c.callee with
    | .value f => match evS tm f with
      | .clo (.func k) first caps => ACq P k (first ++ c.args.toList.map (evS tm) ++ caps) σ v ∧ σ' = σ ∧ mv = []
      | _ => False
    | _ => aop P (evS tm) σ o = some (v, σ', mv)
  | _ => aop P (evS tm) σ o = some (v, σ', mv)

def stepD (P : Program) (o : Oper) (S : St) (K : St → Prop) : Prop :=
  match o.op with
  | .call c => match c.callee with
    | .value f => match evS S.tm f with
      | .clo (.func k) first caps => ∃ r, ACq P k (first ++ c.args.toList.map (evS S.tm) ++ caps) S.σ r ∧ K (S.put o.dst r S.σ [])
      | _ => False
    | _ => match aop P (evS S.tm) S.σ o with
      | some (v, σ', mv) => K (S.put o.dst v σ' mv)
      | none => False
  | _ => match aop P (evS S.tm) S.σ o with
    | some (v, σ', mv) => K (S.put o.dst v σ' mv)
    | none => False

def awpD (P : Program) (ops : Array Oper) (K : St → Prop) : List Nat → St → Prop
  | [], S => K S
  | i :: rest, S =>
    match ops[i]? with
    | none => awpD P ops K rest S
    | some o =>
      match o.guard with
      | none => stepD P o S (awpD P ops K rest)
      | some (j, want) =>
        match (ops[j]?).bind (·.dst) with
        | none => False
        | some d => match S.tm d with
          | .s (.bool b) => (b = want → stepD P o S (awpD P ops K rest)) ∧ (b ≠ want → awpD P ops K rest (S.put o.dst (.tuple []) S.σ []))
          | .tuple [] => awpD P ops K rest (S.put o.dst (.tuple []) S.σ [])
          | _ => False

section
variable {P : Program}

theorem stepD_iff {o : Oper} {S : St} {K : St → Prop} : stepD P o S K ↔ ∃ v σ' mv, ValD P o S.tm S.σ v σ' mv ∧ K (S.put o.dst v σ' mv) := by
  unfold stepD ValD
  split
  · split
    · split
      · constructor
        · rintro ⟨r, h1, h2⟩; exact ⟨r, S.σ, [], ⟨h1, rfl, rfl⟩, h2⟩
        · rintro ⟨v, σ', mv, ⟨h1, rfl, rfl⟩, h2⟩; exact ⟨v, h1, h2⟩
      · simp
    · split
      · rename_i v σ' mv h
        rw [h]
        constructor
        · intro hk; exact ⟨v, σ', mv, rfl, hk⟩
        · rintro ⟨v', σ1, mv', h1, h2⟩; cases h1; exact h2
      · rename_i h; rw [h]; simp
  · split
    · rename_i v σ' mv h
      rw [h]
      constructor
      · intro hk; exact ⟨v, σ', mv, rfl, hk⟩
      · rintro ⟨v', σ1, mv', h1, h2⟩; cases h1; exact h2
    · rename_i h; rw [h]; simp

/-- Does an operation's guard let it run? -/
inductive Gd (ops : Array Oper) (o : Oper) (tm : Nat → V) : Bool → Prop
  | nog (h : o.guard = none) : Gd ops o tm true
  | yes (j : Nat) (want b : Bool) (d : Nat) (h : o.guard = some (j, want)) (hd : (ops[j]?).bind (·.dst) = some d) (hb : tm d = .s (.bool b)) : Gd ops o tm (b == want)
  | und (j : Nat) (want : Bool) (d : Nat) (h : o.guard = some (j, want)) (hd : (ops[j]?).bind (·.dst) = some d) (hb : tm d = .tuple []) : Gd ops o tm false

/-- What one of a region's operations does to the state. -/
def Eff (P : Program) (ops : Array Oper) (o : Oper) (tm : Nat → V) (σ : List Blk) (v : V) (σ' : List Blk) (mv : List Nat) : Prop :=
  (Gd ops o tm true ∧ ValD P o tm σ v σ' mv) ∨ (Gd ops o tm false ∧ v = .tuple [] ∧ σ' = σ ∧ mv = [])

def One (P : Program) (ops : Array Oper) (i : Nat) (S S' : St) : Prop :=
  match ops[i]? with
  | none => S' = S
  | some o => ∃ v σ' mv, Eff P ops o S.tm S.σ v σ' mv ∧ S' = S.put o.dst v σ' mv
def Runs (P : Program) (ops : Array Oper) : List Nat → St → St → Prop
  | [], S, S' => S' = S
  | i :: l, S, S' => ∃ S1, One P ops i S S1 ∧ Runs P ops l S1 S'

theorem awpD_runs {ops : Array Oper} {K : St → Prop} : ∀ {l : List Nat} {S : St}, awpD P ops K l S → ∃ S', Runs P ops l S S' ∧ K S'
  | [], S, h => ⟨S, rfl, h⟩
  | i :: l, S, h => by
    simp only [awpD] at h
    cases ho : ops[i]? with
    | none =>
      simp only [ho] at h
      obtain ⟨S', h1, h2⟩ := awpD_runs h
      exact ⟨S', ⟨S, by simp [One, ho], h1⟩, h2⟩
    | some o =>
      simp only [ho] at h
      have run : Gd ops o S.tm true → stepD P o S (awpD P ops K l) → ∃ S', Runs P ops (i :: l) S S' ∧ K S' := by
        intro hg hs
        obtain ⟨v, σ', mv, h1, h2⟩ := stepD_iff.1 hs
        obtain ⟨S', h3, h4⟩ := awpD_runs h2
        exact ⟨S', ⟨_, by simp only [One, ho]; exact ⟨v, σ', mv, .inl ⟨hg, h1⟩, rfl⟩, h3⟩, h4⟩
      cases hg : o.guard with
      | none => simp only [hg] at h; exact run (.nog hg) h
      | some jw =>
        obtain ⟨j, want⟩ := jw
        simp only [hg] at h
        cases hdj : (ops[j]?).bind (·.dst) with
        | none => simp [hdj] at h
        | some d =>
          simp only [hdj] at h
          split at h
          · rename_i b hb
            have g := Gd.yes (tm := S.tm) j want b d hg hdj hb
            by_cases hbw : b = want
            · exact run (by rw [hbw, beq_self_eq_true] at g; exact g) (h.1 hbw)
            · have e : (b == want) = false := by simpa using hbw
              rw [e] at g
              obtain ⟨S', h3, h4⟩ := awpD_runs (h.2 hbw)
              exact ⟨S', ⟨_, by simp only [One, ho]; exact ⟨_, _, _, .inr ⟨g, rfl, rfl, rfl⟩, rfl⟩, h3⟩, h4⟩
          · rename_i hb
            have g := Gd.und (tm := S.tm) j want d hg hdj hb
            obtain ⟨S', h3, h4⟩ := awpD_runs h
            exact ⟨S', ⟨_, by simp only [One, ho]; exact ⟨_, _, _, .inr ⟨g, rfl, rfl, rfl⟩, rfl⟩, h3⟩, h4⟩
          · exact h.elim

/-! ### What an operation looks at -/
theorem aop_congr {ev ev' : Operand → V} {σ : List Blk} {o : Oper} (h : ∀ x ∈ o.op.operands, ev x = ev' x) : aop P ev σ o = aop P ev' σ o := by
  have hl : ∀ (xs : Array Operand), (∀ x ∈ xs, ev x = ev' x) → xs.toList.map ev = xs.toList.map ev' := fun xs hx => List.map_congr_left fun x hm => hx x (by simpa using hm)
  have ho : ∀ (x : Option Operand), (∀ y ∈ x.toArray, ev y = ev' y) → x.map ev = x.map ev' := by
    intro x hx
    cases x with
    | none => rfl
    | some y => simp [hx y (by simp)]
  have hp : ∀ (ps : Array (Nat × Operand)), (∀ x ∈ (ps.toList.map (·.2)).toArray, ev x = ev' x) → (ps.toList.map fun (i, x) => (i, ev x)) = (ps.toList.map fun (i, x) => (i, ev' x)) := by
    intro ps hx
    refine List.map_congr_left fun p hm => ?_
    have : ev p.2 = ev' p.2 := hx p.2 (by simp; exact ⟨p.1, by simpa using hm⟩)
    simp [this]
  unfold aop
  cases hop : o.op with
  | build t ps => simp only [hop, Op.operands] at h ⊢; rw [hp ps h]
  | buildSlice t n ps => simp only [hop, Op.operands] at h ⊢; rw [hp ps h]
  | makeFunc fn first captured =>
    simp only [hop, Op.operands] at h ⊢
    rw [hl first fun x hx => h x (by simp [hx]), hl captured fun x hx => h x (by simp [hx])]
  | slice t x lo hg mx =>
    simp only [hop, Op.operands] at h ⊢
    rw [h x (by simp), ho lo fun y hy => h y (by simp at hy ⊢; simp [hy]), ho hg fun y hy => h y (by simp at hy ⊢; simp [hy]), ho mx fun y hy => h y (by simp at hy ⊢; simp [hy])]
  | call c =>
    simp only [hop, Op.operands, Call.operands] at h ⊢
    split
    · rw [hl c.args fun x hx => h x (by simp [hx])]
    · rfl
  | _ => simp only [hop, Op.operands] at h ⊢ <;> (try simp [h])

theorem evS_congr {tm tm' : Nat → V} {x : Operand} (h : ∀ t, x = .tmp t → tm t = tm' t) : evS tm x = evS tm' x := by
  cases x with
  | tmp t => exact h t rfl
  | _ => rfl

theorem ValD_congr {o : Oper} {tm tm' : Nat → V} {σ : List Blk} {v : V} {σ' : List Blk} {mv : List Nat} (h : ∀ t, .tmp t ∈ o.op.operands → tm t = tm' t) (k : ValD P o tm σ v σ' mv) : ValD P o tm' σ v σ' mv := by
  have he : ∀ x ∈ o.op.operands, evS tm x = evS tm' x := fun x hx => evS_congr fun t ht => h t (ht ▸ hx)
  have ha : aop P (evS tm) σ o = aop P (evS tm') σ o := aop_congr he
  unfold ValD at *
  split
  · rename_i c hop
    simp only [hop] at k
    split
    · rename_i f hf
      simp only [hf] at k
      have e1 : evS tm f = evS tm' f := he f (by simp [hop, Op.operands, Call.operands, hf])
      have e2 : c.args.toList.map (evS tm) = c.args.toList.map (evS tm') := List.map_congr_left fun x hx => he x (by simp [hop, Op.operands, Call.operands, hf]; right; simpa using hx)
      rw [e1, e2] at k
      exact k
    · rename_i hne
      split at k
      · rename_i f hf; exact absurd hf (hne f)
      · rw [← ha]; exact k
  · rename_i hne
    split at k
    · rename_i c hop; exact absurd hop (hne c)
    · rw [← ha]; exact k

theorem Gd.congr {ops : Array Oper} {o : Oper} {tm tm' : Nat → V} {r : Bool} (h : ∀ j want d, o.guard = some (j, want) → (ops[j]?).bind (·.dst) = some d → tm d = tm' d) (k : Gd ops o tm r) : Gd ops o tm' r := by
  cases k with
  | nog h1 => exact .nog h1
  | yes j want b d h1 h2 h3 => exact .yes j want b d h1 h2 (by rw [← h j want d h1 h2]; exact h3)
  | und j want d h1 h2 h3 => exact .und j want d h1 h2 (by rw [← h j want d h1 h2]; exact h3)

theorem Eff.congr {ops : Array Oper} {o : Oper} {tm tm' : Nat → V} {σ : List Blk} {v : V} {σ' : List Blk} {mv : List Nat} (h : ∀ t, t ∈ o.looksAt ops → tm t = tm' t) (k : Eff P ops o tm σ v σ' mv) : Eff P ops o tm' σ v σ' mv := by
  have hg : ∀ j want d, o.guard = some (j, want) → (ops[j]?).bind (·.dst) = some d → tm d = tm' d := fun j want d h1 h2 => h d (by simp [Oper.looksAt, h1, h2])
  have ho : ∀ t, .tmp t ∈ o.op.operands → tm t = tm' t := fun t ht => h t (by
    simp only [Oper.looksAt, List.mem_append, List.mem_filterMap]
    exact .inl ⟨.tmp t, by simpa using ht, rfl⟩)
  rcases k with ⟨g, k⟩ | ⟨g, k⟩
  · exact .inl ⟨g.congr hg, ValD_congr ho k⟩
  · exact .inr ⟨g.congr hg, k⟩

/-! ### The classes -/
theorem cls0 {o : Oper} (h : opCls o = 0) {tm : Nat → V} {σ : List Blk} {v : V} {σ' : List Blk} {mv : List Nat} (k : ValD P o tm σ v σ' mv) : σ' = σ ∧ mv = [] ∧ ∀ σ2, ValD P o tm σ2 v σ2 [] := by
  unfold opCls at h
  unfold ValD at *
  unfold aop at *
  cases hop : o.op with
  | nilCheck x =>
    simp only [hop] at k ⊢
    cases he : evS tm x with
    | clo fn a b => cases fn <;> simp_all
    | _ => simp_all
  | fieldAddr s x f =>
    simp only [hop] at k ⊢
    cases he : evS tm x <;> cases hf : fieldOf P s f <;> simp only [he, hf] at k ⊢ <;> (try (simp at k; done))
    all_goals
      (rename_i p
       obtain ⟨off, u⟩ := p
       simp only at k ⊢
       split at k
       · simp at k
       · rename_i hz
         simp at k
         obtain ⟨rfl, rfl, rfl⟩ := k
         simp [hz])
  | pick c a b =>
    simp only [hop] at k ⊢
    split at k
    · simp at k; obtain ⟨rfl, rfl, rfl⟩ := k; simp
    · simp at k
  | field t x f =>
    simp only [hop] at k ⊢
    split at k
    · simp only [Option.map_eq_some_iff, Prod.mk.injEq] at k; obtain ⟨v', h1, rfl, rfl, rfl⟩ := k; simp [h1]
    · simp at k
  | extract t i =>
    simp only [hop] at k ⊢
    split at k
    · simp only [Option.map_eq_some_iff, Prod.mk.injEq] at k; obtain ⟨v', h1, rfl, rfl, rfl⟩ := k; simp [h1]
    · simp at k
  | call c =>
    simp only [hop] at h
    split at h <;> simp at h
  | _ => first
    | (simp only [hop] at h; simp at h; done)
    | (simp only [hop, Option.map_eq_some_iff, Prod.mk.injEq] at k ⊢; obtain ⟨v', h1, rfl, rfl, rfl⟩ := k; simp [h1]; done)
    | (simp only [hop, Option.some.injEq, Prod.mk.injEq] at k ⊢; obtain ⟨rfl, rfl, rfl⟩ := k; simp; done)

theorem cls1 {o : Oper} (h : opCls o ≤ 1) {tm : Nat → V} {σ : List Blk} {v : V} {σ' : List Blk} {mv : List Nat} (k : ValD P o tm σ v σ' mv) : σ' = σ ∧ mv = [] := by
  by_cases h0 : opCls o = 0
  · exact ⟨(cls0 h0 k).1, (cls0 h0 k).2.1⟩
  have h1 : opCls o = 1 := by omega
  unfold opCls at h1
  unfold ValD at k
  unfold aop at k
  cases hop : o.op with
  | call c =>
    simp only [hop] at h1 k
    split at k
    · split at k
      · exact k.2
      · exact k.elim
    · rename_i hne
      split at h1
      · rename_i f hf; exact absurd hf (hne f)
      · rename_i hf
        simp only [hf, abuiltin] at k
        split at k <;> first | contradiction | (simp only [Option.map_eq_some_iff, Prod.mk.injEq] at k; obtain ⟨n, _, _, rfl, rfl⟩ := k; exact ⟨rfl, rfl⟩) | simp at k | simp_all
      · rename_i hf
        simp only [hf, abuiltin] at k
        (simp only [Option.map_eq_some_iff, Prod.mk.injEq] at k; obtain ⟨n, _, _, rfl, rfl⟩ := k; exact ⟨rfl, rfl⟩)
      · rename_i hf
        simp only [hf, abuiltin] at k
        (simp only [Option.map_eq_some_iff, Prod.mk.injEq] at k; obtain ⟨n, _, _, rfl, rfl⟩ := k; exact ⟨rfl, rfl⟩)
      · simp at h1
      · simp at h1
  | _ => first
    | (simp only [hop] at h1; simp at h1; done)
    | (simp only [hop, Option.map_eq_some_iff, Prod.mk.injEq] at k; obtain ⟨v', _, _, rfl, rfl⟩ := k; exact ⟨rfl, rfl⟩)

theorem cls2 {o : Oper} (h : opCls o ≤ 2) {tm : Nat → V} {σ : List Blk} {v : V} {σ' : List Blk} {mv : List Nat} (k : ValD P o tm σ v σ' mv) : mv = [] := by
  by_cases h0 : opCls o ≤ 1
  · exact (cls1 h0 k).2
  have h1 : opCls o = 2 := by omega
  unfold opCls at h1
  unfold ValD at k
  unfold aop at k
  cases hop : o.op with
  | call c =>
    simp only [hop] at h1 k
    split at k
    · split at k
      · exact k.2.2
      · exact k.elim
    · split at k
      · rename_i b hb
        unfold abuiltin at k
        split at k
        · simp only [Option.map_eq_some_iff, Prod.mk.injEq] at k; obtain ⟨n, _, _, _, rfl⟩ := k; rfl
        · simp only [hb] at h1; simp at h1
        · simp only [Option.map_eq_some_iff, Prod.mk.injEq] at k; obtain ⟨n, _, _, _, rfl⟩ := k; rfl
        · simp only [Option.map_eq_some_iff, Prod.mk.injEq] at k; obtain ⟨n, _, _, _, rfl⟩ := k; rfl
        · simp only [Option.map_eq_some_iff, Prod.mk.injEq] at k; obtain ⟨n, _, _, _, rfl⟩ := k; rfl
        · simp at k
      · simp at k
  | _ => first
    | (simp only [hop] at h1; simp at h1; done)
    | (simp only [hop, Option.map_eq_some_iff, Prod.mk.injEq] at k; obtain ⟨v', _, _, _, rfl⟩ := k; rfl)
    | (simp [hop] at k; done)

theorem Eff.cls {ops : Array Oper} {o : Oper} {tm : Nat → V} {σ : List Blk} {v : V} {σ' : List Blk} {mv : List Nat} (k : Eff P ops o tm σ v σ' mv) :
    (opCls o = 0 → σ' = σ ∧ mv = [] ∧ ∀ σ2, Eff P ops o tm σ2 v σ2 []) ∧ (opCls o ≤ 1 → σ' = σ) ∧ (opCls o ≤ 2 → mv = []) := by
  rcases k with ⟨g, k⟩ | ⟨g, rfl, rfl, rfl⟩
  · exact ⟨fun h => ⟨(cls0 h k).1, (cls0 h k).2.1, fun σ2 => .inl ⟨g, (cls0 h k).2.2 σ2⟩⟩, fun h => (cls1 h k).1, fun h => cls2 h k⟩
  · exact ⟨fun _ => ⟨rfl, rfl, fun σ2 => .inr ⟨g, rfl, rfl, rfl⟩⟩, fun _ => rfl, fun _ => rfl⟩

theorem put_tm {S : St} {dst : Option Tmp} {v : V} {σ : List Blk} {t : Nat} (h : ∀ d, dst = some d → d ≠ t) : (S.put dst v σ []).tm t = S.tm t := by
  cases dst with
  | none => rfl
  | some d => simp only [St.put, pzT, upd]; rw [if_neg]; intro e; exact h d rfl e.symm

theorem put_comm {S : St} {d1 d2 : Option Tmp} {v1 v2 : V} {σ1 σ2 σ3 : List Blk} (h : ∀ d, d1 = some d → d2 ≠ some d) : (S.put d1 v1 σ1 []).put d2 v2 σ3 [] = (S.put d2 v2 σ2 []).put d1 v1 σ3 [] := by
  cases d1 with
  | none => cases d2 <;> simp [St.put, pzT]
  | some a =>
    cases d2 with
    | none => simp [St.put, pzT]
    | some b =>
      have hne : b ≠ a := fun e => h a rfl (by rw [e])
      simp only [St.put, pzT, List.append_nil]
      congr 1
      funext i
      simp only [upd]
      by_cases e1 : i = a
      · subst e1; simp [Ne.symm hne]
      · simp [e1]

theorem swap {ops : Array Oper} {i j : Nat} {x y : Oper} (hx : ops[j]? = some x) (hy : ops[i]? = some y) (hin : indep ops x y = true) {S S1 S2 : St} (h1 : One P ops j S S1) (h2 : One P ops i S1 S2) :
    ∃ S1', One P ops i S S1' ∧ One P ops j S1' S2 := by
  simp only [One, hx] at h1
  simp only [One, hy] at h2
  obtain ⟨v1, σ1, m1, e1, rfl⟩ := h1
  obtain ⟨v2, σ2, m2, e2, rfl⟩ := h2
  simp only [indep, Bool.and_eq_true, Bool.or_eq_true, decide_eq_true_eq, beq_iff_eq] at hin
  obtain ⟨⟨hc, ha⟩, hb⟩ := hin
  obtain ⟨a1, a2, a3⟩ := Oper.apart_spec ha
  have c1 := e1.cls
  have hm1 : m1 = [] := c1.2.2 (by omega)
  subst hm1
  have e2' : Eff P ops y S.tm σ1 v2 σ2 m2 := by
    have := e2.congr (tm' := S.tm) (fun t ht => put_tm fun d hd e => a1 d hd (e ▸ ht))
    simpa [St.put] using (show Eff P ops y S.tm (S.put x.dst v1 σ1 []).σ v2 σ2 m2 from this) |> fun h => by
      cases hd : x.dst <;> simpa [St.put, hd] using h
  have c2 := e2'.cls
  have hm2 : m2 = [] := c2.2.2 (by omega)
  subst hm2
  -- what each does is what it does in the other order
  obtain ⟨σ2', f1, f2⟩ : ∃ σ2', Eff P ops y S.tm S.σ v2 σ2' [] ∧ Eff P ops x S.tm σ2' v1 σ2 [] := by
    rcases hc with (⟨hx1, hy1⟩ | ⟨hx0, hy2⟩) | ⟨hy0, hx2⟩
    · obtain rfl := c1.2.1 hx1
      obtain rfl := c2.2.1 hy1
      exact ⟨_, e2', e1⟩
    · obtain ⟨rfl, _, k⟩ := c1.1 hx0
      exact ⟨_, e2', k _⟩
    · obtain ⟨rfl, _, k⟩ := c2.1 hy0
      exact ⟨_, k _, e1⟩
  refine ⟨S.put y.dst v2 σ2' [], ?_, ?_⟩
  · simp only [One, hy]
    exact ⟨v2, σ2', [], f1, rfl⟩
  · simp only [One, hx]
    refine ⟨v1, σ2, [], ?_, put_comm a2⟩
    have : Eff P ops x (S.put y.dst v2 σ2' []).tm σ2' v1 σ2 [] := f2.congr fun t ht => (put_tm fun d hd e => a3 d hd (e ▸ ht)).symm
    cases hd : y.dst <;> simpa [St.put, hd] using this

theorem pull {ops : Array Oper} {i : Nat} {y : Oper} (hy : ops[i]? = some y) : ∀ {l1 l2 : List Nat} {S S' : St}, (∀ j ∈ l1, ∃ x, ops[j]? = some x ∧ indep ops x y = true) → Runs P ops (l1 ++ i :: l2) S S' → Runs P ops (i :: (l1 ++ l2)) S S'
  | [], l2, S, S', _, h => h
  | j :: l1, l2, S, S', hin, h => by
    obtain ⟨S1, h1, h2⟩ := h
    obtain ⟨S2, h3, h4⟩ := pull hy (fun k hk => hin k (by simp [hk])) h2
    obtain ⟨x, hx, hxy⟩ := hin j (by simp)
    obtain ⟨S1', h5, h6⟩ := swap hx hy hxy h1 h3
    exact ⟨S1', h5, S2, h6, h4⟩

theorem One_sound {N : Nat} {B : Base} {ops : Array Oper} {Q : Exit → Act → World → Prop} {next : Act → World → Prop} (hok : opsOK N ops = true) {i : Nat} {S S1 : St} {a : Act} {w : World} (hR : Rel N B S a w) (h : One P ops i S S1)
    (hn : ∀ a' w', Rel N B S1 a' w' → next a' w') : wpOp P ops Q i next a w := by
  unfold One at h
  unfold wpOp
  cases ho : ops[i]? with
  | none => simp only [ho] at h ⊢; subst h; exact hn a w hR
  | some o =>
    simp only [ho] at h ⊢
    have hd : ∀ d, o.dst = some d → d < N := by
      intro d hd
      have hm : o ∈ ops := Array.mem_of_getElem? ho
      have := (Array.all_eq_true_iff_forall_mem.1 hok) o hm
      simpa [hd] using this
    obtain ⟨v, σ', mv, he, rfl⟩ := h
    have gd : ∀ r, Gd ops o S.tm r → Region.wanted o (yielded ops a.tmps) = r := by
      intro r g
      cases g with
      | nog h => simp [Region.wanted, h]
      | yes j want b d h hdj hb =>
        have hy : yielded ops a.tmps j = some b := by
          obtain ⟨hsz, hdf, β, I, hi, htm, hst, hk⟩ := hR
          have hv := htm d
          rw [hb] at hv
          simp only [VR] at hv
          simp only [yielded, hdj, Option.bind_some]
          have hdl : d < a.tmps.size := by
            rcases Nat.lt_or_ge d a.tmps.size with h | h
            · exact h
            · have := hv.1
              rw [Array.getD_eq_getD_getElem?, Array.getElem?_eq_none h] at this
              simp [undef] at this
          have : a.tmps[d]? = some (.bool b) := by
            rw [Array.getElem?_eq_getElem hdl]
            have := hv.1
            rw [Array.getD_eq_getD_getElem?, Array.getElem?_eq_getElem hdl] at this
            simpa using this
          rw [this]
        simp [Region.wanted, h, hy]
      | und j want d h hdj hb =>
        have hy : yielded ops a.tmps j = none := by
          obtain ⟨hsz, hdf, β, I, hi, htm, hst, hk⟩ := hR
          exact yielded_none hdj (by have := htm d; rwa [hb] at this)
        simp [Region.wanted, h, hy]
    rcases he with ⟨g, k⟩ | ⟨g, rfl, rfl, rfl⟩
    · rw [if_pos (gd _ g)]
      have hs : stepD P o S (fun S' => S' = S.put o.dst v σ' mv) := stepD_iff.2 ⟨v, σ', mv, k, rfl⟩
      have hs' : stepO P o S (fun S' => S' = S.put o.dst v σ' mv) := by
        unfold stepD at hs
        unfold stepO
        split
        · rename_i c hop
          simp only [hop] at hs
          split
          · rename_i f hf
            simp only [hf] at hs
            split
            · rename_i fn first caps hfv
              simp only [hfv] at hs
              obtain ⟨r, h1, h2⟩ := hs
              exact AC.mono h1 fun r' σ1 m1 e => by obtain ⟨e1, e2, e3⟩ := e; subst e1 e2 e3; exact h2
            · rename_i hne
              split at hs
              · rename_i fn first caps hfv; exact (hne _ _ _ hfv).elim
              · exact hs.elim
          · rename_i hne
            split at hs
            · rename_i f hf; exact (hne _ hf).elim
            · exact hs
        · rename_i hne
          split at hs
          · rename_i c hop; exact (hne _ hop).elim
          · exact hs
      exact .inl (stepO_sound hd hR hs' fun S' a' w' hR' e => hn a' w' (e ▸ hR'))
    · rw [if_neg (by rw [gd _ g]; simp)]
      obtain ⟨hsz, hdf, β, I, hi, htm, hst, hk⟩ := hR
      exact hn _ _ (put_rel hsz hdf htm hst hk hd VR_undef hi (Step.refl _ _ _) (Keeps.refl _))

theorem range_cut {i n : Nat} (h : i < n) : List.range' 0 n = List.range' 0 i ++ List.range' i (n - (i + 1) + 1) := by
  have := List.range'_append_1 (s := 0) (m := i) (n := n - (i + 1) + 1)
  rw [Nat.zero_add] at this
  rw [this]
  congr 1
  omega

theorem precB_listed {ops : Array Oper} {listed : Array Bool} (hcl : ∀ i o, listed.getD i false = true → ops[i]? = some o → ∀ e ∈ o.after, Region.binds .any e = true → listed.getD e.on false = true) :
    ∀ (d j i : Nat), (∀ o, ops[i]? = some o → ∀ e ∈ o.after, Region.binds .any e = true → listed.getD e.on false = true) → precB ops d j i = true → listed.getD j false = true
  | 0, j, i, _, h => by simp [precB] at h
  | d + 1, j, i, hi, h => by
    simp only [precB] at h
    split at h
    · rename_i o ho
      obtain ⟨n, hn, hb⟩ := Array.any_eq_true.1 h
      simp only [Bool.and_eq_true, Bool.or_eq_true, beq_iff_eq] at hb
      obtain ⟨hb, h⟩ := hb
      have he := Array.getElem_mem hn
      generalize o.after[n] = e at he hb h
      have hl := hi o ho e he hb
      rcases h with rfl | h
      · exact hl
      · exact precB_listed hcl d j e.on (fun o' ho' => hcl _ _ hl ho') h
    · simp at h

theorem runs_any {N : Nat} {B : Base} {ops : Array Oper} {K : St → Prop} {Q : Exit → Act → World → Prop} (hok : opsOK N ops = true) (hdr : drawOK ops = true) (hq : ∀ S a w, Rel N B S a w → K S → Q .normal a w) {S' : St} (hK : K S') :
    ∀ (fuel : Nat) (listed : Array Bool) (l : List Nat) (S : St) (a : Act) (w : World), listed.size = ops.size → l = (List.range ops.size).filter (fun i => !listed.getD i true) →
      (∀ i o, listed.getD i false = true → ops[i]? = some o → ∀ e ∈ o.after, Region.binds .any e = true → listed.getD e.on false = true) → l.length ≤ fuel → Rel N B S a w → Runs P ops l S S' → wpAny P .any ops Q fuel listed a w := by
  have hdr' : ∀ i o, ops[i]? = some o → (∀ e ∈ o.after, Region.binds .any e = true → e.on < i) ∧ ∀ j < i, ∃ x, ops[j]? = some x ∧ (precB ops ops.size j i = true ∨ indep ops x o = true) := by
    intro i o ho
    unfold drawOK at hdr
    have hi : i < ops.size := (Array.getElem?_eq_some_iff.1 ho).1
    have := List.all_eq_true.1 hdr i (List.mem_range.2 hi)
    simp only [ho, Bool.and_eq_true] at this
    refine ⟨fun e he hb => ?_, fun j hj => ?_⟩
    · have := (Array.all_eq_true_iff_forall_mem.1 this.1) e he
      simpa [hb] using this
    · have := List.all_eq_true.1 this.2 j (List.mem_range.2 hj)
      split at this
      · rename_i x hx
        exact ⟨x, hx, by simpa using this⟩
      · simp at this
  have hsub : ∀ (listed : Array Bool) i, i ∈ Region.ready .any ops listed → i ∈ (List.range ops.size).filter (fun i => !listed.getD i true) := by
    intro listed i hi
    obtain ⟨h0, o, ho, _⟩ := mem_ready.1 hi
    simp only [List.mem_filter, List.mem_range]
    exact ⟨(Array.getElem?_eq_some_iff.1 ho).1, by rw [h0]; rfl⟩
  have hnil : ∀ (listed : Array Bool) (l : List Nat), listed.size = ops.size → l = (List.range ops.size).filter (fun i => !listed.getD i true) → Region.ready .any ops listed = [] → l = [] := by
    intro listed l hs hl hr
    have none : ∀ i, i < ops.size → listed.getD i true = true := by
      intro i
      induction i using Nat.strongRecOn with
      | ind i ih =>
        intro hi
        cases hg : listed.getD i true with
        | true => rfl
        | false =>
          exfalso
          have hmem : i ∈ Region.ready .any ops listed := mem_ready.2 ⟨hg, ops[i], Array.getElem?_eq_getElem hi, fun e he hb => by
            have hlt := (hdr' i _ (Array.getElem?_eq_getElem hi)).1 e he hb
            have h1 := ih _ hlt (Nat.lt_trans hlt hi)
            have hls : e.on < listed.size := by rw [hs]; exact Nat.lt_trans hlt hi
            rw [Array.getD_eq_getD_getElem?, Array.getElem?_eq_getElem hls] at h1 ⊢
            exact h1⟩
          rw [hr] at hmem
          simp at hmem
    rw [hl]
    apply List.filter_eq_nil_iff.2
    intro i hi
    simp [none i (List.mem_range.1 hi)]
  intro fuel
  induction fuel with
  | zero =>
    intro listed l S a w hs hl hcl hf hR h
    have : l = [] := by cases l with
      | nil => rfl
      | cons x xs => simp at hf
    subst this
    simp only [Runs] at h
    subst h
    refine ⟨?_, hq _ _ _ hR hK⟩
    cases hr : Region.ready .any ops listed with
    | nil => rfl
    | cons i r =>
      have := hsub listed i (by rw [hr]; simp)
      rw [← hl] at this
      simp at this
  | succ fuel ih =>
    intro listed l S a w hs hl hcl hf hR h
    refine ⟨fun hr => ?_, fun i hi => ?_⟩
    · have := hnil listed l hs hl hr
      subst this
      simp only [Runs] at h
      subst h
      exact hq _ _ _ hR hK
    · obtain ⟨h0, o, ho, hall⟩ := mem_ready.1 hi
      have him := hsub listed i hi
      have hisz : i < ops.size := (Array.getElem?_eq_some_iff.1 ho).1
      -- the unlisted before it, and after it
      have hsplit : l = ((List.range i).filter fun j => !listed.getD j true) ++ i :: ((List.range' (i + 1) (ops.size - (i + 1))).filter fun j => !listed.getD j true) := by
        rw [hl]
        have e : List.range ops.size = List.range i ++ i :: List.range' (i + 1) (ops.size - (i + 1)) := by
          rw [List.range_eq_range', List.range_eq_range', ← List.range'_succ]
          exact range_cut hisz
        rw [e, List.filter_append, List.filter_cons_of_pos (by rw [h0]; rfl)]
      have hl' : ((List.range i).filter fun j => !listed.getD j true) ++ ((List.range' (i + 1) (ops.size - (i + 1))).filter fun j => !listed.getD j true) = (List.range ops.size).filter (fun j => !(listed.setIfInBounds i true).getD j true) := by
        have e : List.range ops.size = List.range i ++ i :: List.range' (i + 1) (ops.size - (i + 1)) := by
          rw [List.range_eq_range', List.range_eq_range', ← List.range'_succ]
          exact range_cut hisz
        rw [e, List.filter_append, List.filter_cons_of_neg (by simp [hs, hisz])]
        congr 1
        · apply List.filter_congr
          intro j hj
          have := List.mem_range.1 hj
          rw [getD_set_ne true (by omega)]
        · apply List.filter_congr
          intro j hj
          have := List.mem_range'_1.1 hj
          rw [getD_set_ne true (by omega)]
      rw [hsplit] at h
      have hp := pull ho (fun j hj => by
        simp only [List.mem_filter, List.mem_range, Bool.not_eq_true'] at hj
        obtain ⟨x, hx, hor⟩ := (hdr' i o ho).2 j hj.1
        refine ⟨x, hx, hor.resolve_left fun hpr => ?_⟩
        have := precB_listed hcl _ j i (fun o' ho' => by rw [ho] at ho'; cases ho'; exact hall) hpr
        have hj2 := hj.2
        have hjs : j < listed.size := by rw [hs]; omega
        rw [Array.getD_eq_getD_getElem?, Array.getElem?_eq_getElem hjs] at this hj2
        simp only [Option.getD_some] at this hj2
        rw [this] at hj2
        simp at hj2) h
      obtain ⟨S1, h1, h2⟩ := hp
      refine One_sound hok hR h1 fun a' w' hR' => ?_
      refine ih _ _ S1 a' w' (by simp [hs]) hl' ?_ ?_ hR' h2
      · intro k o' hk ho' e he hb
        by_cases hki : k = i
        · subst hki
          rw [ho] at ho'
          cases ho'
          exact getD_set_true (hall e he hb)
        · rw [getD_set_ne false (Ne.symm hki)] at hk
          exact getD_set_true (hcl k o' hk ho' e he hb)
      · rw [hsplit] at hf
        simp only [List.length_append, List.length_cons] at hf ⊢
        omega

theorem awpD_sound (hm : P.follows .mixedOrders = true) {N : Nat} {B : Base} {ops : Array Oper} {K : St → Prop} {Q : Exit → Act → World → Prop} (hok : opsOK N ops = true) (hdr : drawOK ops = true) (hq : ∀ S a w, Rel N B S a w → K S → Q .normal a w) {id : Nat} (S : St) (a : Act) (w : World)
    (hR : Rel N B S a w) (h : awpD P ops K (List.range ops.size) S) : (Code.region id ops true).wp P Q a w := by
  obtain ⟨S', h1, h2⟩ := awpD_runs h
  refine wp_region_any hm ?_
  have hR' : Rel N B S a { w with drawn := w.drawn + 1 } := by
    obtain ⟨hsz, hdf, β, I, hi, htm, hst, hk⟩ := hR
    exact ⟨hsz, hdf, β, I, ⟨hi.imm, hi.blk, hi.live, hi.inj⟩, htm, ⟨hst.os, hst.tape, hst.output, hst.size, hst.frame, hst.mono, hst.fresh, hst.tags⟩, hk⟩
  have hall : (List.range ops.size).filter (fun i => !(Array.replicate ops.size false).getD i true) = List.range ops.size := by
    apply List.filter_eq_self.2
    intro i hi
    have := List.mem_range.1 hi
    simp [this]
  refine runs_any hok hdr hq h2 ops.size _ _ S a _ (by simp) hall.symm ?_ (by simp) hR' h1
  intro i o hl
  exfalso
  rw [Array.getD_eq_getD_getElem?, Array.getElem?_replicate] at hl
  split at hl <;> simp at hl

end
end Go.Ai
