/- An interpreter of the language over data, and the proof that what it answers is what the machine does; no condition. -/
import Derived.Test.YtdojjjjhbgkpfaaAiW0
import Derived.Orders
set_option linter.unusedVariables false
set_option linter.unusedSimpArgs false
namespace Go.Ai
/-! ## Regions that draw their order -/
/-- Is it called to write? -/
def calW (W : List FuncId) : Operand → Bool
  | .func k => W.contains k
  | _ => false
/-- 0: looks at its operands alone · 1: leaves the heap alone · 2: writes · 3: grows a row. -/
def opCls (W : List FuncId) (o : Oper) : Nat :=
  match o.op with
  | .move _ | .assign _ | .pick .. | .build .. | .binOp .. | .unOp .. | .field .. | .index .. | .extract .. | .fieldAddr .. | .nilCheck _ | .makeFunc .. | .buildSlice .. => 0
  | .load .. | .convert .. | .indexAddr .. | .slice .. | .sliceToArrayPointer .. | .lookup .. => 1
  | .call c => match c.callee with
    | .value f => if calW W f then 2 else 1
    | .builtin .len | .builtin .min | .builtin .max => 1
    | .builtin .append => 3
    | _ => 2
  | _ => 2
/-- Does it lay a new block, and no more? -/
def isNew (o : Oper) : Bool :=
  match o.op with
  | .alloc _ | .box .. | .makeMap .. => true
  | _ => false
def precB (ops : Array Oper) : Nat → Nat → Nat → Bool
  | 0, _, _ => false
  | d + 1, j, i => match ops[i]? with
    | some o => o.after.any fun e => Region.binds .any e && (e.on == j || precB ops d j e.on)
    | none => false
def indep (W : List FuncId) (ops : Array Oper) (x y : Oper) : Bool :=
  let a := opCls W x
  let b := opCls W y
  ((a ≤ 1 && b ≤ 1) || (a == 0 && b ≤ 2) || (b == 0 && a ≤ 2) || (a ≤ 1 && isNew y)) && x.apart ops y && y.apart ops x
/-- What is said to come first does. -/
def ancM (anc : List Nat) : List Edge → Nat
  | [] => 0
  | e :: es => if Region.binds .any e then Nat.lor (Nat.lor (2 ^ e.on) (anc.getD e.on 0)) (ancM anc es) else ancM anc es
def ancOK (anc : List Nat) (ops : Array Oper) : Bool :=
  (List.range anc.length).all fun i => match ops[i]? with
    | some o => Nat.beq (Nat.lor (anc.getD i 0) (ancM anc o.after.toList)) (ancM anc o.after.toList)
    | none => Nat.beq (anc.getD i 0) 0
/-- 'ex j i': j is known to come ahead of i. -/
def ordOK (ex : Nat → Nat → Bool) (W : List FuncId) (anc : List Nat) (ops : Array Oper) : List Nat → Bool
  | [] => true
  | j :: rest => (match ops[j]? with
    | some x => rest.all fun i => match ops[i]? with
      | some y => Nat.testBit (anc.getD i 0) j || (indep W ops x y || (precB ops ops.size j i || ex j i))
      | none => false
    | none => false) && ordOK ex W anc ops rest
/-- May the operations be told in this order? -/
def drawX (ex : Nat → Nat → Bool) (W : List FuncId) (ord anc : List Nat) (ops : Array Oper) : Bool :=
  ((List.range ops.size).all fun i => match ops[i]? with
    | some y => y.after.all fun e => !Region.binds .any e || decide (e.on < i)
    | none => false) && decide ord.Nodup && ((List.range ops.size).all fun i => ord.contains i) && (ord.all fun i => decide (i < ops.size)) && ordOK ex W anc ops ord && decide (ord.length ≤ ops.size) && ancOK anc ops
def drawOK (W : List FuncId) (ord anc : List Nat) (ops : Array Oper) : Bool := drawX (fun _ _ => false) W ord anc ops
/-- Two orders: i ahead of j, and j ahead of i; what comes behind them comes behind one of them. -/
def drawT (W : List FuncId) (A : List Nat) (i j : Nat) (B1 B2 : List Nat) (anc1 anc2 : List Nat) (ops : Array Oper) : Bool :=
  drawX (fun a b => a == i && b == j) W (A ++ i :: j :: B1) anc1 ops && drawX (fun a b => a == j && b == i) W (A ++ j :: i :: B2) anc2 ops && B1.all fun k => Nat.testBit (anc1.getD k 0) i || Nat.testBit (anc1.getD k 0) j
/-- From these arguments: this value, this heap. -/
def ACe (P : Program) (f : FuncId) (args : List V) (σ : List Blk) (r : V) (σ' : List Blk) : Prop := AC P f args σ fun r' s mv => r' = r ∧ s = σ' ∧ mv = []
/-- It reads, whatever else there is. -/
def ACq (P : Program) (f : FuncId) (args : List V) (σ : List Blk) (r : V) : Prop := ∀ τ, ACe P f args (σ ++ τ) r (σ ++ τ)
def flatV : V → Bool
  | .s _ | .sl _ _ | .emp => true
  | .agg cs => cs.all fun | .s _ | .sl _ _ | .emp => true | _ => false
  | _ => false
/-- A new slice of data that nobody writes to. -/
def bsl (P : Program) (t : TypeId) (len : Nat) (parts : List (Nat × V)) : Option V :=
  match abuildSlice P [] t len parts with
  | some (.own 0 0 n, [.rows z xs false]) => if n = xs.length then some (.sl z xs) else none
  | _ => none
/-- The operations of a region that draws its order. -/
def aopD (P : Program) (ev : Operand → V) (σ : List Blk) (o : Oper) : Option (V × List Blk × List Nat) :=
  match o.op with
  | .buildSlice t len parts => if (parts.toList.all fun p => flatV (ev p.2)) = true then (bsl P t len (parts.toList.map fun (i, x) => (i, ev x))).map fun v => (v, σ, []) else none
  | .lookup .. | .makeMap .. | .mapUpdate .. | .insert .. => amap P ev σ o
  | .call c => match c.callee with
    | .builtin .delete => amap P ev σ o
    | .builtin .len => match aop P ev σ o with
      | some p => some p
      | none => amap P ev σ o
    | _ => aop P ev σ o
  | .binOp .. => match aop P ev σ o with
    | some p => some p
    | none => amap P ev σ o
  | _ => aop P ev σ o
/-- What an operation gives, calls leaving the heap alone. -/
def ValD (P : Program) (W : List FuncId) (o : Oper) (tm : Nat → V) (σ : List Blk) (v : V) (σ' : List Blk) (mv : List Nat) : Prop :=
  match o.op with
  | .call c => match c.callee with
    | .value f => match evS tm f with
      | .clo (.func k) first caps => if calW W f = true then ACe P k (first ++ c.args.toList.map (evS tm) ++ caps) σ v σ' ∧ mv = [] else ACq P k (first ++ c.args.toList.map (evS tm) ++ caps) σ v ∧ σ' = σ ∧ mv = []
      | _ => False
    | _ => aopD P (evS tm) σ o = some (v, σ', mv)
  | _ => aopD P (evS tm) σ o = some (v, σ', mv)
def stepD (P : Program) (W : List FuncId) (o : Oper) (S : St) (K : St → Prop) : Prop :=
  match o.op with
  | .call c => match c.callee with
    | .value f => match evS S.tm f with
      | .clo (.func k) first caps => if calW W f = true then ∃ r σ', ACe P k (first ++ c.args.toList.map (evS S.tm) ++ caps) S.σ r σ' ∧ K (S.put o.dst r σ' []) else ∃ r, ACq P k (first ++ c.args.toList.map (evS S.tm) ++ caps) S.σ r ∧ K (S.put o.dst r S.σ [])
      | _ => False
    | _ => match aopD P (evS S.tm) S.σ o with
      | some (v, σ', mv) => K (S.put o.dst v σ' mv)
      | none => False
  | _ => match aopD P (evS S.tm) S.σ o with
    | some (v, σ', mv) => K (S.put o.dst v σ' mv)
    | none => False
def awpD (P : Program) (W : List FuncId) (ops : Array Oper) (K : St → Prop) : List Nat → St → Prop
  | [], S => K S
  | i :: rest, S =>
    match ops[i]? with
    | none => awpD P W ops K rest S
    | some o =>
      match o.guard with
      | none => stepD P W o S (awpD P W ops K rest)
      | some (j, want) =>
        match (ops[j]?).bind (·.dst) with
        | none => False
        | some d => match S.tm d with
          | .s (.bool b) => (b = want → stepD P W o S (awpD P W ops K rest)) ∧ (b ≠ want → awpD P W ops K rest (S.put o.dst (.tuple []) S.σ []))
          | .tuple [] => awpD P W ops K rest (S.put o.dst (.tuple []) S.σ [])
          | _ => False
section
variable {P : Program} {W : List FuncId}
theorem stepD_iff {o : Oper} {S : St} {K : St → Prop} : stepD P W o S K ↔ ∃ v σ' mv, ValD P W o S.tm S.σ v σ' mv ∧ K (S.put o.dst v σ' mv) := by
  unfold stepD ValD
  split
  · split
    · split
      · split
        · constructor
          · rintro ⟨r, σ', h1, h2⟩; exact ⟨r, σ', [], ⟨h1, rfl⟩, h2⟩
          · rintro ⟨v, σ', mv, ⟨h1, rfl⟩, h2⟩; exact ⟨v, σ', h1, h2⟩
        · constructor
          · rintro ⟨r, h1, h2⟩; exact ⟨r, S.σ, [], ⟨h1, rfl, rfl⟩, h2⟩
          · rintro ⟨v, σ', mv, ⟨h1, rfl, rfl⟩, h2⟩; exact ⟨v, h1, h2⟩
      · simp
    · split
      · rename_i v σ' mv h
        rw [h]
        constructor
        · intro hk; exact ⟨v, σ', mv, rfl, hk⟩
        · rintro ⟨v', σ1, mv', h1, h2⟩; cases h1; exact h2
      · rename_i h; rw [h]; simp
  · split
    · rename_i v σ' mv h
      rw [h]
      constructor
      · intro hk; exact ⟨v, σ', mv, rfl, hk⟩
      · rintro ⟨v', σ1, mv', h1, h2⟩; cases h1; exact h2
    · rename_i h; rw [h]; simp
/-- Does an operation's guard let it run? -/
inductive Gd (ops : Array Oper) (o : Oper) (tm : Nat → V) : Bool → Prop
  | nog (h : o.guard = none) : Gd ops o tm true
  | yes (j : Nat) (want b : Bool) (d : Nat) (h : o.guard = some (j, want)) (hd : (ops[j]?).bind (·.dst) = some d) (hb : tm d = .s (.bool b)) : Gd ops o tm (b == want)
  | und (j : Nat) (want : Bool) (d : Nat) (h : o.guard = some (j, want)) (hd : (ops[j]?).bind (·.dst) = some d) (hb : tm d = .tuple []) : Gd ops o tm false
/-- What one of a region's operations does to the state. -/
def Eff (P : Program) (W : List FuncId) (ops : Array Oper) (o : Oper) (tm : Nat → V) (σ : List Blk) (v : V) (σ' : List Blk) (mv : List Nat) : Prop :=
  (Gd ops o tm true ∧ ValD P W o tm σ v σ' mv) ∨ (Gd ops o tm false ∧ v = .tuple [] ∧ σ' = σ ∧ mv = [])
def One (P : Program) (W : List FuncId) (ops : Array Oper) (i : Nat) (S S' : St) : Prop :=
  match ops[i]? with
  | none => S' = S
  | some o => ∃ v σ' mv, Eff P W ops o S.tm S.σ v σ' mv ∧ S' = S.put o.dst v σ' mv
def Runs (P : Program) (W : List FuncId) (ops : Array Oper) : List Nat → St → St → Prop
  | [], S, S' => S' = S
  | i :: l, S, S' => ∃ S1, One P W ops i S S1 ∧ Runs P W ops l S1 S'
theorem awpD_runs {ops : Array Oper} {K : St → Prop} : ∀ {l : List Nat} {S : St}, awpD P W ops K l S → ∃ S', Runs P W ops l S S' ∧ K S'
  | [], S, h => ⟨S, rfl, h⟩
  | i :: l, S, h => by
    simp only [awpD] at h
    cases ho : ops[i]? with
    | none =>
      simp only [ho] at h
      obtain ⟨S', h1, h2⟩ := awpD_runs h
      exact ⟨S', ⟨S, by simp [One, ho], h1⟩, h2⟩
    | some o =>
      simp only [ho] at h
      have run : Gd ops o S.tm true → stepD P W o S (awpD P W ops K l) → ∃ S', Runs P W ops (i :: l) S S' ∧ K S' := by
        intro hg hs
        obtain ⟨v, σ', mv, h1, h2⟩ := stepD_iff.1 hs
        obtain ⟨S', h3, h4⟩ := awpD_runs h2
        exact ⟨S', ⟨_, by simp only [One, ho]; exact ⟨v, σ', mv, .inl ⟨hg, h1⟩, rfl⟩, h3⟩, h4⟩
      cases hg : o.guard with
      | none => simp only [hg] at h; exact run (.nog hg) h
      | some jw =>
        obtain ⟨j, want⟩ := jw
        simp only [hg] at h
        cases hdj : (ops[j]?).bind (·.dst) with
        | none => simp [hdj] at h
        | some d =>
          simp only [hdj] at h
          split at h
          · rename_i b hb
            have g := Gd.yes (tm := S.tm) j want b d hg hdj hb
            by_cases hbw : b = want
            · exact run (by rw [hbw, beq_self_eq_true] at g; exact g) (h.1 hbw)
            · have e : (b == want) = false := by simpa using hbw
              rw [e] at g
              obtain ⟨S', h3, h4⟩ := awpD_runs (h.2 hbw)
              exact ⟨S', ⟨_, by simp only [One, ho]; exact ⟨_, _, _, .inr ⟨g, rfl, rfl, rfl⟩, rfl⟩, h3⟩, h4⟩
          · rename_i hb
            have g := Gd.und (tm := S.tm) j want d hg hdj hb
            obtain ⟨S', h3, h4⟩ := awpD_runs h
            exact ⟨S', ⟨_, by simp only [One, ho]; exact ⟨_, _, _, .inr ⟨g, rfl, rfl, rfl⟩, rfl⟩, h3⟩, h4⟩
          · exact h.elim
/-! ### What an operation looks at -/
theorem aop_congr {ev ev' : Operand → V} {σ : List Blk} {o : Oper} (h : ∀ x ∈ o.op.operands, ev x = ev' x) : aop P ev σ o = aop P ev' σ o := by
  have hl : ∀ (xs : Array Operand), (∀ x ∈ xs, ev x = ev' x) → xs.toList.map ev = xs.toList.map ev' := fun xs hx => List.map_congr_left fun x hm => hx x (by simpa using hm)
  have ho : ∀ (x : Option Operand), (∀ y ∈ x.toArray, ev y = ev' y) → x.map ev = x.map ev' := by
    intro x hx
    cases x with
    | none => rfl
    | some y => simp [hx y (by simp)]
  have hp : ∀ (ps : Array (Nat × Operand)), (∀ x ∈ (ps.toList.map (·.2)).toArray, ev x = ev' x) → (ps.toList.map fun (i, x) => (i, ev x)) = (ps.toList.map fun (i, x) => (i, ev' x)) := by
    intro ps hx
    refine List.map_congr_left fun p hm => ?_
    have : ev p.2 = ev' p.2 := hx p.2 (by simp; exact ⟨p.1, by simpa using hm⟩)
    simp [this]
  unfold aop
  cases hop : o.op with
  | build t ps => simp only [hop, Op.operands] at h ⊢; rw [hp ps h]
  | buildSlice t n ps => simp only [hop, Op.operands] at h ⊢; rw [hp ps h]
  | makeFunc fn first captured =>
    simp only [hop, Op.operands] at h ⊢
    rw [hl first fun x hx => h x (by simp [hx]), hl captured fun x hx => h x (by simp [hx])]
  | slice t x lo hg mx =>
    simp only [hop, Op.operands] at h ⊢
    rw [h x (by simp), ho lo fun y hy => h y (by simp at hy ⊢; simp [hy]), ho hg fun y hy => h y (by simp at hy ⊢; simp [hy]), ho mx fun y hy => h y (by simp at hy ⊢; simp [hy])]
  | call c =>
    simp only [hop, Op.operands, Call.operands] at h ⊢
    split
    · rw [hl c.args fun x hx => h x (by simp [hx])]
    · rfl
  | _ => simp only [hop, Op.operands] at h ⊢ <;> (try simp [h])
theorem amap_congr {ev ev' : Operand → V} {σ : List Blk} {o : Oper} (h : ∀ x ∈ o.op.operands, ev x = ev' x) : amap P ev σ o = amap P ev' σ o := by
  have hl : ∀ (xs : Array Operand), (∀ x ∈ xs, ev x = ev' x) → xs.toList.map ev = xs.toList.map ev' := fun xs hx => List.map_congr_left fun x hm => hx x (by simpa using hm)
  unfold amap
  cases hop : o.op with
  | makeMap t r =>
    cases r with
    | none => rfl
    | some r => simp only [hop, Op.operands] at h ⊢; rw [h r (by simp)]
  | binOp op t x y yt => cases op <;> simp only [hop, Op.operands] at h ⊢ <;> (try simp [h])
  | call c =>
    simp only [hop, Op.operands, Call.operands] at h ⊢
    rw [hl c.args fun x hx => h x (by simp [hx])]
  | _ => simp only [hop, Op.operands] at h ⊢ <;> (try simp [h])
theorem aopD_congr {ev ev' : Operand → V} {σ : List Blk} {o : Oper} (h : ∀ x ∈ o.op.operands, ev x = ev' x) : aopD P ev σ o = aopD P ev' σ o := by
  have e1 := aop_congr (P := P) (σ := σ) h
  have e2 := amap_congr (P := P) (σ := σ) h
  unfold aopD
  rw [e1, e2]
  cases hop : o.op with
  | buildSlice t n ps =>
    simp only
    have : (ps.toList.all fun p => flatV (ev p.2)) = (ps.toList.all fun p => flatV (ev' p.2)) := by
      rw [Bool.eq_iff_iff, List.all_eq_true, List.all_eq_true]
      have hx : ∀ p ∈ ps.toList, ev p.2 = ev' p.2 := fun p hp => h p.2 (by simp [hop, Op.operands]; exact ⟨p.1, by simpa using hp⟩)
      constructor
      · intro k p hp; rw [← hx p hp]; exact k p hp
      · intro k p hp; rw [hx p hp]; exact k p hp
    have h2 : (ps.toList.map fun (i, x) => (i, ev x)) = (ps.toList.map fun (i, x) => (i, ev' x)) := by
      refine List.map_congr_left fun p hm => ?_
      have : ev p.2 = ev' p.2 := h p.2 (by simp [hop, Op.operands]; exact ⟨p.1, by simpa using hm⟩)
      simp [this]
    rw [this, h2]
  | _ => rfl
theorem evS_congr {tm tm' : Nat → V} {x : Operand} (h : ∀ t, x = .tmp t → tm t = tm' t) : evS tm x = evS tm' x := by
  cases x with
  | tmp t => exact h t rfl
  | _ => rfl
theorem ValD_congr {o : Oper} {tm tm' : Nat → V} {σ : List Blk} {v : V} {σ' : List Blk} {mv : List Nat} (h : ∀ t, .tmp t ∈ o.op.operands → tm t = tm' t) (k : ValD P W o tm σ v σ' mv) : ValD P W o tm' σ v σ' mv := by
  have he : ∀ x ∈ o.op.operands, evS tm x = evS tm' x := fun x hx => evS_congr fun t ht => h t (ht ▸ hx)
  have ha : aopD P (evS tm) σ o = aopD P (evS tm') σ o := aopD_congr he
  unfold ValD at *
  split
  · rename_i c hop
    simp only [hop] at k
    split
    · rename_i f hf
      simp only [hf] at k
      have e1 : evS tm f = evS tm' f := he f (by simp [hop, Op.operands, Call.operands, hf])
      have e2 : c.args.toList.map (evS tm) = c.args.toList.map (evS tm') := List.map_congr_left fun x hx => he x (by simp [hop, Op.operands, Call.operands, hf]; right; simpa using hx)
      rw [e1, e2] at k
      exact k
    · rename_i hne
      split at k
      · rename_i f hf; exact absurd hf (hne f)
      · rw [← ha]; exact k
  · rename_i hne
    split at k
    · rename_i c hop; exact absurd hop (hne c)
    · rw [← ha]; exact k
theorem Gd.congr {ops : Array Oper} {o : Oper} {tm tm' : Nat → V} {r : Bool} (h : ∀ j want d, o.guard = some (j, want) → (ops[j]?).bind (·.dst) = some d → tm d = tm' d) (k : Gd ops o tm r) : Gd ops o tm' r := by
  cases k with
  | nog h1 => exact .nog h1
  | yes j want b d h1 h2 h3 => exact .yes j want b d h1 h2 (by rw [← h j want d h1 h2]; exact h3)
  | und j want d h1 h2 h3 => exact .und j want d h1 h2 (by rw [← h j want d h1 h2]; exact h3)
theorem Eff.congr {ops : Array Oper} {o : Oper} {tm tm' : Nat → V} {σ : List Blk} {v : V} {σ' : List Blk} {mv : List Nat} (h : ∀ t, t ∈ o.looksAt ops → tm t = tm' t) (k : Eff P W ops o tm σ v σ' mv) : Eff P W ops o tm' σ v σ' mv := by
  have hg : ∀ j want d, o.guard = some (j, want) → (ops[j]?).bind (·.dst) = some d → tm d = tm' d := fun j want d h1 h2 => h d (by simp [Oper.looksAt, h1, h2])
  have ho : ∀ t, .tmp t ∈ o.op.operands → tm t = tm' t := fun t ht => h t (by
    simp only [Oper.looksAt, List.mem_append, List.mem_filterMap]
    exact .inl ⟨.tmp t, by simpa using ht, rfl⟩)
  rcases k with ⟨g, k⟩ | ⟨g, k⟩
  · exact .inl ⟨g.congr hg, ValD_congr ho k⟩
  · exact .inr ⟨g.congr hg, k⟩
/-! ### The classes -/
theorem cls0 {o : Oper} (h : opCls W o = 0) {tm : Nat → V} {σ : List Blk} {v : V} {σ' : List Blk} {mv : List Nat} (k : ValD P W o tm σ v σ' mv) : σ' = σ ∧ mv = [] ∧ ∀ σ2, ValD P W o tm σ2 v σ2 [] := by
  unfold opCls at h
  unfold ValD at *
  by_cases hbin : ∃ op t x y yt, o.op = .binOp op t x y yt
  · obtain ⟨op, t, x, y, yt, hop⟩ := hbin
    simp only [hop, aopD] at k ⊢
    have ha : ∀ σ, aop P (evS tm) σ o = (abin P op t (evS tm x) (evS tm y)).map fun v => (v, σ, []) := fun σ => by simp [aop, hop]
    have hb : ∀ σ, amap P (evS tm) σ o = (match op with | .eql => (ameq P t (evS tm x) (evS tm y)).map fun b => V.s (.bool b) | .neq => (ameq P t (evS tm x) (evS tm y)).map fun b => V.s (.bool !b) | _ => none).map fun v => (v, σ, []) := fun σ => by
      cases op <;> simp [amap, hop, Function.comp_def]
    simp only [ha, hb] at k ⊢
    cases h1 : abin P op t (evS tm x) (evS tm y) with
    | some r => simp [h1] at k ⊢; obtain ⟨rfl, rfl, rfl⟩ := k; simp
    | none =>
      simp only [h1, Option.map_none, Option.map_eq_some_iff, Prod.mk.injEq] at k ⊢
      obtain ⟨v', h2, rfl, rfl, rfl⟩ := k
      refine ⟨rfl, rfl, fun σ2 => ?_⟩
      simp [h2]
  have hnb : ∀ op t x y yt, o.op ≠ .binOp op t x y yt := fun op t x y yt e => hbin ⟨op, t, x, y, yt, e⟩
  unfold aopD at *
  unfold aop at *
  cases hop : o.op with
  | binOp op t x y yt => exact (hnb _ _ _ _ _ hop).elim
  | nilCheck x =>
    simp only [hop] at k ⊢
    cases he : evS tm x with
    | clo fn a b => cases fn <;> simp_all
    | _ => simp_all
  | fieldAddr s x f =>
    simp only [hop] at k ⊢
    cases he : evS tm x <;> cases hf : fieldOf P s f <;> simp only [he, hf] at k ⊢ <;> (try (simp at k; done))
    all_goals
      (rename_i p
       obtain ⟨off, u⟩ := p
       simp only at k ⊢
       split at k
       · simp at k
       · rename_i hz
         simp at k
         obtain ⟨rfl, rfl, rfl⟩ := k
         simp [hz])
  | pick c a b =>
    simp only [hop] at k ⊢
    split at k
    · simp at k; obtain ⟨rfl, rfl, rfl⟩ := k; simp
    · simp at k
  | field t x f =>
    simp only [hop] at k ⊢
    split at k
    · simp only [Option.map_eq_some_iff, Prod.mk.injEq] at k; obtain ⟨v', h1, rfl, rfl, rfl⟩ := k; simp [h1]
    · simp at k
  | extract t i =>
    simp only [hop] at k ⊢
    split at k
    · simp only [Option.map_eq_some_iff, Prod.mk.injEq] at k; obtain ⟨v', h1, rfl, rfl, rfl⟩ := k; simp [h1]
    · simp at k
  | buildSlice t n ps =>
    simp only [hop] at k ⊢
    split at k
    · rename_i hfl
      simp only [Option.map_eq_some_iff, Prod.mk.injEq] at k
      obtain ⟨v', h1, rfl, rfl, rfl⟩ := k
      refine ⟨rfl, rfl, fun σ2 => ?_⟩
      rw [if_pos hfl, h1]
      rfl
    · simp at k
  | call c =>
    cases hcal : c.callee with
    | value f => simp only [hop, hcal] at h; split at h <;> simp at h
    | builtin b => cases b <;> simp [hop, hcal] at h
    | _ => simp [hop, hcal] at h
  | _ => first
    | (simp only [hop] at h; simp at h; done)
    | (simp only [hop, Option.map_eq_some_iff, Prod.mk.injEq] at k ⊢; obtain ⟨v', h1, rfl, rfl, rfl⟩ := k; simp [h1]; done)
    | (simp only [hop, Option.some.injEq, Prod.mk.injEq] at k ⊢; obtain ⟨rfl, rfl, rfl⟩ := k; simp; done)
theorem aopD_len {ev : Operand → V} {σ : List Blk} {o : Oper} {c : Call} (ho : o.op = .call c) (hc : c.callee = .builtin .len) {p : V × List Blk × List Nat} (k : aopD P ev σ o = some p) : p.2.1 = σ ∧ p.2.2 = [] ∧ ∀ τ, aopD P ev (σ ++ τ) o = some (p.1, σ ++ τ, []) := by
  obtain ⟨v, σ', mv⟩ := p
  have e1 : ∀ σ, aop P ev σ o = abuiltin P σ .len c.argTypes.toList (c.args.toList.map ev) := fun σ => by simp [aop, ho, hc]
  have alen_same : ∀ σ σ2 t x, alen P σ t x = alen P σ2 t x := fun σ σ2 t x => rfl
  unfold aopD at *
  simp only [ho, hc, e1] at k ⊢
  unfold amap at *
  simp only [ho, hc] at k ⊢
  generalize c.argTypes.toList = ts at *
  generalize c.args.toList.map ev = as at *
  match ts, as with
  | [t], [x] =>
    simp only [abuiltin] at k ⊢
    cases h1 : alen P σ t x with
    | some n =>
      simp only [h1, Option.map_some, Option.some.injEq, Prod.mk.injEq] at k
      obtain ⟨rfl, rfl, rfl⟩ := k
      refine ⟨rfl, rfl, fun τ => ?_⟩
      rw [alen_same (σ ++ τ) σ, h1]
      rfl
    | none =>
      simp only [h1, Option.map_none] at k
      cases h2 : amlen P σ t x with
      | none => rw [h2] at k; simp at k
      | some n =>
        rw [h2] at k
        simp at k
        obtain ⟨rfl, rfl, rfl⟩ := k
        refine ⟨rfl, rfl, fun τ => ?_⟩
        rw [alen_same (σ ++ τ) σ, h1]
        have : amlen P (σ ++ τ) t x = some n := by
          unfold amlen at h2 ⊢
          split at h2
          · exact h2
          · split at h2
            · rename_i es cl hm
              rw [List.getElem?_append_left (List.getElem?_eq_some_iff.1 hm).1, hm]
              exact h2
            · simp at h2
          · simp at h2
        simp [this]
  | [], _ => simp [abuiltin] at k
  | [t], [] => simp [abuiltin] at k
  | [t], _ :: _ :: _ => simp [abuiltin] at k
  | _ :: _ :: _, _ => simp [abuiltin] at k
theorem minmax_cls {ev : Operand → V} {σ : List Blk} {o : Oper} {c : Call} (ho : o.op = .call c) (hc : c.callee = .builtin .min ∨ c.callee = .builtin .max) {p : V × List Blk × List Nat} (k : aopD P ev σ o = some p) : p.2.1 = σ ∧ p.2.2 = [] ∧ ∀ τ, aopD P ev (σ ++ τ) o = some (p.1, σ ++ τ, []) := by
  obtain ⟨v, σ', mv⟩ := p
  rcases hc with hc | hc
  all_goals
    (unfold aopD at *
     simp only [ho, hc, aop, abuiltin, Option.map_eq_some_iff, Prod.mk.injEq] at k ⊢
     obtain ⟨v', h1, rfl, rfl, rfl⟩ := k
     exact ⟨rfl, rfl, fun τ => by simp [h1]⟩)
theorem get_app {σ τ : List Blk} {t : Nat} {k : Blk} (h : σ[t]? = some k) : (σ ++ τ)[t]? = some k := by
  rw [List.getElem?_append_left (List.getElem?_eq_some_iff.1 h).1, h]
theorem cellsAt_app {σ τ : List Blk} {t i : Nat} {cs : List V} (h : cellsAt σ t i = some cs) : cellsAt (σ ++ τ) t i = some cs := by
  unfold cellsAt at h ⊢
  cases hb : σ[t]? with
  | none => simp [hb] at h
  | some k => rw [get_app hb]; simpa [hb] using h
theorem aload_app {σ τ : List Blk} {t : TypeId} {x v : V} (h : aload P σ t x = some v) : aload P (σ ++ τ) t x = some v := by
  unfold aload at h ⊢
  split at h
  · simp only [Option.bind_eq_some_iff] at h ⊢
    obtain ⟨cs, h1, h2⟩ := h
    exact ⟨cs, cellsAt_app h1, h2⟩
  · exact h
  · simp at h
theorem rowsOf_app {σ τ : List Blk} {x : V} {p : Nat × List (List T)} (h : rowsOf σ x = some p) : rowsOf (σ ++ τ) x = some p := by
  unfold rowsOf at h ⊢
  split at h <;> try exact h
  · split at h
    · rename_i t off len z xs ro hb; rw [get_app hb]; exact h
    · simp at h
  · split at h
    · rename_i t off len z cells ro hb; rw [get_app hb]; exact h
    · simp at h
theorem aconv_app {σ τ : List Blk} {s d : TypeId} {x v : V} (h : aconv P σ s d x = some v) : aconv P (σ ++ τ) s d x = some v := by
  unfold aconv at h ⊢
  split at h
  · simp at h
  · split at h <;> try exact h
    · split at h
      · split at h
        · split at h
          · rename_i hbt _ _ _ hr; rw [rowsOf_app hr, if_pos hbt]; exact h
          · simp at h
        · simp at h
      · simp at h
theorem aindexAddr_app {σ τ : List Blk} {t : TypeId} {x i v : V} (h : aindexAddr P σ t x i = some v) : aindexAddr P (σ ++ τ) t x i = some v := by
  unfold aindexAddr at h ⊢
  split at h <;> try exact h
  · split at h
    · rename_i hc
      rw [if_pos hc]
      split at h
      · rename_i z xs ro hb; rw [get_app hb]; exact h
      · simp at h
    · simp at h
theorem aslice_app {σ τ : List Blk} {t : TypeId} {x v : V} {lo hi mx : Option V} (h : aslice P σ t x lo hi mx = some v) : aslice P (σ ++ τ) t x lo hi mx = some v := by
  unfold aslice at h ⊢
  split at h <;> try exact h
  · rename_i e tag off len hu
    cases hb : σ[tag]? with
    | none =>
      rw [hb] at h
      split at h <;> simp_all
    | some k => rw [get_app hb]; rw [hb] at h; exact h
theorem alookup_app {σ τ : List Blk} {t : TypeId} {x k : V} {p : V × Bool} (h : alookup P σ t x k = some p) : alookup P (σ ++ τ) t x k = some p := by
  unfold alookup at h ⊢
  split at h
  · split at h
    · rename_i hc
      rw [if_pos hc]
      split at h <;> try exact h
      · split at h
        · rename_i m es cl hb; rw [get_app hb]; exact h
        · simp at h
    · simp at h
  · simp at h
/-- What reads leaves the heap alone, and reads the same where there is more. -/
theorem cls1x {o : Oper} (h : opCls W o ≤ 1) {tm : Nat → V} {σ : List Blk} {v : V} {σ' : List Blk} {mv : List Nat} (k : ValD P W o tm σ v σ' mv) : σ' = σ ∧ mv = [] ∧ ∀ τ, ValD P W o tm (σ ++ τ) v (σ ++ τ) [] := by
  by_cases h0 : opCls W o = 0
  · exact ⟨(cls0 h0 k).1, (cls0 h0 k).2.1, fun τ => (cls0 h0 k).2.2 _⟩
  have h1 : opCls W o = 1 := by omega
  unfold opCls at h1
  unfold ValD at k ⊢
  cases hop : o.op with
  | call c =>
    simp only [hop] at h1 k ⊢
    cases hcal : c.callee with
    | value f =>
      simp only [hcal] at h1 k ⊢
      cases hw : calW W f with
      | true => simp [hw] at h1
      | false =>
        split at k
        · rename_i fn first caps he
          have k' : ACq P fn (first ++ c.args.toList.map (evS tm) ++ caps) σ v ∧ σ' = σ ∧ mv = [] := by simpa [hw] using k
          exact ⟨k'.2.1, k'.2.2, fun τ => by rw [if_neg (by simp)]; exact ⟨fun τ2 => by have := k'.1 (τ ++ τ2); rwa [← List.append_assoc σ] at this, by simp⟩⟩
        · exact k.elim
    | builtin b =>
      simp only [hcal] at h1 k ⊢
      cases b with
      | len => exact aopD_len hop hcal k
      | min => exact minmax_cls hop (.inl hcal) k
      | max => exact minmax_cls hop (.inr hcal) k
      | _ => simp at h1
    | _ => simp [hcal] at h1
  | load t a =>
    simp only [hop, aopD, aop, Option.map_eq_some_iff, Prod.mk.injEq] at k
    obtain ⟨v', h2, rfl, rfl, rfl⟩ := k
    exact ⟨rfl, rfl, fun τ => by simp [aopD, aop, hop, aload_app h2]⟩
  | convert s d x =>
    simp only [hop, aopD, aop, Option.map_eq_some_iff, Prod.mk.injEq] at k
    obtain ⟨v', h2, rfl, rfl, rfl⟩ := k
    exact ⟨rfl, rfl, fun τ => by simp [aopD, aop, hop, aconv_app h2]⟩
  | indexAddr t x i =>
    simp only [hop, aopD, aop, Option.map_eq_some_iff, Prod.mk.injEq] at k
    obtain ⟨v', h2, rfl, rfl, rfl⟩ := k
    exact ⟨rfl, rfl, fun τ => by simp [aopD, aop, hop, aindexAddr_app h2]⟩
  | slice t x lo hg mx =>
    simp only [hop, aopD, aop, Option.map_eq_some_iff, Prod.mk.injEq] at k
    obtain ⟨v', h2, rfl, rfl, rfl⟩ := k
    exact ⟨rfl, rfl, fun τ => by simp [aopD, aop, hop, aslice_app h2]⟩
  | sliceToArrayPointer a x =>
    simp only [hop, aopD, aop, Option.map_eq_some_iff, Prod.mk.injEq] at k
    obtain ⟨v', h2, rfl, rfl, rfl⟩ := k
    exact ⟨rfl, rfl, fun τ => by simp [aopD, aop, hop, h2]⟩
  | lookup t x i ok =>
    simp only [hop, aopD, amap, Option.map_eq_some_iff, Prod.mk.injEq] at k
    obtain ⟨v', h2, rfl, rfl, rfl⟩ := k
    exact ⟨rfl, rfl, fun τ => by simp [aopD, amap, hop, alookup_app h2]⟩
  | _ => simp [hop] at h1
theorem cls1 {o : Oper} (h : opCls W o ≤ 1) {tm : Nat → V} {σ : List Blk} {v : V} {σ' : List Blk} {mv : List Nat} (k : ValD P W o tm σ v σ' mv) : σ' = σ ∧ mv = [] := ⟨(cls1x h k).1, (cls1x h k).2.1⟩
theorem cls2 {o : Oper} (h : opCls W o ≤ 2) {tm : Nat → V} {σ : List Blk} {v : V} {σ' : List Blk} {mv : List Nat} (k : ValD P W o tm σ v σ' mv) : mv = [] := by
  by_cases h0 : opCls W o ≤ 1
  · exact (cls1 h0 k).2
  have h1 : opCls W o = 2 := by omega
  unfold opCls at h1
  unfold ValD at k
  cases hop : o.op with
  | call c =>
    simp only [hop] at h1 k
    cases hcal : c.callee with
    | value f =>
      simp only [hcal] at k
      split at k
      · split at k
        · exact k.2
        · exact k.2.2
      · exact k.elim
    | builtin b =>
      simp only [hcal] at h1 k
      by_cases hdel : b = .delete
      · subst hdel
        simp only [aopD, hop, hcal, amap] at k
        split at k
        · simp only [Option.map_eq_some_iff, Prod.mk.injEq] at k; obtain ⟨n, _, _, _, rfl⟩ := k; rfl
        · simp only [Option.map_eq_some_iff, Prod.mk.injEq] at k; obtain ⟨n, _, _, _, rfl⟩ := k; rfl
        · simp at k
      cases b <;> (try exact (hdel rfl).elim) <;> simp only [aopD, hop, hcal, aop, abuiltin] at h1 k <;> (try (simp at h1; done)) <;> (try (simp at k; done))
      all_goals (split at k <;> first | contradiction | (simp only [Option.map_eq_some_iff, Prod.mk.injEq] at k; obtain ⟨n, _, _, _, rfl⟩ := k; rfl) | simp at k | simp_all)
    | _ => simp [hcal, aopD, hop, aop] at k
  | makeMap t r =>
    cases r with
    | none => simp only [hop, aopD, amap, Option.some.injEq, Prod.mk.injEq] at k; exact k.2.2.symm
    | some r =>
      simp only [hop, aopD, amap] at k
      split at k
      · simp only [Option.some.injEq, Prod.mk.injEq] at k; exact k.2.2.symm
      · simp at k
  | mapUpdate t m kk x => simp only [hop, aopD, amap, Option.map_eq_some_iff, Prod.mk.injEq] at k; obtain ⟨n, _, _, _, rfl⟩ := k; rfl
  | insert t m kk x => simp only [hop, aopD, amap, Option.map_eq_some_iff, Prod.mk.injEq] at k; obtain ⟨n, _, _, _, rfl⟩ := k; rfl
  | buildSlice t n ps => simp [hop] at h1
  | _ => first
    | (simp only [hop] at h1; simp at h1; done)
    | (simp only [hop, aopD, aop, Option.map_eq_some_iff, Prod.mk.injEq] at k; obtain ⟨v', _, _, _, rfl⟩ := k; rfl)
    | (simp [hop, aopD, aop] at k; done)
/-- What lays a new block lays it behind whatever is there. -/
theorem newx {o : Oper} (h : isNew o = true) {tm : Nat → V} {σ : List Blk} {v : V} {σ' : List Blk} {mv : List Nat} (k : ValD P W o tm σ v σ' mv) : ∃ b, σ' = σ ++ [b] := by
  unfold isNew at h
  unfold ValD at k
  cases hop : o.op with
  | alloc e => simp only [hop, aopD, aop, Option.map_eq_some_iff, Prod.mk.injEq] at k; obtain ⟨cs, _, _, rfl, _⟩ := k; exact ⟨_, rfl⟩
  | box e x => simp only [hop, aopD, aop, Option.map_eq_some_iff, Prod.mk.injEq] at k; obtain ⟨cs, _, _, rfl, _⟩ := k; exact ⟨_, rfl⟩
  | makeMap t r =>
    cases r with
    | none => simp only [hop, aopD, amap, Option.some.injEq, Prod.mk.injEq] at k; exact ⟨_, k.2.1.symm⟩
    | some r =>
      simp only [hop, aopD, amap] at k
      split at k
      · simp only [Option.some.injEq, Prod.mk.injEq] at k; exact ⟨_, k.2.1.symm⟩
      · simp at k
  | _ => simp [hop] at h
theorem Eff.cls {ops : Array Oper} {o : Oper} {tm : Nat → V} {σ : List Blk} {v : V} {σ' : List Blk} {mv : List Nat} (k : Eff P W ops o tm σ v σ' mv) :
    (opCls W o = 0 → σ' = σ ∧ mv = [] ∧ ∀ σ2, Eff P W ops o tm σ2 v σ2 []) ∧ (opCls W o ≤ 1 → σ' = σ) ∧ (opCls W o ≤ 2 → mv = []) := by
  rcases k with ⟨g, k⟩ | ⟨g, rfl, rfl, rfl⟩
  · exact ⟨fun h => ⟨(cls0 h k).1, (cls0 h k).2.1, fun σ2 => .inl ⟨g, (cls0 h k).2.2 σ2⟩⟩, fun h => (cls1 h k).1, fun h => cls2 h k⟩
  · exact ⟨fun _ => ⟨rfl, rfl, fun σ2 => .inr ⟨g, rfl, rfl, rfl⟩⟩, fun _ => rfl, fun _ => rfl⟩
theorem Eff.clsx {ops : Array Oper} {o : Oper} {tm : Nat → V} {σ : List Blk} {v : V} {σ' : List Blk} {mv : List Nat} (k : Eff P W ops o tm σ v σ' mv) (h : opCls W o ≤ 1) :
    σ' = σ ∧ mv = [] ∧ ∀ τ, Eff P W ops o tm (σ ++ τ) v (σ ++ τ) [] := by
  rcases k with ⟨g, k⟩ | ⟨g, rfl, rfl, rfl⟩
  · obtain ⟨h1, h2, h3⟩ := cls1x h k
    exact ⟨h1, h2, fun τ => .inl ⟨g, h3 τ⟩⟩
  · exact ⟨rfl, rfl, fun τ => .inr ⟨g, rfl, rfl, rfl⟩⟩
theorem put_tm {S : St} {dst : Option Tmp} {v : V} {σ : List Blk} {t : Nat} (h : ∀ d, dst = some d → d ≠ t) : (S.put dst v σ []).tm t = S.tm t := by
  cases dst with
  | none => rfl
  | some d => simp only [St.put, pzT, upd]; rw [if_neg]; intro e; exact h d rfl e.symm
theorem put_comm {S : St} {d1 d2 : Option Tmp} {v1 v2 : V} {σ1 σ2 σ3 : List Blk} (h : ∀ d, d1 = some d → d2 ≠ some d) : (S.put d1 v1 σ1 []).put d2 v2 σ3 [] = (S.put d2 v2 σ2 []).put d1 v1 σ3 [] := by
  cases d1 with
  | none => cases d2 <;> simp [St.put, pzT]
  | some a =>
    cases d2 with
    | none => simp [St.put, pzT]
    | some b =>
      have hne : b ≠ a := fun e => h a rfl (by rw [e])
      simp only [St.put, pzT, List.append_nil]
      congr 1
      funext i
      simp only [upd]
      by_cases e1 : i = a
      · subst e1; simp [Ne.symm hne]
      · simp [e1]
theorem swap {ops : Array Oper} {i j : Nat} {x y : Oper} (hx : ops[j]? = some x) (hy : ops[i]? = some y) (hin : indep W ops x y = true) {S S1 S2 : St} (h1 : One P W ops j S S1) (h2 : One P W ops i S1 S2) :
    ∃ S1', One P W ops i S S1' ∧ One P W ops j S1' S2 := by
  simp only [One, hx] at h1
  simp only [One, hy] at h2
  obtain ⟨v1, σ1, m1, e1, rfl⟩ := h1
  obtain ⟨v2, σ2, m2, e2, rfl⟩ := h2
  have hnew : isNew y = true → opCls W y = 2 := by
    intro h
    unfold isNew at h
    unfold opCls
    split at h <;> simp_all
  simp only [indep, Bool.and_eq_true, Bool.or_eq_true, decide_eq_true_eq, beq_iff_eq] at hin
  obtain ⟨⟨hc, ha⟩, hb⟩ := hin
  obtain ⟨a1, a2, a3⟩ := Oper.apart_spec ha
  have c1 := e1.cls
  have hm1 : m1 = [] := c1.2.2 (by rcases hc with hc | hc <;> omega)
  subst hm1
  have e2' : Eff P W ops y S.tm σ1 v2 σ2 m2 := by
    have := e2.congr (tm' := S.tm) (fun t ht => put_tm fun d hd e => a1 d hd (e ▸ ht))
    simpa [St.put] using (show Eff P W ops y S.tm (S.put x.dst v1 σ1 []).σ v2 σ2 m2 from this) |> fun h => by
      cases hd : x.dst <;> simpa [St.put, hd] using h
  have c2 := e2'.cls
  have hm2 : m2 = [] := c2.2.2 (by rcases hc with hc | ⟨_, hc⟩; omega; have := hnew hc; omega)
  subst hm2
  -- what each does is what it does in the other order
  obtain ⟨σ2', f1, f2⟩ : ∃ σ2', Eff P W ops y S.tm S.σ v2 σ2' [] ∧ Eff P W ops x S.tm σ2' v1 σ2 [] := by
    rcases hc with ((⟨hx1, hy1⟩ | ⟨hx0, hy2⟩) | ⟨hy0, hx2⟩) | ⟨hx1, hyn⟩
    · obtain rfl := c1.2.1 hx1
      obtain rfl := c2.2.1 hy1
      exact ⟨_, e2', e1⟩
    · obtain ⟨rfl, _, k⟩ := c1.1 hx0
      exact ⟨_, e2', k _⟩
    · obtain ⟨rfl, _, k⟩ := c2.1 hy0
      exact ⟨_, k _, e1⟩
    · obtain ⟨rfl, _, k⟩ := e1.clsx hx1
      rcases e2' with ⟨g, kv⟩ | ⟨g, rfl, rfl, _⟩
      · obtain ⟨b, rfl⟩ := newx hyn kv
        exact ⟨_, .inl ⟨g, kv⟩, k _⟩
      · exact ⟨_, .inr ⟨g, rfl, rfl, rfl⟩, e1⟩
  refine ⟨S.put y.dst v2 σ2' [], ?_, ?_⟩
  · simp only [One, hy]
    exact ⟨v2, σ2', [], f1, rfl⟩
  · simp only [One, hx]
    refine ⟨v1, σ2, [], ?_, put_comm a2⟩
    have : Eff P W ops x (S.put y.dst v2 σ2' []).tm σ2' v1 σ2 [] := f2.congr fun t ht => (put_tm fun d hd e => a3 d hd (e ▸ ht)).symm
    cases hd : y.dst <;> simpa [St.put, hd] using this
theorem pull {ops : Array Oper} {i : Nat} {y : Oper} (hy : ops[i]? = some y) : ∀ {l1 l2 : List Nat} {S S' : St}, (∀ j ∈ l1, ∃ x, ops[j]? = some x ∧ indep W ops x y = true) → Runs P W ops (l1 ++ i :: l2) S S' → Runs P W ops (i :: (l1 ++ l2)) S S'
  | [], l2, S, S', _, h => h
  | j :: l1, l2, S, S', hin, h => by
    obtain ⟨S1, h1, h2⟩ := h
    obtain ⟨S2, h3, h4⟩ := pull hy (fun k hk => hin k (by simp [hk])) h2
    obtain ⟨x, hx, hxy⟩ := hin j (by simp)
    obtain ⟨S1', h5, h6⟩ := swap hx hy hxy h1 h3
    exact ⟨S1', h5, S2, h6, h4⟩
theorem aopD_cases {ev : Operand → V} {σ : List Blk} {o : Oper} {p : V × List Blk × List Nat} (h : aopD P ev σ o = some p) : aop P ev σ o = some p ∨ (aop P ev σ o = none ∧ amap P ev σ o = some p) ∨ ∃ t n ps, o.op = .buildSlice t n ps ∧ (ps.toList.all fun p => flatV (ev p.2)) = true ∧ bsl P t n (ps.toList.map fun (i, x) => (i, ev x)) = some p.1 ∧ p.2 = (σ, []) := by
  unfold aopD at h
  cases hop : o.op with
  | buildSlice t n ps =>
    simp only [hop] at h
    split at h
    · rename_i hfl
      simp only [Option.map_eq_some_iff] at h
      obtain ⟨v, h1, rfl⟩ := h
      exact .inr (.inr ⟨t, n, ps, rfl, hfl, h1, rfl⟩)
    · simp at h
  | lookup t x i ok => simp only [hop] at h; exact .inr (.inl ⟨by simp [aop, hop], h⟩)
  | mapUpdate t m k x => simp only [hop] at h; exact .inr (.inl ⟨by simp [aop, hop], h⟩)
  | insert t m k x => simp only [hop] at h; exact .inr (.inl ⟨by simp [aop, hop], h⟩)
  | makeMap t r => simp only [hop] at h; exact .inr (.inl ⟨by simp [aop, hop], h⟩)
  | binOp op t x y yt =>
    simp only [hop] at h
    cases ha : aop P ev σ o with
    | none => rw [ha] at h; exact .inr (.inl ⟨rfl, h⟩)
    | some q => rw [ha] at h; exact .inl h
  | call c =>
    simp only [hop] at h
    split at h
    · rename_i hcal; exact .inr (.inl ⟨by simp [aop, hop, hcal, abuiltin], h⟩)
    · cases ha : aop P ev σ o with
      | none => rw [ha] at h; exact .inr (.inl ⟨rfl, h⟩)
      | some q => rw [ha] at h; exact .inl h
    · exact .inl h
  | _ => simp only [hop] at h; exact .inl h
mutual
theorem VR.flat {β β2 : Nat → Option BV} {I : Imm} : ∀ (v : V) {c : Value}, flatV v = true → VR β I v c → VR β2 I v c
  | .s _, c, _, h => by simpa [VR] using h
  | .sl _ _, c, _, h => by simpa only [VR] using h
  | .emp, c, _, h => by simpa only [VR] using h
  | .agg cs, c, hf, h => by
    simp only [VR] at h ⊢
    obtain ⟨vs, rfl, h⟩ := h
    refine ⟨vs, rfl, VRs.flat cs ?_ h⟩
    simpa [flatV] using hf
  | .own _ _ _, c, hf, _ => by simp [flatV] at hf
  | .win _ _ _ _, c, hf, _ => by simp [flatV] at hf
  | .ptr _ _ _, c, hf, _ => by simp [flatV] at hf
  | .mref _, c, hf, _ => by simp [flatV] at hf
  | .iref _, c, hf, _ => by simp [flatV] at hf
  | .clo _ _ _, c, hf, _ => by simp [flatV] at hf
  | .tuple _, c, hf, _ => by simp [flatV] at hf
  | .undef, c, hf, _ => by simp [flatV] at hf
theorem VRs.flat {β β2 : Nat → Option BV} {I : Imm} : ∀ (vs : List V) {cs : List Value}, (vs.all fun | .s _ | .sl _ _ | .emp => true | _ => false) = true → VRs β I vs cs → VRs β2 I vs cs
  | [], [], _, _ => by simp [VRs]
  | v :: vs, c :: cs, hf, h => by
    simp only [List.all_cons, Bool.and_eq_true] at hf
    simp only [VRs] at h ⊢
    refine ⟨?_, VRs.flat vs hf.2 h.2⟩
    have h1 := hf.1
    cases v <;> simp at h1
    · simpa [VR] using h.1
    · simpa only [VR] using h.1
    · simpa only [VR] using h.1
  | [], _ :: _, _, h => by simp [VRs] at h
  | _ :: _, [], _, h => by simp [VRs] at h
end
/-- A new slice, told as data. -/
theorem bsl_sound {β : Nat → Option BV} {I : Imm} {w : World} {σ : List Blk} (hi : Inv β I σ w) {ev : Operand → V} {ρ : Operand → Value} (hev : EvR β I ev ρ) {o : Oper} {t : TypeId} {n : Nat} {ps : Array (Nat × Operand)} (hop : o.op = .buildSlice t n ps)
    (hfl : (ps.toList.all fun p => flatV (ev p.2)) = true) {v : V} (h : bsl P t n (ps.toList.map fun (i, x) => (i, ev x)) = some v) : OpGives P (execOp ρ o) β I w v σ [] := by
  unfold bsl at h
  split at h
  · rename_i m z xs hb
    split at h
    · rename_i hm
      simp only [Option.some.injEq] at h
      subst h
      have hi0 : Inv (fun _ => none) I [] w := ⟨hi.imm, fun t k hk => by simp at hk, fun t x hx => by simp at hx, fun t t' x x' hx => by simp at hx⟩
      -- the parts, over no heap at all
      let ev0 : Operand → V := fun x => if flatV (ev x) = true then ev x else .undef
      have hev0 : EvR (fun _ => none) I ev0 ρ := fun x => by
        simp only [ev0]
        split
        · rename_i hf; exact VR.flat _ hf (hev x)
        · simp [VR]
      have hps : (ps.toList.map fun (i, x) => (i, ev x)) = (ps.toList.map fun (i, x) => (i, ev0 x)) := by
        refine List.map_congr_left fun p hp => ?_
        have := (List.all_eq_true.1 hfl) p hp
        simp [ev0, this]
      rw [hps] at hb
      have ho : aop P ev0 [] o = some (.own 0 0 m, [.rows z xs false], []) := by simp [aop, hop, hb]
      obtain ⟨nx, w', β', I', g1, g2, g3, g4, g5⟩ := aop_sound hi0 hev0 ho
      rcases g2 with ⟨c, rfl, g2⟩ | ⟨_, g2⟩
      · have hf1 : frz1 [.rows z xs false] (.own 0 0 m) = some (.sl z xs, [.rows z xs true]) := by simp [frz1, hm]
        obtain ⟨I2, i2, s2, t2⟩ := frz1_sound g3 hf1 g2
        have hframe : ∀ b, b < w.heap.size → w'.heap[b]? = w.heap[b]? := fun b hb => g4.frame b hb (fun t x hx => by simp at hx)
        have hnew : ∀ t x, β' t = some (.real x) → w.heap.size ≤ x.b := by
          intro t x hx
          rcases g4.tags t x hx with ⟨t', x', h1, _⟩ | h1
          · simp at h1
          · exact h1
        have hfresh : ∀ b o v, I2 b o = some v → I b o = some v ∨ w.heap.size ≤ b := by
          intro b o v hv
          rcases s2.fresh b o v hv with h1 | ⟨t, x, h1, h2⟩ | h1
          · rcases g4.fresh b o v h1 with h3 | ⟨t, x, h3, _⟩ | h3
            · exact .inl h3
            · simp at h3
            · exact .inr h3
          · exact .inr (h2 ▸ hnew t x h1)
          · exact .inr (Nat.le_trans g4.size h1)
        have hmono : ∀ b o v, I b o = some v → I2 b o = some v := fun b o v hv => s2.mono b o v (g4.mono b o v hv)
        refine ⟨.value c, w', β, I2, g1, .inl ⟨c, rfl, by simpa only [VR] using t2⟩, ⟨i2.imm, fun t k hk => ?_, fun t x hx => ?_, hi.inj⟩, ⟨g4.os, g4.tape, g4.output, g4.size, fun b hb _ => hframe b hb, hmono, fun b o v hv => ?_, fun t x hx => .inl ⟨t, x, hx, rfl⟩⟩, Keeps.refl β⟩
        · refine BlkR.mono (Keeps.refl β) hmono (hi.blk t k hk) (fun x hx => hframe _ (hi.blt hx)) (fun x o hx ho => ?_)
          cases hio : I2 x.b o with
          | none => rfl
          | some v =>
            rcases hfresh _ _ _ hio with h1 | h1
            · rw [ho] at h1; cases h1
            · have := hi.blt hx; omega
        · obtain ⟨k, h1, h2⟩ := hi.live t x hx
          exact ⟨k, h1, fun y hy => Nat.lt_of_lt_of_le (h2 y hy) g4.size⟩
        · rcases hfresh b o v hv with h1 | h1
          · exact .inl h1
          · exact .inr (.inr h1)
      · cases g2
    · simp at h
  · simp at h
theorem gives_wp {N : Nat} {B : Base} {o : Oper} {S : St} {a : Act} {w : World} {v : V} {σ' : List Blk} {mv : List Nat} {next : Act → World → Prop} {Q : Exit → Act → World → Prop} (hd : ∀ d, o.dst = some d → d < N) (hR : Rel N B S a w)
    (h : ∀ β I, Inv β I S.σ w → EvR β I (evS S.tm) a.eval → OpGives P (execOp a.eval o) β I w v σ' mv) (hn : ∀ a' w', Rel N B (S.put o.dst v σ' mv) a' w' → next a' w') : o.wp P a w next Q := by
  obtain ⟨hsz, hdf, β, I, hi, htm, hst, hk⟩ := hR
  obtain ⟨nx, w', β', I', g1, g2, g3, g4, g5⟩ := h β I hi (evS_rel htm)
  unfold Oper.wp
  rw [g1]
  rcases g2 with ⟨c, rfl, g2⟩ | ⟨rfl, rfl⟩
  · rw [Oper.upon_value]
    exact hn _ _ (put_rel hsz hdf htm hst hk hd g2 g3 g4 g5)
  · rw [Oper.upon_skip]
    exact hn _ _ (put_rel hsz hdf htm hst hk hd (by simp [VR]) g3 g4 g5)
theorem One_sound {N : Nat} {B : Base} {ops : Array Oper} {Q : Exit → Act → World → Prop} {next : Act → World → Prop} (hok : opsOK N ops = true) {i : Nat} {S S1 : St} {a : Act} {w : World} (hR : Rel N B S a w) (h : One P W ops i S S1)
    (hn : ∀ a' w', Rel N B S1 a' w' → next a' w') : wpOp P ops Q i next a w := by
  unfold One at h
  unfold wpOp
  cases ho : ops[i]? with
  | none => simp only [ho] at h ⊢; subst h; exact hn a w hR
  | some o =>
    simp only [ho] at h ⊢
    have hd : ∀ d, o.dst = some d → d < N := by
      intro d hd
      have hm : o ∈ ops := Array.mem_of_getElem? ho
      have := (Array.all_eq_true_iff_forall_mem.1 hok) o hm
      simpa [hd] using this
    obtain ⟨v, σ', mv, he, rfl⟩ := h
    have gd : ∀ r, Gd ops o S.tm r → Region.wanted o (yielded ops a.tmps) = r := by
      intro r g
      cases g with
      | nog h => simp [Region.wanted, h]
      | yes j want b d h hdj hb =>
        have hy : yielded ops a.tmps j = some b := by
          obtain ⟨hsz, hdf, β, I, hi, htm, hst, hk⟩ := hR
          have hv := htm d
          rw [hb] at hv
          simp only [VR] at hv
          simp only [yielded, hdj, Option.bind_some]
          have hdl : d < a.tmps.size := by
            rcases Nat.lt_or_ge d a.tmps.size with h | h
            · exact h
            · have := hv.1
              rw [Array.getD_eq_getD_getElem?, Array.getElem?_eq_none h] at this
              simp [undef] at this
          have : a.tmps[d]? = some (.bool b) := by
            rw [Array.getElem?_eq_getElem hdl]
            have := hv.1
            rw [Array.getD_eq_getD_getElem?, Array.getElem?_eq_getElem hdl] at this
            simpa using this
          rw [this]
        simp [Region.wanted, h, hy]
      | und j want d h hdj hb =>
        have hy : yielded ops a.tmps j = none := by
          obtain ⟨hsz, hdf, β, I, hi, htm, hst, hk⟩ := hR
          exact yielded_none hdj (by have := htm d; rwa [hb] at this)
        simp [Region.wanted, h, hy]
    rcases he with ⟨g, k⟩ | ⟨g, rfl, rfl, rfl⟩
    · rw [if_pos (gd _ g)]
      by_cases hbs : ∃ t n ps, o.op = .buildSlice t n ps
      · obtain ⟨t, n, ps, hop⟩ := hbs
        unfold ValD at k
        simp only [hop, aopD] at k
        split at k
        · rename_i hfl
          simp only [Option.map_eq_some_iff, Prod.mk.injEq] at k
          obtain ⟨v', h1, rfl, rfl, rfl⟩ := k
          exact .inl (gives_wp hd hR (fun β I hi hev => bsl_sound hi hev hop hfl h1) hn)
        · simp at k
      have hs' : stepO P o S (fun S' => S' = S.put o.dst v σ' mv) := by
        have fin : aopD P (evS S.tm) S.σ o = some (v, σ', mv) → (match aop P (evS S.tm) S.σ o with
            | some (v1, σ1, mv1) => S.put o.dst v1 σ1 mv1 = S.put o.dst v σ' mv
            | none => stepX P (evS S.tm) S.σ o fun v1 σ1 mv1 => S.put o.dst v1 σ1 mv1 = S.put o.dst v σ' mv) := by
          intro hd
          rcases aopD_cases hd with h1 | ⟨h1, h2⟩ | ⟨t, n, ps, h1, _⟩
          · rw [h1]
          · rw [h1]
            simp only [stepX, h2]
          · exact (hbs ⟨t, n, ps, h1⟩).elim
        unfold ValD at k
        unfold stepO
        cases hop : o.op with
        | call c =>
          simp only [hop] at k ⊢
          cases hcal : c.callee with
          | value f =>
            simp only [hcal] at k ⊢
            split at k
            · rename_i fn first caps hfv
              simp only [hfv]
              split at k
              · obtain ⟨h1, rfl⟩ := k
                exact AC.mono h1 fun r' σ1 m1 e => by obtain ⟨e1, e2, e3⟩ := e; subst e1 e2 e3; rfl
              · obtain ⟨h1, rfl, rfl⟩ := k
                have h2 := h1 []
                rw [List.append_nil] at h2
                exact AC.mono h2 fun r' σ1 m1 e => by obtain ⟨e1, e2, e3⟩ := e; subst e1 e2 e3; rfl
            · exact k.elim
          | _ => simp only [hcal] at k ⊢; exact fin k
        | _ => simp only [hop] at k ⊢; exact fin k
      exact .inl (stepO_sound hd hR hs' fun S' a' w' hR' e => hn a' w' (e ▸ hR'))
    · rw [if_neg (by rw [gd _ g]; simp)]
      obtain ⟨hsz, hdf, β, I, hi, htm, hst, hk⟩ := hR
      exact hn _ _ (put_rel hsz hdf htm hst hk hd VR_undef hi (Step.refl _ _ _) (Keeps.refl _))
theorem precB_listed {ops : Array Oper} {listed : Array Bool} (hcl : ∀ i o, listed.getD i false = true → ops[i]? = some o → ∀ e ∈ o.after, Region.binds .any e = true → listed.getD e.on false = true) :
    ∀ (d j i : Nat), (∀ o, ops[i]? = some o → ∀ e ∈ o.after, Region.binds .any e = true → listed.getD e.on false = true) → precB ops d j i = true → listed.getD j false = true
  | 0, j, i, _, h => by simp [precB] at h
  | d + 1, j, i, hi, h => by
    simp only [precB] at h
    split at h
    · rename_i o ho
      obtain ⟨n, hn, hb⟩ := Array.any_eq_true.1 h
      simp only [Bool.and_eq_true, Bool.or_eq_true, beq_iff_eq] at hb
      obtain ⟨hb, h⟩ := hb
      have he := Array.getElem_mem hn
      generalize o.after[n] = e at he hb h
      have hl := hi o ho e he hb
      rcases h with rfl | h
      · exact hl
      · exact precB_listed hcl d j e.on (fun o' ho' => hcl _ _ hl ho') h
    · simp at h
theorem ordOK_split {ex : Nat → Nat → Bool} {ops : Array Oper} {anc : List Nat} : ∀ {p s : List Nat} {i : Nat}, ordOK ex W anc ops (p ++ i :: s) = true → ∀ j ∈ p, ∀ o, ops[i]? = some o → ∃ x, ops[j]? = some x ∧ ((Nat.testBit (anc.getD i 0) j = true ∨ precB ops ops.size j i = true ∨ ex j i = true) ∨ indep W ops x o = true)
  | [], s, i, _, j, hj, _, _ => by simp at hj
  | k :: p, s, i, h, j, hj, o, ho => by
    simp only [List.cons_append, ordOK, Bool.and_eq_true] at h
    rcases List.mem_cons.1 hj with rfl | hj
    · have h1 := h.1
      split at h1
      · rename_i x hx
        have := List.all_eq_true.1 h1 i (by simp)
        simp only [ho, Bool.or_eq_true] at this
        refine ⟨x, hx, ?_⟩
        rcases this with h | h | h | h
        · exact .inl (.inl h)
        · exact .inr h
        · exact .inl (.inr (.inl h))
        · exact .inl (.inr (.inr h))
      · simp at h1
    · exact ordOK_split h.2 j hj o ho
theorem ancM_bit {anc : List Nat} : ∀ {es : List Edge} {j : Nat}, Nat.testBit (ancM anc es) j = true → ∃ e ∈ es, Region.binds .any e = true ∧ (e.on = j ∨ Nat.testBit (anc.getD e.on 0) j = true)
  | [], j, h => by simp [ancM] at h
  | e :: es, j, h => by
    simp only [ancM] at h
    split at h
    · rename_i hb
      have h' : (2 ^ e.on ||| anc.getD e.on 0 ||| ancM anc es).testBit j = true := h
      rw [Nat.testBit_or, Nat.testBit_or, Bool.or_eq_true, Bool.or_eq_true] at h'
      rcases h' with (h' | h') | h'
      · rw [Nat.testBit_two_pow] at h'
        exact ⟨e, by simp, hb, .inl (by simpa using h')⟩
      · exact ⟨e, by simp, hb, .inr h'⟩
      · obtain ⟨e', h1, h2⟩ := ancM_bit h'
        exact ⟨e', by simp [h1], h2⟩
    · obtain ⟨e', h1, h2⟩ := ancM_bit h
      exact ⟨e', by simp [h1], h2⟩
theorem anc_listed {ops : Array Oper} {anc : List Nat} {listed : Array Bool} (hok : ancOK anc ops = true) (hto : ∀ i o, ops[i]? = some o → ∀ e ∈ o.after, Region.binds .any e = true → e.on < i)
    (hcl : ∀ i o, listed.getD i false = true → ops[i]? = some o → ∀ e ∈ o.after, Region.binds .any e = true → listed.getD e.on false = true) :
    ∀ (i j : Nat) (o : Oper), ops[i]? = some o → (∀ e ∈ o.after, Region.binds .any e = true → listed.getD e.on false = true) → Nat.testBit (anc.getD i 0) j = true → listed.getD j false = true := by
  intro i
  induction i using Nat.strongRecOn with
  | ind i ih =>
    intro j o ho hal hb
    have hi : i < anc.length := by
      rcases Nat.lt_or_ge i anc.length with h | h
      · exact h
      · rw [List.getD_eq_getElem?_getD, List.getElem?_eq_none h] at hb; simp at hb
    have h1 := List.all_eq_true.1 hok i (List.mem_range.2 hi)
    simp only [ho] at h1
    have h2 : Nat.lor (anc.getD i 0) (ancM anc o.after.toList) = ancM anc o.after.toList := Nat.eq_of_beq_eq_true h1
    have h3 : Nat.testBit (ancM anc o.after.toList) j = true := by
      rw [← h2]
      show Nat.testBit (anc.getD i 0 ||| ancM anc o.after.toList) j = true
      rw [Nat.testBit_or, hb]
      rfl
    obtain ⟨e, he, hbe, h4⟩ := ancM_bit h3
    have he' : e ∈ o.after := by simpa using he
    rcases h4 with h4 | h4
    · rw [← h4]; exact hal e he' hbe
    · have hlt := hto i o ho e he' hbe
      have hl := hal e he' hbe
      cases hoe : ops[e.on]? with
      | none =>
        have hs := Array.getElem?_eq_none_iff.1 hoe
        have := (Array.getElem?_eq_some_iff.1 ho).1
        omega
      | some o' => exact ih e.on hlt j o' hoe (hcl e.on o' hl hoe) h4
theorem getD_set_self' {listed : Array Bool} {i : Nat} (h : i < listed.size) : (listed.setIfInBounds i true).getD i true = true := by
  simp [h]
theorem getD_set_self {listed : Array Bool} {i : Nat} (h : i < listed.size) : (listed.setIfInBounds i true).getD i false = true := by
  simp [h]
theorem filter_le {p q : Nat → Bool} : ∀ {l : List Nat}, (∀ j, p j = true → q j = true) → (l.filter p).length ≤ (l.filter q).length
  | [], _ => by simp
  | k :: l, h => by
    have := filter_le (l := l) h
    rw [List.filter_cons, List.filter_cons]
    cases hp : p k with
    | true => rw [h k hp]; simp only [if_true, List.length_cons]; omega
    | false =>
      cases q k with
      | true => simp only [if_true, Bool.false_eq_true, if_false, List.length_cons]; omega
      | false => simpa using this
theorem nodup_len : ∀ {l m : List Nat}, l.Nodup → (∀ k ∈ l, k ∈ m) → l.length ≤ m.length
  | [], m, _, _ => by simp
  | k :: l, m, hn, h => by
    obtain ⟨h1, h2⟩ := List.nodup_cons.1 hn
    have hk := h k (by simp)
    have := nodup_len (l := l) (m := m.erase k) h2 fun j hj => by
      have hne : j ≠ k := fun e => h1 (e ▸ hj)
      exact (List.mem_erase_of_ne hne).2 (h j (by simp [hj]))
    rw [List.length_erase_of_mem hk] at this
    have hpos : 0 < m.length := List.length_pos_of_mem hk
    simp only [List.length_cons]
    omega
theorem Runs_append {ops : Array Oper} : ∀ {l1 l2 : List Nat} {S S' : St}, Runs P W ops (l1 ++ l2) S S' ↔ ∃ S1, Runs P W ops l1 S S1 ∧ Runs P W ops l2 S1 S'
  | [], l2, S, S' => by simp [Runs]
  | i :: l1, l2, S, S' => by
    simp only [List.cons_append, Runs]
    constructor
    · rintro ⟨S1, h1, h2⟩
      obtain ⟨S2, h3, h4⟩ := Runs_append.1 h2
      exact ⟨S2, ⟨S1, h1, h3⟩, h4⟩
    · rintro ⟨S2, ⟨S1, h1, h3⟩, h4⟩
      exact ⟨S1, h1, Runs_append.2 ⟨S2, h3, h4⟩⟩
theorem drawX_back {ex : Nat → Nat → Bool} {ops : Array Oper} {ord anc : List Nat} (h : drawX ex W ord anc ops = true) : ∀ i o, ops[i]? = some o → (∀ e ∈ o.after, Region.binds .any e = true → e.on < i) := by
  simp only [drawX, Bool.and_eq_true, decide_eq_true_eq] at h
  obtain ⟨⟨⟨⟨⟨⟨hdr1, hnd⟩, hall⟩, hlt⟩, hord⟩, _⟩, hanc⟩ := h
  intro i o ho e he hb
  have hi : i < ops.size := (Array.getElem?_eq_some_iff.1 ho).1
  have := List.all_eq_true.1 hdr1 i (List.mem_range.2 hi)
  simp only [ho] at this
  have := (Array.all_eq_true_iff_forall_mem.1 this) e he
  simpa [hb] using this
theorem drawX_mem {ex : Nat → Nat → Bool} {ops : Array Oper} {ord anc : List Nat} (h : drawX ex W ord anc ops = true) : ∀ i, i < ops.size ↔ i ∈ ord := by
  simp only [drawX, Bool.and_eq_true, decide_eq_true_eq] at h
  obtain ⟨⟨⟨⟨⟨⟨hdr1, hnd⟩, hall⟩, hlt⟩, hord⟩, _⟩, hanc⟩ := h
  exact fun i => ⟨fun hi => by simpa using List.all_eq_true.1 hall i (List.mem_range.2 hi), fun hi => by simpa using List.all_eq_true.1 hlt i hi⟩
theorem drawX_nodup {ex : Nat → Nat → Bool} {ops : Array Oper} {ord anc : List Nat} (h : drawX ex W ord anc ops = true) : ord.Nodup := by
  simp only [drawX, Bool.and_eq_true, decide_eq_true_eq] at h
  exact h.1.1.1.1.1.2
/-- No operation is ready: none is left. -/
theorem none_left {ex : Nat → Nat → Bool} {ops : Array Oper} {ord anc : List Nat} (h : drawX ex W ord anc ops = true) {listed : Array Bool} (hs : listed.size = ops.size) (hr : Region.ready .any ops listed = []) : ∀ i, i < ops.size → listed.getD i true = true := by
  have hdr' := drawX_back h
  intro i
  induction i using Nat.strongRecOn with
  | ind i ih =>
    intro hi
    cases hg : listed.getD i true with
    | true => rfl
    | false =>
      exfalso
      have hmem : i ∈ Region.ready .any ops listed := mem_ready.2 ⟨hg, ops[i], Array.getElem?_eq_getElem hi, fun e he hb => by
        have hlt := hdr' i _ (Array.getElem?_eq_getElem hi) e he hb
        have h1 := ih _ hlt (Nat.lt_trans hlt hi)
        have hls : e.on < listed.size := by rw [hs]; exact Nat.lt_trans hlt hi
        rw [Array.getD_eq_getD_getElem?, Array.getElem?_eq_getElem hls] at h1 ⊢
        exact h1⟩
      rw [hr] at hmem
      simp at hmem
theorem not_both {listed : Array Bool} {j : Nat} (h1 : listed.getD j false = true) (h2 : listed.getD j true = false) : False := by
  rw [Array.getD_eq_getD_getElem?] at h1 h2
  cases h : listed[j]? with
  | none => rw [h] at h1; simp at h1
  | some b => rw [h] at h1 h2; simp at h1 h2; rw [h1] at h2; simp at h2
/-- A ready operation is pulled to the front of what is left of a part of the order. -/
theorem pull_left {ex : Nat → Nat → Bool} {ops : Array Oper} {ord anc : List Nat} (hdr : drawX ex W ord anc ops = true) {pre suf more : List Nat} {i : Nat} (hps : ord = pre ++ i :: (suf ++ more)) {listed : Array Bool} (hs : listed.size = ops.size)
    (hcl : ∀ i o, listed.getD i false = true → ops[i]? = some o → ∀ e ∈ o.after, Region.binds .any e = true → listed.getD e.on false = true)
    (hi : i ∈ Region.ready .any ops listed) (hex : ∀ j, ex j i = true → listed.getD j false = true) {S S' : St} (h : Runs P W ops ((pre ++ i :: suf).filter fun j => !listed.getD j true) S S') :
    Runs P W ops (i :: ((pre ++ i :: suf).filter fun j => !(listed.setIfInBounds i true).getD j true)) S S' := by
  have hdr' := drawX_back hdr
  have hnd := drawX_nodup hdr
  obtain ⟨h0, o, ho, hafter⟩ := mem_ready.1 hi
  have hisz : i < ops.size := (Array.getElem?_eq_some_iff.1 ho).1
  simp only [drawX, Bool.and_eq_true, decide_eq_true_eq] at hdr
  obtain ⟨⟨⟨⟨⟨⟨hdr1, _⟩, hall⟩, hlt⟩, hord⟩, _⟩, hanc⟩ := hdr
  have hnp : i ∉ pre ∧ i ∉ suf := by
    rw [hps, List.nodup_append] at hnd
    refine ⟨fun h => ?_, fun h => (List.nodup_cons.1 hnd.2.1).1 (List.mem_append_left _ h)⟩
    exact hnd.2.2 i h i (by simp) rfl
  have hsplit : ((pre ++ i :: suf).filter fun j => !listed.getD j true) = (pre.filter fun j => !listed.getD j true) ++ i :: (suf.filter fun j => !listed.getD j true) := by
    rw [List.filter_append, List.filter_cons_of_pos (by rw [h0]; rfl)]
  have hl' : ((pre ++ i :: suf).filter fun j => !(listed.setIfInBounds i true).getD j true) = (pre.filter fun j => !listed.getD j true) ++ (suf.filter fun j => !listed.getD j true) := by
    rw [List.filter_append, List.filter_cons_of_neg (by simp [hs, hisz])]
    congr 1
    · apply List.filter_congr
      intro j hj
      rw [getD_set_ne true (fun e => hnp.1 (by subst e; exact hj))]
    · apply List.filter_congr
      intro j hj
      rw [getD_set_ne true (fun e => hnp.2 (by subst e; exact hj))]
  rw [hsplit] at h
  rw [hl']
  refine pull ho (fun j hj => ?_) h
  simp only [List.mem_filter, Bool.not_eq_true'] at hj
  rw [hps] at hord
  obtain ⟨x, hx, hor⟩ := ordOK_split hord j hj.1 o ho
  refine ⟨x, hx, hor.resolve_left fun hpr => ?_⟩
  have : listed.getD j false = true := by
    rcases hpr with hpr | hpr | hpr
    · exact anc_listed hanc hdr' hcl i j o ho hafter hpr
    · exact precB_listed hcl _ j i (fun o' ho' => by rw [ho] at ho'; cases ho'; exact hafter) hpr
    · exact hex j hpr
  exact not_both this hj.2
theorem cl_set {ops : Array Oper} {listed : Array Bool} {i : Nat}
    (hcl : ∀ i o, listed.getD i false = true → ops[i]? = some o → ∀ e ∈ o.after, Region.binds .any e = true → listed.getD e.on false = true) (hi : i ∈ Region.ready .any ops listed) :
    ∀ k o, (listed.setIfInBounds i true).getD k false = true → ops[k]? = some o → ∀ e ∈ o.after, Region.binds .any e = true → (listed.setIfInBounds i true).getD e.on false = true := by
  obtain ⟨h0, o, ho, hafter⟩ := mem_ready.1 hi
  intro k o' hk ho' e he hb
  by_cases hki : k = i
  · subst hki
    rw [ho] at ho'
    cases ho'
    exact getD_set_true (hafter e he hb)
  · rw [getD_set_ne false (Ne.symm hki)] at hk
    exact getD_set_true (hcl k o' hk ho' e he hb)
theorem left_less {l : List Nat} {listed : Array Bool} {i n : Nat} (hi : i ∈ l.filter (fun i => !listed.getD i true)) (hs : listed.size = n) (hin : i < n) : (l.filter (fun j => !(listed.setIfInBounds i true).getD j true)).length < (l.filter (fun i => !listed.getD i true)).length := by
  induction l with
  | nil => simp at hi
  | cons k l ih =>
    by_cases hki : k = i
    · subst hki
      have hp : (!listed.getD k true) = true := (List.mem_filter.1 hi).2
      rw [List.filter_cons, List.filter_cons, if_pos hp, if_neg (by rw [getD_set_self' (by rw [hs]; exact hin)]; simp)]
      simp only [List.length_cons]
      refine Nat.lt_succ_of_le ?_
      exact filter_le fun j h => by
        by_cases hj : j = k
        · subst hj; rw [getD_set_self' (by rw [hs]; exact hin)] at h; simp at h
        · rwa [getD_set_ne true (Ne.symm hj)] at h
    · have hi' : i ∈ l.filter (fun i => !listed.getD i true) := by
        simp only [List.mem_filter, List.mem_cons] at hi ⊢
        exact ⟨hi.1.resolve_left (Ne.symm hki), hi.2⟩
      have := ih hi'
      rw [List.filter_cons, List.filter_cons, getD_set_ne true (Ne.symm hki)]
      cases hb : (!listed.getD k true) with
      | true => simp only [if_true, List.length_cons]; omega
      | false => simpa using this
theorem runs_any {ex : Nat → Nat → Bool} {N : Nat} {B : Base} {ops : Array Oper} {ord anc : List Nat} {K : St → Prop} {Q : Exit → Act → World → Prop} (hok : opsOK N ops = true) (hdr : drawX ex W ord anc ops = true) (hq : ∀ S a w, Rel N B S a w → K S → Q .normal a w) {S' : St} (hK : K S') :
    ∀ (fuel : Nat) (listed : Array Bool) (S : St) (a : Act) (w : World), listed.size = ops.size →
      (∀ i o, listed.getD i false = true → ops[i]? = some o → ∀ e ∈ o.after, Region.binds .any e = true → listed.getD e.on false = true) → (∀ j i, ex j i = true → listed.getD j false = true) → (ord.filter (fun i => !listed.getD i true)).length ≤ fuel → Rel N B S a w → Runs P W ops (ord.filter (fun i => !listed.getD i true)) S S' → wpAny P .any ops Q fuel listed a w := by
  have hmem := drawX_mem hdr
  have hsub : ∀ (listed : Array Bool) i, i ∈ Region.ready .any ops listed → i ∈ ord.filter (fun i => !listed.getD i true) := by
    intro listed i hi
    obtain ⟨h0, o, ho, _⟩ := mem_ready.1 hi
    simp only [List.mem_filter]
    exact ⟨(hmem i).1 (Array.getElem?_eq_some_iff.1 ho).1, by rw [h0]; rfl⟩
  have hnil : ∀ (listed : Array Bool), listed.size = ops.size → Region.ready .any ops listed = [] → ord.filter (fun i => !listed.getD i true) = [] := by
    intro listed hs hr
    apply List.filter_eq_nil_iff.2
    intro i hi
    simp [none_left hdr hs hr i ((hmem i).2 hi)]
  intro fuel
  induction fuel with
  | zero =>
    intro listed S a w hs hcl hex hf hR h
    have hl : ord.filter (fun i => !listed.getD i true) = [] := by
      cases hl : ord.filter (fun i => !listed.getD i true) with
      | nil => rfl
      | cons x xs => rw [hl] at hf; simp at hf
    rw [hl] at h
    simp only [Runs] at h
    subst h
    refine ⟨?_, hq _ _ _ hR hK⟩
    cases hr : Region.ready .any ops listed with
    | nil => rfl
    | cons i r =>
      have := hsub listed i (by rw [hr]; simp)
      rw [hl] at this
      simp at this
  | succ fuel ih =>
    intro listed S a w hs hcl hex hf hR h
    refine ⟨fun hr => ?_, fun i hi => ?_⟩
    · rw [hnil listed hs hr] at h
      simp only [Runs] at h
      subst h
      exact hq _ _ _ hR hK
    · obtain ⟨h0, o, ho, hafter⟩ := mem_ready.1 hi
      have hisz : i < ops.size := (Array.getElem?_eq_some_iff.1 ho).1
      obtain ⟨pre, suf, hps⟩ := List.append_of_mem ((hmem i).1 hisz)
      rw [hps] at h
      have hp := pull_left hdr (more := []) (by simpa using hps) hs hcl hi (fun j hj => hex j i hj) h
      rw [← hps] at hp
      obtain ⟨S1, h1, h2⟩ := hp
      refine One_sound hok hR h1 fun a' w' hR' => ?_
      refine ih _ S1 a' w' (by simp [hs]) (cl_set hcl hi) (fun j k hjk => getD_set_true (hex j k hjk)) ?_ hR' h2
      exact Nat.le_of_lt_succ (Nat.lt_of_lt_of_le (left_less (hsub listed i hi) hs hisz) hf)
/-- Two orders, one for each way round. -/
theorem runs_two {N : Nat} {B : Base} {ops : Array Oper} {A B1 B2 anc1 anc2 : List Nat} {i j : Nat} {K : St → Prop} {Q : Exit → Act → World → Prop} (hok : opsOK N ops = true) (hdr : drawT W A i j B1 B2 anc1 anc2 ops = true) (hq : ∀ S a w, Rel N B S a w → K S → Q .normal a w) {SA S1 S2 : St} (hK1 : K S1) (hK2 : K S2) (hr1 : Runs P W ops (i :: j :: B1) SA S1) (hr2 : Runs P W ops (j :: i :: B2) SA S2) :
    ∀ (fuel : Nat) (listed : Array Bool) (S : St) (a : Act) (w : World), listed.size = ops.size → (∀ k ∈ i :: j :: B1, listed.getD k true = false) →
      (∀ i o, listed.getD i false = true → ops[i]? = some o → ∀ e ∈ o.after, Region.binds .any e = true → listed.getD e.on false = true) → ((A ++ i :: j :: B1).filter (fun i => !listed.getD i true)).length ≤ fuel → Rel N B S a w → Runs P W ops (A.filter (fun i => !listed.getD i true)) S SA → wpAny P .any ops Q fuel listed a w := by
  simp only [drawT, Bool.and_eq_true] at hdr
  obtain ⟨⟨hd1, hd2⟩, hB⟩ := hdr
  have hmem := drawX_mem hd1
  have hmem2 := drawX_mem hd2
  have hnd := drawX_nodup hd1
  have hnd2 := drawX_nodup hd2
  have hij : i ≠ j := by
    rintro rfl
    have := (List.nodup_append.1 hnd).2.1
    simp at this
  intro fuel
  induction fuel with
  | zero =>
    intro listed S a w hs hun hcl hf hR h
    have : i ∈ (A ++ i :: j :: B1).filter (fun i => !listed.getD i true) := by
      simp only [List.mem_filter]
      exact ⟨by simp, by rw [hun i (by simp)]; rfl⟩
    cases hl : (A ++ i :: j :: B1).filter (fun i => !listed.getD i true) with
    | nil => rw [hl] at this; simp at this
    | cons x xs => rw [hl] at hf; simp at hf
  | succ fuel ih =>
    intro listed S a w hs hun hcl hf hR h
    have hun2 : ∀ k ∈ j :: i :: B2, listed.getD k true = false := by
      intro k hk
      apply hun
      have h1 : k ∈ A ++ i :: j :: B1 := (hmem k).1 ((hmem2 k).2 (List.mem_append_right _ hk))
      rcases List.mem_append.1 h1 with h1 | h1
      · exact absurd rfl ((List.nodup_append.1 hnd2).2.2 k h1 k hk)
      · exact h1
    have hfil : ∀ {l : List Nat}, (∀ k ∈ l, listed.getD k true = false) → l.filter (fun i => !listed.getD i true) = l := by
      intro l hl
      apply List.filter_eq_self.2
      intro k hk
      simp [hl k hk]
    have e1 : (A ++ i :: j :: B1).filter (fun i => !listed.getD i true) = A.filter (fun i => !listed.getD i true) ++ i :: j :: B1 := by
      rw [List.filter_append, hfil hun]
    have e2 : (A ++ j :: i :: B2).filter (fun i => !listed.getD i true) = A.filter (fun i => !listed.getD i true) ++ j :: i :: B2 := by
      rw [List.filter_append, hfil hun2]
    refine ⟨fun hr => ?_, fun k hk => ?_⟩
    · have := none_left hd1 hs hr i ((hmem i).2 (by simp))
      rw [hun i (by simp)] at this
      simp at this
    · obtain ⟨h0, o, ho, hafter⟩ := mem_ready.1 hk
      have hksz : k < ops.size := (Array.getElem?_eq_some_iff.1 ho).1
      have hkm := (hmem k).1 hksz
      have hksub : k ∈ (A ++ i :: j :: B1).filter (fun i => !listed.getD i true) := by
        simp only [List.mem_filter]
        exact ⟨hkm, by rw [h0]; rfl⟩
      rcases List.mem_append.1 hkm with hkA | hkB
      · -- ahead of the two
        obtain ⟨pre, suf, hps⟩ := List.append_of_mem hkA
        rw [hps] at h
        have hp := pull_left hd1 (suf := suf) (more := i :: j :: B1) (by rw [hps]; simp) hs hcl hk (fun b hb => by
          simp only [Bool.and_eq_true, beq_iff_eq] at hb
          exact absurd hb.2 (fun e => (List.nodup_append.1 hnd).2.2 k hkA k (by rw [e]; simp) rfl)) h
        rw [← hps] at hp
        obtain ⟨Sk, h1, h2⟩ := hp
        refine One_sound hok hR h1 fun a' w' hR' => ?_
        refine ih _ Sk a' w' (by simp [hs]) ?_ (cl_set hcl hk) ?_ hR' h2
        · intro m hm
          rw [getD_set_ne true (fun e => (List.nodup_append.1 hnd).2.2 k hkA m hm e)]
          exact hun m hm
        · exact Nat.le_of_lt_succ (Nat.lt_of_lt_of_le (left_less hksub hs hksz) hf)
      · have hcase : k = i ∨ k = j ∨ k ∈ B1 := by simpa using hkB
        rcases hcase with rfl | rfl | hkB
        · -- the one
          have hall : Runs P W ops (A.filter (fun i => !listed.getD i true) ++ k :: j :: B1) S S1 := Runs_append.2 ⟨SA, h, hr1⟩
          rw [← e1] at hall
          have hp := pull_left hd1 (suf := j :: B1) (more := []) (by simp) hs hcl hk (fun b hb => by
            simp only [Bool.and_eq_true, beq_iff_eq] at hb
            exact absurd hb.2 hij) hall
          obtain ⟨Sk, h1, h2⟩ := hp
          refine One_sound hok hR h1 fun a' w' hR' => ?_
          refine runs_any hok hd1 hq hK1 fuel _ Sk a' w' (by simp [hs]) (cl_set hcl hk) (fun b c hbc => ?_) ?_ hR' h2
          · simp only [Bool.and_eq_true, beq_iff_eq] at hbc
            rw [hbc.1]
            exact getD_set_self (by rw [hs]; exact hksz)
          · exact Nat.le_of_lt_succ (Nat.lt_of_lt_of_le (left_less hksub hs hksz) hf)
        · -- the other
          have hall : Runs P W ops (A.filter (fun i => !listed.getD i true) ++ k :: i :: B2) S S2 := Runs_append.2 ⟨SA, h, hr2⟩
          rw [← e2] at hall
          have hp := pull_left hd2 (suf := i :: B2) (more := []) (by simp) hs hcl hk (fun b hb => by
            simp only [Bool.and_eq_true, beq_iff_eq] at hb
            exact absurd hb.2.symm hij) hall
          obtain ⟨Sk, h1, h2⟩ := hp
          refine One_sound hok hR h1 fun a' w' hR' => ?_
          refine runs_any hok hd2 hq hK2 fuel _ Sk a' w' (by simp [hs]) (cl_set hcl hk) (fun b c hbc => ?_) ?_ hR' h2
          · simp only [Bool.and_eq_true, beq_iff_eq] at hbc
            rw [hbc.1]
            exact getD_set_self (by rw [hs]; exact hksz)
          · have hlen : ((A ++ k :: i :: B2).filter (fun i => !listed.getD i true)).length ≤ ((A ++ i :: k :: B1).filter (fun i => !listed.getD i true)).length :=
              nodup_len (List.filter_sublist.nodup hnd2) fun m hm => by
                simp only [List.mem_filter] at hm ⊢
                exact ⟨(hmem m).1 ((hmem2 m).2 hm.1), hm.2⟩
            have hk2 : k ∈ (A ++ k :: i :: B2).filter (fun i => !listed.getD i true) := by
              simp only [List.mem_filter]
              exact ⟨by simp, by rw [h0]; rfl⟩
            exact Nat.le_of_lt_succ (Nat.lt_of_lt_of_le (left_less hk2 hs hksz) (Nat.le_trans hlen hf))
        · -- what is behind one of them is not ready
          exfalso
          have hb := List.all_eq_true.1 hB k hkB
          simp only [Bool.or_eq_true] at hb
          have hanc : ancOK anc1 ops = true := by
            have h := hd1
            simp only [drawX, Bool.and_eq_true] at h
            exact h.2
          rcases hb with hb | hb
          · exact not_both (anc_listed hanc (drawX_back hd1) hcl k i o ho hafter hb) (hun i (by simp))
          · exact not_both (anc_listed hanc (drawX_back hd1) hcl k j o ho hafter hb) (hun j (by simp))
theorem awpD_sound (hm : P.follows .mixedOrders = true) {N : Nat} {B : Base} {ops : Array Oper} {ord anc : List Nat} {K : St → Prop} {Q : Exit → Act → World → Prop} (hok : opsOK N ops = true) (hdr : drawOK W ord anc ops = true) (hq : ∀ S a w, Rel N B S a w → K S → Q .normal a w) {id : Nat} (S : St) (a : Act) (w : World)
    (hR : Rel N B S a w) (h : awpD P W ops K ord S) : (Code.region id ops true).wp P Q a w := by
  obtain ⟨S', h1, h2⟩ := awpD_runs h
  refine wp_region_any hm ?_
  have hR' : Rel N B S a { w with drawn := w.drawn + 1 } := by
    obtain ⟨hsz, hdf, β, I, hi, htm, hst, hk⟩ := hR
    exact ⟨hsz, hdf, β, I, ⟨hi.imm, hi.blk, hi.live, hi.inj⟩, htm, ⟨hst.os, hst.tape, hst.output, hst.size, hst.frame, hst.mono, hst.fresh, hst.tags⟩, hk⟩
  have hall : ord.filter (fun i => !(Array.replicate ops.size false).getD i true) = ord := by
    apply List.filter_eq_self.2
    intro i hi
    have hd := hdr
    have : i < ops.size := (drawX_mem hd i).2 hi
    simp [this]
  have hlen : ord.length ≤ ops.size := by
    have hd := hdr
    simp only [drawOK, drawX, Bool.and_eq_true, decide_eq_true_eq] at hd
    exact hd.1.2
  refine runs_any hok hdr hq h2 ops.size _ S a _ (by simp) ?_ (by simp) (by rw [hall]; exact hlen) hR' (by rw [hall]; exact h1)
  intro i o hl
  exfalso
  rw [Array.getD_eq_getD_getElem?, Array.getElem?_replicate] at hl
  split at hl <;> simp at hl
theorem awpT_sound (hm : P.follows .mixedOrders = true) {N : Nat} {B : Base} {ops : Array Oper} {A B1 B2 anc1 anc2 : List Nat} {i j : Nat} {K' K : St → Prop} {Q : Exit → Act → World → Prop} (hok : opsOK N ops = true) (hdr : drawT W A i j B1 B2 anc1 anc2 ops = true)
    {id : Nat} (S : St) (a : Act) (w : World)
    (hR : Rel N B S a w) (h : awpD P W ops K' A S) (hq : ∀ S', K' S' → ∃ K : St → Prop, awpD P W ops K (i :: j :: B1) S' ∧ awpD P W ops K (j :: i :: B2) S' ∧ ∀ S a w, Rel N B S a w → K S → Q .normal a w) : (Code.region id ops true).wp P Q a w := by
  obtain ⟨SA, h1, h2⟩ := awpD_runs h
  obtain ⟨K, h3, h4, hK⟩ := hq SA h2
  obtain ⟨S1, hr1, hk1⟩ := awpD_runs h3
  obtain ⟨S2, hr2, hk2⟩ := awpD_runs h4
  refine wp_region_any hm ?_
  have hR' : Rel N B S a { w with drawn := w.drawn + 1 } := by
    obtain ⟨hsz, hdf, β, I, hi, htm, hst, hk⟩ := hR
    exact ⟨hsz, hdf, β, I, ⟨hi.imm, hi.blk, hi.live, hi.inj⟩, htm, ⟨hst.os, hst.tape, hst.output, hst.size, hst.frame, hst.mono, hst.fresh, hst.tags⟩, hk⟩
  have hd1 : drawX (fun a b => a == i && b == j) W (A ++ i :: j :: B1) anc1 ops = true := by
    have h := hdr
    simp only [drawT, Bool.and_eq_true] at h
    exact h.1.1
  have hall : ∀ {l : List Nat}, (∀ k ∈ l, k ∈ A ++ i :: j :: B1) → l.filter (fun i => !(Array.replicate ops.size false).getD i true) = l := by
    intro l hl
    apply List.filter_eq_self.2
    intro k hk
    have : k < ops.size := (drawX_mem hd1 k).2 (hl k hk)
    simp [this]
  have hlen : (A ++ i :: j :: B1).length ≤ ops.size := by
    have hd := hd1
    simp only [drawX, Bool.and_eq_true, decide_eq_true_eq] at hd
    exact hd.1.2
  refine runs_two hok hdr hK hk1 hk2 hr1 hr2 ops.size _ S a _ (by simp) ?_ ?_ (by rw [hall (fun _ h => h)]; exact hlen) hR' (by rw [hall (fun _ h => List.mem_append_left _ h)]; exact h1)
  · intro k hk
    have : k < ops.size := (drawX_mem hd1 k).2 (List.mem_append_right _ hk)
    simp [this]
  · intro i o hl
    exfalso
    rw [Array.getD_eq_getD_getElem?, Array.getElem?_replicate] at hl
    split at hl <;> simp at hl
end
end Go.Ai
