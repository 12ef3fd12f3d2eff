/- An interpreter of the language over data, and the proof that what it answers is what the machine does; no condition. -/
import Derived.Test.YtdojjjjhbgkpfaaAiS9
import Derived.MapKept
import Derived.Maps.RangeRun
set_option linter.unusedVariables false
set_option linter.unusedSimpArgs false
namespace Go.Ai
/-! ## Maps -/
/-- Are two keys one? -/
def akeq (P : Program) (kt : TypeId) (x y : V) : Option Bool :=
  match isAgg P kt, x, y with
  | some true, .agg xs, .agg ys => (leafK P 20 kt).bind fun ks => eqCells ks xs ys
  | some false, .s a, .s b => (leafK P 20 kt).bind fun ks => eqCells ks [.s a] [.s b]
  | _, _, _ => none
def afind (P : Program) (kt : TypeId) (key : V) : List (V × V × Nat) → Option (Option Nat)
  | [] => some none
  | e :: es => match akeq P kt key e.1 with
    | none => none
    | some b => (afind P kt key es).map fun r => if b then some 0 else r.map (· + 1)
def mapOf (P : Program) (t : TypeId) : Option (TypeId × TypeId) :=
  match P.underlying t with
  | some (.map k e) => some (k, e)
  | _ => none
/-- What is found behind a key. -/
def alookup (P : Program) (σ : List Blk) (t : TypeId) (x key : V) : Option (V × Bool) :=
  match mapOf P t with
  | some (kt, et) => if (akeq P kt key key).isSome = true then match x with
      | .s (.map none) => (zeroV P et).map fun z => (z, false)
      | .mref m => match σ[m]? with
        | some (.mp es _) => match afind P kt key es with
          | some (some i) => (es[i]?).map fun e => (e.2.1, true)
          | some none => (zeroV P et).map fun z => (z, false)
          | none => none
        | _ => none
      | _ => none
    else none
  | none => none
def aupdate (P : Program) (σ : List Blk) (t : TypeId) (x key val : V) : Option (List Blk) :=
  match mapOf P t with
  | some (kt, _) => if (akeq P kt key key).isSome = true then match x with
      | .mref m => match σ[m]? with
        | some (.mp es clock) => match afind P kt key es with
          | some (some i) => (es[i]?).map fun e => σ.set m (.mp (es.set i (key, val, e.2.2)) clock)
          | some none => some (σ.set m (.mp (es ++ [(key, val, clock)]) (clock + 1)))
          | none => none
        | _ => none
      | _ => none
    else none
  | none => none
def adelete (P : Program) (σ : List Blk) (t : TypeId) (x key : V) : Option (List Blk) :=
  match mapOf P t with
  | some (kt, _) => if (akeq P kt key key).isSome = true then match x with
      | .s (.map none) => some σ
      | .mref m => match σ[m]? with
        | some (.mp es clock) => match afind P kt key es with
          | some (some i) => some (σ.set m (.mp (es.eraseIdx i) clock))
          | some none => some σ
          | none => none
        | _ => none
      | _ => none
    else none
  | none => none
def amlen (P : Program) (σ : List Blk) (t : TypeId) (x : V) : Option Nat :=
  match mapOf P t, x with
  | some _, .s (.map none) => some 0
  | some _, .mref m => match σ[m]? with
    | some (.mp es _) => some es.length
    | _ => none
  | _, _ => none
def arange (P : Program) (σ : List Blk) (t : TypeId) (x : V) : Option Blk :=
  match mapOf P t, x with
  | some _, .s (.map none) => some (.it none 0 [] 0)
  | some _, .mref m => match σ[m]? with
    | some (.mp es clock) => some (.it (some m) clock [] clock)
    | _ => none
  | _, _ => none
def ameq (P : Program) (t : TypeId) (x y : V) : Option Bool :=
  match mapOf P t, x, y with
  | some _, .s (.map none), .s (.map none) => some true
  | some _, .mref _, .s (.map none) => some false
  | some _, .s (.map none), .mref _ => some false
  | _, _, _ => none
/-- The operations on maps that let no order open. -/
def amap (P : Program) (ev : Operand → V) (σ : List Blk) (o : Oper) : Option (V × List Blk × List Nat) :=
  match o.op with
  | .makeMap t none => some (.mref σ.length, σ ++ [.mp [] 0], [])
  | .makeMap t (some r) => match mapOf P t, ev r with
    | some _, .s (.int _ _) => some (.mref σ.length, σ ++ [.mp [] 0], [])
    | _, _ => none
  | .lookup t x ix ok => (alookup P σ t (ev x) (ev ix)).map fun (v, b) => (if ok then .tuple [v, .s (.bool b)] else v, σ, [])
  | .mapUpdate t m k x => (aupdate P σ t (ev m) (ev k) (ev x)).map fun σ' => (.undef, σ', [])
  | .insert t m k x => (aupdate P σ t (ev m) (ev k) (ev x)).map fun σ' => (.undef, σ', [])
  | .range t x => (arange P σ t (ev x)).map fun k => (.ptr σ.length 0 0, σ ++ [k], [])
  | .binOp .eql t x y _ => (ameq P t (ev x) (ev y)).map fun b => (.s (.bool b), σ, [])
  | .binOp .neq t x y _ => (ameq P t (ev x) (ev y)).map fun b => (.s (.bool !b), σ, [])
  | .call c => match c.callee, c.argTypes.toList, c.args.toList.map ev with
    | .builtin .len, [t], [x] => (amlen P σ t x).map fun n => (.s (.int .i64 n), σ, [])
    | .builtin .delete, t :: _, [x, k] => (adelete P σ t x k).map fun σ' => (.tuple [], σ', [])
    | _, _, _ => none
  | _ => none
section
variable {P : Program} {β : Nat → Option BV} {I : Imm} {w : World} {σ : List Blk}
theorem run_gm {r : Nat} {es : Array MapEntry} {clock : Nat} (hb : w.heap[r]? = some (.map es clock)) : (getObj r).run P w = .ok (.map es clock) w := by
  simp [getObj, Sem.run, hb]
theorem run_sm {r : Nat} {es : Array MapEntry} {clock : Nat} (o : Obj) (hb : w.heap[r]? = some (.map es clock)) : (setObj r o).run P w = .ok () { w with heap := w.heap.setIfInBounds r o } := by
  simp [setObj, Sem.run, hb]
theorem mapOf_und {t k e : TypeId} (h : mapOf P t = some (k, e)) : P.underlying t = some (.map k e) := by
  unfold mapOf at h
  split at h
  · simp at h; obtain ⟨rfl, rfl⟩ := h; assumption
  · simp at h
theorem akeq_vals {kt : TypeId} {x y : V} {c d : Value} {b : Bool} (h : akeq P kt x y = some b) (hx : VR β I x c) (hy : VR β I y d) :
    ∃ ks l1 l2, leafK P 20 kt = some ks ∧ eqVals ks l1 l2 = some b ∧ (isAgg P kt = some true ∨ ∃ c', l1 = [c']) ∧ c = mkVal P kt l1 ∧ d = mkVal P kt l2 := by
  unfold akeq at h
  split at h
  · rename_i xs ys ha
    simp only [Option.bind_eq_some_iff] at h
    obtain ⟨ks, hk, he⟩ := h
    simp only [VR] at hx hy
    obtain ⟨cs, rfl, hx⟩ := hx
    obtain ⟨ds, rfl, hy⟩ := hy
    exact ⟨ks, cs.toList, ds.toList, hk, eqCells_vals he hx hy, .inl ha, by simp [mkVal, ha], by simp [mkVal, ha]⟩
  · rename_i a b ha
    simp only [Option.bind_eq_some_iff] at h
    obtain ⟨ks, hk, he⟩ := h
    refine ⟨ks, [c], [d], hk, eqCells_vals he (by simp only [VRs]; exact ⟨hx, trivial⟩) (by simp only [VRs]; exact ⟨hy, trivial⟩), .inr ⟨c, rfl⟩, by simp [mkVal, ha], by simp [mkVal, ha]⟩
  · simp at h
theorem keq_sound {kt : TypeId} {x y : V} {c d : Value} {b : Bool} (h : akeq P kt x y = some b) (hx : VR β I x c) (hy : VR β I y d) (w : World) : (Op.equal kt c d).run P w = .ok b w := by
  obtain ⟨ks, l1, l2, hk, he, hone, rfl, rfl⟩ := akeq_vals h hx hy
  exact equalIn_sound 20 kt ks hk 10000 (by omega) w _ _ b he
theorem eqVal_same {k : LK} {x y : Value} (h : eqVal k x y = some true) : x = y := by
  unfold eqVal at h
  split at h
  · split at h <;> simp_all
  · simpa using h
  · rename_i a b
    simp only [Option.some.injEq, beq_iff_eq] at h
    congr 1
    rw [ByteArray.toList_eq, ByteArray.toList_eq] at h
    exact ByteArray.ext (Array.toList_inj.1 h)
  · simp at h
theorem eqVals_same : ∀ {ks : List LK} {xs ys : List Value}, eqVals ks xs ys = some true → xs = ys
  | [], [], [], _ => rfl
  | k :: ks, x :: xs, y :: ys, h => by
    simp only [eqVals] at h
    split at h
    · rename_i a b h1 h2
      simp only [Option.some.injEq, Bool.and_eq_true] at h
      obtain ⟨rfl, rfl⟩ := h
      rw [eqVal_same h1, eqVals_same h2]
    · simp at h
  | [], _ :: _, _, h => by simp [eqVals] at h
  | [], [], _ :: _, h => by simp [eqVals] at h
  | _ :: _, [], _, h => by simp [eqVals] at h
  | _ :: _, _ :: _, [], h => by simp [eqVals] at h
theorem sameBits_val {k : LK} {x : Value} {b : Bool} (h : eqVal k x x = some b) (n : Nat) : Instr.sameBits n x x = true := by
  unfold eqVal at h
  split at h
  · simp_all [Instr.sameBits]
  · simp_all [Instr.sameBits]
  · simp_all [Instr.sameBits, beq_toListBytes]
  · simp at h
theorem eqVals_all : ∀ {ks : List LK} {xs : List Value} {b : Bool}, eqVals ks xs xs = some b → ∀ n, (xs.zip xs).all (fun p => Instr.sameBits n p.1 p.2) = true
  | [], [], _, _, n => rfl
  | k :: ks, x :: xs, b, h, n => by
    simp only [eqVals] at h
    split at h
    · rename_i a a' h1 h2
      simp only [List.zip_cons_cons, List.all_cons, Bool.and_eq_true]
      exact ⟨sameBits_val h1 n, eqVals_all h2 n⟩
    · simp at h
  | [], _ :: _, _, h, _ => by simp [eqVals] at h
  | _ :: _, [], _, h, _ => by simp [eqVals] at h
/-- Two keys that are one are the same value, bit for bit. -/
theorem keq_same {kt : TypeId} {x y : V} {c d : Value} (h : akeq P kt x y = some true) (hx : VR β I x c) (hy : VR β I y d) : c = d ∧ Instr.sameBits 10000 c c = true := by
  obtain ⟨ks, l1, l2, hk, he, hone, rfl, rfl⟩ := akeq_vals h hx hy
  have e := eqVals_same he
  subst e
  refine ⟨rfl, ?_⟩
  unfold mkVal
  split
  · simp only [Instr.sameBits, beq_self_eq_true, Bool.true_and]
    exact eqVals_all he _
  · rename_i hna
    rcases hone with hone | ⟨c', rfl⟩
    · exact (hna hone).elim
    match ks, he with
    | k :: ks, he =>
      simp only [eqVals] at he
      split at he
      · rename_i a b h1 h2
        exact sameBits_val h1 _
      · simp at he
theorem leafKs_len {m : Nat} : ∀ (fs : List Field) (o n : Nat) (ks : List LK), leafKs P m fs = some ks → tiles P o fs = some n → o + ks.length = n := by
  intro fs
  induction fs with
  | nil => intro o n ks h1 h2; simp [leafKs] at h1; subst h1; simp [tiles] at h2; simp [h2]
  | cons f fs ih =>
    intro o n ks h1 h2
    simp only [leafKs] at h1
    split at h1
    · rename_i l ls e1 e2
      split at h1
      · rename_i hl
        simp at h1
        subst h1
        simp only [tiles] at h2
        split at h2
        · have := ih _ _ _ e2 h2
          simp [hl]
          omega
        · simp at h2
      · simp at h1
    · simp at h1
/-! ### A key is hashed -/
def CkP (P : Program) (em : Bool) (t : TypeId) (ks : List LK) (d : Nat) : Prop :=
  ∀ (w : World) (l : List Value) (b : Bool), eqVals ks l l = some b → (Instr.checkKey em d t (mkVal P t l)).run P w = .ok () w
theorem checkKey_sound (em : Bool) : ∀ (m : Nat) (t : TypeId) (ks : List LK), leafK P m t = some ks → ∀ d, m ≤ d → CkP P em t ks d
  | 0, t, ks, h, _, _ => by simp [leafK] at h
  | m + 1, t, ks, h, d, hd => by
    obtain ⟨d, rfl⟩ : ∃ e, d = e + 1 := ⟨d - 1, by omega⟩
    intro w l b he
    have hlen := (eqVals_len he).1
    simp only [leafK] at h
    split at h
    · rename_i hu
      simp [Instr.checkKey, run_und hu]
    · rename_i hu
      simp [Instr.checkKey, run_und hu]
    · rename_i hu
      simp [Instr.checkKey, run_und hu]
    · rename_i fs hu
      split at h
      · rename_i hc
        have ha : isAgg P t = some true := by simp [isAgg, hu]
        simp only [mkVal, ha, Instr.checkKey, Sem.run_bind, run_und hu, Result.andThen_ok]
        rw [← Array.forIn_toList]
        have key : ∀ (L : List Field) (ks : List LK) (o n : Nat) (b : Bool), leafKs P m L = some ks → tiles P o L = some n → n = l.length → eqVals ks (l.drop o) (l.drop o) = some b →
            (forIn L PUnit.unit fun f (r : PUnit) => do
              if f.name ≠ "_" then
                Instr.checkKey em d f.type (← Go.part f.type l.toArray f.offset)
                pure (ForInStep.yield PUnit.unit)
              else pure (ForInStep.yield PUnit.unit) : Sem PUnit).run P w = .ok PUnit.unit w := by
          intro L
          induction L with
          | nil => intro ks o n b _ _ _ _; simp
          | cons f L ih =>
            intro ks o n b hk ht hn he
            simp only [leafKs] at hk
            split at hk
            · rename_i l1 ls h1 h2
              split at hk
              · rename_i hl1
                simp at hk
                subst hk
                simp only [tiles] at ht
                split at ht
                · rename_i hf
                  obtain ⟨hfo, hname⟩ := hf
                  obtain ⟨b1, b2, e1, e2, _⟩ := eqVals_append he
                  rw [hl1] at e1 e2
                  obtain ⟨dd, hdd⟩ := leafK_und h1
                  have le1 := (eqVals_len e1).1
                  simp at le1
                  have p1 : (Go.part f.type l.toArray f.offset).run P w = .ok (mkVal P f.type ((l.drop o).take (P.cellsOf f.type))) w := by
                    have := mkVal_part (xs := l.toArray) (o := f.offset) hdd w (fun h => by simp; rw [hfo]; omega) (leafK_one h1)
                    simpa [hfo] using this
                  have p2 := checkKey_sound em m f.type l1 h1 d (by omega) w _ b1 e1
                  rw [List.drop_drop] at e2
                  simp only [List.forIn_cons, hname, ne_eq, not_false_eq_true, if_true, Sem.run_bind, p1, p2, Result.andThen_ok, Sem.run_pure]
                  exact ih ls _ n b2 h2 ht hn e2
                · simp at ht
              · simp at hk
            · simp at hk
        have hn := leafKs_len _ _ _ _ h hc.2
        have := key fs.toList ks 0 (P.cellsOf t) b h hc.2 (by omega) (by simpa using he)
        simp only [ne_eq, ite_not, bind_pure_comp] at this ⊢
        rw [this]
        rfl
      · simp at h
    · rename_i n e hu
      split at h
      · rename_i l1 hl
        split at h
        · rename_i hc
          simp at h
          subst h
          have ha : isAgg P t = some true := by simp [isAgg, hu]
          simp only [mkVal, ha, Instr.checkKey, Sem.run_bind, run_und hu, Result.andThen_ok]
          obtain ⟨dd, hde⟩ := leafK_und hl
          simp only [Std.Legacy.Range.forIn_eq_forIn_range', Std.Legacy.Range.size, Nat.sub_zero, Nat.add_one_sub_one, Nat.div_one]
          have key : ∀ (n i : Nat) (b : Bool), eqVals (List.replicate n l1).flatten (l.drop (i * P.cellsOf e)) (l.drop (i * P.cellsOf e)) = some b →
              (forIn (List.range' i n) PUnit.unit fun i (r : PUnit) => do
                Instr.checkKey em d e (← Go.part e l.toArray (i * (← sizeOf e)))
                pure (ForInStep.yield PUnit.unit) : Sem PUnit).run P w = .ok PUnit.unit w := by
            intro n
            induction n with
            | zero => intro i b _; simp
            | succ n ih =>
              intro i b he
              simp only [List.replicate_succ, List.flatten_cons] at he
              obtain ⟨b1, b2, e1, e2, _⟩ := eqVals_append he
              rw [hc.1] at e1 e2
              have le1 := (eqVals_len e1).1
              simp at le1
              have p1 : (Go.part e l.toArray (i * P.cellsOf e)).run P w = .ok (mkVal P e ((l.drop (i * P.cellsOf e)).take (P.cellsOf e))) w := by
                have := mkVal_part (xs := l.toArray) (o := i * P.cellsOf e) hde w (fun h => by simp; omega) (leafK_one hl)
                simpa using this
              have p2 := checkKey_sound em m e l1 hl d (by omega) w _ b1 e1
              rw [List.drop_drop, show i * P.cellsOf e + P.cellsOf e = (i + 1) * P.cellsOf e by rw [Nat.add_mul]; omega] at e2
              simp only [List.range', List.forIn_cons, Sem.run_bind, run_siz hde, p1, p2, Result.andThen_ok, Sem.run_pure]
              exact ih (i + 1) b2 e2
          have := key n 0 b (by simpa using he)
          simp only [bind_pure_comp] at this ⊢
          rw [this]
          rfl
        · simp at h
      · simp at h
    · simp at h
theorem check_sound {kt : TypeId} {x : V} {c : Value} (em : Bool) (h : (akeq P kt x x).isSome = true) (hx : VR β I x c) (w : World) : (Instr.checkKey em 10000 kt c).run P w = .ok () w := by
  obtain ⟨b, h⟩ := Option.isSome_iff_exists.1 h
  have key : ∃ ks l, leafK P 20 kt = some ks ∧ eqVals ks l l = some b ∧ c = mkVal P kt l := by
    cases x with
    | agg xs =>
      unfold akeq at h
      cases ha : isAgg P kt with
      | none => simp [ha] at h
      | some t =>
        cases t with
        | false => simp [ha] at h
        | true =>
          simp only [ha, Option.bind_eq_some_iff] at h
          obtain ⟨ks, hk, he⟩ := h
          simp only [VR] at hx
          obtain ⟨cs, rfl, hx⟩ := hx
          exact ⟨ks, cs.toList, hk, eqCells_vals he hx hx, by simp [mkVal, ha]⟩
    | s a =>
      unfold akeq at h
      cases ha : isAgg P kt with
      | none => simp [ha] at h
      | some t =>
        cases t with
        | true => simp [ha] at h
        | false =>
          simp only [ha, Option.bind_eq_some_iff] at h
          obtain ⟨ks, hk, he⟩ := h
          exact ⟨ks, [c], hk, eqCells_vals he (by simp only [VRs]; exact ⟨hx, trivial⟩) (by simp only [VRs]; exact ⟨hx, trivial⟩), by simp [mkVal, ha]⟩
    | _ => unfold akeq at h; cases ha : isAgg P kt with
      | none => simp [ha] at h
      | some t => cases t <;> simp [ha] at h
  obtain ⟨ks, l, hk, he, rfl⟩ := key
  exact checkKey_sound em 20 kt ks hk 10000 (by omega) w _ b he
/-! ### A key is looked for -/
theorem EsR.length : ∀ {es : List (V × V × Nat)} {cs : List MapEntry}, EsR β I es cs → cs.length = es.length
  | [], [], _ => rfl
  | _ :: es, _ :: cs, h => by simp only [EsR] at h; simp [EsR.length h.2]
  | [], _ :: _, h => by simp [EsR] at h
  | _ :: _, [], h => by simp [EsR] at h
theorem EsR.get : ∀ {es : List (V × V × Nat)} {cs : List MapEntry} {i : Nat} {e : V × V × Nat}, EsR β I es cs → es[i]? = some e → ∃ c, cs[i]? = some c ∧ VR β I e.1 c.key ∧ VR β I e.2.1 c.val ∧ c.born = e.2.2
  | e0 :: es, c :: cs, 0, e, h, he => by
    simp only [EsR] at h
    simp at he
    subst he
    exact ⟨c, rfl, h.1⟩
  | e0 :: es, c :: cs, i + 1, e, h, he => by
    simp only [EsR] at h
    simpa using EsR.get h.2 (by simpa using he)
  | [], _, _, _, _, he => by simp at he
  | _ :: _, [], _, _, h, _ => by simp [EsR] at h
theorem EsR.set : ∀ {es : List (V × V × Nat)} {cs : List MapEntry} {i : Nat} {k v : V} {n : Nat} {c : MapEntry}, EsR β I es cs → VR β I k c.key → VR β I v c.val → c.born = n → EsR β I (es.set i (k, v, n)) (cs.set i c)
  | [], [], i, k, v, n, c, _, _, _, _ => by simp [EsR]
  | e0 :: es, c0 :: cs, 0, k, v, n, c, h, h1, h2, h3 => by
    simp only [EsR] at h
    simp only [List.set_cons_zero, EsR]
    exact ⟨⟨h1, h2, h3⟩, h.2⟩
  | e0 :: es, c0 :: cs, i + 1, k, v, n, c, h, h1, h2, h3 => by
    simp only [EsR] at h
    simp only [List.set_cons_succ, EsR]
    exact ⟨h.1, EsR.set h.2 h1 h2 h3⟩
  | [], _ :: _, _, _, _, _, _, h, _, _, _ => by simp [EsR] at h
  | _ :: _, [], _, _, _, _, _, h, _, _, _ => by simp [EsR] at h
theorem EsR.app : ∀ {es : List (V × V × Nat)} {cs : List MapEntry} {k v : V} {n : Nat} {c : MapEntry}, EsR β I es cs → VR β I k c.key → VR β I v c.val → c.born = n → EsR β I (es ++ [(k, v, n)]) (cs ++ [c])
  | [], [], k, v, n, c, _, h1, h2, h3 => by simp only [List.nil_append, EsR]; exact ⟨⟨h1, h2, h3⟩, trivial⟩
  | e0 :: es, c0 :: cs, k, v, n, c, h, h1, h2, h3 => by
    simp only [EsR] at h
    simp only [List.cons_append, EsR]
    exact ⟨h.1, EsR.app h.2 h1 h2 h3⟩
  | [], _ :: _, _, _, _, _, h, _, _, _ => by simp [EsR] at h
  | _ :: _, [], _, _, _, _, h, _, _, _ => by simp [EsR] at h
theorem EsR.erase : ∀ {es : List (V × V × Nat)} {cs : List MapEntry} {i : Nat}, EsR β I es cs → EsR β I (es.eraseIdx i) (cs.eraseIdx i)
  | [], [], i, _ => by simp [EsR]
  | e0 :: es, c0 :: cs, 0, h => by simp only [EsR] at h; simpa using h.2
  | e0 :: es, c0 :: cs, i + 1, h => by
    simp only [EsR] at h
    simp only [List.eraseIdx_cons_succ, EsR]
    exact ⟨h.1, EsR.erase h.2⟩
  | [], _ :: _, _, h => by simp [EsR] at h
  | _ :: _, [], _, h => by simp [EsR] at h
theorem findAsking_sound {kt : TypeId} {key : V} {c : Value} (hx : VR β I key c) (w : World) : ∀ (es : List (V × V × Nat)) (cs : List MapEntry) (r : Option Nat) (i : Nat), afind P kt key es = some r → EsR β I es cs →
    (Instr.findAsking kt c cs i).run P w = .ok (r.bind fun j => (cs[j]?).map fun e => (i + j, e.val)) w
  | [], [], r, i, h, _ => by simp [afind] at h; subst h; simp [Instr.findAsking]
  | e :: es, d :: cs, r, i, h, hr => by
    simp only [EsR] at hr
    simp only [afind] at h
    split at h
    · simp at h
    · rename_i b hb
      simp only [Option.map_eq_some_iff] at h
      obtain ⟨r', hr', rfl⟩ := h
      have e1 := keq_sound hb hx hr.1.1 w
      have ih := findAsking_sound hx w es cs r' (i + 1) hr' hr.2
      simp only [Instr.findAsking, Sem.run_bind, e1, Result.andThen_ok]
      cases b with
      | true => simp
      | false =>
        simp only [Bool.false_eq_true, if_false]
        rw [ih]
        cases r' with
        | none => rfl
        | some j =>
          simp only [Option.bind_some, Option.map_some, List.getElem?_cons_succ]
          rw [show i + 1 + j = i + (j + 1) by omega]
  | [], _ :: _, _, _, _, h => by simp [EsR] at h
  | _ :: _, [], _, _, _, h => by simp [EsR] at h
theorem sameNow_equal {kt : TypeId} {d : TypeDesc} (hd : P.underlying kt = some d) {c e : Value} {b : Bool} (h : Instr.sameNow d c e = some b) (w : World) : (Op.equal kt c e).run P w = .ok b w := by
  unfold Instr.sameNow at h
  split at h
  · split at h
    · rename_i hk
      simp at h
      subst h
      subst hk
      show (Op.equalIn (9999 + 1) kt _ _).run P w = _
      rw [run_equalIn_int w 9999 kt _ _ _ _ hd]
    · simp at h
  · simp at h
    subst h
    show (Op.equalIn (9999 + 1) kt _ _).run P w = _
    rw [run_equalIn_string w 9999 kt _ _ hd, beq_toListBytes]
  · simp at h
    subst h
    show (Op.equalIn (9999 + 1) kt _ _).run P w = _
    rw [run_equalIn_bool w 9999 kt _ _ hd]
  · simp at h
theorem findNow_sound {kt : TypeId} {d : TypeDesc} (hd : P.underlying kt = some d) {key : V} {c : Value} (hx : VR β I key c) (w : World) : ∀ (es : List (V × V × Nat)) (cs : List MapEntry) (r : Option Nat) (i : Nat) (x : Option (Nat × Value)), afind P kt key es = some r → EsR β I es cs →
    Instr.findNow d c cs i = some x → x = (r.bind fun j => (cs[j]?).map fun e => (i + j, e.val))
  | [], [], r, i, x, h, _, hn => by simp [afind] at h; subst h; simp [Instr.findNow] at hn; simp [← hn]
  | e :: es, d' :: cs, r, i, x, h, hr, hn => by
    simp only [EsR] at hr
    simp only [afind] at h
    split at h
    · simp at h
    · rename_i b hb
      simp only [Option.map_eq_some_iff] at h
      obtain ⟨r', hr', rfl⟩ := h
      have e1 := keq_sound hb hx hr.1.1 w
      simp only [Instr.findNow] at hn
      split at hn
      · rename_i hs
        have e2 := sameNow_equal hd hs w
        rw [e1] at e2
        simp at e2
        subst e2
        simp at hn
        simp [← hn]
      · rename_i hs
        have e2 := sameNow_equal hd hs w
        rw [e1] at e2
        simp at e2
        subst e2
        have ih := findNow_sound hd hx w es cs r' (i + 1) x hr' hr.2 hn
        simp only [Bool.false_eq_true, if_false]
        rw [ih]
        cases r' with
        | none => rfl
        | some j =>
          simp only [Option.bind_some, Option.map_some, List.getElem?_cons_succ]
          rw [show i + 1 + j = i + (j + 1) by omega]
      · simp at hn
  | [], _ :: _, _, _, _, _, h, _ => by simp [EsR] at h
  | _ :: _, [], _, _, _, _, h, _ => by simp [EsR] at h
theorem findKey_sound {kt : TypeId} {key : V} {c : Value} (hx : VR β I key c) (w : World) {es : List (V × V × Nat)} {cs : List MapEntry} {r : Option Nat} (hu : ∃ d, P.underlying kt = some d) (h : afind P kt key es = some r) (hr : EsR β I es cs) :
    (Instr.findKey kt c cs).run P w = .ok (r.bind fun j => (cs[j]?).map fun e => (j, e.val)) w := by
  obtain ⟨d, hd⟩ := hu
  unfold Instr.findKey
  simp only [Sem.run_bind, run_und hd, Result.andThen_ok]
  split
  · rename_i x hn
    have := findNow_sound hd hx w es cs r 0 x h hr hn
    simp [this]
  · have := findAsking_sound hx w es cs r 0 h hr
    simpa using this
theorem akeq_und {kt : TypeId} {x y : V} (h : (akeq P kt x y).isSome = true) : ∃ d, P.underlying kt = some d := by
  unfold akeq at h
  cases ha : isAgg P kt with
  | none => simp [ha] at h
  | some t => exact und_of_isAgg ha
/-! ### The operations -/
theorem Inv.mp (hi : Inv β I σ w) {m : Nat} {es : List (V × V × Nat)} {clock : Nat} (hm : σ[m]? = some (.mp es clock)) : ∃ b cs, β m = some (.real ⟨b, 1, 0⟩) ∧ w.heap[b]? = some (.map cs clock) ∧ EsR β I es cs.toList := by
  have := hi.blk m _ hm
  simpa only [BlkR] using this
theorem alookup_sound (hi : Inv β I σ w) {t : TypeId} {x key v : V} {b ok : Bool} {c d : Value} (h : alookup P σ t x key = some (v, b)) (hx : VR β I x c) (hk : VR β I key d) :
    ∃ r, (Instr.lookup t c d ok).run P w = .ok r w ∧ VR β I (if ok then .tuple [v, .s (.bool b)] else v) r := by
  unfold alookup at h
  split at h
  · rename_i kt et hmo
    have hu := mapOf_und hmo
    split at h
    · rename_i hok
      have hund := akeq_und hok
      have fin : ∀ (es : Array MapEntry) (u : Value) (bb : Bool) (r : Option (Nat × Value)), (∃ m : Sem (Array MapEntry), True) → VR β I v u → bb = b →
          VR β I (if ok then .tuple [v, .s (.bool b)] else v) (if ok then .tuple #[u, .bool bb] else u) := by
        intro es u bb r _ h1 h2
        subst h2
        cases ok with
        | true => simp only [if_true, VR]; exact ⟨_, rfl, by simp [VRs, VR, scalar, h1]⟩
        | false => simpa using h1
      split at h
      · simp only [Option.map_eq_some_iff, Prod.mk.injEq] at h
        obtain ⟨z, hz, rfl, rfl⟩ := h
        simp only [VR] at hx
        obtain ⟨rfl, _⟩ := hx
        obtain ⟨zc, h1, h2, _⟩ := zeroV_run hz w
        have hck := check_sound true hok hk w
        refine ⟨if ok then .tuple #[zc, .bool false] else zc, ?_, fin #[] zc false none ⟨Pure.pure #[], trivial⟩ h2 rfl⟩
        simp [Instr.lookup, run_und hu, hck, Instr.findKey, run_und hund.choose_spec, Instr.findNow, h1]
      · rename_i m
        split at h
        · rename_i es clock hm
          obtain ⟨bb, cs, h1, h2, h3⟩ := hi.mp hm
          simp only [VR] at hx
          obtain ⟨y, hy, rfl⟩ := hx
          rw [h1] at hy
          cases hy
          have hck := check_sound cs.isEmpty hok hk w
          split at h
          · rename_i i hf
            simp only [Option.map_eq_some_iff, Prod.mk.injEq] at h
            obtain ⟨e, he, rfl, rfl⟩ := h
            obtain ⟨ce, g1, g2, g3, g4⟩ := h3.get he
            have hfk := findKey_sound hk w hund hf h3
            simp only [Option.bind_some, g1, Option.map_some] at hfk
            refine ⟨if ok then .tuple #[ce.val, .bool true] else ce.val, ?_, fin #[] ce.val true none ⟨Pure.pure #[], trivial⟩ g3 rfl⟩
            simp [Instr.lookup, run_und hu, run_gm h2, hck, hfk]
          · rename_i hf
            simp only [Option.map_eq_some_iff, Prod.mk.injEq] at h
            obtain ⟨z, hz, rfl, rfl⟩ := h
            obtain ⟨zc, g1, g2, _⟩ := zeroV_run hz w
            have hfk := findKey_sound hk w hund hf h3
            simp only [Option.bind_none] at hfk
            refine ⟨if ok then .tuple #[zc, .bool false] else zc, ?_, fin #[] zc false none ⟨Pure.pure #[], trivial⟩ g2 rfl⟩
            simp [Instr.lookup, run_und hu, run_gm h2, hck, hfk, g1]
          · simp at h
        · simp at h
      · simp at h
    · simp at h
  · simp at h
theorem eqIn_map {t k e : TypeId} {d : Nat} (hu : P.underlying t = some (.map k e)) {m : Option Nat} : (Op.equalIn (d + 1) t (.map none) (.map m)).run P w = .ok m.isNone w := by
  cases m <;> simp [Op.equalIn, run_und hu]
theorem eqIn_map' {t k e : TypeId} {d : Nat} (hu : P.underlying t = some (.map k e)) {m : Nat} : (Op.equalIn (d + 1) t (.map (some m)) (.map none)).run P w = .ok false w := by
  simp [Op.equalIn, run_und hu]
/-- The world with one object in the place of another. -/
theorem setIdx_other (w : World) (b : Nat) (o : Obj) {b' : Nat} (h : b' ≠ b) : ({ w with heap := w.heap.setIfInBounds b o } : World).heap[b']? = w.heap[b']? := by
  simp only [Array.getElem?_setIfInBounds]
  rw [if_neg (Ne.symm h)]
theorem setIdx_self (w : World) (b : Nat) (o : Obj) (h : b < w.heap.size) : ({ w with heap := w.heap.setIfInBounds b o } : World).heap[b]? = some o := by
  simp [Array.getElem?_setIfInBounds, h]
theorem map_set (hi : Inv β I σ w) {m b : Nat} {cs : Array MapEntry} {clock : Nat} (hb : β m = some (.real ⟨b, 1, 0⟩)) (hh : w.heap[b]? = some (.map cs clock)) {es' : List (V × V × Nat)} {cs' : Array MapEntry} {clock' : Nat} (hr : EsR β I es' cs'.toList) :
    Inv β I (σ.set m (.mp es' clock')) { w with heap := w.heap.setIfInBounds b (.map cs' clock') } ∧ Step β I w β I { w with heap := w.heap.setIfInBounds b (.map cs' clock') } := by
  have hlt : b < w.heap.size := (Array.getElem?_eq_some_iff.1 hh).1
  refine ⟨hi.upd hb (by simp) (fun b' _ hne => setIdx_other w b _ hne) (fun o v hv => ?_) _ ?_, Step.upd hb rfl rfl rfl (by simp) (fun b' _ hne => setIdx_other w b _ hne)⟩
  · have := hi.imm _ _ _ hv
    simp [World.cell?, hh] at this
  · simp only [BlkR]
    exact ⟨b, cs', hb, setIdx_self w b _ hlt, hr⟩
theorem aupdate_sound (hi : Inv β I σ w) {t : TypeId} {x key val : V} {σ' : List Blk} {c d e : Value} (h : aupdate P σ t x key val = some σ') (hx : VR β I x c) (hk : VR β I key d) (hv : VR β I val e) :
    ∃ w', (Instr.mapUpdate t c d e).run P w = .ok () w' ∧ Inv β I σ' w' ∧ Step β I w β I w' := by
  unfold aupdate at h
  split at h
  · rename_i kt et hmo
    have hu := mapOf_und hmo
    split at h
    · rename_i hok
      have hund := akeq_und hok
      have hck := check_sound false hok hk w
      split at h
      · rename_i m
        split at h
        · rename_i es clock hm
          obtain ⟨bb, cs, h1, h2, h3⟩ := hi.mp hm
          simp only [VR] at hx
          obtain ⟨y, hy, rfl⟩ := hx
          rw [h1] at hy
          cases hy
          split at h
          · rename_i i hf
            simp only [Option.map_eq_some_iff] at h
            obtain ⟨en, he, rfl⟩ := h
            obtain ⟨ce, g1, g2, g3, g4⟩ := h3.get he
            have hfk := findKey_sound hk w hund hf h3
            simp only [Option.bind_some, g1, Option.map_some] at hfk
            have hkk : akeq P kt key en.1 = some true := by
              have : ∀ (es : List (V × V × Nat)) (i : Nat) (en : V × V × Nat), afind P kt key es = some (some i) → es[i]? = some en → akeq P kt key en.1 = some true := by
                intro es
                induction es with
                | nil => intro i en h; simp [afind] at h
                | cons e0 es ih =>
                  intro i en h hen
                  simp only [afind] at h
                  split at h
                  · simp at h
                  · rename_i b hb
                    simp only [Option.map_eq_some_iff] at h
                    obtain ⟨r', hr', h⟩ := h
                    cases b with
                    | true => simp at h; subst h; simp at hen; subst hen; exact hb
                    | false =>
                      simp at h
                      obtain ⟨j, rfl, rfl⟩ := h
                      exact ih j en hr' (by simpa using hen)
              exact this es i en hf he
            obtain ⟨e1, e2⟩ := keq_same hkk hk g2
            have g1' : cs[i]? = some ce := by rw [← Array.getElem?_toList]; exact g1
            have hil : i < cs.size := (Array.getElem?_eq_some_iff.1 g1').1
            have hcei : cs[i] = ce := by simpa [hil] using g1'
            obtain ⟨i1, s1⟩ := map_set hi h1 h2 (es' := es.set i (key, val, en.2.2)) (cs' := cs.modify i fun x => { x with key := d, val := e }) (clock' := clock) (by
              have : (cs.modify i fun x => { x with key := d, val := e }).toList = cs.toList.set i { ce with key := d, val := e } := by
                rw [Array.toList_modify]
                apply List.ext_getElem?
                intro j
                have hil' : i < cs.toList.length := (List.getElem?_eq_some_iff.1 g1).1
                by_cases hj : i = j
                · subst hj
                  rw [List.getElem?_modify, List.getElem?_set_self hil', g1]
                  simp
                · rw [List.getElem?_modify, List.getElem?_set_ne hj]
                  simp [hj]
              rw [this]
              exact EsR.set h3 hk hv g4)
            refine ⟨_, ?_, i1, s1⟩
            have hkey : (Instr.keyThatStays d d).run P w = .ok d w := by
              simp [Instr.keyThatStays, e2]
            simp only [Instr.mapUpdate, Sem.run_bind, run_und hu, Result.andThen_ok, run_gm h2, hck, hfk, g1', Option.map_some, Option.getD_some, ← e1, hkey]
            exact run_sm _ h2
          · rename_i hf
            simp only [Option.some.injEq] at h
            subst h
            have hfk := findKey_sound hk w hund hf h3
            simp only [Option.bind_none] at hfk
            obtain ⟨i1, s1⟩ := map_set hi h1 h2 (es' := es ++ [(key, val, clock)]) (cs' := cs.push { key := d, val := e, born := clock }) (clock' := clock + 1) (by
              rw [Array.toList_push]
              exact EsR.app h3 hk hv rfl)
            refine ⟨_, ?_, i1, s1⟩
            simp only [Instr.mapUpdate, Sem.run_bind, run_und hu, Result.andThen_ok, run_gm h2, hck, hfk]
            exact run_sm _ h2
          · simp at h
        · simp at h
      · simp at h
    · simp at h
  · simp at h
theorem adelete_sound (hi : Inv β I σ w) {t u ty : TypeId} {ts : List TypeId} {x key : V} {σ' : List Blk} {c d : Value} (h : adelete P σ t x key = some σ') (hx : VR β I x c) (hk : VR β I key d) :
    ∃ w', (Builtin.delete_ (t :: ts).toArray ty #[c, d]).run P w = .ok (.tuple #[]) w' ∧ Inv β I σ' w' ∧ Step β I w β I w' := by
  unfold adelete at h
  split at h
  · rename_i kt et hmo
    have hu := mapOf_und hmo
    split at h
    · rename_i hok
      have hund := akeq_und hok
      split at h
      · simp only [Option.some.injEq] at h
        subst h
        simp only [VR] at hx
        obtain ⟨rfl, _⟩ := hx
        have hck := check_sound true hok hk w
        exact ⟨w, by simp [Builtin.delete_, run_und hu, hck], hi, Step.refl _ _ _⟩
      · rename_i m
        split at h
        · rename_i es clock hm
          obtain ⟨bb, cs, h1, h2, h3⟩ := hi.mp hm
          simp only [VR] at hx
          obtain ⟨y, hy, rfl⟩ := hx
          rw [h1] at hy
          cases hy
          have hck := check_sound cs.isEmpty hok hk w
          split at h
          · rename_i i hf
            simp only [Option.some.injEq] at h
            subst h
            have hfk := findKey_sound hk w hund hf h3
            cases hc : cs.toList[i]? with
            | none =>
              simp only [Option.bind_some, hc, Option.map_none] at hfk
              have hl := h3.length
              have hle : es.length ≤ i := by
                have := List.getElem?_eq_none_iff.1 hc
                omega
              rw [List.eraseIdx_of_length_le hle]
              obtain ⟨i1, s1⟩ := map_set hi h1 h2 (clock' := clock) h3
              refine ⟨_, ?_, i1, s1⟩
              simp only [Builtin.delete_, List.getElem?_toArray, List.getElem?_cons_zero, List.getElem?_cons_succ, Sem.run_bind, run_und hu, Result.andThen_ok, run_gm h2, hck, hfk, run_sm _ h2, Sem.run_pure]
            | some ce =>
              simp only [Option.bind_some, hc, Option.map_some] at hfk
              obtain ⟨i1, s1⟩ := map_set hi h1 h2 (es' := es.eraseIdx i) (cs' := cs.eraseIdxIfInBounds i) (clock' := clock) (by
                rw [Array.toList_eraseIdxIfInBounds]
                exact EsR.erase h3)
              refine ⟨_, ?_, i1, s1⟩
              simp only [Builtin.delete_, List.getElem?_toArray, List.getElem?_cons_zero, List.getElem?_cons_succ, Sem.run_bind, run_und hu, Result.andThen_ok, run_gm h2, hck, hfk, run_sm _ h2, Sem.run_pure]
          · rename_i hf
            simp only [Option.some.injEq] at h
            subst h
            have hfk := findKey_sound hk w hund hf h3
            simp only [Option.bind_none] at hfk
            obtain ⟨i1, s1⟩ := map_set hi h1 h2 (clock' := clock) h3
            have hset : σ.set m (.mp es clock) = σ := by
              apply List.ext_getElem?
              intro j
              by_cases e : j = m
              · subst e
                have hl := (List.getElem?_eq_some_iff.1 hm).1
                rw [List.getElem?_set_self hl, hm]
              · rw [List.getElem?_set_ne (Ne.symm e)]
            rw [hset] at i1
            refine ⟨_, ?_, i1, s1⟩
            simp only [Builtin.delete_, List.getElem?_toArray, List.getElem?_cons_zero, List.getElem?_cons_succ, Sem.run_bind, run_und hu, Result.andThen_ok, run_gm h2, hck, hfk, run_sm _ h2, Sem.run_pure]
          · simp at h
        · simp at h
      · simp at h
    · simp at h
  · simp at h
theorem Inv.newObj (hi : Inv β I σ w) (o : Obj) (k : Blk) (hb : ∀ β' : Nat → Option BV, β' σ.length = some (.real ⟨w.heap.size, 1, 0⟩) → Keeps [] β β' → BlkR β' I (w.alloc o) σ.length k) :
    Inv (ext β σ.length (.real ⟨w.heap.size, 1, 0⟩)) I (σ ++ [k]) (w.alloc o) ∧ Step β I w (ext β σ.length (.real ⟨w.heap.size, 1, 0⟩)) I (w.alloc o) ∧ Keeps [] β (ext β σ.length (.real ⟨w.heap.size, 1, 0⟩)) := by
  have hh : ∀ b, b < w.heap.size → (w.alloc o).heap[b]? = w.heap[b]? := fun b hb => alloc_old w _ hb
  have hk : Keeps [] β (ext β σ.length (.real ⟨w.heap.size, 1, 0⟩)) := Keeps.ext (hi.none_ge (Nat.le_refl _))
  refine ⟨hi.push (by simp) hh k _ (fun y hy => ?_) (hb _ (by simp) hk), Step.push (w' := w.alloc o) hi rfl rfl rfl (by simp) hh _ (fun y hy => ?_), hk⟩
  · injection hy with hy; subst hy; exact ⟨Nat.le_refl _, by simp⟩
  · injection hy with hy; subst hy; exact Nat.le_refl _
theorem amap_sound (hi : Inv β I σ w) {ev : Operand → V} {ρ : Operand → Value} (hev : EvR β I ev ρ) {o : Oper} {v : V} {σ' : List Blk} {mv : List Nat} (h : amap P ev σ o = some (v, σ', mv)) : OpGives P (execOp ρ o) β I w v σ' mv := by
  have newmap : OpGives P (Pure.pure (Next.value (.map (some w.heap.size))) >>= fun x => (Go.newObj (.map #[] 0) >>= fun _ => Pure.pure x)) β I w (.mref σ.length) (σ ++ [.mp [] 0]) [] := by
    obtain ⟨i1, s1, k1⟩ := hi.newObj (.map #[] 0) (.mp [] 0) (fun β' h1 _ => by simp only [BlkR]; exact ⟨_, #[], h1, alloc_new w _, by simp [EsR]⟩)
    exact ⟨.value (.map (some w.heap.size)), w.alloc (.map #[] 0), _, I, by simp, .inl ⟨_, rfl, by simp only [VR]; exact ⟨_, ext_self _ _ _, rfl⟩⟩, i1, s1, k1⟩
  unfold amap at h
  unfold execOp
  cases ho : o.op with
  | makeMap t r =>
    cases r with
    | none =>
      simp only [ho] at h ⊢
      simp only [Option.some.injEq, Prod.mk.injEq] at h
      obtain ⟨rfl, rfl, rfl⟩ := h
      obtain ⟨nx, w', β', I', h1, h2⟩ := newmap
      exact ⟨nx, w', β', I', by simpa [Instr.makeMap] using h1, h2⟩
    | some r =>
      simp only [ho] at h ⊢
      split at h
      · rename_i p _ k n hmo hr
        simp only [Option.some.injEq, Prod.mk.injEq] at h
        obtain ⟨rfl, rfl, rfl⟩ := h
        have hu := mapOf_und hmo
        have hv := hev r
        rw [hr] at hv
        simp only [VR] at hv
        obtain ⟨nx, w', β', I', h1, h2⟩ := newmap
        exact ⟨nx, w', β', I', by simpa [Instr.makeMap, run_und hu, hv.1, asInt, asIntOf] using h1, h2⟩
      · simp at h
  | lookup t x ix ok =>
    simp only [ho] at h ⊢
    simp only [Option.map_eq_some_iff, Prod.mk.injEq] at h
    obtain ⟨⟨v', b⟩, h1, rfl, rfl, rfl⟩ := h
    exact OpGives.same hi (alookup_sound hi h1 (hev x) (hev ix))
  | mapUpdate t m k x =>
    simp only [ho] at h ⊢
    simp only [Option.map_eq_some_iff, Prod.mk.injEq] at h
    obtain ⟨σ1, h1, rfl, rfl, rfl⟩ := h
    obtain ⟨w', h2, h3, h4⟩ := aupdate_sound hi h1 (hev m) (hev k) (hev x)
    exact ⟨.skip, w', β, I, by simp [h2], .inr ⟨rfl, rfl⟩, h3, h4, Keeps.refl _⟩
  | insert t m k x =>
    simp only [ho] at h ⊢
    simp only [Option.map_eq_some_iff, Prod.mk.injEq] at h
    obtain ⟨σ1, h1, rfl, rfl, rfl⟩ := h
    obtain ⟨w', h2, h3, h4⟩ := aupdate_sound hi h1 (hev m) (hev k) (hev x)
    exact ⟨.skip, w', β, I, by simp [h2], .inr ⟨rfl, rfl⟩, h3, h4, Keeps.refl _⟩
  | range t x =>
    simp only [ho] at h ⊢
    simp only [Option.map_eq_some_iff, Prod.mk.injEq] at h
    obtain ⟨k, h1, rfl, rfl, rfl⟩ := h
    have hx := hev x
    unfold arange at h1
    split at h1
    · rename_i p hmo hxe
      simp at h1
      subst h1
      rw [hxe] at hx
      simp only [VR] at hx
      have hu := mapOf_und (k := p.1) (e := p.2) hmo
      obtain ⟨i1, s1, k1⟩ := hi.newObj (.mapIter none 0 #[] 0) (.it none 0 [] 0) (fun β' h1 _ => by simp only [BlkR]; exact ⟨_, h1, none, alloc_new w _, .inl (by simp)⟩)
      exact ⟨.value (.pointer (some ⟨w.heap.size, 0, none⟩)), w.alloc (.mapIter none 0 #[] 0), _, I, by simp [Instr.range, run_und hu, hx.1], .inl ⟨_, rfl, by simp only [VR]; exact ⟨_, ext_self _ _ _, by simp⟩⟩, i1, s1, k1⟩
    · rename_i p m hmo hxe
      split at h1
      · rename_i es clock hm
        simp at h1
        subst h1
        rw [hxe] at hx
        obtain ⟨bb, cs, g1, g2, g3⟩ := hi.mp hm
        simp only [VR] at hx
        obtain ⟨y, hy, hxc⟩ := hx
        rw [g1] at hy
        cases hy
        have hu := mapOf_und (k := p.1) (e := p.2) hmo
        obtain ⟨i1, s1, k1⟩ := hi.newObj (.mapIter (some bb) clock #[] clock) (.it (some m) clock [] clock) (fun β' h1 hk => by simp only [BlkR]; exact ⟨_, h1, _, alloc_new w _, .inr ⟨m, _, rfl, hk _ _ g1 (by simp), rfl⟩⟩)
        exact ⟨.value (.pointer (some ⟨w.heap.size, 0, none⟩)), w.alloc (.mapIter (some bb) clock #[] clock), _, I, by simp [Instr.range, run_und hu, hxc, run_gm g2], .inl ⟨_, rfl, by simp only [VR]; exact ⟨_, ext_self _ _ _, by simp⟩⟩, i1, s1, k1⟩
      · simp at h1
    · simp at h1
  | binOp op t x y yt =>
    have key : ∀ b, ameq P t (ev x) (ev y) = some b → (Op.equal t (ρ x) (ρ y)).run P w = .ok b w ∧ nonum (ρ y) = true ∧ ∀ op', (eqGuard op' t x y (ρ x) (ρ y)).run P w = .ok () w := by
      intro b hb
      have hx := hev x
      have hy := hev y
      have g : ∀ (p : TypeId × TypeId), mapOf P t = some p → P.underlying t = some (.map p.1 p.2) := fun p hp => mapOf_und hp
      unfold ameq at hb
      split at hb
      · rename_i p hmo h1 h2
        rw [h1] at hx; rw [h2] at hy
        simp only [VR] at hx hy
        simp at hb
        subst hb
        rw [hx.1, hy.1]
        refine ⟨by simp [Op.equal, Op.maxDepth, eqIn_map (g p hmo)], rfl, fun op' => by cases op' <;> simp [eqGuard]⟩
      · rename_i p m hmo h1 h2
        rw [h1] at hx; rw [h2] at hy
        simp only [VR] at hx hy
        simp at hb
        subst hb
        obtain ⟨z, _, hx⟩ := hx
        rw [hx, hy.1]
        refine ⟨by simp [Op.equal, Op.maxDepth, eqIn_map' (g p hmo)], rfl, fun op' => by cases op' <;> simp [eqGuard]⟩
      · rename_i p m hmo h1 h2
        rw [h1] at hx; rw [h2] at hy
        simp only [VR] at hx hy
        simp at hb
        subst hb
        obtain ⟨z, _, hy⟩ := hy
        rw [hx.1, hy]
        refine ⟨by simp [Op.equal, Op.maxDepth, eqIn_map (g p hmo)], rfl, fun op' => by cases op' <;> simp [eqGuard]⟩
      · simp at hb
    cases op <;> simp only [ho] at h ⊢ <;> try (simp at h; done)
    · simp only [Option.map_eq_some_iff, Prod.mk.injEq] at h
      obtain ⟨b, h1, rfl, rfl, rfl⟩ := h
      obtain ⟨k1, k2, k3⟩ := key b h1
      refine OpGives.same hi ⟨.bool b, ?_, by simp [VR, scalar]⟩
      simp only [Sem.run_bind, k3, Result.andThen_ok]
      rw [binOp_eql k2]
      simp [k1]
    · simp only [Option.map_eq_some_iff, Prod.mk.injEq] at h
      obtain ⟨b, h1, rfl, rfl, rfl⟩ := h
      obtain ⟨k1, k2, k3⟩ := key b h1
      refine OpGives.same hi ⟨.bool (!b), ?_, by simp [VR, scalar]⟩
      simp only [Sem.run_bind, k3, Result.andThen_ok]
      rw [binOp_neq k2]
      simp [k1]
  | call c =>
    simp only [ho] at h ⊢
    split at h
    · rename_i t x hcal hty har
      simp only [Option.map_eq_some_iff, Prod.mk.injEq] at h
      obtain ⟨n, h1, rfl, rfl, rfl⟩ := h
      have hargs := hev.map c.args.toList
      rw [har] at hargs
      obtain ⟨cx, hcx, hx⟩ := hargs.one
      have e1 : c.argTypes = #[t] := by apply Array.ext'; simpa using hty
      have e2 : c.args.map ρ = #[cx] := by apply Array.ext'; simpa using hcx
      have hlen : (Builtin.len_ #[t] o.type #[cx]).run P w = .ok (.int .i64 n) w := by
        unfold amlen at h1
        split at h1
        · rename_i p hmo
          simp at h1
          subst h1
          simp only [VR] at hx
          rw [hx.1]
          simp [Builtin.len_, run_und (mapOf_und (k := p.1) (e := p.2) hmo), goInt]
        · rename_i p m hmo
          split at h1
          · rename_i es clock hm
            simp at h1
            subst h1
            obtain ⟨bb, cs, g1, g2, g3⟩ := hi.mp hm
            simp only [VR] at hx
            obtain ⟨y, hy, rfl⟩ := hx
            rw [g1] at hy
            cases hy
            have := g3.length
            simp only [Array.length_toList] at this
            simp [Builtin.len_, run_und (mapOf_und (k := p.1) (e := p.2) hmo), run_gm g2, goInt, this]
          · simp at h1
        · simp at h1
      refine ⟨.value (.int .i64 n), w, β, I, ?_, .inl ⟨_, rfl, by simp [VR, scalar]⟩, hi, Step.refl _ _ _, Keeps.refl _⟩
      simp only [resolve, hcal, invoke, Sem.run_bind, Sem.run_pure, Result.andThen_ok, e1, e2]
      simp [Go.builtin, hlen]
    · rename_i t ts x k hcal hty har
      simp only [Option.map_eq_some_iff, Prod.mk.injEq] at h
      obtain ⟨σ1, h1, rfl, rfl, rfl⟩ := h
      have hargs := hev.map c.args.toList
      rw [har] at hargs
      obtain ⟨cx, ck, hcx, hx, hk⟩ := hargs.two
      have e1 : c.argTypes = (t :: ts).toArray := by apply Array.ext'; simpa using hty
      have e2 : c.args.map ρ = #[cx, ck] := by apply Array.ext'; simpa using hcx
      obtain ⟨w', g1, g2, g3⟩ := adelete_sound (u := 0) (ty := o.type) (ts := ts) hi h1 hx hk
      refine ⟨.value (.tuple #[]), w', β, I, ?_, .inl ⟨_, rfl, by simp only [VR]; exact ⟨#[], rfl, by simp [VRs]⟩⟩, g2, g3, Keeps.refl _⟩
      simp only [resolve, hcal, invoke, Sem.run_bind, Sem.run_pure, Result.andThen_ok, e1, e2]
      simp [Go.builtin, g1]
    · simp at h
  | _ => simp [ho] at h
end
end Go.Ai
