/- An interpreter of the language over data, and the proof that what it answers is what the machine does; no condition. -/
import Derived.Test.YtdojjjjhbgkpfaaAiOp
import Derived.ChangeKeysEq
set_option linter.unusedVariables false
set_option linter.unusedSimpArgs false
namespace Go.Ai
section
variable {P : Program} {β : Nat → Option BV} {I : Imm}
def eqVal : LK → Value → Value → Option Bool
  | .i, .int k a, .int k' b => if k = k' then some (a == b) else none
  | .b, .bool a, .bool b => some (a == b)
  | .s, .string a, .string b => some (a.toList == b.toList)
  | _, _, _ => none
def eqVals : List LK → List Value → List Value → Option Bool
  | [], [], [] => some true
  | k :: ks, x :: xs, y :: ys => match eqVal k x y, eqVals ks xs ys with
    | some a, some b => some (a && b)
    | _, _ => none
  | _, _, _ => none
theorem eqCell_val {k : LK} {x y : V} {c d : Value} {b : Bool} (h : eqCell k x y = some b) (hx : VR β I x c) (hy : VR β I y d) : eqVal k c d = some b := by
  unfold eqCell at h
  split at h
  · simp only [VR] at hx hy; obtain ⟨rfl, _⟩ := hx; obtain ⟨rfl, _⟩ := hy; simpa [eqVal] using h
  · simp only [VR] at hx hy; obtain ⟨rfl, _⟩ := hx; obtain ⟨rfl, _⟩ := hy; simpa [eqVal] using h
  · simp only [VR] at hx hy; obtain ⟨rfl, _⟩ := hx; obtain ⟨rfl, _⟩ := hy; simpa [eqVal] using h
  · simp at h
theorem eqCells_vals : ∀ {ks : List LK} {xs ys : List V} {cs ds : List Value} {b : Bool}, eqCells ks xs ys = some b → VRs β I xs cs → VRs β I ys ds → eqVals ks cs ds = some b
  | [], [], [], [], [], b, h, _, _ => by simpa [eqCells, eqVals] using h
  | k :: ks, x :: xs, y :: ys, c :: cs, d :: ds, b, h, hx, hy => by
    simp only [eqCells] at h
    simp only [VRs] at hx hy
    split at h
    · rename_i a a' h1 h2
      simp only [eqVals, eqCell_val h1 hx.1 hy.1, eqCells_vals h2 hx.2 hy.2]
      exact h
    · simp at h
  | [], [], [], _ :: _, _, _, _, hx, _ => by simp [VRs] at hx
  | [], [], [], _, _ :: _, _, _, _, hy => by simp [VRs] at hy
  | _ :: _, _ :: _, _ :: _, [], _, _, _, hx, _ => by simp [VRs] at hx
  | _ :: _, _ :: _, _ :: _, _, [], _, _, _, hy => by simp [VRs] at hy
  | [], _ :: _, _, _, _, _, h, _, _ => by simp [eqCells] at h
  | [], _, _ :: _, _, _, _, h, _, _ => by simp [eqCells] at h
  | _ :: _, [], _, _, _, _, h, _, _ => by simp [eqCells] at h
  | _ :: _, _, [], _, _, _, h, _, _ => by simp [eqCells] at h
theorem eqVals_len : ∀ {ks : List LK} {xs ys : List Value} {b : Bool}, eqVals ks xs ys = some b → xs.length = ks.length ∧ ys.length = ks.length
  | [], [], [], _, _ => by simp
  | k :: ks, x :: xs, y :: ys, b, h => by
    simp only [eqVals] at h
    split at h
    · rename_i a a' h1 h2
      have := eqVals_len h2
      simp [this.1, this.2]
    · simp at h
  | [], _ :: _, _, _, h => by simp [eqVals] at h
  | [], [], _ :: _, _, h => by simp [eqVals] at h
  | _ :: _, [], _, _, h => by simp [eqVals] at h
  | _ :: _, _ :: _, [], _, h => by simp [eqVals] at h
theorem eqVals_append : ∀ {k1 k2 : List LK} {xs ys : List Value} {b : Bool}, eqVals (k1 ++ k2) xs ys = some b →
    ∃ b1 b2, eqVals k1 (xs.take k1.length) (ys.take k1.length) = some b1 ∧ eqVals k2 (xs.drop k1.length) (ys.drop k1.length) = some b2 ∧ b = (b1 && b2)
  | [], k2, xs, ys, b, h => ⟨true, b, by simp [eqVals], by simpa using h, by simp⟩
  | k :: k1, k2, x :: xs, y :: ys, b, h => by
    simp only [List.cons_append, eqVals] at h
    split at h
    · rename_i a a' h1 h2
      obtain ⟨b1, b2, e1, e2, rfl⟩ := eqVals_append h2
      simp at h
      subst h
      refine ⟨a && b1, b2, ?_, by simpa using e2, by simp [Bool.and_assoc]⟩
      simp [eqVals, h1, e1]
    · simp at h
  | k :: k1, k2, [], ys, b, h => by simp [eqVals] at h
  | k :: k1, k2, x :: xs, [], b, h => by simp [eqVals] at h
/-- A value of a type, of its cells. -/
def mkVal (P : Program) (t : TypeId) (l : List Value) : Value :=
  match isAgg P t with
  | some true => .agg l.toArray
  | _ => l.headD undef
def EqP (P : Program) (t : TypeId) (ks : List LK) (d : Nat) : Prop :=
  ∀ (w : World) (l1 l2 : List Value) (b : Bool), eqVals ks l1 l2 = some b → (Op.equalIn d t (mkVal P t l1) (mkVal P t l2)).run P w = .ok b w
theorem mkVal_part {t : TypeId} {d : TypeDesc} (hd : P.underlying t = some d) {xs : Array Value} {o : Nat} (w : World) (hl : P.cellsOf t = 1 → o < xs.size) (h1 : isAgg P t = some false → P.cellsOf t = 1) :
    (Go.part t xs o).run P w = .ok (mkVal P t ((xs.toList.drop o).take (P.cellsOf t))) w := by
  unfold mkVal
  have ha : ∃ b, isAgg P t = some b := by unfold isAgg; rw [hd]; split <;> simp_all
  obtain ⟨b, ha⟩ := ha
  cases b with
  | true =>
    simp only [ha]
    simp only [Go.part, Sem.run_bind, run_isAgg' ha, Result.andThen_ok, if_true, run_siz hd, Sem.run_pure]
    congr 2
    apply Array.ext'
    simp [List.extract_eq_take_drop]
  | false =>
    have hc := h1 ha
    have hlt : o < xs.size := hl hc
    simp only [ha]
    have : xs[o]? = some xs[o] := by simp [hlt]
    simp only [Go.part, Sem.run_bind, run_isAgg' ha, Result.andThen_ok, this, Sem.run_pure]
    simp [hc, List.take_one, List.head?_drop, hlt]
theorem eqFields_sound {d : Nat} {xs ys : Array Value} (w : World) : ∀ (fs : List Field) (ks : List LK) (o n : Nat) (m : Nat) (b : Bool), leafKs P m fs = some ks → tiles P o fs = some n → n = xs.size → n = ys.size →
    (∀ t l, leafK P m t = some l → EqP P t l d) → eqVals ks (xs.toList.drop o) (ys.toList.drop o) = some b → (Op.eqFields d xs ys fs).run P w = .ok b w
  | [], ks, o, n, m, b, hk, ht, hx, hy, ih, he => by
    simp [leafKs] at hk
    subst hk
    simp only [tiles, Option.some.injEq] at ht
    subst ht
    simp [hx, hy, Op.eqFields] at he ⊢
    have e1 : xs.toList.drop xs.size = [] := by simp
    have e2 : ys.toList.drop xs.size = [] := by rw [← hx, hy]; simp
    rw [e1, e2] at he
    simpa [eqVals] using he
  | f :: fs, ks, o, n, m, b, hk, ht, hx, hy, ih, he => by
    simp only [leafKs] at hk
    split at hk
    · rename_i l ls h1 h2
      split at hk
      · rename_i hl
        simp at hk
        subst hk
        simp only [tiles] at ht
        split at ht
        · rename_i hf
          obtain ⟨rfl, hname⟩ := hf
          obtain ⟨b1, b2, e1, e2, rfl⟩ := eqVals_append he
          rw [hl] at e1 e2
          have hd : ∃ d, P.underlying f.type = some d := by
            cases m with
            | zero => simp [leafK] at h1
            | succ m =>
              simp only [leafK] at h1
              split at h1 <;> first | (exact ⟨_, ‹_›⟩) | simp at h1
          obtain ⟨dd, hd⟩ := hd
          have hone : isAgg P f.type = some false → P.cellsOf f.type = 1 := by
            intro ha
            cases m with
            | zero => simp [leafK] at h1
            | succ m =>
              simp only [leafK] at h1
              split at h1
              · split at h1 <;> simp_all
              · split at h1 <;> simp_all
              · split at h1 <;> simp_all
              · rename_i hu; simp [isAgg, hu] at ha
              · rename_i hu; simp [isAgg, hu] at ha
              · simp at h1
          have le1 := (eqVals_len e1).1
          have le2 := (eqVals_len e1).2
          simp at le1 le2
          have p1 := mkVal_part (xs := xs) (o := f.offset) hd w (by omega) hone
          have p2 := mkVal_part (xs := ys) (o := f.offset) hd w (by omega) hone
          have p3 := ih f.type l h1 w _ _ b1 e1
          simp only [Op.eqFields, hname, ne_eq, not_false_eq_true, if_true, Sem.run_bind, p1, p2, p3, Result.andThen_ok]
          rw [List.drop_drop, List.drop_drop] at e2
          cases b1 with
          | false => simp
          | true => simpa using eqFields_sound w fs ls _ n m b2 h2 ht hx hy ih e2
        · simp at ht
      · simp at hk
    · simp at hk
theorem eqItems_sound {d e : Nat} {l : List LK} (c : Nat) {xs ys : Array Value} (w : World) (hl : l.length = c) (hc : P.cellsOf e = c) (hd : ∃ dd, P.underlying e = some dd) (hone : isAgg P e = some false → P.cellsOf e = 1) (ih : EqP P e l d) :
    ∀ (n i : Nat) (b : Bool), eqVals (List.replicate n l).flatten (xs.toList.drop (i * c)) (ys.toList.drop (i * c)) = some b →
      (Op.eqItems d e c xs ys (List.range' i n)).run P w = .ok b w
  | 0, i, b, h => by
    simp only [List.replicate, List.flatten_nil] at h
    have := eqVals_len h
    simp only [List.length_nil, List.length_eq_zero_iff] at this
    rw [this.1, this.2] at h
    simpa [eqVals, Op.eqItems] using h
  | n + 1, i, b, h => by
    simp only [List.replicate_succ, List.flatten_cons] at h
    obtain ⟨b1, b2, e1, e2, rfl⟩ := eqVals_append h
    rw [hl] at e1 e2
    obtain ⟨dd, hd⟩ := hd
    have le1 := (eqVals_len e1).1
    have le2 := (eqVals_len e1).2
    simp at le1 le2
    have p1 : (Go.part e xs (i * c)).run P w = .ok (mkVal P e ((xs.toList.drop (i * c)).take c)) w := by
      rw [← hc]; refine mkVal_part hd w (fun h => ?_) hone; rw [hc]; omega
    have p2 : (Go.part e ys (i * c)).run P w = .ok (mkVal P e ((ys.toList.drop (i * c)).take c)) w := by
      rw [← hc]; refine mkVal_part hd w (fun h => ?_) hone; rw [hc]; omega
    have p3 := ih w _ _ b1 e1
    simp only [List.range', Op.eqItems, Sem.run_bind, p1, p2, p3, Result.andThen_ok]
    rw [List.drop_drop, List.drop_drop, show i * c + c = (i + 1) * c by rw [Nat.add_mul]; omega] at e2
    cases b1 with
    | false => simp
    | true => simpa using eqItems_sound c w hl hc ⟨dd, hd⟩ hone ih n (i + 1) b2 e2
theorem leafK_und {m : Nat} {t : TypeId} {l : List LK} (h : leafK P m t = some l) : ∃ d, P.underlying t = some d := by
  cases m with
  | zero => simp [leafK] at h
  | succ m =>
    simp only [leafK] at h
    split at h <;> first | (exact ⟨_, ‹_›⟩) | simp at h
theorem leafK_one {m : Nat} {t : TypeId} {l : List LK} (h : leafK P m t = some l) : isAgg P t = some false → P.cellsOf t = 1 := by
  intro ha
  cases m with
  | zero => simp [leafK] at h
  | succ m =>
    simp only [leafK] at h
    split at h
    · split at h <;> simp_all
    · split at h <;> simp_all
    · split at h <;> simp_all
    · rename_i hu; simp [isAgg, hu] at ha
    · rename_i hu; simp [isAgg, hu] at ha
    · simp at h
theorem equalIn_sound : ∀ (m : Nat) (t : TypeId) (ks : List LK), leafK P m t = some ks → ∀ d, m ≤ d → EqP P t ks d
  | 0, t, ks, h, _, _ => by simp [leafK] at h
  | m + 1, t, ks, h, d, hd => by
    obtain ⟨d, rfl⟩ : ∃ e, d = e + 1 := ⟨d - 1, by omega⟩
    intro w l1 l2 b he
    have hlen := eqVals_len he
    simp only [leafK] at h
    split at h
    · rename_i hu
      split at h <;> simp at h
      subst h
      obtain ⟨x, rfl⟩ : ∃ x, l1 = [x] := by match l1, hlen.1 with | [x], _ => exact ⟨x, rfl⟩
      obtain ⟨y, rfl⟩ : ∃ x, l2 = [x] := by match l2, hlen.2 with | [x], _ => exact ⟨x, rfl⟩
      have ha : isAgg P t = some false := by simp [isAgg, hu]
      simp only [mkVal, ha, List.headD_cons]
      simp only [eqVals] at he
      split at he
      · rename_i a a' h1 h2
        simp at h2 he
        subst h2
        unfold eqVal at h1
        split at h1 <;> simp_all
        rw [run_equalIn_bool' w d t _ _ hu]
        simp [h1]
      · simp at he
    · rename_i k hu
      split at h <;> simp at h
      subst h
      obtain ⟨x, rfl⟩ : ∃ x, l1 = [x] := by match l1, hlen.1 with | [x], _ => exact ⟨x, rfl⟩
      obtain ⟨y, rfl⟩ : ∃ x, l2 = [x] := by match l2, hlen.2 with | [x], _ => exact ⟨x, rfl⟩
      have ha : isAgg P t = some false := by simp [isAgg, hu]
      simp only [mkVal, ha, List.headD_cons]
      simp only [eqVals] at he
      split at he
      · rename_i a a' h1 h2
        simp at h2 he
        subst h2
        unfold eqVal at h1
        split at h1 <;> simp_all
        rw [run_equalIn_int w d t _ _ _ _ hu]
        simp [h1]
      · simp at he
    · rename_i hu
      split at h <;> simp at h
      subst h
      obtain ⟨x, rfl⟩ : ∃ x, l1 = [x] := by match l1, hlen.1 with | [x], _ => exact ⟨x, rfl⟩
      obtain ⟨y, rfl⟩ : ∃ x, l2 = [x] := by match l2, hlen.2 with | [x], _ => exact ⟨x, rfl⟩
      have ha : isAgg P t = some false := by simp [isAgg, hu]
      simp only [mkVal, ha, List.headD_cons]
      simp only [eqVals] at he
      split at he
      · rename_i a a' h1 h2
        simp at h2 he
        subst h2
        unfold eqVal at h1
        split at h1 <;> simp_all
        rw [run_equalIn_string w d t _ _ hu]
        simp [h1]
      · simp at he
    · rename_i fs hu
      split at h
      · rename_i hs
        have ha : isAgg P t = some true := by simp [isAgg, hu]
        simp only [mkVal, ha]
        have hfo : P.fieldsOf t = fs := by simp [Program.fieldsOf, hu]
        rw [run_equalIn_struct w d t _ _ (by rw [hfo]; exact hu) hs.1, hfo]
        have hkl : ∀ (fs : List Field) (o n : Nat) (ks : List LK), leafKs P m fs = some ks → tiles P o fs = some n → o + ks.length = n := by
          intro fs
          induction fs with
          | nil => intro o n ks h1 h2; simp [leafKs] at h1; subst h1; simp [tiles] at h2; simp [h2]
          | cons f fs ih =>
            intro o n ks h1 h2
            simp only [leafKs] at h1
            split at h1
            · rename_i l ls e1 e2
              split at h1
              · rename_i hl
                simp at h1
                subst h1
                simp only [tiles] at h2
                split at h2
                · have := ih _ _ _ e2 h2
                  simp [hl]
                  omega
                · simp at h2
              · simp at h1
            · simp at h1
        have hn := hkl _ _ _ _ h hs.2
        refine eqFields_sound w fs.toList ks 0 (P.cellsOf t) m b h hs.2 (by simp [hlen.1]; omega) (by simp [hlen.2]; omega) (fun t' l hl => equalIn_sound m t' l hl d (by omega)) (by simpa using he)
      · simp at h
    · rename_i n e hu
      split at h
      · rename_i l hl
        split at h
        · rename_i hc
          simp at h
          subst h
          have ha : isAgg P t = some true := by simp [isAgg, hu]
          simp only [mkVal, ha]
          obtain ⟨dd, hde⟩ := leafK_und hl
          obtain ⟨i, hi⟩ := info_of hde
          rw [run_equalIn_array w d _ _ hu hi]
          have := eqItems_sound (P.cellsOf e) (xs := l1.toArray) (ys := l2.toArray) w hc.1 rfl ⟨dd, hde⟩ (leafK_one hl) (equalIn_sound m e l hl d (by omega)) n 0 b (by simpa using he)
          rw [List.range_eq_range']
          exact this
        · simp at h
      · simp at h
    · simp at h
theorem eqGuardType_sound : ∀ (m : Nat) (t : TypeId) (ks : List LK), leafK P m t = some ks → ∀ d, m ≤ d → P.eqGuardType d t = false
  | 0, t, ks, h, _, _ => by simp [leafK] at h
  | m + 1, t, ks, h, d, hd => by
    obtain ⟨d, rfl⟩ : ∃ e, d = e + 1 := ⟨d - 1, by omega⟩
    simp only [leafK] at h
    split at h
    · rename_i hu; simp [Program.eqGuardType, hu]
    · rename_i hu; simp [Program.eqGuardType, hu]
    · rename_i hu; simp [Program.eqGuardType, hu]
    · rename_i fs hu
      split at h
      · have key : ∀ (fs : List Field) (ks : List LK), leafKs P m fs = some ks → ∀ f ∈ fs, P.eqGuardType d f.type = false := by
          intro fs
          induction fs with
          | nil => intro ks _ f hf; simp at hf
          | cons g fs ih =>
            intro ks h1 f hf
            simp only [leafKs] at h1
            split at h1
            · rename_i l ls e1 e2
              rcases List.mem_cons.1 hf with rfl | hf
              · exact eqGuardType_sound m _ _ e1 d (by omega)
              · exact ih _ e2 f hf
            · simp at h1
        simp only [Program.eqGuardType, hu]
        rw [← Array.any_toList, List.any_eq_false]
        intro f hf
        simp [key _ _ h f hf]
      · simp at h
    · rename_i n e hu
      split at h
      · rename_i l hl
        simp only [Program.eqGuardType, hu]
        exact eqGuardType_sound m e l hl d (by omega)
      · simp at h
    · simp at h
end
end Go.Ai
