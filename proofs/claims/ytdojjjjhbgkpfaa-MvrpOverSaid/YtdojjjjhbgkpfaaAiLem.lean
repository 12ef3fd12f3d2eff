/- An interpreter of the language over data, and the proof that what it answers is what the machine does; no condition. -/
import Derived.Test.YtdojjjjhbgkpfaaAiOps
set_option linter.unusedVariables false
set_option linter.unusedSimpArgs false
namespace Go.Ai
theorem addr_add (b o j : Nat) : (⟨b, o, none⟩ : Addr).add j = ⟨b, o + j, none⟩ := by unfold Addr.add; split <;> simp_all
section
variable {β : Nat → Option BV} {I : Imm} {w : World}
theorem VRs.length : ∀ {vs : List V} {cs : List Value}, VRs β I vs cs → vs.length = cs.length
  | [], [], _ => rfl
  | v :: vs, c :: cs, h => by simp only [VRs] at h; simp [VRs.length h.2]
  | [], _ :: _, h => by simp [VRs] at h
  | _ :: _, [], h => by simp [VRs] at h
theorem VRs.get : ∀ {vs : List V} {cs : List Value} {j : Nat} {v : V}, VRs β I vs cs → vs[j]? = some v → ∃ c, cs[j]? = some c ∧ VR β I v c
  | [], [], j, v, h, k => by simp at k
  | v :: vs, c :: cs, 0, u, h, k => by simp only [VRs] at h; simp at k; subst k; exact ⟨c, rfl, h.1⟩
  | v :: vs, c :: cs, j + 1, u, h, k => by simp only [VRs] at h; simp at k ⊢; exact VRs.get h.2 k
  | [], _ :: _, _, _, h, _ => by simp [VRs] at h
  | _ :: _, [], _, _, h, _ => by simp [VRs] at h
theorem VRs.drop : ∀ {vs : List V} {cs : List Value} (n : Nat), VRs β I vs cs → VRs β I (vs.drop n) (cs.drop n)
  | vs, cs, 0, h => by simpa using h
  | [], [], n + 1, h => by simp [VRs]
  | v :: vs, c :: cs, n + 1, h => by simp only [VRs] at h; simp; exact VRs.drop n h.2
  | [], _ :: _, _, h => by simp [VRs] at h
  | _ :: _, [], _, h => by simp [VRs] at h
theorem VRs.take : ∀ {vs : List V} {cs : List Value} (n : Nat), VRs β I vs cs → VRs β I (vs.take n) (cs.take n)
  | vs, cs, 0, h => by simp [VRs]
  | [], [], n + 1, h => by simp [VRs]
  | v :: vs, c :: cs, n + 1, h => by simp only [VRs] at h; simp only [List.take_succ_cons, VRs]; exact ⟨h.1, VRs.take n h.2⟩
  | [], _ :: _, _, h => by simp [VRs] at h
  | _ :: _, [], _, h => by simp [VRs] at h
theorem VRs.append : ∀ {vs us : List V} {cs ds : List Value}, VRs β I vs cs → VRs β I us ds → VRs β I (vs ++ us) (cs ++ ds)
  | [], us, [], ds, _, k => by simpa using k
  | v :: vs, us, c :: cs, ds, h, k => by simp only [VRs] at h; simp only [List.cons_append, VRs]; exact ⟨h.1, VRs.append h.2 k⟩
  | [], _, _ :: _, _, h, _ => by simp [VRs] at h
  | _ :: _, _, [], _, h, _ => by simp [VRs] at h
theorem VRs.setL {vs us : List V} {cs ds : List Value} (h : VRs β I vs cs) (k : VRs β I us ds) (o : Nat) : VRs β I (setL vs o us) (setL cs o ds) := by
  unfold Ai.setL
  rw [k.length]
  exact ((h.take o).append k).append (h.drop _)
theorem TR.toV {t : T} {c : Value} (h : TR I t c) : VR β I t.toV c := by
  cases t with
  | s v => simpa [T.toV, VR, TR] using h
  | sl z rows => simpa [T.toV, VR] using h
theorem TRl.toV : ∀ {ts : List T} {cs : List Value}, TRl I ts cs → VRs β I (ts.map T.toV) cs
  | [], [], _ => by simp [VRs]
  | t :: ts, c :: cs, h => by simp only [TRl] at h; simp only [List.map_cons, VRs]; exact ⟨h.1.toV, TRl.toV h.2⟩
  | [], _ :: _, h => by simp [TRl] at h
  | _ :: _, [], h => by simp [TRl] at h
theorem TRl.length : ∀ {vs : List T} {cs : List Value}, TRl I vs cs → vs.length = cs.length
  | [], [], _ => rfl
  | v :: vs, c :: cs, h => by simp only [TRl] at h; simp [TRl.length h.2]
  | [], _ :: _, h => by simp [TRl] at h
  | _ :: _, [], h => by simp [TRl] at h
theorem TRl.drop : ∀ {vs : List T} {cs : List Value} (n : Nat), TRl I vs cs → TRl I (vs.drop n) (cs.drop n)
  | vs, cs, 0, h => by simpa using h
  | [], [], n + 1, h => by simp [TRl]
  | v :: vs, c :: cs, n + 1, h => by simp only [TRl] at h; simp; exact TRl.drop n h.2
  | [], _ :: _, _, h => by simp [TRl] at h
  | _ :: _, [], _, h => by simp [TRl] at h
theorem TRl.take : ∀ {vs : List T} {cs : List Value} (n : Nat), TRl I vs cs → TRl I (vs.take n) (cs.take n)
  | vs, cs, 0, h => by simp [TRl]
  | [], [], n + 1, h => by simp [TRl]
  | v :: vs, c :: cs, n + 1, h => by simp only [TRl] at h; simp only [List.take_succ_cons, TRl]; exact ⟨h.1, TRl.take n h.2⟩
  | [], _ :: _, _, h => by simp [TRl] at h
  | _ :: _, [], _, h => by simp [TRl] at h
theorem TRl.append : ∀ {vs us : List T} {cs ds : List Value}, TRl I vs cs → TRl I us ds → TRl I (vs ++ us) (cs ++ ds)
  | [], us, [], ds, _, k => by simpa using k
  | v :: vs, us, c :: cs, ds, h, k => by simp only [TRl] at h; simp only [List.cons_append, TRl]; exact ⟨h.1, TRl.append h.2 k⟩
  | [], _, _ :: _, _, h, _ => by simp [TRl] at h
  | _ :: _, _, [], _, h, _ => by simp [TRl] at h
theorem TRl.setL {vs us : List T} {cs ds : List Value} (h : TRl I vs cs) (k : TRl I us ds) (o : Nat) : TRl I (setL vs o us) (setL cs o ds) := by
  unfold Ai.setL
  rw [k.length]
  exact ((h.take o).append k).append (h.drop _)
/-- Cells in memory, one behind the other. -/
def VRsAt (β : Nat → Option BV) (I : Imm) (w : World) (b : Nat) : Nat → List V → Prop
  | _, [] => True
  | o, v :: vs => (∃ c, w.cell? ⟨b, o, none⟩ = some c ∧ VR β I v c) ∧ VRsAt β I w b (o + 1) vs
theorem VRsAt.list {b : Nat} : ∀ {vs : List V} {o : Nat}, VRsAt β I w b o vs → ∃ cs : List Value, VRs β I vs cs ∧ ∀ j u, cs[j]? = some u → w.cell? ⟨b, o + j, none⟩ = some u
  | [], o, _ => ⟨[], by simp [VRs], fun j u h => by simp at h⟩
  | v :: vs, o, h => by
    simp only [VRsAt] at h
    obtain ⟨⟨c, h1, h2⟩, h3⟩ := h
    obtain ⟨cs, h4, h5⟩ := VRsAt.list h3
    refine ⟨c :: cs, by simp only [VRs]; exact ⟨h2, h4⟩, fun j u hu => ?_⟩
    cases j with
    | zero => simp at hu; subst hu; exact h1
    | succ j => simp at hu; have := h5 j u hu; rwa [Nat.add_assoc, Nat.add_comm 1 j] at this
theorem VRsAt.drop {b : Nat} : ∀ {vs : List V} {o : Nat} (n : Nat), VRsAt β I w b o vs → VRsAt β I w b (o + n) (vs.drop n)
  | vs, o, 0, h => by simpa using h
  | [], o, n + 1, h => by simp [VRsAt]
  | v :: vs, o, n + 1, h => by
    simp only [VRsAt] at h
    have := VRsAt.drop n h.2
    simp only [List.drop_succ_cons]
    rwa [Nat.add_assoc, Nat.add_comm 1 n] at this
theorem VRsAt.take {b : Nat} : ∀ {vs : List V} {o : Nat} (n : Nat), VRsAt β I w b o vs → VRsAt β I w b o (vs.take n)
  | vs, o, 0, h => by simp [VRsAt]
  | [], o, n + 1, h => by simp [VRsAt]
  | v :: vs, o, n + 1, h => by
    simp only [VRsAt] at h
    simp only [List.take_succ_cons, VRsAt]
    exact ⟨h.1, VRsAt.take n h.2⟩
theorem VRsAt.get {b : Nat} {vs : List V} {o j : Nat} {v : V} (h : VRsAt β I w b o vs) (hv : vs[j]? = some v) : ∃ c, w.cell? ⟨b, o + j, none⟩ = some c ∧ VR β I v c := by
  obtain ⟨cs, h1, h2⟩ := h.list
  obtain ⟨c, h3, h4⟩ := h1.get hv
  exact ⟨c, h2 j c h3, h4⟩
theorem VRsAt.of_list {b : Nat} : ∀ {vs : List V} {cs : List Value} {o : Nat}, VRs β I vs cs → (∀ j u, cs[j]? = some u → w.cell? ⟨b, o + j, none⟩ = some u) → VRsAt β I w b o vs
  | [], _, o, _, _ => by simp [VRsAt]
  | v :: vs, c :: cs, o, h, k => by
    simp only [VRs] at h
    simp only [VRsAt]
    refine ⟨⟨c, by simpa using k 0 c rfl, h.1⟩, VRsAt.of_list h.2 fun j u hu => ?_⟩
    have := k (j + 1) u (by simpa using hu)
    rwa [Nat.add_comm j 1, ← Nat.add_assoc] at this
  | _ :: _, [], o, h, _ => by simp [VRs] at h
theorem TRcells.at_ (hi : ∀ b o v, I b o = some v → w.cell? ⟨b, o, none⟩ = some v) {b : Nat} : ∀ {cs : List T} {o : Nat}, TRcells I b o cs → VRsAt β I w b o (cs.map T.toV)
  | [], o, _ => by simp [VRsAt]
  | t :: ts, o, h => by
    simp only [TRcells] at h
    obtain ⟨⟨u, h1, h2⟩, h3⟩ := h
    simp only [List.map_cons, VRsAt]
    exact ⟨⟨u, hi _ _ _ h1, h2.toV⟩, TRcells.at_ hi h3⟩
theorem TRcells.drop {b : Nat} : ∀ {cs : List T} {o : Nat} (n : Nat), TRcells I b o cs → TRcells I b (o + n) (cs.drop n)
  | cs, o, 0, h => by simpa using h
  | [], o, n + 1, h => by simp [TRcells]
  | t :: ts, o, n + 1, h => by
    simp only [TRcells] at h
    have := TRcells.drop n h.2
    simp only [List.drop_succ_cons]
    rwa [Nat.add_assoc, Nat.add_comm 1 n] at this
theorem TRcells.take {b : Nat} : ∀ {cs : List T} {o : Nat} (n : Nat), TRcells I b o cs → TRcells I b o (cs.take n)
  | cs, o, 0, h => by simp [TRcells]
  | [], o, n + 1, h => by simp [TRcells]
  | t :: ts, o, n + 1, h => by
    simp only [TRcells] at h
    simp only [List.take_succ_cons, TRcells]
    exact ⟨h.1, TRcells.take n h.2⟩
theorem TRrows.get {b z : Nat} : ∀ {rows : List (List T)} {o i : Nat} {r : List T}, TRrows I b o z rows → rows[i]? = some r → r.length = z ∧ TRcells I b (o + i * z) r
  | [], o, i, r, h, k => by simp at k
  | r :: rs, o, 0, r', h, k => by simp only [TRrows] at h; simp at k; subst k; simpa using ⟨h.1, h.2.1⟩
  | r :: rs, o, i + 1, r', h, k => by
    simp only [TRrows] at h
    simp at k
    have := TRrows.get h.2.2 k
    rwa [Nat.add_assoc, show z + i * z = (i + 1) * z by rw [Nat.add_mul]; omega] at this
theorem TRrows.drop {b z : Nat} : ∀ {rows : List (List T)} {o : Nat} (n : Nat), TRrows I b o z rows → TRrows I b (o + n * z) z (rows.drop n)
  | rows, o, 0, h => by simpa using h
  | [], o, n + 1, h => by simp [TRrows]
  | r :: rs, o, n + 1, h => by
    simp only [TRrows] at h
    have := TRrows.drop n h.2.2
    simp only [List.drop_succ_cons]
    rwa [Nat.add_assoc, show z + n * z = (n + 1) * z by rw [Nat.add_mul]; omega] at this
theorem TRrows.take {b z : Nat} : ∀ {rows : List (List T)} {o : Nat} (n : Nat), TRrows I b o z rows → TRrows I b o z (rows.take n)
  | rows, o, 0, h => by simp [TRrows]
  | [], o, n + 1, h => by simp [TRrows]
  | r :: rs, o, n + 1, h => by
    simp only [TRrows] at h
    simp only [List.take_succ_cons, TRrows]
    exact ⟨h.1, h.2.1, TRrows.take n h.2.2⟩
theorem TRcells.append {b : Nat} : ∀ {cs ds : List T} {o : Nat}, TRcells I b o cs → TRcells I b (o + cs.length) ds → TRcells I b o (cs ++ ds)
  | [], ds, o, _, k => by simpa using k
  | t :: ts, ds, o, h, k => by
    simp only [TRcells] at h
    simp only [List.cons_append, TRcells]
    exact ⟨h.1, TRcells.append h.2 (by rwa [List.length_cons, ← Nat.add_assoc, Nat.add_right_comm] at k)⟩
theorem TRrows.flat {b z : Nat} : ∀ {rows : List (List T)} {o : Nat}, TRrows I b o z rows → TRcells I b o rows.flatten
  | [], o, _ => by simp [TRcells]
  | r :: rs, o, h => by
    simp only [TRrows] at h
    simp only [List.flatten_cons]
    exact TRcells.append h.2.1 (by rw [h.1]; exact TRrows.flat h.2.2)
theorem TRrows.len {b z : Nat} : ∀ {rows : List (List T)} {o : Nat}, TRrows I b o z rows → ∀ r ∈ rows, r.length = z
  | [], o, _ => by simp
  | r :: rs, o, h => by
    simp only [TRrows] at h
    intro r' hr
    rcases List.mem_cons.1 hr with rfl | hr
    · exact h.1
    · exact TRrows.len h.2.2 r' hr
theorem TRrows.of_cells {b z : Nat} : ∀ {rows : List (List T)} {o : Nat}, (∀ r ∈ rows, r.length = z) → TRcells I b o rows.flatten → TRrows I b o z rows
  | [], o, _, _ => by simp [TRrows]
  | r :: rs, o, h, k => by
    simp only [TRrows]
    have hr := h r (by simp)
    refine ⟨hr, ?_, ?_⟩
    · have := k.take r.length
      simpa using this
    · have := k.drop r.length
      simp only [List.flatten_cons, List.drop_left] at this
      rw [hr] at this
      exact TRrows.of_cells (fun r' hr' => h r' (by simp [hr'])) this
theorem flatten_len {α : Type} {z : Nat} : ∀ {rows : List (List α)}, (∀ r ∈ rows, r.length = z) → rows.flatten.length = rows.length * z
  | [], _ => by simp
  | r :: rs, h => by
    simp only [List.flatten_cons, List.length_append, List.length_cons]
    rw [h r (by simp), flatten_len fun r' hr' => h r' (by simp [hr']), Nat.add_mul]
    omega
theorem flatten_row {α : Type} {z : Nat} : ∀ {rows : List (List α)} {i : Nat} {r : List α}, (∀ r ∈ rows, r.length = z) → rows[i]? = some r → (rows.flatten.drop (i * z)).take z = r
  | [], i, r, _, k => by simp at k
  | r :: rs, 0, r', h, k => by
    simp at k
    subst k
    simp [h r (by simp)]
  | r :: rs, i + 1, r', h, k => by
    simp at k
    have hr := h r (by simp)
    have := flatten_row (fun r' hr' => h r' (by simp [hr'])) k
    rw [Nat.add_mul, Nat.one_mul, Nat.add_comm, ← List.drop_drop]
    simp only [List.flatten_cons]
    rw [← hr, List.drop_left, hr]
    exact this
theorem flatten_take {α : Type} {z : Nat} : ∀ {rows : List (List α)} (n : Nat), (∀ r ∈ rows, r.length = z) → rows.flatten.take (n * z) = (rows.take n).flatten
  | rows, 0, _ => by simp
  | [], n + 1, _ => by simp
  | r :: rs, n + 1, h => by
    have hr := h r (by simp)
    simp only [List.flatten_cons, List.take_succ_cons]
    rw [Nat.add_mul, Nat.one_mul, Nat.add_comm, ← hr, List.take_length_add_append, hr, flatten_take n fun r' hr' => h r' (by simp [hr'])]
theorem flatten_drop {α : Type} {z : Nat} : ∀ {rows : List (List α)} (n : Nat), (∀ r ∈ rows, r.length = z) → rows.flatten.drop (n * z) = (rows.drop n).flatten
  | rows, 0, _ => by simp
  | [], n + 1, _ => by simp
  | r :: rs, n + 1, h => by
    have hr := h r (by simp)
    simp only [List.flatten_cons, List.drop_succ_cons]
    rw [Nat.add_mul, Nat.one_mul, Nat.add_comm, ← List.drop_drop, ← hr, List.drop_left, hr]
    exact flatten_drop n fun r' hr' => h r' (by simp [hr'])
end
end Go.Ai
