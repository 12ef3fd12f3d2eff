/- Contracts of functions of the loaded program: called with data in the ranges that each names, it returns this value and writes to no old memory. -/
import Derived.Test.YtpadhpkplpiceaaCfdH
import Derived.Test.YtpadhpkplpiceaaAiN
set_option linter.unusedVariables false
set_option linter.unusedSimpArgs false
set_option maxHeartbeats 4000000
set_option maxRecDepth 100000
namespace Go.Ai
open Go.Proofs

/-- The stations of the entries, by when they were learned. -/
def Sync (L : List En) (Q : List Int) (i : Int) : Prop := ∃ M : List En, M.Perm L ∧ M.Pairwise (fun a b => a.seen < b.seen) ∧ (∀ e ∈ L, e.seen < i) ∧ Q = M.map (·.n)

theorem Sync.has {L : List En} {Q : List Int} {i : Int} (h : Sync L Q i) (n : Int) : has L n = Q.any (fun x => x == n) := by
  obtain ⟨M, hp, _, _, rfl⟩ := h
  rw [Bool.eq_iff_iff]
  simp only [Go.Ai.has, List.any_eq_true, List.mem_map, beq_iff_eq]
  constructor
  · rintro ⟨e, he, hn⟩
    exact ⟨e.n, ⟨e, hp.mem_iff.2 he, rfl⟩, hn.symm⟩
  · rintro ⟨x, ⟨e, he, rfl⟩, hn⟩
    exact ⟨e, hp.mem_iff.1 he, hn.symm⟩
theorem Sync.len {L : List En} {Q : List Int} {i : Int} (h : Sync L Q i) : L.length = Q.length := by
  obtain ⟨M, hp, _, _, rfl⟩ := h
  rw [List.length_map, hp.length_eq]

theorem set_perm {L : List En} (hn : (L.map (·.n)).Nodup) {k : Int} {e e1 : En} {j : Nat} (hj : L[j]? = some e) (hk : e.n = k) : (L.set j e1).Perm (L.filter (fun x => x.n != k) ++ [e1]) := by
  induction L generalizing j with
  | nil => simp at hj
  | cons x L ih =>
    simp only [List.map_cons, List.nodup_cons] at hn
    cases j with
    | zero =>
      simp at hj
      subst hj
      have hf : L.filter (fun x => x.n != k) = L := by
        rw [List.filter_eq_self]
        intro y hy
        simp only [bne_iff_ne, ne_eq]
        intro hh
        exact hn.1 (List.mem_map.2 ⟨y, hy, by rw [hh, hk]⟩)
      have hx : (x.n != k) = false := by simp [hk]
      simp only [List.set_cons_zero, List.filter_cons, hx, hf, Bool.false_eq_true, if_false]
      exact (List.perm_append_comm (l₁ := [e1]) (l₂ := L))
    | succ j =>
      simp at hj
      have hx : (x.n != k) = true := by
        simp only [bne_iff_ne, ne_eq]
        intro hh
        exact hn.1 (List.mem_map.2 ⟨e, List.mem_of_getElem? hj, by rw [hk, hh]⟩)
      simp only [List.set_cons_succ, List.filter_cons, hx, if_true, List.cons_append]
      exact (ih hn.2 hj).cons x
theorem erase_perm {L : List En} {e : En} {j : Nat} (hj : L[j]? = some e) : L.Perm (e :: L.eraseIdx j) := by
  induction L generalizing j with
  | nil => simp at hj
  | cons x L ih =>
    cases j with
    | zero => simp at hj; subst hj; exact List.Perm.refl _
    | succ j =>
      simp at hj
      rw [List.eraseIdx_cons_succ]
      exact ((ih hj).cons x).trans (List.Perm.swap e x _)


abbrev next (n : Nat) (Q : List Int) (k : Int) : List Int := (Q.filter (fun x => x != k) ++ [k]).drop ((Q.filter (fun x => x != k) ++ [k]).length - n)

theorem full_step (n : Nat) (h1 : 1 ≤ n) (h8 : n ≤ 8) (L : List En) (c : Nat) (hL : Good L c) (Q : List Int) (i : Nat) (hi : i < 60) (hs : Sync L Q i) (hq : Q.length ≤ n) (k : Int) (hk : 0 ≤ k ∧ k < 20) :
    ∃ L' c', AC Try.prog 10 [.ptr 0 0 0, vI 3, stA k, stA 100, vI i] (hB n 1000 (enc 3 100 L) c) (eqS (vI 0) (hB n 1000 (enc 3 100 L') c')) ∧ Good L' c' ∧ Sync L' (next n Q k) ((i + 1 : Nat) : Int) ∧ (next n Q k).length ≤ n := by
  have hR : inR k := ⟨hk.1, by omega⟩
  have h100 : inR 100 := by simp [inR]
  obtain ⟨M, hp, hpw, hlt, rfl⟩ := hs
  have hl : M.length = L.length := hp.length_eq
  simp only [List.length_map] at hq
  have mlt : ∀ e ∈ M, e.seen < (i : Int) := fun e he => hlt e (hp.mem_iff.1 he)
  have hnod : (M.map (·.n)).Nodup := (hp.map _).nodup_iff.2 hL.nod
  have pwapp : ∀ (N : List En) (e1 : En), N.Sublist M → e1.seen = (i : Int) → (N ++ [e1]).Pairwise (fun a b => a.seen < b.seen) := by
    intro N e1 hN he
    rw [List.pairwise_append]
    refine ⟨hpw.sublist hN, by simp, fun a ha b hb => ?_⟩
    simp at hb
    subst hb
    rw [he]
    exact mlt a (hN.subset ha)
  cases hf : L.findIdx? (fun e => k == e.n) with
  | some j =>
    obtain ⟨hj, hpj, _⟩ := List.findIdx?_eq_some_iff_getElem.1 hf
    have hg : L[j]? = some L[j] := List.getElem?_eq_getElem hj
    have hkn : k = L[j].n := by simpa using hpj
    have hin : k ∈ M.map (·.n) := List.mem_map.2 ⟨L[j], hp.mem_iff.2 (List.getElem_mem hj), hkn.symm⟩
    refine ⟨_, _, bc10a n 1000 3 100 k i L c hL hR h100 (by omega) (by omega) j L[j] hg hkn, ?_⟩
    have hperm := set_perm hL.nod (k := k) (e1 := ⟨k, i, L[j].born⟩) hg hkn.symm
    have hfm : (M.map (·.n)).filter (fun x => x != k) = (M.filter (fun x => x.n != k)).map (·.n) := by
      rw [List.filter_map]; rfl
    have hlen : ((M.map (·.n)).filter (fun x => x != k)).length + 1 = M.length := by
      have e1 := (hp.filter (fun x => x.n != k)).length_eq
      have e2 := hperm.length_eq
      simp at e2
      rw [hfm, List.length_map, e1]
      omega
    have hd : next n (M.map (·.n)) k = (M.filter (fun x : En => x.n != k) ++ [(⟨k, (i : Int), L[j].born⟩ : En)]).map (fun x : En => x.n) := by
      unfold next
      rw [List.length_append, List.length_singleton, hlen, show M.length - n = 0 by omega, List.drop_zero, hfm]
      simp
    refine ⟨⟨?_, ?_, ?_, ?_⟩, ⟨M.filter (fun x => x.n != k) ++ [⟨k, i, L[j].born⟩], ((hp.filter _).append_right _).trans hperm.symm, pwapp _ _ List.filter_sublist rfl, ?_, hd⟩, ?_⟩
    · intro e he
      rcases List.mem_or_eq_of_mem_set he with h | h
      · exact hL.rng e h
      · subst h; exact hR
    · have : (L.set j ⟨k, i, L[j].born⟩).map (·.n) = L.map (·.n) := by
        rw [List.map_set]
        simp only [hkn]
        exact set_same (by simp [hg])
      rw [this]; exact hL.nod
    · have : (L.set j ⟨k, i, L[j].born⟩).map (·.born) = L.map (·.born) := by
        rw [List.map_set]
        exact set_same (by simp [hg])
      rw [this]; exact hL.bnd
    · intro e he
      rcases List.mem_or_eq_of_mem_set he with h | h
      · exact hL.lt e h
      · subst h; exact hL.lt L[j] (List.getElem_mem hj)
    · intro e he
      rcases List.mem_or_eq_of_mem_set he with h | h
      · have := hlt e h; omega
      · subst h; simp; omega
    · rw [hd]
      simp only [List.length_map, List.length_append, List.length_singleton]
      rw [hfm, List.length_map] at hlen
      omega
  | none =>
    have hno : ∀ e ∈ L, e.n ≠ k := by
      intro e he hh
      rw [List.findIdx?_eq_none_iff] at hf
      have := hf e he
      simp [hh] at this
    have hfm : (M.map (·.n)).filter (fun x => x != k) = M.map (·.n) := by
      rw [List.filter_eq_self]
      intro x hx
      obtain ⟨e, he, rfl⟩ := List.mem_map.1 hx
      simpa using hno e (hp.mem_iff.1 he)
    have goodApp : ∀ (N : List En), N.Sublist L → Good (N ++ [⟨k, i, c⟩]) (c + 1) := by
      intro N hN
      refine ⟨?_, ?_, ?_, ?_⟩
      · intro e he
        rcases List.mem_append.1 he with h | h
        · exact hL.rng e (hN.subset h)
        · simp at h; subst h; exact hR
      · rw [List.map_append, List.nodup_append]
        refine ⟨hL.nod.sublist (hN.map _), by simp, ?_⟩
        intro a ha b hb
        obtain ⟨e, he, rfl⟩ := List.mem_map.1 ha
        simp at hb
        subst hb
        exact hno e (hN.subset he)
      · rw [List.map_append, List.nodup_append]
        refine ⟨hL.bnd.sublist (hN.map _), by simp, ?_⟩
        intro a ha b hb
        obtain ⟨e, he, rfl⟩ := List.mem_map.1 ha
        simp at hb
        subst hb
        have := hL.lt e (hN.subset he)
        omega
      · intro e he
        rcases List.mem_append.1 he with h | h
        · have := hL.lt e (hN.subset h); omega
        · simp at h; subst h; simp
    have ltApp : ∀ (N : List En), N.Sublist L → ∀ e ∈ N ++ [(⟨k, i, c⟩ : En)], e.seen < ((i + 1 : Nat) : Int) := by
      intro N hN e he
      rcases List.mem_append.1 he with h | h
      · have := hlt e (hN.subset h); omega
      · simp at h; subst h; simp; omega
    by_cases hr : L.length < n
    · refine ⟨_, _, bc10b n 1000 3 100 k i L c hL hR h100 (by omega) (by omega) hf (by omega), goodApp L (List.Sublist.refl L), ⟨M ++ [⟨k, i, c⟩], hp.append_right _, pwapp M _ (List.Sublist.refl M) rfl, ltApp L (List.Sublist.refl L), ?_⟩, ?_⟩
      · unfold next
        rw [hfm, List.length_append, List.length_singleton, List.length_map, show M.length + 1 - n = 0 by omega, List.drop_zero]
        simp
      · unfold next
        rw [hfm, List.length_drop, List.length_append, List.length_singleton, List.length_map]
        omega
    · cases M with
      | nil => simp at hl; omega
      | cons e0 M =>
        have he0 : e0 ∈ L := hp.mem_iff.1 (by simp)
        obtain ⟨j, hj⟩ := List.getElem?_of_mem he0
        have hp0 : M.Perm (L.eraseIdx j) := (List.perm_cons e0).1 (hp.trans (erase_perm hj))
        have hmin : ∀ e ∈ L, e.n ≠ e0.n → e0.seen < e.seen := by
          intro e he hne
          rcases List.mem_cons.1 (hp.mem_iff.2 he) with h | h
          · exact (hne (by rw [h])).elim
          · exact List.rel_of_pairwise_cons hpw h
        have hsub : (L.eraseIdx j).Sublist L := List.eraseIdx_sublist L j
        refine ⟨_, _, bc10c n 1000 3 100 k i L c hL hR h100 (by omega) (by omega) hf (by omega) j e0 hj hmin, goodApp _ hsub, ⟨M ++ [⟨k, i, c⟩], hp0.append_right _, pwapp M _ (List.sublist_cons_self e0 M) rfl, ltApp _ hsub, ?_⟩, ?_⟩
        · unfold next
          rw [hfm, List.length_append, List.length_singleton, List.length_map]
          simp only [List.length_cons] at hl hq ⊢
          rw [show M.length + 1 + 1 - n = 1 by omega]
          simp
        · unfold next
          rw [hfm, List.length_drop, List.length_append, List.length_singleton, List.length_map]
          simp only [List.length_cons] at hl hq ⊢
          omega
end Go.Ai
