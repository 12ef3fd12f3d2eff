/- Contracts of functions of the loaded program: called with data in the ranges that each names, it returns this value and writes to no old memory. -/
import Derived.Test.YtbiolkmddpkheaaGreatPrvZm
set_option linter.unusedVariables false
set_option linter.unusedSimpArgs false
set_option maxHeartbeats 1000000
set_option maxRecDepth 100000
namespace Go.Ai
open Go.Proofs
/-! ## What is provisioned, plainly: no program in sight -/
theorem ris_pw {α : Type} {lt : α → α → Bool} (tr : ∀ a b c, lt a b = true → lt b c = true → lt a c = true) : ∀ {L : List α}, risB lt L = true ↔ L.Pairwise (fun a b => lt a b = true)
  | [] => by simp [risB]
  | [a] => by simp [risB]
  | a :: b :: l => by
    constructor
    · intro h
      have h2 := h
      rw [risB, Bool.and_eq_true] at h2
      exact List.pairwise_cons.2 ⟨fun y hy => pair_of tr h y hy, (ris_pw tr).1 h2.2⟩
    · intro h
      rw [List.pairwise_cons] at h
      rw [risB, Bool.and_eq_true]
      exact ⟨h.1 b (by simp), (ris_pw tr).2 h.2⟩
theorem ltMb_tr (a b c : Mb) (h1 : ltMb a b = true) (h2 : ltMb b c = true) : ltMb a c = true := by
  unfold ltMb at *
  simp only [decide_eq_true_eq] at *
  omega
theorem before_iff (a b : Mp) : beforeB a b = true ↔ (a.p < b.p ∨ (a.p = b.p ∧ a.v < b.v)) := by
  unfold beforeB
  simp only [Bool.or_eq_true, Bool.and_eq_true, decide_eq_true_eq, beq_iff_eq]
structure Okp (p : Pv) : Prop where
  kd : kindZ p.own.a p.own.b p.own.c p.own.d p.own.e p.own.f = 1
  k1 : 1 ≤ p.ks.length
  k8 : p.ks.length ≤ 8
  kk : ∀ k ∈ p.ks, k = 1 ∨ k = 2
  ml : p.ms.length ≤ 64
  cl : p.cs.length ≤ 64
  bl : p.bs.length ≤ 64
  rm : p.ms.Pairwise (fun a b => beforeB a b = true)
  rc : p.cs.Pairwise (fun a b => ltCr a b = true)
  rb : p.bs.Pairwise (fun a b => ltMb a b = true)
  mb : ∀ x ∈ p.bs, vidOk x.v ∧ portsE p.ks x.l = 0
  mc : ∀ x ∈ p.cs, isidOk x.s ∧ hasM p.bs x.v = true
  mm : ∀ x ∈ p.ms, kindP p.ks x.p = 1 ∧ vidOk x.v ∧ hasC p.cs x.s = true
  mo : p.ms.Pairwise (fun a b => ¬ (a.p = b.p ∧ a.s = b.s))
theorem okM_iff (p : Pv) : okM p = true ↔ p.ms.Pairwise (fun a b => ¬ (a.p = b.p ∧ a.s = b.s)) ∧ ∀ x ∈ p.ms, kindP p.ks x.p = 1 ∧ vidOk x.v ∧ hasC p.cs x.s = true := by
  have one : ∀ (pre : List Mp) (m : Mp), mOk p pre m = true ↔ (∀ x ∈ pre, ¬ (x.p = m.p ∧ x.s = m.s)) ∧ kindP p.ks m.p = 1 ∧ vidOk m.v ∧ hasC p.cs m.s = true := by
    intro pre m
    unfold mOk
    simp only [Bool.and_eq_true, Bool.not_eq_true', List.any_eq_false, beq_iff_eq, decide_eq_true_eq]
  unfold okM
  rw [List.all_eq_true]
  constructor
  · intro h
    have h' : ∀ i (hi : i < p.ms.length), (∀ x ∈ p.ms.take i, ¬ (x.p = p.ms[i].p ∧ x.s = p.ms[i].s)) ∧ kindP p.ks p.ms[i].p = 1 ∧ vidOk p.ms[i].v ∧ hasC p.cs p.ms[i].s = true := by
      intro i hi
      have := h i (List.mem_range.2 hi)
      rw [one] at this
      simpa [List.getD_eq_getElem?_getD, List.getElem?_eq_getElem hi] using this
    refine ⟨?_, fun x hx => ?_⟩
    · rw [List.pairwise_iff_getElem]
      intro i j hi hj hij
      exact (h' j hj).1 _ (List.mem_take_iff_getElem.2 ⟨i, by omega, rfl⟩)
    · obtain ⟨i, hi, rfl⟩ := List.getElem_of_mem hx
      exact (h' i hi).2
  · rintro ⟨h1, h2⟩ i hi
    have hi := List.mem_range.1 hi
    rw [one]
    have e : p.ms.getD i default = p.ms[i] := by simp [List.getD_eq_getElem?_getD, List.getElem?_eq_getElem hi]
    rw [e]
    refine ⟨fun x hx => ?_, h2 _ (List.getElem_mem hi)⟩
    rw [List.pairwise_iff_getElem] at h1
    obtain ⟨k, hk, rfl⟩ := List.mem_take_iff_getElem.1 hx
    exact h1 k i (by omega) hi (by omega)
theorem okB_iff (p : Pv) : okB p = true ↔ Okp p := by
  have hA : okA p = true ↔ kindZ p.own.a p.own.b p.own.c p.own.d p.own.e p.own.f = 1 ∧ (1 ≤ p.ks.length ∧ p.ks.length ≤ 8) ∧ p.ms.length ≤ 64 ∧ p.cs.length ≤ 64 ∧ p.bs.length ≤ 64 := by
    unfold okA
    simp only [Bool.and_eq_true, beq_iff_eq, decide_eq_true_eq]
    omega
  have hR : okR p = true ↔ p.bs.Pairwise (fun a b => ltMb a b = true) ∧ p.cs.Pairwise (fun a b => ltCr a b = true) ∧ p.ms.Pairwise (fun a b => beforeB a b = true) := by
    unfold okR
    simp only [Bool.and_eq_true]
    rw [ris_pw ltMb_tr, ris_pw ltCr_tr, ris_pw before_tr]
  have hQ : okQ p = true ↔ (∀ k ∈ p.ks, k = 1 ∨ k = 2) ∧ (∀ x ∈ p.bs, vidOk x.v ∧ portsE p.ks x.l = 0) ∧ ∀ x ∈ p.cs, isidOk x.s ∧ hasM p.bs x.v = true := by
    unfold okQ
    simp only [Bool.and_eq_true, Bool.not_eq_true', List.any_eq_false, Bool.or_eq_true, not_or, bne_iff_ne, ne_eq, Classical.not_not, decide_eq_true_eq, decide_eq_false_iff_not, Bool.not_eq_false]
    have hk : ∀ x : Int, ¬ (¬ x = 1 ∧ ¬ x = 2) ↔ x = 1 ∨ x = 2 := fun x => by omega
    simp only [hk]
  unfold okB
  simp only [Bool.and_eq_true]
  rw [hA, hR, hQ, okM_iff]
  constructor
  · rintro ⟨⟨a1, ⟨a2, a3⟩, a4, a5, a6⟩, ⟨b1, b2, b3⟩, ⟨c1, c2, c3⟩, d1, d2⟩
    exact ⟨a1, a2, a3, c1, a4, a5, a6, b3, b2, b1, c2, c3, d2, d1⟩
  · rintro ⟨a1, a2, a3, c1, a4, a5, a6, b3, b2, b1, c2, c3, d2, d1⟩
    exact ⟨⟨a1, ⟨a2, a3⟩, a4, a5, a6⟩, ⟨b1, b2, b3⟩, ⟨c1, c2, c3⟩, d1, d2⟩
theorem chk_iff (p : Pv) : checkE p = 0 ↔ Okp p := by
  rw [← okB_iff]
  unfold checkE
  cases okB p <;> simp
/-! ### Insertion -/
theorem insL_perm {α : Type} {lt : α → α → Bool} {x : α} : ∀ {L : List α}, (insL lt x L).Perm (x :: L)
  | [] => List.Perm.refl _
  | y :: l => by
    rw [insL]
    split
    · exact List.Perm.refl _
    · exact (List.Perm.cons y insL_perm).trans (List.Perm.swap x y l)
theorem insL_mem {α : Type} {lt : α → α → Bool} {x y : α} {L : List α} : y ∈ insL lt x L ↔ y = x ∨ y ∈ L := by
  rw [insL_perm.mem_iff, List.mem_cons]
theorem insL_lenE {α : Type} {lt : α → α → Bool} {x : α} {L : List α} : (insL lt x L).length = L.length + 1 := by
  rw [insL_perm.length_eq]; rfl
theorem insL_pw {α : Type} {lt : α → α → Bool} (tr : ∀ a b c, lt a b = true → lt b c = true → lt a c = true) {x : α} : ∀ {L : List α}, (∀ y ∈ L, lt x y = true ∨ lt y x = true) → L.Pairwise (fun a b => lt a b = true) → (insL lt x L).Pairwise (fun a b => lt a b = true)
  | [], _, _ => by simp [insL]
  | y :: l, ht, h => by
    rw [List.pairwise_cons] at h
    rw [insL]
    split
    · rename_i hxy
      refine List.pairwise_cons.2 ⟨fun z hz => ?_, List.pairwise_cons.2 h⟩
      rcases List.mem_cons.1 hz with rfl | hz
      · exact hxy
      · exact tr _ _ _ hxy (h.1 z hz)
    · rename_i hxy
      refine List.pairwise_cons.2 ⟨fun z hz => ?_, insL_pw tr (fun w hw => ht w (by simp [hw])) h.2⟩
      rcases insL_mem.1 hz with rfl | hz
      · rcases ht y (by simp) with h1 | h1
        · exact absurd h1 hxy
        · exact h1
      · exact h.1 z hz
/-! ### What adding asks -/
theorem hasM_iff {bs : List Mb} {n : Int} : hasM bs n = true ↔ ∃ y ∈ bs, y.v = n := by
  unfold hasM; simp [List.any_eq_true]
theorem hasC_iff {cs : List Cr} {n : Int} : hasC cs n = true ↔ ∃ y ∈ cs, y.s = n := by
  unfold hasC; simp [List.any_eq_true]
theorem addMap_iff {p : Pv} {m : Mp} : addMapE p m = 0 ↔ vidOk m.v ∧ isidOk m.s ∧ kindP p.ks m.p = 1 ∧ (∀ x ∈ p.ms, ¬ (x.p = m.p ∧ (x.v = m.v ∨ x.s = m.s))) ∧ hasC p.cs m.s = true ∧ p.ms.length < 64 := by
  unfold addMapE aMap fullZ
  have hb : (p.ms.any fun x => x.p == m.p && (x.v == m.v || x.s == m.s)) = false ↔ ∀ x ∈ p.ms, ¬ (x.p = m.p ∧ (x.v = m.v ∨ x.s = m.s)) := by
    simp only [List.any_eq_false, Bool.and_eq_true, Bool.or_eq_true, beq_iff_eq]
  rw [← hb]
  generalize (p.ms.any fun x => x.p == m.p && (x.v == m.v || x.s == m.s)) = b
  generalize kindP p.ks m.p = kk
  by_cases a1 : vidOk m.v <;> by_cases a2 : isidOk m.s <;> by_cases a3 : kk = 1 <;> cases b <;> cases a5 : hasC p.cs m.s <;> by_cases a6 : p.ms.length < 64 <;> simp [a1, a2, a3] <;> (try split) <;> omega
theorem addCarry_iff {p : Pv} {c : Cr} : addCarryE p c = 0 ↔ isidOk c.s ∧ vidOk c.v ∧ hasC p.cs c.s = false ∧ hasM p.bs c.v = true ∧ p.cs.length < 64 := by
  unfold addCarryE aCar fullZ
  by_cases a1 : isidOk c.s <;> by_cases a2 : vidOk c.v <;> cases a3 : hasC p.cs c.s <;> cases a4 : hasM p.bs c.v <;> by_cases a6 : p.cs.length < 64 <;> simp [a1, a2] <;> omega
theorem setMember_iff {p : Pv} {w : Mb} : setMemberE p w = 0 ↔ vidOk w.v ∧ portsE p.ks w.l = 0 ∧ (hasM p.bs w.v = true ∨ p.bs.length < 64) := by
  unfold setMemberE sMem fullZ
  by_cases a1 : vidOk w.v <;> by_cases a2 : portsE p.ks w.l = 0 <;> cases a4 : hasM p.bs w.v <;> by_cases a6 : p.bs.length < 64 <;> simp [a1, a2] <;> omega
/-- A member is laid over one that is there, or in between. -/
theorem setMb_cases {bs : List Mb} (hr : bs.Pairwise (fun a b => ltMb a b = true)) (w : Mb) :
    ∃ A B, setMbL w bs = A ++ w :: B ∧ (∀ z ∈ A, z.v < w.v) ∧ (∀ z ∈ B, w.v < z.v) ∧ ((∃ y, bs = A ++ y :: B ∧ y.v = w.v) ∨ (bs = A ++ B ∧ hasM bs w.v = false)) := by
  have hrB := (ris_pw ltMb_tr).2 hr
  have key : ∀ a b : Mb, ltMb a b = true ↔ a.v < b.v := fun a b => by unfold ltMb; exact decide_eq_true_iff
  obtain ⟨n0, hn, hlo, hhi⟩ := cut_of (lt := ltMb) (c := fun y => cmpZ y.v w.v) (fun a b hab hb => (cmpZ_neg _ _).2 (Int.lt_trans ((key a b).1 hab) ((cmpZ_neg _ _).1 hb))) hrB
  have lo : ∀ (k : Nat) (z : Mb), bs[k]? = some z → k < n0 → z.v < w.v := fun k z hz hk => (cmpZ_neg _ _).1 (hlo k z hz hk)
  have hi : ∀ (k : Nat) (z : Mb), bs[k]? = some z → n0 ≤ k → ¬ z.v < w.v := fun k z hz hk hh => hhi k z hz hk ((cmpZ_neg _ _).2 hh)
  have hA : ∀ z ∈ bs.take n0, z.v < w.v := fun z hz => by
    obtain ⟨k, hk, hg⟩ := in_take hz
    exact lo k z hg hk
  by_cases hm : hasM bs w.v = true
  · obtain ⟨y, hy, hyv⟩ := hasM_iff.1 hm
    obtain ⟨k, hk⟩ := List.getElem?_of_mem hy
    have hkn : n0 ≤ k := Nat.le_of_not_lt fun h => by have := lo k y hk h; omega
    have hk0 : k = n0 := by
      rcases Nat.lt_or_ge n0 k with h | h
      · have hkl := (List.getElem?_eq_some_iff.1 hk).1
        have hg : bs[n0]? = some bs[n0] := List.getElem?_eq_getElem (by omega)
        have h1 := hi n0 _ hg (Nat.le_refl _)
        rw [List.pairwise_iff_getElem] at hr
        have h2 := (key _ _).1 (hr n0 k (by omega) hkl h)
        rw [(List.getElem?_eq_some_iff.1 hk).2] at h2
        omega
      · omega
    subst hk0
    refine ⟨bs.take k, bs.drop (k + 1), setMb_found hrB lo hk hyv.symm, hA, fun z hz => ?_, .inl ⟨y, at_cut hk, hyv⟩⟩
    rw [at_cut hk, List.pairwise_append] at hr
    have := (key _ _).1 ((List.pairwise_cons.1 hr.2.1).1 z hz)
    omega
  · have hm' : hasM bs w.v = false := by simpa using hm
    have hno : ∀ z ∈ bs, ¬ w.v = z.v := fun z hz e => hm (hasM_iff.2 ⟨z, hz, e.symm⟩)
    refine ⟨bs.take n0, bs.drop n0, setMb_new lo hi hno, hA, fun z hz => ?_, .inr ⟨(List.take_append_drop _ _).symm, hm'⟩⟩
    obtain ⟨k, hk, hg⟩ := in_drop hz
    have := hi k z hg hk
    have := hno z (List.mem_of_mem_drop hz)
    omega
end Go.Ai

set_option linter.unusedVariables false
set_option linter.unusedSimpArgs false
set_option maxHeartbeats 1000000
set_option maxRecDepth 100000
namespace Go.Ai
open Go.Proofs
/-! ## What commands leave may be; what is undone is as it was -/
theorem okp_addMap {p : Pv} {m : Mp} (h : Okp p) (e : addMapE p m = 0) : Okp { p with ms := insL beforeB m p.ms } := by
  obtain ⟨e1, e2, e3, e4, e5, e6⟩ := addMap_iff.1 e
  refine ⟨h.kd, h.k1, h.k8, h.kk, ?_, h.cl, h.bl, ?_, h.rc, h.rb, h.mb, h.mc, ?_, ?_⟩
  · show (insL beforeB m p.ms).length ≤ 64
    rw [insL_lenE]; omega
  · refine insL_pw before_tr (fun y hy => ?_) h.rm
    have := e4 y hy
    rw [before_iff, before_iff]
    omega
  · intro x hx
    rcases insL_mem.1 hx with rfl | hx
    · exact ⟨e3, e1, e5⟩
    · exact h.mm x hx
  · show (insL beforeB m p.ms).Pairwise _
    rw [(insL_perm (lt := beforeB) (x := m) (L := p.ms)).pairwise_iff (fun {a b} hab hba => hab ⟨hba.1.symm, hba.2.symm⟩)]
    refine List.pairwise_cons.2 ⟨fun y hy hc => e4 y hy ⟨hc.1.symm, .inr hc.2.symm⟩, h.mo⟩
theorem okp_delMap {p : Pv} (f : Mp → Bool) (h : Okp p) : Okp { p with ms := p.ms.filter f } :=
  ⟨h.kd, h.k1, h.k8, h.kk, Nat.le_trans (List.length_filter_le _ _) h.ml, h.cl, h.bl, h.rm.filter _, h.rc, h.rb, h.mb, h.mc, fun x hx => h.mm x (List.mem_filter.1 hx).1, h.mo.filter _⟩
theorem okp_addCarry {p : Pv} {c : Cr} (h : Okp p) (e : addCarryE p c = 0) : Okp { p with cs := insL ltCr c p.cs } := by
  obtain ⟨e1, e2, e3, e4, e5⟩ := addCarry_iff.1 e
  have hn : ∀ y ∈ p.cs, ¬ y.s = c.s := fun y hy he => by
    have := hasC_iff.2 ⟨y, hy, he⟩
    rw [e3] at this; cases this
  refine ⟨h.kd, h.k1, h.k8, h.kk, h.ml, ?_, h.bl, h.rm, ?_, h.rb, h.mb, ?_, ?_, h.mo⟩
  · show (insL ltCr c p.cs).length ≤ 64
    rw [insL_lenE]; omega
  · refine insL_pw ltCr_tr (fun y hy => ?_) h.rc
    have := hn y hy
    unfold ltCr
    simp only [decide_eq_true_eq]
    omega
  · intro x hx
    rcases insL_mem.1 hx with rfl | hx
    · exact ⟨e1, e4⟩
    · exact h.mc x hx
  · intro x hx
    obtain ⟨a, b, d⟩ := h.mm x hx
    obtain ⟨y, hy, hv⟩ := hasC_iff.1 d
    exact ⟨a, b, hasC_iff.2 ⟨y, insL_mem.2 (.inr hy), hv⟩⟩
theorem okp_delCarry {p : Pv} {c : Cr} (h : Okp p) (hu : ∀ x ∈ p.ms, ¬ x.s = c.s) : Okp { p with cs := p.cs.filter (fun y : Cr => !decide (y = c)) } := by
  refine ⟨h.kd, h.k1, h.k8, h.kk, h.ml, Nat.le_trans (List.length_filter_le _ _) h.cl, h.bl, h.rm, h.rc.filter _, h.rb, h.mb, fun x hx => h.mc x (List.mem_filter.1 hx).1, ?_, h.mo⟩
  intro x hx
  obtain ⟨a, b, d⟩ := h.mm x hx
  obtain ⟨y, hy, hv⟩ := hasC_iff.1 d
  refine ⟨a, b, hasC_iff.2 ⟨y, List.mem_filter.2 ⟨hy, ?_⟩, hv⟩⟩
  have : ¬ y = c := fun e => hu x hx (by rw [← hv, e])
  simp [this]
theorem okp_setMember {p : Pv} {w : Mb} (h : Okp p) (e : setMemberE p w = 0) : Okp { p with bs := setMbL w p.bs } := by
  obtain ⟨e1, e2, e3⟩ := setMember_iff.1 e
  obtain ⟨A, B, hs, hA, hB, hd⟩ := setMb_cases h.rb w
  have key : ∀ a b : Mb, ltMb a b = true ↔ a.v < b.v := fun a b => by unfold ltMb; exact decide_eq_true_iff
  have hab : (A ++ B).Pairwise (fun a b => ltMb a b = true) := by
    rcases hd with ⟨y, hy, hv⟩ | ⟨hy, _⟩
    · have := h.rb
      rw [hy] at this
      exact this.sublist (List.Sublist.append (List.Sublist.refl _) (List.sublist_cons_self _ _))
    · rw [← hy]; exact h.rb
  have hin : ∀ z ∈ A ++ B, z ∈ p.bs := by
    intro z hz
    rcases hd with ⟨y, hy, hv⟩ | ⟨hy, _⟩
    · rw [hy]
      rcases List.mem_append.1 hz with hz | hz
      · exact List.mem_append_left _ hz
      · exact List.mem_append_right _ (List.mem_cons_of_mem _ hz)
    · rw [hy]; exact hz
  have hM : ∀ n, hasM p.bs n = true → hasM (setMbL w p.bs) n = true := by
    intro n hn
    obtain ⟨z, hz, hv⟩ := hasM_iff.1 hn
    rw [hs]
    rcases hd with ⟨y, hy, hyv⟩ | ⟨hy, _⟩
    · rw [hy] at hz
      rcases List.mem_append.1 hz with hz | hz
      · exact hasM_iff.2 ⟨z, List.mem_append_left _ hz, hv⟩
      · rcases List.mem_cons.1 hz with rfl | hz
        · exact hasM_iff.2 ⟨w, by simp, by rw [← hyv, hv]⟩
        · exact hasM_iff.2 ⟨z, by simp [hz], hv⟩
    · rw [hy] at hz
      rcases List.mem_append.1 hz with hz | hz
      · exact hasM_iff.2 ⟨z, List.mem_append_left _ hz, hv⟩
      · exact hasM_iff.2 ⟨z, by simp [hz], hv⟩
  refine ⟨h.kd, h.k1, h.k8, h.kk, h.ml, h.cl, ?_, h.rm, h.rc, ?_, ?_, fun x hx => ⟨(h.mc x hx).1, hM _ (h.mc x hx).2⟩, h.mm, h.mo⟩
  · show (setMbL w p.bs).length ≤ 64
    rw [hs]
    have hbl := h.bl
    rcases hd with ⟨y, hy, hyv⟩ | ⟨hy, hno⟩
    · rw [hy] at hbl; simpa using hbl
    · rw [hno] at e3
      rcases e3 with e3 | e3
      · cases e3
      · rw [hy] at e3; simp at e3 ⊢; omega
  · show (setMbL w p.bs).Pairwise _
    rw [hs]
    rw [List.pairwise_append] at hab ⊢
    refine ⟨hab.1, List.pairwise_cons.2 ⟨fun z hz => (key _ _).2 (hB z hz), hab.2.1⟩, fun a ha z hz => ?_⟩
    rcases List.mem_cons.1 hz with rfl | hz
    · exact (key _ _).2 (hA a ha)
    · exact hab.2.2 a ha z hz
  · intro x hx
    have hx : x ∈ A ++ w :: B := hs ▸ hx
    rcases List.mem_append.1 hx with hx | hx
    · exact h.mb x (hin x (List.mem_append_left _ hx))
    · rcases List.mem_cons.1 hx with rfl | hx
      · exact ⟨e1, e2⟩
      · exact h.mb x (hin x (List.mem_append_right _ hx))
theorem okp_delMember {p : Pv} {v : Int} (h : Okp p) (hu : ∀ x ∈ p.cs, ¬ x.v = v) : Okp { p with bs := p.bs.filter (fun y : Mb => y.v != v) } := by
  refine ⟨h.kd, h.k1, h.k8, h.kk, h.ml, h.cl, Nat.le_trans (List.length_filter_le _ _) h.bl, h.rm, h.rc, h.rb.filter _, fun x hx => h.mb x (List.mem_filter.1 hx).1, ?_, h.mm, h.mo⟩
  intro x hx
  obtain ⟨a, d⟩ := h.mc x hx
  obtain ⟨y, hy, hv⟩ := hasM_iff.1 d
  refine ⟨a, hasM_iff.2 ⟨y, List.mem_filter.2 ⟨hy, ?_⟩, hv⟩⟩
  have : ¬ y.v = v := fun e => hu x hx (by rw [← hv, e])
  simpa using this
theorem used_none {α : Type} {f : α → Bool} {g : α → Int} {L : List α} (h : decide ((0 : Int) < (((L.filter f).map g).length : Int)) = false) : ∀ x ∈ L, f x = false := by
  simp only [List.length_map, decide_eq_false_iff_not] at h
  have h0 : (L.filter f).length = 0 := by omega
  have h1 := List.eq_nil_of_length_eq_zero h0
  intro x hx
  cases hf : f x with
  | false => rfl
  | true =>
    have : x ∈ L.filter f := List.mem_filter.2 ⟨hx, hf⟩
    rw [h1] at this; cases this
/-- Do, of what may be. -/
theorem do_cases {p : Pv} (h : Okp p) (x : Cm) : refDo p x =
    if x.k == 1 then (if addMapE p x.m == 0 then ({ p with ms := insL beforeB x.m p.ms }, 0) else (p, addMapE p x.m))
    else if x.k == 2 then (if decide (x.m ∈ p.ms) then ({ p with ms := p.ms.filter (fun y : Mp => !decide (y = x.m)) }, 0) else (p, 182))
    else if x.k == 3 then (if addCarryE p x.c == 0 then ({ p with cs := insL ltCr x.c p.cs }, 0) else (p, addCarryE p x.c))
    else if x.k == 4 then (if decide (x.c ∈ p.cs) then (if decide ((0 : Int) < ((usedC p x.c.s).length : Int)) then (p, 183) else ({ p with cs := p.cs.filter (fun y : Cr => !decide (y = x.c)) }, 0)) else (p, 182))
    else if x.k == 5 then (if setMemberE p x.w == 0 then ({ p with bs := setMbL x.w p.bs }, 0) else (p, setMemberE p x.w))
    else if x.k == 6 then (if hasM p.bs x.w.v then (if decide ((0 : Int) < ((usedM p x.w.v).length : Int)) then (p, 183) else ({ p with bs := p.bs.filter (fun y : Mb => y.v != x.w.v) }, 0)) else (p, 182))
    else (p, 1) := by
  rw [← doL_ref]
  unfold doL
  rw [(chk_iff p).2 h]
  rfl
theorem refDo_okp {p : Pv} (h : Okp p) (x : Cm) : Okp (refDo p x).1 := by
  rw [do_cases h]
  split
  · split
    · rename_i e; exact okp_addMap h (by simpa using e)
    · exact h
  split
  · split
    · exact okp_delMap _ h
    · exact h
  split
  · split
    · rename_i e; exact okp_addCarry h (by simpa using e)
    · exact h
  split
  · split
    · split
      · exact h
      · rename_i e
        exact okp_delCarry h fun y hy => by
          have := used_none (f := fun z : Mp => z.s == x.c.s) (g := fun z : Mp => z.p) (by simpa [usedC] using e) y hy
          simpa using this
    · exact h
  split
  · split
    · rename_i e; exact okp_setMember h (by simpa using e)
    · exact h
  split
  · split
    · split
      · exact h
      · rename_i e
        exact okp_delMember h fun y hy => by
          have := used_none (f := fun z : Cr => z.v == x.w.v) (g := fun z : Cr => z.s) (by simpa [usedM] using e) y hy
          simpa using this
    · exact h
  · exact h
theorem refDo_own (p : Pv) (x : Cm) : (refDo p x).1.own = p.own := by
  unfold refDo refMap refMapD refCar refCarD refMem refMemD
  (repeat' split) <;> rfl
theorem refDo_err {p : Pv} (h : Okp p) (x : Cm) (e : (refDo p x).2 ≠ 0) : (refDo p x).1 = p := by
  revert e
  rw [do_cases h]
  (repeat' split) <;> simp
/-! ### Undone -/
end Go.Ai

set_option linter.unusedVariables false
set_option linter.unusedSimpArgs false
set_option maxHeartbeats 4000000
set_option maxRecDepth 100000
namespace Go.Ai
open Go.Proofs
attribute [local go_sem] QH QR V.noimm V.noimms frzZs frzZ frzA frzV frzVs frzBox boxLen Option.isSome cond_true cond_false aopD calW flatV stepX amap stepY alookup afind aupdate adelete amlen arange ameq mapOf akeq pl V.mapT V.mapTs Option.bind stepK runK guardD stepE runD callD compact selB callK evS ofVal ofVals scalar aop ares mkRes V.rn V.rns V.cells? cellsAt Go.Ai.part aload astore setL V.atom abin aun intBin shiftBin aconv fieldOf aindexAddr aindex bound? aslice aarr abuild afill alen nilP nilS nilF aeq eqCells eqCell Go.Ai.known strBin abuiltin aappend abuildSlice arowsFill amakeSlice acopy aclear minmax rowsOf numsT notStr isIntD isByte V.pz V.pzs T.toV frz1 frz scalT scalTs chunkT List.range List.range.loop ite_true ite_false if_true if_false ne_eq implies_true forall_const eq_self IntKind.bits kPostKF_ret kPostKF_normal kPostX_ret kPostX_normal bsl nil2K nil2 kPostFW_ret kPostFW_normal kPostKM_ret kPostKM_normal kPostXK_ret kPostXK_normal
/-! ## Made -/
abbrev zBx : Blk := .box [.s (.int .u8 0), .s (.int .u8 0), .s (.int .u8 0), .s (.int .u8 0), .s (.int .u8 0), .s (.int .u8 0), .s (.slice none 0 0), .s (.slice none 0 0), .s (.slice none 0 0), .s (.slice none 0 0)] false
def begP (ks : List Int) : Pv := ⟨⟨2, 0, 0, 0, 0, 1⟩, ks, [], [], []⟩
def mstep (p : Pv) (x : Cm) : Pv := if (refDo p (shortC x)).2 == 0 then (refDo p (shortC x)).1 else p
structure Gdp (p : Pv) : Prop where
  ok : Okp p
  l : okL p
  o : isB p.own.a
theorem gd_beg {ks : List Int} (h1 : 1 ≤ ks.length) (h8 : ks.length ≤ 8) (hk : ∀ k ∈ ks, k = 1 ∨ k = 2) : Gdp (begP ks) := by
  refine ⟨⟨by show kindZ 2 0 0 0 0 1 = 1; decide, h1, h8, hk, by simp [begP], by simp [begP], by simp [begP], by simp [begP], by simp [begP], by simp [begP], by simp [begP], by simp [begP], by simp [begP], by simp [begP]⟩, ⟨by simp [begP]; omega, by simp [begP], by simp [begP], by simp [begP], by simp [begP]⟩, by simp [begP, isB]⟩
theorem shortC_len (x : Cm) : (shortC x).w.l.length ≤ 1000 := by simp [shortC, shortM]; omega
theorem gd_do {p : Pv} (h : Gdp p) (x : Cm) (hw : x.w.l.length ≤ 1000) : Gdp (refDo p x).1 := by
  obtain ⟨a, b, c, d, e⟩ := h.l
  refine ⟨refDo_okp h.ok x, refDo_ok a ?_ ?_ ?_ e hw, by rw [refDo_own]; exact h.o⟩
  · have := h.ok.ml; omega
  · have := h.ok.cl; omega
  · have := h.ok.bl; omega
theorem gd_step {p : Pv} (h : Gdp p) (x : Cm) : Gdp (mstep p x) := by
  unfold mstep
  split
  · exact gd_do h _ (shortC_len x)
  · exact h
theorem gd_fold : ∀ {l : List Cm} {p : Pv}, Gdp p → Gdp (l.foldl mstep p)
  | [], p, h => h
  | x :: l, p, h => by rw [List.foldl_cons]; exact gd_fold (gd_step h x)
def bitK (b : Int) (i : Nat) : Bool := bAnd .u8 (b.fdiv (2 ^ i)) 1 == 1
def kindsB (b : Int) (n : Nat) : List Int := (List.range n).map fun i => if bitK b i = true then 2 else 1
theorem kindsB_len (b : Int) (n : Nat) : (kindsB b n).length = n := by simp [kindsB]
theorem kindsB_succ (b : Int) (n : Nat) : kindsB b (n + 1) = kindsB b n ++ [if bitK b n = true then 2 else 1] := by simp [kindsB, List.range_succ]
theorem kindsB_mem (b : Int) (n : Nat) : ∀ k ∈ kindsB b n, k = 1 ∨ k = 2 := by
  intro k hk
  obtain ⟨i, _, rfl⟩ := List.mem_map.1 hk
  split
  · exact .inr rfl
  · exact .inl rfl
def kindsN (b n : Int) : List Int := kindsB b ((n % 8).toNat + 1)
theorem gd_kinds (b n : Int) : Gdp (begP (kindsN b n)) := gd_beg (by unfold kindsN; rw [kindsB_len]; omega) (by unfold kindsN; rw [kindsB_len]; omega) (kindsB_mem _ _)
def Mk16 (b n : Int) (L : V) (M : Nat) (k : Nat) (S : St) : Prop :=
  ∃ (j : Nat) (mv : List Nat), S = ⟨tms [(0, .s (.int .u8 b)), (1, .s (.int .u8 n)), (2, L), (6, .ptr 0 0 0), (7, .own 1 0 j), (8, vI j)], [zBx, .rows 1 ((kindsB b j).map inT) false], mv⟩ ∧ j ≤ M ∧ k = M - j
def madeP (ks : List Int) (L : List Cm) : Pv := (L.take 100).foldl mstep (begP ks)
theorem gd_made (b n : Int) (L : List Cm) : Gdp (madeP (kindsN b n) L) := gd_fold (gd_kinds b n)
def Ml16 (L : List Cm) (ks : List Int) (k : Nat) (S : St) : Prop :=
  ∃ (j : Nat) (p : Pv) (mv : List Nat), S = ⟨tms [(2, .sl 21 (L.map cmT)), (6, .ptr 0 0 0), (10, .ptr 1 0 0), (11, vI j)], [zBx, bxP p], mv⟩ ∧ j ≤ (L.take 100).length ∧ k = (L.take 100).length - j ∧ p = ((L.take 100).take j).foldl mstep (begP ks)
theorem pm16 (b n : Int) (hb : isB b) (hn : isB n) (L : List Cm) : AC Tryz.prog 16 [.s (.int .u8 b), .s (.int .u8 n), .sl 21 (L.map cmT)] [] (eqR (pvV (madeP (kindsN b n) L))) := by
  obtain ⟨M, hMe⟩ : ∃ M : Nat, (n % 8).toNat = M := ⟨_, rfl⟩
  have hM : n.tmod 8 = (M : Int) := by rw [Int.tmod_eq_emod_of_nonneg hn.1]; omega
  have hM7 : M ≤ 7 := by omega
  have wn : IntKind.i64.wrap n = n := wI64 _ (by have := hn.1; omega) (by have := hn.2; omega)
  have wM : IntKind.i64.wrap (1 + (M : Int)) = ((M + 1 : Nat) : Int) := by rw [wI64 _ (by omega) (by omega)]; omega
  have hK : kindsN b n = kindsB b (M + 1) := by unfold kindsN; rw [hMe]
  have gk := gd_kinds b n
  rw [hK] at gk ⊢
  refine AC_frozen orders Tryz.func16 rfl (by kernel_rfl) (by kernel_rfl) Tryz.ntmps16 (by simp) ?_
  unfold Tryz.f16
  (have hwq := trivial; repeat' (first | simp (maxSteps:=9999999)-implicitDefEqProofs only [go_sem,simprocAttr,hwq,FT3,FT4,FT5,FT23,FT24,FT25,FT26,FT27,FT29,FT30,FT32,FT34,FT35,FT37,FT39,FT40,FT41,FT43,FT46,FT52,FT59,FT85,List.length_map,List.getElem?_map,Int.natCast_nonneg,List.length_append,List.map_append] | (refine condK_split ?_ ?_ <;> intro hwq) | (refine two_split ?_ ?_) | (refine guardK_split ?_ ?_ <;> intro hwq) | (refine guardE_split ?_ ?_ <;> intro hwq) | (refine awp_drawW [] (by decide +kernel) ?_; have hwq := trivial) | fail))
  refine awp_loopK (Mk16 b n (.sl 21 (L.map cmT)) (M + 1)) (M + 1) _ (Weak.trans (Weak.virt 7 1 (.inl rfl)) (Weak.cutI 2 [0, 1, 2, 6, 7, 8] ?_ ?_)) ⟨0, _, rfl, by simp, rfl⟩ ?_
  · simp (maxSteps:=9999999)-implicitDefEqProofs only [simprocAttr,QH,Option.isSome,cond_true,cond_false,Option.bind,selB,V.rn,V.rns,Go.Ai.known,V.pz,V.pzs,T.toV,frz1,List.range,List.range.loop,ite_true,ite_false,if_true,if_false,ne_eq,implies_true,forall_const,eq_self,IntKind.bits,upd_tmsS,selT_cons,selT_nil,List.length_map,List.getElem?_map,Int.natCast_nonneg,List.length_append,List.map_append]
  · simp (maxSteps:=9999999)-implicitDefEqProofs only [simprocAttr,QH,Option.isSome,cond_true,cond_false,Option.bind,selB,V.rn,V.rns,Go.Ai.known,V.pz,V.pzs,T.toV,frz1,List.range,List.range.loop,ite_true,ite_false,if_true,if_false,ne_eq,implies_true,forall_const,eq_self,IntKind.bits,upd_tmsS,selT_cons,selT_nil,show kindsB b 0 = [] from rfl, List.map_nil]
  rintro kk S ⟨j, mv, rfl, hk, rfl⟩
  have zs : (j + 1) * 8 ≤ 140737488355328 := by omega
  have wj : IntKind.i64.wrap ((j : Int) + 1) = (j : Int) + 1 := wI64 _ (by omega) (by omega)
  have wu : IntKind.u64.wrap (j : Int) = (j : Int) := wU64 _ (by omega) (by omega)
  have hj8 : j ≤ 8 := by omega
  have hkl := kindsB_len b j
  obtain ⟨ks, hks⟩ : ∃ ks, (kindsB b j).map inT = ks := ⟨_, rfl⟩
  have hksl : ks.length = j := by rw [← hks]; simpa using hkl
  by_cases hjl : j < M + 1
  · have hjl' : (j : Int) < (M : Int) + 1 := by omega
    rw [hks]
    (have hwq := trivial; repeat' (first | simp (maxSteps:=9999999)-implicitDefEqProofs only [go_sem,simprocAttr,hwq,FT3,FT4,FT5,FT23,FT24,FT25,FT26,FT27,FT29,FT30,FT32,FT34,FT35,FT37,FT39,FT40,FT41,FT43,FT46,FT52,FT59,FT85,List.length_map,List.getElem?_map,Int.natCast_nonneg,List.length_append,List.map_append,wn,hM,wM,wj,zs,wu,hj8,hjl',hksl] | (refine condK_split ?_ ?_ <;> intro hwq) | (refine two_split ?_ ?_) | (refine guardK_split ?_ ?_ <;> intro hwq) | (refine guardE_split ?_ ?_ <;> intro hwq) | (refine awp_drawW [] (by decide +kernel) ?_; have hwq := trivial) | fail))
    · have hs : (kindsB b (j + 1)).map inT = ks ++ [inT 2] := by rw [kindsB_succ, if_pos (show bitK b j = true from hwq), List.map_append, hks]; rfl
      refine ⟨M + 1 - (j + 1), _, by omega, Weak.cutI 2 [0, 1, 2, 6, 7, 8] ?_ ?_, j + 1, _, rfl, by omega, rfl⟩
      · simp (maxSteps:=9999999)-implicitDefEqProofs only [simprocAttr,QH,Option.isSome,cond_true,cond_false,Option.bind,selB,V.rn,V.rns,Go.Ai.known,V.pz,V.pzs,T.toV,frz1,List.range,List.range.loop,ite_true,ite_false,if_true,if_false,ne_eq,implies_true,forall_const,eq_self,IntKind.bits,upd_tmsS,selT_cons,selT_nil,List.length_map,List.getElem?_map,Int.natCast_nonneg,List.length_append,List.map_append]
      · simp (maxSteps:=9999999)-implicitDefEqProofs only [simprocAttr,QH,Option.isSome,cond_true,cond_false,Option.bind,selB,V.rn,V.rns,Go.Ai.known,V.pz,V.pzs,T.toV,frz1,List.range,List.range.loop,ite_true,ite_false,if_true,if_false,ne_eq,implies_true,forall_const,eq_self,IntKind.bits,upd_tmsS,selT_cons,selT_nil,List.length_map,List.getElem?_map,Int.natCast_nonneg,List.length_append,List.map_append,hs]
    · have hs : (kindsB b (j + 1)).map inT = ks ++ [inT 1] := by rw [kindsB_succ, if_neg (by rw [show bitK b j = false from hwq]; simp), List.map_append, hks]; rfl
      refine ⟨M + 1 - (j + 1), _, by omega, Weak.cutI 2 [0, 1, 2, 6, 7, 8] ?_ ?_, j + 1, _, rfl, by omega, rfl⟩
      · simp (maxSteps:=9999999)-implicitDefEqProofs only [simprocAttr,QH,Option.isSome,cond_true,cond_false,Option.bind,selB,V.rn,V.rns,Go.Ai.known,V.pz,V.pzs,T.toV,frz1,List.range,List.range.loop,ite_true,ite_false,if_true,if_false,ne_eq,implies_true,forall_const,eq_self,IntKind.bits,upd_tmsS,selT_cons,selT_nil,List.length_map,List.getElem?_map,Int.natCast_nonneg,List.length_append,List.map_append]
      · simp (maxSteps:=9999999)-implicitDefEqProofs only [simprocAttr,QH,Option.isSome,cond_true,cond_false,Option.bind,selB,V.rn,V.rns,Go.Ai.known,V.pz,V.pzs,T.toV,frz1,List.range,List.range.loop,ite_true,ite_false,if_true,if_false,ne_eq,implies_true,forall_const,eq_self,IntKind.bits,upd_tmsS,selT_cons,selT_nil,List.length_map,List.getElem?_map,Int.natCast_nonneg,List.length_append,List.map_append,hs]
  · have hjM : j = M + 1 := by omega
    have hjl' : ¬ (j : Int) < (M : Int) + 1 := by omega
    rw [← hjM] at gk ⊢
    have n57 : AC Tryz.prog 57 [.sl 1 ks] [] (eqR (pvV (begP (kindsB b j)))) := hks ▸ pc57 (kindsB b j)
    have tk : List.take j ks = ks := List.take_of_length_le (by omega)
    have hfz : frzVs false [zBx, .rows 1 ks false] [.own 1 0 j] = some ([.sl 1 ks], [zBx, .rows 1 ks true]) := by
      simp [frzVs, frzV, frz1, T.toV, tk, hksl]
    rw [hks]
    generalize kindsB b j = kz at gk n57 ⊢
    have hni : (pvV (begP kz)).noimm = false := by
      have := gk.ok.k1
      cases kz with
      | nil => simp [begP] at this
      | cons a l => rfl
    (have hwq := trivial; repeat' (first | simp (maxSteps:=9999999)-implicitDefEqProofs only [go_sem,simprocAttr,hwq,FT3,FT4,FT5,FT23,FT24,FT25,FT26,FT27,FT29,FT30,FT32,FT34,FT35,FT37,FT39,FT40,FT41,FT43,FT46,FT52,FT59,FT85,List.length_map,List.getElem?_map,Int.natCast_nonneg,List.length_append,List.map_append,wn,hM,wM,hjl',hksl] | (refine condK_split ?_ ?_ <;> intro hwq) | (refine two_split ?_ ?_) | (refine guardK_split ?_ ?_ <;> intro hwq) | (refine guardE_split ?_ ?_ <;> intro hwq) | (refine awp_drawW [] (by decide +kernel) ?_; have hwq := trivial) | (refine call_dataF n57 hfz (V.les_refl _) rfl hni ?_; have hwq := trivial) | fail))
    refine awp_loopK (Ml16 L kz) (L.take 100).length _ (Weak.selI [0, 2] [2, 6, 10, 11] (by decide) ?_ ?_) ⟨0, begP kz, _, rfl, Nat.zero_le _, rfl, rfl⟩ ?_
    · simp (maxSteps:=9999999)-implicitDefEqProofs only [simprocAttr,QH,Option.isSome,cond_true,cond_false,Option.bind,selB,V.rn,V.rns,Go.Ai.known,V.pz,V.pzs,T.toV,frz1,List.range,List.range.loop,ite_true,ite_false,if_true,if_false,ne_eq,implies_true,forall_const,eq_self,IntKind.bits,upd_tmsS,selT_cons,selT_nil,List.length_map,List.getElem?_map,Int.natCast_nonneg,List.length_append,List.map_append,selF_cons,selF_nil]
    · simp (maxSteps:=9999999)-implicitDefEqProofs only [simprocAttr,QH,Option.isSome,cond_true,cond_false,Option.bind,selB,V.rn,V.rns,Go.Ai.known,V.pz,V.pzs,T.toV,frz1,List.range,List.range.loop,ite_true,ite_false,if_true,if_false,ne_eq,implies_true,forall_const,eq_self,IntKind.bits,upd_tmsS,selT_cons,selT_nil,List.length_map,List.getElem?_map,Int.natCast_nonneg,List.length_append,List.map_append]
    rintro kk S ⟨i, p, mv2, rfl, hi, rfl, hp⟩
    have gp : Gdp p := by rw [hp]; exact gd_fold gk
    have hl100 : (L.take 100).length ≤ 100 := by simp; omega
    have hlL : (L.take 100).length ≤ L.length := by simp; omega
    have wi : IntKind.i64.wrap ((i : Int) + 1) = (i : Int) + 1 := wI64 _ (by omega) (by omega)
    by_cases hil : i < (L.take 100).length
    · have hi1 : (i : Int) < (L.length : Int) := by omega
      have hi2 : (i : Int) < 100 := by omega
      obtain ⟨x, hx⟩ : ∃ x, L[i]? = some x := ⟨_, List.getElem?_eq_getElem (by omega)⟩
      have hx2 : (L.take 100)[i]? = some x := by rw [List.getElem?_take, if_pos (by omega)]; exact hx
      have n11 := pc11 x.w
      obtain ⟨w', hw'⟩ : ∃ w', shortM x.w = w' := ⟨_, rfl⟩
      rw [hw'] at n11
      have hs : shortC x = { x with w := w' } := by rw [← hw']
      have n13 := pc13 p gp.l gp.o (shortC x) (shortC_len x)
      have hst : mstep p x = if (refDo p (shortC x)).2 == 0 then (refDo p (shortC x)).1 else p := rfl
      have hnext : ((L.take 100).take (i + 1)).foldl mstep (begP kz) = mstep p x := by rw [take_in hx2, List.foldl_append, ← hp]; rfl
      obtain ⟨D, hD⟩ : ∃ D, refDo p (shortC x) = D := ⟨_, rfl⟩
      rw [hD] at n13 hst
      rw [hs] at n13
      obtain ⟨q, e⟩ := D
      cases hz : (e == 0) with
      | true =>
        rw [if_pos hz] at hst
        (have hwq := trivial; repeat' (first | simp (maxSteps:=9999999)-implicitDefEqProofs only [go_sem,simprocAttr,hwq,FT3,FT4,FT5,FT23,FT24,FT25,FT26,FT27,FT29,FT30,FT32,FT34,FT35,FT37,FT39,FT40,FT41,FT43,FT46,FT52,FT59,FT85,List.length_map,List.getElem?_map,Int.natCast_nonneg,List.length_append,List.map_append,hi1,hi2,hx,wi,hz] | (refine condK_split ?_ ?_ <;> intro hwq) | (refine two_split ?_ ?_) | (refine guardK_split ?_ ?_ <;> intro hwq) | (refine guardE_split ?_ ?_ <;> intro hwq) | (refine awp_drawW [] (by decide +kernel) ?_; have hwq := trivial) | (refine call_plain n11 rfl rfl ?_; have hwq := trivial) | (refine call_plain n13 rfl rfl ?_; have hwq := trivial) | fail))
        refine ⟨(L.take 100).length - (i + 1), _, by omega, Weak.cutI 2 [2, 6, 10, 11] ?_ ?_, i + 1, q, _, rfl, by omega, rfl, by rw [hnext, hst]⟩
        · simp (maxSteps:=9999999)-implicitDefEqProofs only [simprocAttr,QH,Option.isSome,cond_true,cond_false,Option.bind,selB,V.rn,V.rns,Go.Ai.known,V.pz,V.pzs,T.toV,frz1,List.range,List.range.loop,ite_true,ite_false,if_true,if_false,ne_eq,implies_true,forall_const,eq_self,IntKind.bits,upd_tmsS,selT_cons,selT_nil,List.length_map,List.getElem?_map,Int.natCast_nonneg,List.length_append,List.map_append]
        · simp (maxSteps:=9999999)-implicitDefEqProofs only [simprocAttr,QH,Option.isSome,cond_true,cond_false,Option.bind,selB,V.rn,V.rns,Go.Ai.known,V.pz,V.pzs,T.toV,frz1,List.range,List.range.loop,ite_true,ite_false,if_true,if_false,ne_eq,implies_true,forall_const,eq_self,IntKind.bits,upd_tmsS,selT_cons,selT_nil,List.length_map,List.getElem?_map,Int.natCast_nonneg,List.length_append,List.map_append]
      | false =>
        rw [if_neg (by rw [hz]; simp)] at hst
        (have hwq := trivial; repeat' (first | simp (maxSteps:=9999999)-implicitDefEqProofs only [go_sem,simprocAttr,hwq,FT3,FT4,FT5,FT23,FT24,FT25,FT26,FT27,FT29,FT30,FT32,FT34,FT35,FT37,FT39,FT40,FT41,FT43,FT46,FT52,FT59,FT85,List.length_map,List.getElem?_map,Int.natCast_nonneg,List.length_append,List.map_append,hi1,hi2,hx,wi,hz] | (refine condK_split ?_ ?_ <;> intro hwq) | (refine two_split ?_ ?_) | (refine guardK_split ?_ ?_ <;> intro hwq) | (refine guardE_split ?_ ?_ <;> intro hwq) | (refine awp_drawW [] (by decide +kernel) ?_; have hwq := trivial) | (refine call_plain n11 rfl rfl ?_; have hwq := trivial) | (refine call_plain n13 rfl rfl ?_; have hwq := trivial) | fail))
        refine ⟨(L.take 100).length - (i + 1), _, by omega, Weak.cutI 2 [2, 6, 10, 11] ?_ ?_, i + 1, p, _, rfl, by omega, rfl, by rw [hnext, hst]⟩
        · simp (maxSteps:=9999999)-implicitDefEqProofs only [simprocAttr,QH,Option.isSome,cond_true,cond_false,Option.bind,selB,V.rn,V.rns,Go.Ai.known,V.pz,V.pzs,T.toV,frz1,List.range,List.range.loop,ite_true,ite_false,if_true,if_false,ne_eq,implies_true,forall_const,eq_self,IntKind.bits,upd_tmsS,selT_cons,selT_nil,List.length_map,List.getElem?_map,Int.natCast_nonneg,List.length_append,List.map_append]
        · simp (maxSteps:=9999999)-implicitDefEqProofs only [simprocAttr,QH,Option.isSome,cond_true,cond_false,Option.bind,selB,V.rn,V.rns,Go.Ai.known,V.pz,V.pzs,T.toV,frz1,List.range,List.range.loop,ite_true,ite_false,if_true,if_false,ne_eq,implies_true,forall_const,eq_self,IntKind.bits,upd_tmsS,selT_cons,selT_nil,List.length_map,List.getElem?_map,Int.natCast_nonneg,List.length_append,List.map_append]
    · have hie : i = (L.take 100).length := by omega
      have hmd : madeP kz L = p := by rw [hp, hie, List.take_length]; rfl
      rw [hmd]
      have hor : ¬ (i : Int) < (L.length : Int) ∨ ¬ (i : Int) < 100 := by
        rw [List.length_take] at hie; omega
      by_cases hi1 : (i : Int) < (L.length : Int)
      · have hi2 : ¬ (i : Int) < 100 := hor.elim (fun h => absurd hi1 h) id
        (have hwq := trivial; repeat' (first | simp (maxSteps:=9999999)-implicitDefEqProofs only [go_sem,simprocAttr,hwq,FT3,FT4,FT5,FT23,FT24,FT25,FT26,FT27,FT29,FT30,FT32,FT34,FT35,FT37,FT39,FT40,FT41,FT43,FT46,FT52,FT59,FT85,List.length_map,List.getElem?_map,Int.natCast_nonneg,List.length_append,List.map_append,hi1,hi2] | (refine condK_split ?_ ?_ <;> intro hwq) | (refine two_split ?_ ?_) | (refine guardK_split ?_ ?_ <;> intro hwq) | (refine guardE_split ?_ ?_ <;> intro hwq) | (refine awp_drawW [] (by decide +kernel) ?_; have hwq := trivial) | fail))
      · (have hwq := trivial; repeat' (first | simp (maxSteps:=9999999)-implicitDefEqProofs only [go_sem,simprocAttr,hwq,FT3,FT4,FT5,FT23,FT24,FT25,FT26,FT27,FT29,FT30,FT32,FT34,FT35,FT37,FT39,FT40,FT41,FT43,FT46,FT52,FT59,FT85,List.length_map,List.getElem?_map,Int.natCast_nonneg,List.length_append,List.map_append,hi1] | (refine condK_split ?_ ?_ <;> intro hwq) | (refine two_split ?_ ?_) | (refine guardK_split ?_ ?_ <;> intro hwq) | (refine guardE_split ?_ ?_ <;> intro hwq) | (refine awp_drawW [] (by decide +kernel) ?_; have hwq := trivial) | fail))
end Go.Ai

set_option linter.unusedVariables false
set_option linter.unusedSimpArgs false
set_option maxHeartbeats 4000000
set_option maxRecDepth 100000
namespace Go.Ai
open Go.Proofs
attribute [local go_sem] QH QR V.noimm V.noimms frzZs frzZ frzA frzV frzVs frzBox boxLen Option.isSome cond_true cond_false aopD calW flatV stepX amap stepY alookup afind aupdate adelete amlen arange ameq mapOf akeq pl V.mapT V.mapTs Option.bind stepK runK guardD stepE runD callD compact selB callK evS ofVal ofVals scalar aop ares mkRes V.rn V.rns V.cells? cellsAt Go.Ai.part aload astore setL V.atom abin aun intBin shiftBin aconv fieldOf aindexAddr aindex bound? aslice aarr abuild afill alen nilP nilS nilF aeq eqCells eqCell Go.Ai.known strBin abuiltin aappend abuildSlice arowsFill amakeSlice acopy aclear minmax rowsOf numsT notStr isIntD isByte V.pz V.pzs T.toV frz1 frz scalT scalTs chunkT List.range List.range.loop ite_true ite_false if_true if_false ne_eq implies_true forall_const eq_self IntKind.bits kPostKF_ret kPostKF_normal kPostX_ret kPostX_normal bsl nil2K nil2 kPostFW_ret kPostFW_normal kPostKM_ret kPostKM_normal kPostXK_ret kPostXK_normal
/-! ## Any commands, one behind the other -/
theorem le_nil21 (a b : Int) : V.les [.s (.int .u8 a), .s (.int .u8 b), .s (.slice none 0 0)] [.s (.int .u8 a), .s (.int .u8 b), .sl 21 (List.map cmT [])] := by
  simp [V.les, V.le]
def Rn4 (L : List Cm) (k : Nat) (S : St) : Prop :=
  ∃ (j : Nat) (p : Pv) (mv : List Nat), S = ⟨tms [(2, .sl 21 (L.map cmT)), (7, .ptr 0 0 0), (8, .ptr 1 0 0), (9, vI j)], [bxP p, bxP p], mv⟩ ∧ j ≤ (L.take 90).length ∧ k = (L.take 90).length - j ∧ Gdp p
theorem pl4 (b n : Int) (hb : isB b) (hn : isB n) (L : List Cm) : AC Tryz.prog 4 [.s (.int .u8 b), .s (.int .u8 n), .sl 21 (L.map cmT)] [] (eqR (vB true)) := by
  have n16 := (pm16 b n hb hn []).lesA (le_nil21 _ _)
  have g0 := gd_made b n []
  generalize madeP (kindsN b n) [] = p0 at n16 g0
  refine AC_plain orders Tryz.func4 rfl (by kernel_rfl) (by kernel_rfl) Tryz.ntmps4 (by simp) ?_
  unfold Tryz.f4
  (have hwq := trivial; repeat' (first | simp (maxSteps:=9999999)-implicitDefEqProofs only [go_sem,simprocAttr,hwq,FT3,FT4,FT5,FT23,FT24,FT25,FT26,FT27,FT29,FT30,FT32,FT34,FT35,FT37,FT39,FT40,FT41,FT43,FT46,FT52,FT59,List.length_map,List.getElem?_map,Int.natCast_nonneg,List.length_append,List.map_append] | (refine condK_split ?_ ?_ <;> intro hwq) | (refine two_split ?_ ?_) | (refine guardK_split ?_ ?_ <;> intro hwq) | (refine guardE_split ?_ ?_ <;> intro hwq) | (refine awp_drawW [] (by decide +kernel) ?_; have hwq := trivial) | (refine call_plain n16 rfl rfl ?_; have hwq := trivial) | fail))
  refine awp_loopK (Rn4 L) (L.take 90).length _ (Weak.cutI 2 [2, 7, 8, 9] ?_ ?_) ⟨0, p0, _, rfl, Nat.zero_le _, rfl, g0⟩ ?_
  · simp (maxSteps:=9999999)-implicitDefEqProofs only [simprocAttr,QH,Option.isSome,cond_true,cond_false,Option.bind,selB,V.rn,V.rns,Go.Ai.known,V.pz,V.pzs,T.toV,frz1,List.range,List.range.loop,ite_true,ite_false,if_true,if_false,ne_eq,implies_true,forall_const,eq_self,IntKind.bits,upd_tmsS,selT_cons,selT_nil,List.length_map,List.getElem?_map,Int.natCast_nonneg,List.length_append,List.map_append]
  · simp (maxSteps:=9999999)-implicitDefEqProofs only [simprocAttr,QH,Option.isSome,cond_true,cond_false,Option.bind,selB,V.rn,V.rns,Go.Ai.known,V.pz,V.pzs,T.toV,frz1,List.range,List.range.loop,ite_true,ite_false,if_true,if_false,ne_eq,implies_true,forall_const,eq_self,IntKind.bits,upd_tmsS,selT_cons,selT_nil,List.length_map,List.getElem?_map,Int.natCast_nonneg,List.length_append,List.map_append]
  rintro kk S ⟨i, p, mv2, rfl, hi, rfl, gp⟩
  have hl100 : (L.take 90).length ≤ 90 := by simp; omega
  have hlL : (L.take 90).length ≤ L.length := by simp; omega
  have wi : IntKind.i64.wrap ((i : Int) + 1) = (i : Int) + 1 := wI64 _ (by omega) (by omega)
  by_cases hil : i < (L.take 90).length
  · have hi1 : (i : Int) < (L.length : Int) := by omega
    have hi2 : (i : Int) < 90 := by omega
    obtain ⟨x, hx⟩ : ∃ x, L[i]? = some x := ⟨_, List.getElem?_eq_getElem (by omega)⟩
    have n11 := pc11 x.w
    obtain ⟨w', hw'⟩ : ∃ w', shortM x.w = w' := ⟨_, rfl⟩
    rw [hw'] at n11
    have hs : shortC x = { x with w := w' } := by rw [← hw']
    have n13 := pc13 p gp.l gp.o (shortC x) (shortC_len x)
    have n12 := pc12 p gp.l gp.o (shortC x) (shortC_len x)
    have gq := gd_do gp (shortC x) (shortC_len x)
    have herr := refDo_err gp.ok (shortC x)
    obtain ⟨D, hD⟩ : ∃ D, refDo p (shortC x) = D := ⟨_, rfl⟩
    rw [hD] at n13 n12 gq herr
    rw [hs] at n13 n12
    obtain ⟨q, e⟩ := D
    have n14 := pc14 q q gq.l
    rw [decide_eq_true rfl] at n14
    have n17 := pc17 q gq.l gq.o
    rw [(chk_iff q).2 gq.ok] at n17
    have hee : (e != e) = false := by simp
    cases hz : (e != 0) with
    | true =>
      obtain rfl : q = p := herr (by simpa using hz)
      (have hwq := trivial; repeat' (first | simp (maxSteps:=9999999)-implicitDefEqProofs only [go_sem,simprocAttr,hwq,FT3,FT4,FT5,FT23,FT24,FT25,FT26,FT27,FT29,FT30,FT32,FT34,FT35,FT37,FT39,FT40,FT41,FT43,FT46,FT52,FT59,List.length_map,List.getElem?_map,Int.natCast_nonneg,List.length_append,List.map_append,hi1,hi2,hx,wi,hz,hee] | (refine condK_split ?_ ?_ <;> intro hwq) | (refine two_split ?_ ?_) | (refine guardK_split ?_ ?_ <;> intro hwq) | (refine guardE_split ?_ ?_ <;> intro hwq) | (refine awp_drawW [] (by decide +kernel) ?_; have hwq := trivial) | (refine call_plain n11 rfl rfl ?_; have hwq := trivial) | (refine call_plain n12 rfl rfl ?_; have hwq := trivial) | (refine call_plain n13 rfl rfl ?_; have hwq := trivial) | (refine call_plain n14 rfl rfl ?_; have hwq := trivial) | (refine call_plain n17 rfl rfl ?_; have hwq := trivial) | fail))
      refine ⟨(L.take 90).length - (i + 1), _, by omega, Weak.cutI 2 [2, 7, 8, 9] ?_ ?_, i + 1, q, _, rfl, by omega, rfl, gq⟩
      · simp (maxSteps:=9999999)-implicitDefEqProofs only [simprocAttr,QH,Option.isSome,cond_true,cond_false,Option.bind,selB,V.rn,V.rns,Go.Ai.known,V.pz,V.pzs,T.toV,frz1,List.range,List.range.loop,ite_true,ite_false,if_true,if_false,ne_eq,implies_true,forall_const,eq_self,IntKind.bits,upd_tmsS,selT_cons,selT_nil,List.length_map,List.getElem?_map,Int.natCast_nonneg,List.length_append,List.map_append]
      · simp (maxSteps:=9999999)-implicitDefEqProofs only [simprocAttr,QH,Option.isSome,cond_true,cond_false,Option.bind,selB,V.rn,V.rns,Go.Ai.known,V.pz,V.pzs,T.toV,frz1,List.range,List.range.loop,ite_true,ite_false,if_true,if_false,ne_eq,implies_true,forall_const,eq_self,IntKind.bits,upd_tmsS,selT_cons,selT_nil,List.length_map,List.getElem?_map,Int.natCast_nonneg,List.length_append,List.map_append]
    | false =>
      (have hwq := trivial; repeat' (first | simp (maxSteps:=9999999)-implicitDefEqProofs only [go_sem,simprocAttr,hwq,FT3,FT4,FT5,FT23,FT24,FT25,FT26,FT27,FT29,FT30,FT32,FT34,FT35,FT37,FT39,FT40,FT41,FT43,FT46,FT52,FT59,List.length_map,List.getElem?_map,Int.natCast_nonneg,List.length_append,List.map_append,hi1,hi2,hx,wi,hz,hee] | (refine condK_split ?_ ?_ <;> intro hwq) | (refine two_split ?_ ?_) | (refine guardK_split ?_ ?_ <;> intro hwq) | (refine guardE_split ?_ ?_ <;> intro hwq) | (refine awp_drawW [] (by decide +kernel) ?_; have hwq := trivial) | (refine call_plain n11 rfl rfl ?_; have hwq := trivial) | (refine call_plain n12 rfl rfl ?_; have hwq := trivial) | (refine call_plain n13 rfl rfl ?_; have hwq := trivial) | (refine call_plain n14 rfl rfl ?_; have hwq := trivial) | (refine call_plain n17 rfl rfl ?_; have hwq := trivial) | fail))
      refine ⟨(L.take 90).length - (i + 1), _, by omega, Weak.cutI 2 [2, 7, 8, 9] ?_ ?_, i + 1, q, _, rfl, by omega, rfl, gq⟩
      · simp (maxSteps:=9999999)-implicitDefEqProofs only [simprocAttr,QH,Option.isSome,cond_true,cond_false,Option.bind,selB,V.rn,V.rns,Go.Ai.known,V.pz,V.pzs,T.toV,frz1,List.range,List.range.loop,ite_true,ite_false,if_true,if_false,ne_eq,implies_true,forall_const,eq_self,IntKind.bits,upd_tmsS,selT_cons,selT_nil,List.length_map,List.getElem?_map,Int.natCast_nonneg,List.length_append,List.map_append]
      · simp (maxSteps:=9999999)-implicitDefEqProofs only [simprocAttr,QH,Option.isSome,cond_true,cond_false,Option.bind,selB,V.rn,V.rns,Go.Ai.known,V.pz,V.pzs,T.toV,frz1,List.range,List.range.loop,ite_true,ite_false,if_true,if_false,ne_eq,implies_true,forall_const,eq_self,IntKind.bits,upd_tmsS,selT_cons,selT_nil,List.length_map,List.getElem?_map,Int.natCast_nonneg,List.length_append,List.map_append]
  · have hie : i = (L.take 90).length := by omega
    have hor : ¬ (i : Int) < (L.length : Int) ∨ ¬ (i : Int) < 90 := by
      rw [List.length_take] at hie; omega
    by_cases hi1 : (i : Int) < (L.length : Int)
    · have hi2 : ¬ (i : Int) < 90 := hor.elim (fun h => absurd hi1 h) id
      (have hwq := trivial; repeat' (first | simp (maxSteps:=9999999)-implicitDefEqProofs only [go_sem,simprocAttr,hwq,FT3,FT4,FT5,FT23,FT24,FT25,FT26,FT27,FT29,FT30,FT32,FT34,FT35,FT37,FT39,FT40,FT41,FT43,FT46,FT52,FT59,List.length_map,List.getElem?_map,Int.natCast_nonneg,List.length_append,List.map_append,hi1,hi2] | (refine condK_split ?_ ?_ <;> intro hwq) | (refine two_split ?_ ?_) | (refine guardK_split ?_ ?_ <;> intro hwq) | (refine guardE_split ?_ ?_ <;> intro hwq) | (refine awp_drawW [] (by decide +kernel) ?_; have hwq := trivial) | (refine call_plain pc15 rfl rfl ?_; have hwq := trivial) | fail))
    · (have hwq := trivial; repeat' (first | simp (maxSteps:=9999999)-implicitDefEqProofs only [go_sem,simprocAttr,hwq,FT3,FT4,FT5,FT23,FT24,FT25,FT26,FT27,FT29,FT30,FT32,FT34,FT35,FT37,FT39,FT40,FT41,FT43,FT46,FT52,FT59,List.length_map,List.getElem?_map,Int.natCast_nonneg,List.length_append,List.map_append,hi1] | (refine condK_split ?_ ?_ <;> intro hwq) | (refine two_split ?_ ?_) | (refine guardK_split ?_ ?_ <;> intro hwq) | (refine guardE_split ?_ ?_ <;> intro hwq) | (refine awp_drawW [] (by decide +kernel) ?_; have hwq := trivial) | (refine call_plain pc15 rfl rfl ?_; have hwq := trivial) | fail))
end Go.Ai
