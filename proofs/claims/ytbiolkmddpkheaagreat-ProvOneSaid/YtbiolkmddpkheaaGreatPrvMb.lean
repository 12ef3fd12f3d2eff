/- Contracts of functions of the loaded program: called with data in the ranges that each names, it returns this value and writes to no old memory. -/
import Derived.Test.YtbiolkmddpkheaaGreatPrvIns
import Derived.Shelf.Spec.SlicesInsertGrow
set_option linter.unusedVariables false
set_option linter.unusedSimpArgs false
namespace Go.Ai
open Go.Proofs Go.Shelf Go.RowKit Go.Lib
set_option maxHeartbeats 4000000 in
set_option maxRecDepth 100000 in
theorem ins100_room (w : World) (b cap n i m vb vc : Nat) (cs us : Array Value) (eb eu : TypeId) (hi : i < n) (hm : 0 < m) (hroom : n + m ≤ cap) (hc63 : cap ≤ 9223372036854775807)
    (hb : w.heap[b]? = some (.cells cs eb (0, 0))) (hcs : cs.size = cap * 3) (hvb : w.heap[vb]? = some (.cells us eu (0, 0))) (hus : us.size = vc * 3) (hmv : m ≤ vc) (hne : vb ≠ b)
    (h1c : ∀ v ∈ cs.toList.take (n * 3), v.oneCell' = true) (h1v : ∀ v ∈ us.toList.take (m * 3), v.oneCell' = true) :
    Calls Tryz.prog 100 #[.slice (some ⟨b, 0, none⟩) n cap, .int .i64 i, .slice (some ⟨vb, 0, none⟩) m vc] w fun ex w' =>
      ex = .returned (.slice (some ⟨b, 0, none⟩) (n + m) cap) ∧ w' = (w.drew.setRow b (setL cs.toList ((i + m) * 3) ((cs.toList.drop (i * 3)).take ((n - i) * 3))).toArray).setRow b
        (setL (setL cs.toList ((i + m) * 3) ((cs.toList.drop (i * 3)).take ((n - i) * 3))) (i * 3) (us.toList.take (m * 3))).toArray := by
  have mixed := orders
  have hz1 : ¬ ((m : Int) = 0) := by omega
  have hz2 : ¬ ((i : Int) = (n : Int)) := by omega
  have hw1 : IntKind.i64.wrap ((i : Int) + (m : Int)) = (i : Int) + (m : Int) := by rw [IntKind.wrap_i64]; omega
  have hb1 : (0 : Int) ≤ (i : Int) + (m : Int) := by omega
  have hin : i ≤ n := by omega
  have htn : ((i : Int) + (m : Int)).toNat = i + m := by omega
  have hb2 : ¬ (cap = i + m) := by omega
  have hb3 : (i : Int) ≤ (n : Int) + (m : Int) := by omega
  have hb4 : ¬ (cap = i) := by omega
  have hsz : ∀ w, (Go.sizeOf 32).run Tryz.prog w = .ok 3 w := fun w => by
    have := run_siz' (P := Tryz.prog) (t := 32) (by rw [c32]; decide) w
    rwa [c32] at this
  have hfz : ∀ k, w.frozen? ⟨vb, k, none⟩ = false := fun k => by simp [World.frozen?, hvb]
  have hov : ∀ lb cb, (callFunc 129 #[.slice (some ⟨vb, 0, none⟩) m vc, .slice (some ⟨b, (i + m) * 3, none⟩) lb cb]).run Tryz.prog w = .ok (.value (.bool false)) w := fun lb cb => by
    rw [run_callFunc_extern Tryz.func129 (by kernel_rfl) (by kernel_rfl) (by kernel_rfl) (e := Extern.SlicesOverlaps.overlaps #[25, 25] #[4]) (by kernel_rfl),
      Lib.run_overlaps_apart w 25 4 32 u25 3 hsz ⟨vb, 0, none⟩ ⟨b, (i + m) * 3, none⟩ m vc lb cb hne eu eb us.size cs.size (by simp [World.shape?, hvb]) (by simp [World.shape?, hb]) (by omega) (hfz _) (hfz _)]
    rfl
  have hA0 : (w.drew).heap[b]? = some (.cells cs eb (0, 0)) := hb
  obtain ⟨u1, hu1⟩ : ∃ u1, (cs.toList.drop (i * 3)).take ((n - i) * 3) = u1 := ⟨_, rfl⟩
  obtain ⟨u2, hu2⟩ : ∃ u2, us.toList.take (m * 3) = u2 := ⟨_, rfl⟩
  have hl1 : u1.length = (n - i) * 3 := by rw [← hu1]; simp; omega
  have hl2 : u2.length = m * 3 := by rw [← hu2]; simp; omega
  have h11 : ∀ v ∈ u1, v.oneCell' = true := fun v hv => h1c v (by
    rw [← hu1, show (n - i) * 3 = n * 3 - i * 3 by omega, ← List.drop_take] at hv
    exact List.mem_of_mem_drop hv)
  rw [hu2] at h1v
  rw [hu1, hu2]
  obtain ⟨A, hA⟩ : ∃ A, setL cs.toList ((i + m) * 3) u1 = A := ⟨_, rfl⟩
  have hcp1 : ∀ ty dc sc, (Builtin.copy_ #[25, 25] ty #[.slice (some ⟨b, (i + m) * 3, none⟩) (n + m - (i + m)) dc, .slice (some ⟨b, i * 3, none⟩) (n + m - i) sc]).run Tryz.prog w.drew = .ok (goInt ((n - i : Nat) : Int)) (w.drew.setRow b A.toArray) := fun ty dc sc => by
    rw [← hA]
    refine run_copyZ (sl := n + m - i) (dl := n + m - (i + m)) (m := n - i) (o := (i + m) * 3) (sb := b) (so := i * 3) (us := u1) u25 hsz hA0 (by omega) hl1 (fun j v hj => ?_) h11 (by rw [hl1]; omega)
    rw [← hu1, List.getElem?_take] at hj
    split at hj
    · rw [List.getElem?_drop] at hj
      simp only [World.cell?, hA0, ← Array.getElem?_toList]
      simpa using hj
    · cases hj
  obtain ⟨W1, hW1⟩ : ∃ W1, W1 = w.drew.setRow b A.toArray := ⟨_, rfl⟩
  rw [hA, ← hW1]
  have hA1 : W1.heap[b]? = some (.cells A.toArray eb (0, 0)) := by rw [hW1]; exact setRow_heap w.drew b cs _ eb (0, 0) hA0
  have hA2 : W1.heap[vb]? = some (.cells us eu (0, 0)) := by rw [hW1, setRow_other _ _ _ _ hne]; exact hvb
  have hAl : A.length = cs.size := by rw [← hA, setL_length (by rw [hl1, Array.length_toList]; omega), Array.length_toList]
  have hcp2 : ∀ ty dc, (Builtin.copy_ #[25, 25] ty #[.slice (some ⟨b, i * 3, none⟩) (n + m - i) dc, .slice (some ⟨vb, 0, none⟩) m vc]).run Tryz.prog W1 = .ok (goInt m) (W1.setRow b (setL A (i * 3) u2).toArray) := fun ty dc => by
    have := run_copyZ (P := Tryz.prog) (ty := ty) (dc := dc) (dl := n + m - i) (sc := vc) u25 hsz hA1 (o := i * 3) (sb := vb) (so := 0) (sl := m) (m := m) (us := u2) (by omega) hl2 (fun j v hj => by
      rw [← hu2, List.getElem?_take] at hj
      split at hj
      · simp only [World.cell?, hA2, ← Array.getElem?_toList]
        simpa using hj
      · cases hj) h1v (by rw [hl2, List.size_toArray, hAl]; omega)
    exact this
  rw [← hW1] at hcp1
  clear hA0 hA1 hA2 hW1 hb hcs hvb hus h1c h1v hfz hl1 hl2 h11 hAl hu1 hu2
  go_enter Tryz.func100, Tryz.ntmps100
  go_wp2_with (simp only [hov])
  go_region_law_o (refine step_copy_runI rfl _ _ 25 25 rfl _ _ (by simp [Act.eval, Act.put]) (by simp [Act.eval, Act.put]) (hcp1 _ _ _) ?_)
  go_wp2_with (at_builtin; refine wpList_copy_runI _ rfl _ _ 25 25 rfl _ _ rfl rfl (hcp2 _ _) ?_)
  go_ret
  exact ⟨rfl, rfl⟩
set_option maxHeartbeats 4000000 in
set_option maxRecDepth 100000 in
theorem ins100_grow (w : World) (b cap n i m vb vc : Nat) (cs us : Array Value) (eb eu : TypeId) (hi : i < n) (hm : 0 < m) (hnc : n ≤ cap) (hroom : cap < n + m) (hbig : (n + m) * 24 ≤ 140737488355328)
    (hb : w.heap[b]? = some (.cells cs eb (0, 0))) (hcs : cs.size = cap * 3) (hvb : w.heap[vb]? = some (.cells us eu (0, 0))) (hus : us.size = vc * 3) (hmv : m ≤ vc) (hne : vb ≠ b)
    (h1c : ∀ v ∈ cs.toList.take (n * 3), v.oneCell' = true) (h1v : ∀ v ∈ us.toList.take (m * 3), v.oneCell' = true) :
    Calls Tryz.prog 100 #[.slice (some ⟨b, 0, none⟩) n cap, .int .i64 i, .slice (some ⟨vb, 0, none⟩) m vc] w fun ex w' =>
      ∃ G CE, n + m ≤ G ∧ G ≤ maxLen ∧ CE.size = G * 3 ∧ CE.toList.take (i * 3) = cs.toList.take (i * 3) ∧ ex = .returned (.slice (some ⟨w.heap.size, 0, none⟩) (n + m) G) ∧
        w'.heap = (((w.drew.alloc (.cells CE 32)).setRow w.heap.size (setL CE.toList (i * 3) (us.toList.take (m * 3))).toArray).setRow w.heap.size (setL (setL CE.toList (i * 3) (us.toList.take (m * 3))) ((i + m) * 3) ((cs.toList.drop (i * 3)).take ((n - i) * 3))).toArray).heap ∧
        w'.os = w.os ∧ w'.tape = w.tape ∧ w'.output = w.output ∧ w.drawn ≤ w'.drawn := by
  have mixed := orders
  have hz1 : ¬ ((m : Int) = 0) := by omega
  have hz2 : ¬ ((i : Int) = (n : Int)) := by omega
  have hz3 : (cap : Int) < (n : Int) + (m : Int) := by omega
  have hsz : ∀ w, (Go.sizeOf 32).run Tryz.prog w = .ok 3 w := fun w => by
    have := run_siz' (P := Tryz.prog) (t := 32) (by rw [c32]; decide) w
    rwa [c32] at this
  obtain ⟨G, CE, hG1, hG2, hG3, hG4, hrz⟩ := run_appendZ (w := w) (kq := .i64) (s := i) (k := n + m - i) (cap := cap) u25 u3 k32 (by rw [c32]; decide) (by rw [b32]; decide) hb (by omega) (by rw [c32]; omega) (by omega) (by rw [b32]; omega)
  rw [c32] at hG3 hG4
  rw [show i + (n + m - i) = n + m by omega] at hG1 hrz
  rw [show ((n + m - i : Nat) : Int) = (n : Int) + (m : Int) - (i : Int) by omega] at hrz
  have hbw : b < w.heap.size := (Array.getElem?_eq_some_iff.1 hb).1
  have hvw : vb < w.heap.size := (Array.getElem?_eq_some_iff.1 hvb).1
  obtain ⟨nb, hnb⟩ : ∃ nb, w.heap.size = nb := ⟨_, rfl⟩
  obtain ⟨W1, hW1⟩ : ∃ W1, W1 = w.drew.alloc (.cells CE 32) := ⟨_, rfl⟩
  obtain ⟨u1, hu1⟩ : ∃ u1, (cs.toList.drop (i * 3)).take ((n - i) * 3) = u1 := ⟨_, rfl⟩
  obtain ⟨u2, hu2⟩ : ∃ u2, us.toList.take (m * 3) = u2 := ⟨_, rfl⟩
  have hl1 : u1.length = (n - i) * 3 := by rw [← hu1]; simp; omega
  have hl2 : u2.length = m * 3 := by rw [← hu2]; simp; omega
  have h11 : ∀ v ∈ u1, v.oneCell' = true := fun v hv => h1c v (by
    rw [← hu1, show (n - i) * 3 = n * 3 - i * 3 by omega, ← List.drop_take] at hv
    exact List.mem_of_mem_drop hv)
  rw [hu2] at h1v
  have hA0 : W1.heap[nb]? = some (.cells CE 32 (0, 0)) := by rw [hW1, ← hnb]; exact alloc_new w.drew _
  have hAb : W1.heap[b]? = some (.cells cs eb (0, 0)) := by rw [hW1, ← hb]; exact alloc_old w.drew _ hbw
  have hAv : W1.heap[vb]? = some (.cells us eu (0, 0)) := by rw [hW1, ← hvb]; exact alloc_old w.drew _ hvw
  obtain ⟨A, hA⟩ : ∃ A, setL CE.toList (i * 3) u2 = A := ⟨_, rfl⟩
  obtain ⟨B, hB⟩ : ∃ B, setL A ((i + m) * 3) u1 = B := ⟨_, rfl⟩
  have hAl : A.length = CE.size := by rw [← hA, setL_length (by rw [hl2, Array.length_toList]; omega), Array.length_toList]
  have hcpA : ∀ (W : World), W.heap = W1.heap → ∀ ty dc, (Builtin.copy_ #[25, 25] ty #[.slice (some ⟨nb, i * 3, none⟩) (n + m - i) dc, .slice (some ⟨vb, 0, none⟩) m vc]).run Tryz.prog W = .ok (goInt (m : Int)) (W.setRow nb A.toArray) := fun W hW ty dc => by
    rw [← hA]
    refine run_copyZ (sl := m) (dl := n + m - i) (m := m) (o := i * 3) (sb := vb) (so := 0) (us := u2) u25 hsz (by rw [hW]; exact hA0) (by omega) hl2 (fun j v hj => ?_) h1v (by rw [hl2]; omega)
    rw [← hu2, List.getElem?_take] at hj
    split at hj
    · simp only [World.cell?, hW, hAv, ← Array.getElem?_toList]
      simpa using hj
    · cases hj
  have hcpB : ∀ (W : World), W.heap = (W1.setRow nb A.toArray).heap → ∀ ty dc sc, (Builtin.copy_ #[25, 25] ty #[.slice (some ⟨nb, (i + m) * 3, none⟩) (n + m - (i + m)) dc, .slice (some ⟨b, i * 3, none⟩) (n - i) sc]).run Tryz.prog W = .ok (goInt ((n - i : Nat) : Int)) (W.setRow nb B.toArray) := fun W hW ty dc sc => by
    rw [← hB]
    have hC := run_copyZ (P := Tryz.prog) (w := W) (t := 25) (ty := ty) (dc := dc) (sc := sc) (sl := n - i) (dl := n + m - (i + m)) (m := n - i) (o := (i + m) * 3) (sb := b) (so := i * 3) (us := u1) u25 hsz (b := nb) (cs := A.toArray) (eb := 32) (by rw [hW]; exact setRow_heap W1 nb CE _ 32 (0, 0) hA0) (by omega) hl1 (fun j v hj => by
      rw [← hu1, List.getElem?_take] at hj
      split at hj
      · rw [List.getElem?_drop] at hj
        simp only [World.cell?, hW]
        rw [setRow_other _ _ _ _ (by omega), hAb]
        simp only [← Array.getElem?_toList]
        simpa using hj
      · cases hj) h11 (by rw [hl1, List.size_toArray, hAl]; omega)
    exact hC
  rw [hnb, ← hW1] at hrz
  rw [hu1, hu2]
  have hfin : ∀ (ex : Ending) (w' : World), (ex = .returned (.slice (some ⟨nb, 0, none⟩) (n + m) G) ∧ w'.heap = ((W1.setRow nb A.toArray).setRow nb B.toArray).heap ∧ w'.os = w.os ∧ w'.tape = w.tape ∧ w'.output = w.output ∧ w.drawn ≤ w'.drawn) → ∃ G CE, n + m ≤ G ∧ G ≤ maxLen ∧ CE.size = G * 3 ∧ CE.toList.take (i * 3) = cs.toList.take (i * 3) ∧ ex = .returned (.slice (some ⟨w.heap.size, 0, none⟩) (n + m) G) ∧
        w'.heap = (((w.drew.alloc (.cells CE 32)).setRow w.heap.size (setL CE.toList (i * 3) u2).toArray).setRow w.heap.size (setL (setL CE.toList (i * 3) u2) ((i + m) * 3) u1).toArray).heap ∧
        w'.os = w.os ∧ w'.tape = w.tape ∧ w'.output = w.output ∧ w.drawn ≤ w'.drawn := fun ex w' hp => ⟨G, CE, hG1, hG2, hG3, hG4, by rw [hnb]; exact hp.1, by rw [hnb, hA, hB, ← hW1]; exact hp.2.1, hp.2.2⟩
  refine Calls.mono ?_ hfin
  have hd0 : w.os = W1.os ∧ w.tape = W1.tape ∧ w.output = W1.output ∧ w.drawn + 1 = W1.drawn := by rw [hW1]; exact ⟨rfl, rfl, rfl, rfl⟩
  obtain ⟨hd1, hd2, hd3, hd4⟩ := hd0
  rw [hd1, hd2, hd3]
  have hd5 : w.drawn ≤ W1.drawn := by omega
  have hGi : ¬ (G = i) := by omega
  have hGim : ¬ (G = i + m) := by omega
  have hci : ¬ (cap = i) := by omega
  have hGn : n + m ≤ G := hG1
  have hG63 : G ≤ 9223372036854775807 := by simp only [maxLen] at hG2; omega
  have hw1 : IntKind.i64.wrap ((i : Int) + (m : Int)) = (i : Int) + (m : Int) := by rw [IntKind.wrap_i64]; omega
  have hb1 : (0 : Int) ≤ (i : Int) + (m : Int) := by omega
  have hin : i ≤ n := by omega
  have htn : ((i : Int) + (m : Int)).toNat = i + m := by omega
  have hb3 : (i : Int) ≤ (n : Int) := by omega
  have hb5 : (i : Int) ≤ (n : Int) + (m : Int) := by omega
  clear hfin hG1 hG2 hG3 hG4 hnb hd1 hd2 hd3 hd4 hA0 hAb hAv hAl hW1 hb hcs hvb hus h1c h1v hl1 hl2 h11 hu1 hu2 hA hB hbig hsz
  go_enter Tryz.func100, Tryz.ntmps100
  go_wp2_with (first
    | (at_builtin; refine Lib.wpList_append_run _ rfl _ _ _ _ rfl _ _ rfl rfl _ _ (hrz _) ?_)
    | (at_builtin; refine wpList_copy_runI _ rfl _ _ 25 25 rfl _ _ rfl rfl (hcpA _ rfl _ _) ?_)
    | (at_builtin; refine wpList_copy_runI _ rfl _ _ 25 25 rfl _ _ rfl rfl (hcpB _ rfl _ _ _) ?_))
  go_region_law_o (refine step_copy_runI rfl _ _ 25 25 rfl (.slice (some ⟨nb, (i + m) * 3, none⟩) (n + m - (i + m)) (G - (i + m))) (.slice (some ⟨b, i * 3, none⟩) (n - i) (cap - i)) (by simp [Act.eval, Act.put]) (by simp [Act.eval, Act.put]) (hcpB (W1.setRow nb A.toArray).drew rfl _ _ _) ?_)
  go_wp2
  go_ret
  exact ⟨rfl, rfl, rfl, rfl, rfl, Nat.le_succ_of_le hd5⟩
theorem insAt100 : InsAt Tryz.prog 100 3 := by
  intro w b cap n i vb vc cs eb us eu hi hnc hcm hn hb hcs hvb hus hv1 hne h1c h1v
  by_cases hroom : n + 1 ≤ cap
  · refine (ins100_room w b cap n i 1 vb vc cs us eb eu hi (by omega) hroom (by simp only [maxLen] at hcm; omega) hb hcs hvb hus hv1 hne h1c (by simpa using h1v)).mono fun ex w' hp => ?_
    obtain ⟨rfl, rfl⟩ := hp
    exact insPost_room hi hroom hcm hb hcs (by omega)
  · refine (ins100_grow w b cap n i 1 vb vc cs us eb eu hi (by omega) hnc (by omega) (by omega) hb hcs hvb hus hv1 hne h1c (by simpa using h1v)).mono fun ex w' hp => ?_
    obtain ⟨G, CE, hG1, hG2, hG3, hG4, rfl, hh, ho, ht, hp, hd⟩ := hp
    exact insPost_grow hi hG1 hG2 hG3 (by omega) hG4 (by omega) hh ho ht hp hd
set_option maxHeartbeats 4000000 in
set_option maxRecDepth 100000 in
theorem ins107_room (w : World) (b cap n i m vb vc : Nat) (cs us : Array Value) (eb eu : TypeId) (hi : i < n) (hm : 0 < m) (hroom : n + m ≤ cap) (hc63 : cap ≤ 9223372036854775807)
    (hb : w.heap[b]? = some (.cells cs eb (0, 0))) (hcs : cs.size = cap * 2) (hvb : w.heap[vb]? = some (.cells us eu (0, 0))) (hus : us.size = vc * 2) (hmv : m ≤ vc) (hne : vb ≠ b)
    (h1c : ∀ v ∈ cs.toList.take (n * 2), v.oneCell' = true) (h1v : ∀ v ∈ us.toList.take (m * 2), v.oneCell' = true) :
    Calls Tryz.prog 107 #[.slice (some ⟨b, 0, none⟩) n cap, .int .i64 i, .slice (some ⟨vb, 0, none⟩) m vc] w fun ex w' =>
      ex = .returned (.slice (some ⟨b, 0, none⟩) (n + m) cap) ∧ w' = (w.drew.setRow b (setL cs.toList ((i + m) * 2) ((cs.toList.drop (i * 2)).take ((n - i) * 2))).toArray).setRow b
        (setL (setL cs.toList ((i + m) * 2) ((cs.toList.drop (i * 2)).take ((n - i) * 2))) (i * 2) (us.toList.take (m * 2))).toArray := by
  have mixed := orders
  have hz1 : ¬ ((m : Int) = 0) := by omega
  have hz2 : ¬ ((i : Int) = (n : Int)) := by omega
  have hw1 : IntKind.i64.wrap ((i : Int) + (m : Int)) = (i : Int) + (m : Int) := by rw [IntKind.wrap_i64]; omega
  have hb1 : (0 : Int) ≤ (i : Int) + (m : Int) := by omega
  have hin : i ≤ n := by omega
  have htn : ((i : Int) + (m : Int)).toNat = i + m := by omega
  have hb2 : ¬ (cap = i + m) := by omega
  have hb3 : (i : Int) ≤ (n : Int) + (m : Int) := by omega
  have hb4 : ¬ (cap = i) := by omega
  have hsz : ∀ w, (Go.sizeOf 34).run Tryz.prog w = .ok 2 w := fun w => by
    have := run_siz' (P := Tryz.prog) (t := 34) (by rw [c34]; decide) w
    rwa [c34] at this
  have hfz : ∀ k, w.frozen? ⟨vb, k, none⟩ = false := fun k => by simp [World.frozen?, hvb]
  have hov : ∀ lb cb, (callFunc 132 #[.slice (some ⟨vb, 0, none⟩) m vc, .slice (some ⟨b, (i + m) * 2, none⟩) lb cb]).run Tryz.prog w = .ok (.value (.bool false)) w := fun lb cb => by
    rw [run_callFunc_extern Tryz.func132 (by kernel_rfl) (by kernel_rfl) (by kernel_rfl) (e := Extern.SlicesOverlaps.overlaps #[26, 26] #[4]) (by kernel_rfl),
      Lib.run_overlaps_apart w 26 4 34 u26 2 hsz ⟨vb, 0, none⟩ ⟨b, (i + m) * 2, none⟩ m vc lb cb hne eu eb us.size cs.size (by simp [World.shape?, hvb]) (by simp [World.shape?, hb]) (by omega) (hfz _) (hfz _)]
    rfl
  have hA0 : (w.drew).heap[b]? = some (.cells cs eb (0, 0)) := hb
  obtain ⟨u1, hu1⟩ : ∃ u1, (cs.toList.drop (i * 2)).take ((n - i) * 2) = u1 := ⟨_, rfl⟩
  obtain ⟨u2, hu2⟩ : ∃ u2, us.toList.take (m * 2) = u2 := ⟨_, rfl⟩
  have hl1 : u1.length = (n - i) * 2 := by rw [← hu1]; simp; omega
  have hl2 : u2.length = m * 2 := by rw [← hu2]; simp; omega
  have h11 : ∀ v ∈ u1, v.oneCell' = true := fun v hv => h1c v (by
    rw [← hu1, show (n - i) * 2 = n * 2 - i * 2 by omega, ← List.drop_take] at hv
    exact List.mem_of_mem_drop hv)
  rw [hu2] at h1v
  rw [hu1, hu2]
  obtain ⟨A, hA⟩ : ∃ A, setL cs.toList ((i + m) * 2) u1 = A := ⟨_, rfl⟩
  have hcp1 : ∀ ty dc sc, (Builtin.copy_ #[26, 26] ty #[.slice (some ⟨b, (i + m) * 2, none⟩) (n + m - (i + m)) dc, .slice (some ⟨b, i * 2, none⟩) (n + m - i) sc]).run Tryz.prog w.drew = .ok (goInt ((n - i : Nat) : Int)) (w.drew.setRow b A.toArray) := fun ty dc sc => by
    rw [← hA]
    refine run_copyZ (sl := n + m - i) (dl := n + m - (i + m)) (m := n - i) (o := (i + m) * 2) (sb := b) (so := i * 2) (us := u1) u26 hsz hA0 (by omega) hl1 (fun j v hj => ?_) h11 (by rw [hl1]; omega)
    rw [← hu1, List.getElem?_take] at hj
    split at hj
    · rw [List.getElem?_drop] at hj
      simp only [World.cell?, hA0, ← Array.getElem?_toList]
      simpa using hj
    · cases hj
  obtain ⟨W1, hW1⟩ : ∃ W1, W1 = w.drew.setRow b A.toArray := ⟨_, rfl⟩
  rw [hA, ← hW1]
  have hA1 : W1.heap[b]? = some (.cells A.toArray eb (0, 0)) := by rw [hW1]; exact setRow_heap w.drew b cs _ eb (0, 0) hA0
  have hA2 : W1.heap[vb]? = some (.cells us eu (0, 0)) := by rw [hW1, setRow_other _ _ _ _ hne]; exact hvb
  have hAl : A.length = cs.size := by rw [← hA, setL_length (by rw [hl1, Array.length_toList]; omega), Array.length_toList]
  have hcp2 : ∀ ty dc, (Builtin.copy_ #[26, 26] ty #[.slice (some ⟨b, i * 2, none⟩) (n + m - i) dc, .slice (some ⟨vb, 0, none⟩) m vc]).run Tryz.prog W1 = .ok (goInt m) (W1.setRow b (setL A (i * 2) u2).toArray) := fun ty dc => by
    have := run_copyZ (P := Tryz.prog) (ty := ty) (dc := dc) (dl := n + m - i) (sc := vc) u26 hsz hA1 (o := i * 2) (sb := vb) (so := 0) (sl := m) (m := m) (us := u2) (by omega) hl2 (fun j v hj => by
      rw [← hu2, List.getElem?_take] at hj
      split at hj
      · simp only [World.cell?, hA2, ← Array.getElem?_toList]
        simpa using hj
      · cases hj) h1v (by rw [hl2, List.size_toArray, hAl]; omega)
    exact this
  rw [← hW1] at hcp1
  clear hA0 hA1 hA2 hW1 hb hcs hvb hus h1c h1v hfz hl1 hl2 h11 hAl hu1 hu2
  go_enter Tryz.func107, Tryz.ntmps107
  go_wp2_with (simp only [hov])
  go_region_law_o (refine step_copy_runI rfl _ _ 26 26 rfl _ _ (by simp [Act.eval, Act.put]) (by simp [Act.eval, Act.put]) (hcp1 _ _ _) ?_)
  go_wp2_with (at_builtin; refine wpList_copy_runI _ rfl _ _ 26 26 rfl _ _ rfl rfl (hcp2 _ _) ?_)
  go_ret
  exact ⟨rfl, rfl⟩
set_option maxHeartbeats 4000000 in
set_option maxRecDepth 100000 in
theorem ins107_grow (w : World) (b cap n i m vb vc : Nat) (cs us : Array Value) (eb eu : TypeId) (hi : i < n) (hm : 0 < m) (hnc : n ≤ cap) (hroom : cap < n + m) (hbig : (n + m) * 16 ≤ 140737488355328)
    (hb : w.heap[b]? = some (.cells cs eb (0, 0))) (hcs : cs.size = cap * 2) (hvb : w.heap[vb]? = some (.cells us eu (0, 0))) (hus : us.size = vc * 2) (hmv : m ≤ vc) (hne : vb ≠ b)
    (h1c : ∀ v ∈ cs.toList.take (n * 2), v.oneCell' = true) (h1v : ∀ v ∈ us.toList.take (m * 2), v.oneCell' = true) :
    Calls Tryz.prog 107 #[.slice (some ⟨b, 0, none⟩) n cap, .int .i64 i, .slice (some ⟨vb, 0, none⟩) m vc] w fun ex w' =>
      ∃ G CE, n + m ≤ G ∧ G ≤ maxLen ∧ CE.size = G * 2 ∧ CE.toList.take (i * 2) = cs.toList.take (i * 2) ∧ ex = .returned (.slice (some ⟨w.heap.size, 0, none⟩) (n + m) G) ∧
        w'.heap = (((w.drew.alloc (.cells CE 34)).setRow w.heap.size (setL CE.toList (i * 2) (us.toList.take (m * 2))).toArray).setRow w.heap.size (setL (setL CE.toList (i * 2) (us.toList.take (m * 2))) ((i + m) * 2) ((cs.toList.drop (i * 2)).take ((n - i) * 2))).toArray).heap ∧
        w'.os = w.os ∧ w'.tape = w.tape ∧ w'.output = w.output ∧ w.drawn ≤ w'.drawn := by
  have mixed := orders
  have hz1 : ¬ ((m : Int) = 0) := by omega
  have hz2 : ¬ ((i : Int) = (n : Int)) := by omega
  have hz3 : (cap : Int) < (n : Int) + (m : Int) := by omega
  have hsz : ∀ w, (Go.sizeOf 34).run Tryz.prog w = .ok 2 w := fun w => by
    have := run_siz' (P := Tryz.prog) (t := 34) (by rw [c34]; decide) w
    rwa [c34] at this
  obtain ⟨G, CE, hG1, hG2, hG3, hG4, hrz⟩ := run_appendZ (w := w) (kq := .i64) (s := i) (k := n + m - i) (cap := cap) u26 u3 k34 (by rw [c34]; decide) (by rw [b34]; decide) hb (by omega) (by rw [c34]; omega) (by omega) (by rw [b34]; omega)
  rw [c34] at hG3 hG4
  rw [show i + (n + m - i) = n + m by omega] at hG1 hrz
  rw [show ((n + m - i : Nat) : Int) = (n : Int) + (m : Int) - (i : Int) by omega] at hrz
  have hbw : b < w.heap.size := (Array.getElem?_eq_some_iff.1 hb).1
  have hvw : vb < w.heap.size := (Array.getElem?_eq_some_iff.1 hvb).1
  obtain ⟨nb, hnb⟩ : ∃ nb, w.heap.size = nb := ⟨_, rfl⟩
  obtain ⟨W1, hW1⟩ : ∃ W1, W1 = w.drew.alloc (.cells CE 34) := ⟨_, rfl⟩
  obtain ⟨u1, hu1⟩ : ∃ u1, (cs.toList.drop (i * 2)).take ((n - i) * 2) = u1 := ⟨_, rfl⟩
  obtain ⟨u2, hu2⟩ : ∃ u2, us.toList.take (m * 2) = u2 := ⟨_, rfl⟩
  have hl1 : u1.length = (n - i) * 2 := by rw [← hu1]; simp; omega
  have hl2 : u2.length = m * 2 := by rw [← hu2]; simp; omega
  have h11 : ∀ v ∈ u1, v.oneCell' = true := fun v hv => h1c v (by
    rw [← hu1, show (n - i) * 2 = n * 2 - i * 2 by omega, ← List.drop_take] at hv
    exact List.mem_of_mem_drop hv)
  rw [hu2] at h1v
  have hA0 : W1.heap[nb]? = some (.cells CE 34 (0, 0)) := by rw [hW1, ← hnb]; exact alloc_new w.drew _
  have hAb : W1.heap[b]? = some (.cells cs eb (0, 0)) := by rw [hW1, ← hb]; exact alloc_old w.drew _ hbw
  have hAv : W1.heap[vb]? = some (.cells us eu (0, 0)) := by rw [hW1, ← hvb]; exact alloc_old w.drew _ hvw
  obtain ⟨A, hA⟩ : ∃ A, setL CE.toList (i * 2) u2 = A := ⟨_, rfl⟩
  obtain ⟨B, hB⟩ : ∃ B, setL A ((i + m) * 2) u1 = B := ⟨_, rfl⟩
  have hAl : A.length = CE.size := by rw [← hA, setL_length (by rw [hl2, Array.length_toList]; omega), Array.length_toList]
  have hcpA : ∀ (W : World), W.heap = W1.heap → ∀ ty dc, (Builtin.copy_ #[26, 26] ty #[.slice (some ⟨nb, i * 2, none⟩) (n + m - i) dc, .slice (some ⟨vb, 0, none⟩) m vc]).run Tryz.prog W = .ok (goInt (m : Int)) (W.setRow nb A.toArray) := fun W hW ty dc => by
    rw [← hA]
    refine run_copyZ (sl := m) (dl := n + m - i) (m := m) (o := i * 2) (sb := vb) (so := 0) (us := u2) u26 hsz (by rw [hW]; exact hA0) (by omega) hl2 (fun j v hj => ?_) h1v (by rw [hl2]; omega)
    rw [← hu2, List.getElem?_take] at hj
    split at hj
    · simp only [World.cell?, hW, hAv, ← Array.getElem?_toList]
      simpa using hj
    · cases hj
  have hcpB : ∀ (W : World), W.heap = (W1.setRow nb A.toArray).heap → ∀ ty dc sc, (Builtin.copy_ #[26, 26] ty #[.slice (some ⟨nb, (i + m) * 2, none⟩) (n + m - (i + m)) dc, .slice (some ⟨b, i * 2, none⟩) (n - i) sc]).run Tryz.prog W = .ok (goInt ((n - i : Nat) : Int)) (W.setRow nb B.toArray) := fun W hW ty dc sc => by
    rw [← hB]
    have hC := run_copyZ (P := Tryz.prog) (w := W) (t := 26) (ty := ty) (dc := dc) (sc := sc) (sl := n - i) (dl := n + m - (i + m)) (m := n - i) (o := (i + m) * 2) (sb := b) (so := i * 2) (us := u1) u26 hsz (b := nb) (cs := A.toArray) (eb := 34) (by rw [hW]; exact setRow_heap W1 nb CE _ 34 (0, 0) hA0) (by omega) hl1 (fun j v hj => by
      rw [← hu1, List.getElem?_take] at hj
      split at hj
      · rw [List.getElem?_drop] at hj
        simp only [World.cell?, hW]
        rw [setRow_other _ _ _ _ (by omega), hAb]
        simp only [← Array.getElem?_toList]
        simpa using hj
      · cases hj) h11 (by rw [hl1, List.size_toArray, hAl]; omega)
    exact hC
  rw [hnb, ← hW1] at hrz
  rw [hu1, hu2]
  have hfin : ∀ (ex : Ending) (w' : World), (ex = .returned (.slice (some ⟨nb, 0, none⟩) (n + m) G) ∧ w'.heap = ((W1.setRow nb A.toArray).setRow nb B.toArray).heap ∧ w'.os = w.os ∧ w'.tape = w.tape ∧ w'.output = w.output ∧ w.drawn ≤ w'.drawn) → ∃ G CE, n + m ≤ G ∧ G ≤ maxLen ∧ CE.size = G * 2 ∧ CE.toList.take (i * 2) = cs.toList.take (i * 2) ∧ ex = .returned (.slice (some ⟨w.heap.size, 0, none⟩) (n + m) G) ∧
        w'.heap = (((w.drew.alloc (.cells CE 34)).setRow w.heap.size (setL CE.toList (i * 2) u2).toArray).setRow w.heap.size (setL (setL CE.toList (i * 2) u2) ((i + m) * 2) u1).toArray).heap ∧
        w'.os = w.os ∧ w'.tape = w.tape ∧ w'.output = w.output ∧ w.drawn ≤ w'.drawn := fun ex w' hp => ⟨G, CE, hG1, hG2, hG3, hG4, by rw [hnb]; exact hp.1, by rw [hnb, hA, hB, ← hW1]; exact hp.2.1, hp.2.2⟩
  refine Calls.mono ?_ hfin
  have hd0 : w.os = W1.os ∧ w.tape = W1.tape ∧ w.output = W1.output ∧ w.drawn + 1 = W1.drawn := by rw [hW1]; exact ⟨rfl, rfl, rfl, rfl⟩
  obtain ⟨hd1, hd2, hd3, hd4⟩ := hd0
  rw [hd1, hd2, hd3]
  have hd5 : w.drawn ≤ W1.drawn := by omega
  have hGi : ¬ (G = i) := by omega
  have hGim : ¬ (G = i + m) := by omega
  have hci : ¬ (cap = i) := by omega
  have hGn : n + m ≤ G := hG1
  have hG63 : G ≤ 9223372036854775807 := by simp only [maxLen] at hG2; omega
  have hw1 : IntKind.i64.wrap ((i : Int) + (m : Int)) = (i : Int) + (m : Int) := by rw [IntKind.wrap_i64]; omega
  have hb1 : (0 : Int) ≤ (i : Int) + (m : Int) := by omega
  have hin : i ≤ n := by omega
  have htn : ((i : Int) + (m : Int)).toNat = i + m := by omega
  have hb3 : (i : Int) ≤ (n : Int) := by omega
  have hb5 : (i : Int) ≤ (n : Int) + (m : Int) := by omega
  clear hfin hG1 hG2 hG3 hG4 hnb hd1 hd2 hd3 hd4 hA0 hAb hAv hAl hW1 hb hcs hvb hus h1c h1v hl1 hl2 h11 hu1 hu2 hA hB hbig hsz
  go_enter Tryz.func107, Tryz.ntmps107
  go_wp2_with (first
    | (at_builtin; refine Lib.wpList_append_run _ rfl _ _ _ _ rfl _ _ rfl rfl _ _ (hrz _) ?_)
    | (at_builtin; refine wpList_copy_runI _ rfl _ _ 26 26 rfl _ _ rfl rfl (hcpA _ rfl _ _) ?_)
    | (at_builtin; refine wpList_copy_runI _ rfl _ _ 26 26 rfl _ _ rfl rfl (hcpB _ rfl _ _ _) ?_))
  go_region_law_o (refine step_copy_runI rfl _ _ 26 26 rfl (.slice (some ⟨nb, (i + m) * 2, none⟩) (n + m - (i + m)) (G - (i + m))) (.slice (some ⟨b, i * 2, none⟩) (n - i) (cap - i)) (by simp [Act.eval, Act.put]) (by simp [Act.eval, Act.put]) (hcpB (W1.setRow nb A.toArray).drew rfl _ _ _) ?_)
  go_wp2
  go_ret
  exact ⟨rfl, rfl, rfl, rfl, rfl, Nat.le_succ_of_le hd5⟩
theorem insAt107 : InsAt Tryz.prog 107 2 := by
  intro w b cap n i vb vc cs eb us eu hi hnc hcm hn hb hcs hvb hus hv1 hne h1c h1v
  by_cases hroom : n + 1 ≤ cap
  · refine (ins107_room w b cap n i 1 vb vc cs us eb eu hi (by omega) hroom (by simp only [maxLen] at hcm; omega) hb hcs hvb hus hv1 hne h1c (by simpa using h1v)).mono fun ex w' hp => ?_
    obtain ⟨rfl, rfl⟩ := hp
    exact insPost_room hi hroom hcm hb hcs (by omega)
  · refine (ins107_grow w b cap n i 1 vb vc cs us eb eu hi (by omega) hnc (by omega) (by omega) hb hcs hvb hus hv1 hne h1c (by simpa using h1v)).mono fun ex w' hp => ?_
    obtain ⟨G, CE, hG1, hG2, hG3, hG4, rfl, hh, ho, ht, hp, hd⟩ := hp
    exact insPost_grow hi hG1 hG2 hG3 (by omega) hG4 (by omega) hh ho ht hp hd
set_option maxHeartbeats 4000000 in
set_option maxRecDepth 100000 in
theorem ins112_room (w : World) (b cap n i m vb vc : Nat) (cs us : Array Value) (eb eu : TypeId) (hi : i < n) (hm : 0 < m) (hroom : n + m ≤ cap) (hc63 : cap ≤ 9223372036854775807)
    (hb : w.heap[b]? = some (.cells cs eb (0, 0))) (hcs : cs.size = cap * 2) (hvb : w.heap[vb]? = some (.cells us eu (0, 0))) (hus : us.size = vc * 2) (hmv : m ≤ vc) (hne : vb ≠ b)
    (h1c : ∀ v ∈ cs.toList.take (n * 2), v.oneCell' = true) (h1v : ∀ v ∈ us.toList.take (m * 2), v.oneCell' = true) :
    Calls Tryz.prog 112 #[.slice (some ⟨b, 0, none⟩) n cap, .int .i64 i, .slice (some ⟨vb, 0, none⟩) m vc] w fun ex w' =>
      ex = .returned (.slice (some ⟨b, 0, none⟩) (n + m) cap) ∧ w' = (w.drew.setRow b (setL cs.toList ((i + m) * 2) ((cs.toList.drop (i * 2)).take ((n - i) * 2))).toArray).setRow b
        (setL (setL cs.toList ((i + m) * 2) ((cs.toList.drop (i * 2)).take ((n - i) * 2))) (i * 2) (us.toList.take (m * 2))).toArray := by
  have mixed := orders
  have hz1 : ¬ ((m : Int) = 0) := by omega
  have hz2 : ¬ ((i : Int) = (n : Int)) := by omega
  have hw1 : IntKind.i64.wrap ((i : Int) + (m : Int)) = (i : Int) + (m : Int) := by rw [IntKind.wrap_i64]; omega
  have hb1 : (0 : Int) ≤ (i : Int) + (m : Int) := by omega
  have hin : i ≤ n := by omega
  have htn : ((i : Int) + (m : Int)).toNat = i + m := by omega
  have hb2 : ¬ (cap = i + m) := by omega
  have hb3 : (i : Int) ≤ (n : Int) + (m : Int) := by omega
  have hb4 : ¬ (cap = i) := by omega
  have hsz : ∀ w, (Go.sizeOf 37).run Tryz.prog w = .ok 2 w := fun w => by
    have := run_siz' (P := Tryz.prog) (t := 37) (by rw [c37]; decide) w
    rwa [c37] at this
  have hfz : ∀ k, w.frozen? ⟨vb, k, none⟩ = false := fun k => by simp [World.frozen?, hvb]
  have hov : ∀ lb cb, (callFunc 134 #[.slice (some ⟨vb, 0, none⟩) m vc, .slice (some ⟨b, (i + m) * 2, none⟩) lb cb]).run Tryz.prog w = .ok (.value (.bool false)) w := fun lb cb => by
    rw [run_callFunc_extern Tryz.func134 (by kernel_rfl) (by kernel_rfl) (by kernel_rfl) (e := Extern.SlicesOverlaps.overlaps #[27, 27] #[4]) (by kernel_rfl),
      Lib.run_overlaps_apart w 27 4 37 u27 2 hsz ⟨vb, 0, none⟩ ⟨b, (i + m) * 2, none⟩ m vc lb cb hne eu eb us.size cs.size (by simp [World.shape?, hvb]) (by simp [World.shape?, hb]) (by omega) (hfz _) (hfz _)]
    rfl
  have hA0 : (w.drew).heap[b]? = some (.cells cs eb (0, 0)) := hb
  obtain ⟨u1, hu1⟩ : ∃ u1, (cs.toList.drop (i * 2)).take ((n - i) * 2) = u1 := ⟨_, rfl⟩
  obtain ⟨u2, hu2⟩ : ∃ u2, us.toList.take (m * 2) = u2 := ⟨_, rfl⟩
  have hl1 : u1.length = (n - i) * 2 := by rw [← hu1]; simp; omega
  have hl2 : u2.length = m * 2 := by rw [← hu2]; simp; omega
  have h11 : ∀ v ∈ u1, v.oneCell' = true := fun v hv => h1c v (by
    rw [← hu1, show (n - i) * 2 = n * 2 - i * 2 by omega, ← List.drop_take] at hv
    exact List.mem_of_mem_drop hv)
  rw [hu2] at h1v
  rw [hu1, hu2]
  obtain ⟨A, hA⟩ : ∃ A, setL cs.toList ((i + m) * 2) u1 = A := ⟨_, rfl⟩
  have hcp1 : ∀ ty dc sc, (Builtin.copy_ #[27, 27] ty #[.slice (some ⟨b, (i + m) * 2, none⟩) (n + m - (i + m)) dc, .slice (some ⟨b, i * 2, none⟩) (n + m - i) sc]).run Tryz.prog w.drew = .ok (goInt ((n - i : Nat) : Int)) (w.drew.setRow b A.toArray) := fun ty dc sc => by
    rw [← hA]
    refine run_copyZ (sl := n + m - i) (dl := n + m - (i + m)) (m := n - i) (o := (i + m) * 2) (sb := b) (so := i * 2) (us := u1) u27 hsz hA0 (by omega) hl1 (fun j v hj => ?_) h11 (by rw [hl1]; omega)
    rw [← hu1, List.getElem?_take] at hj
    split at hj
    · rw [List.getElem?_drop] at hj
      simp only [World.cell?, hA0, ← Array.getElem?_toList]
      simpa using hj
    · cases hj
  obtain ⟨W1, hW1⟩ : ∃ W1, W1 = w.drew.setRow b A.toArray := ⟨_, rfl⟩
  rw [hA, ← hW1]
  have hA1 : W1.heap[b]? = some (.cells A.toArray eb (0, 0)) := by rw [hW1]; exact setRow_heap w.drew b cs _ eb (0, 0) hA0
  have hA2 : W1.heap[vb]? = some (.cells us eu (0, 0)) := by rw [hW1, setRow_other _ _ _ _ hne]; exact hvb
  have hAl : A.length = cs.size := by rw [← hA, setL_length (by rw [hl1, Array.length_toList]; omega), Array.length_toList]
  have hcp2 : ∀ ty dc, (Builtin.copy_ #[27, 27] ty #[.slice (some ⟨b, i * 2, none⟩) (n + m - i) dc, .slice (some ⟨vb, 0, none⟩) m vc]).run Tryz.prog W1 = .ok (goInt m) (W1.setRow b (setL A (i * 2) u2).toArray) := fun ty dc => by
    have := run_copyZ (P := Tryz.prog) (ty := ty) (dc := dc) (dl := n + m - i) (sc := vc) u27 hsz hA1 (o := i * 2) (sb := vb) (so := 0) (sl := m) (m := m) (us := u2) (by omega) hl2 (fun j v hj => by
      rw [← hu2, List.getElem?_take] at hj
      split at hj
      · simp only [World.cell?, hA2, ← Array.getElem?_toList]
        simpa using hj
      · cases hj) h1v (by rw [hl2, List.size_toArray, hAl]; omega)
    exact this
  rw [← hW1] at hcp1
  clear hA0 hA1 hA2 hW1 hb hcs hvb hus h1c h1v hfz hl1 hl2 h11 hAl hu1 hu2
  go_enter Tryz.func112, Tryz.ntmps112
  go_wp2_with (simp only [hov])
  go_region_law_o (refine step_copy_runI rfl _ _ 27 27 rfl _ _ (by simp [Act.eval, Act.put]) (by simp [Act.eval, Act.put]) (hcp1 _ _ _) ?_)
  go_wp2_with (at_builtin; refine wpList_copy_runI _ rfl _ _ 27 27 rfl _ _ rfl rfl (hcp2 _ _) ?_)
  go_ret
  exact ⟨rfl, rfl⟩
set_option maxHeartbeats 4000000 in
set_option maxRecDepth 100000 in
theorem ins112_grow (w : World) (b cap n i m vb vc : Nat) (cs us : Array Value) (eb eu : TypeId) (hi : i < n) (hm : 0 < m) (hnc : n ≤ cap) (hroom : cap < n + m) (hbig : (n + m) * 32 ≤ 140737488355328)
    (hb : w.heap[b]? = some (.cells cs eb (0, 0))) (hcs : cs.size = cap * 2) (hvb : w.heap[vb]? = some (.cells us eu (0, 0))) (hus : us.size = vc * 2) (hmv : m ≤ vc) (hne : vb ≠ b)
    (h1c : ∀ v ∈ cs.toList.take (n * 2), v.oneCell' = true) (h1v : ∀ v ∈ us.toList.take (m * 2), v.oneCell' = true) :
    Calls Tryz.prog 112 #[.slice (some ⟨b, 0, none⟩) n cap, .int .i64 i, .slice (some ⟨vb, 0, none⟩) m vc] w fun ex w' =>
      ∃ G CE, n + m ≤ G ∧ G ≤ maxLen ∧ CE.size = G * 2 ∧ CE.toList.take (i * 2) = cs.toList.take (i * 2) ∧ ex = .returned (.slice (some ⟨w.heap.size, 0, none⟩) (n + m) G) ∧
        w'.heap = (((w.drew.alloc (.cells CE 37)).setRow w.heap.size (setL CE.toList (i * 2) (us.toList.take (m * 2))).toArray).setRow w.heap.size (setL (setL CE.toList (i * 2) (us.toList.take (m * 2))) ((i + m) * 2) ((cs.toList.drop (i * 2)).take ((n - i) * 2))).toArray).heap ∧
        w'.os = w.os ∧ w'.tape = w.tape ∧ w'.output = w.output ∧ w.drawn ≤ w'.drawn := by
  have mixed := orders
  have hz1 : ¬ ((m : Int) = 0) := by omega
  have hz2 : ¬ ((i : Int) = (n : Int)) := by omega
  have hz3 : (cap : Int) < (n : Int) + (m : Int) := by omega
  have hsz : ∀ w, (Go.sizeOf 37).run Tryz.prog w = .ok 2 w := fun w => by
    have := run_siz' (P := Tryz.prog) (t := 37) (by rw [c37]; decide) w
    rwa [c37] at this
  obtain ⟨G, CE, hG1, hG2, hG3, hG4, hrz⟩ := run_appendZ (w := w) (kq := .i64) (s := i) (k := n + m - i) (cap := cap) u27 u3 k37 (by rw [c37]; decide) (by rw [b37]; decide) hb (by omega) (by rw [c37]; omega) (by omega) (by rw [b37]; omega)
  rw [c37] at hG3 hG4
  rw [show i + (n + m - i) = n + m by omega] at hG1 hrz
  rw [show ((n + m - i : Nat) : Int) = (n : Int) + (m : Int) - (i : Int) by omega] at hrz
  have hbw : b < w.heap.size := (Array.getElem?_eq_some_iff.1 hb).1
  have hvw : vb < w.heap.size := (Array.getElem?_eq_some_iff.1 hvb).1
  obtain ⟨nb, hnb⟩ : ∃ nb, w.heap.size = nb := ⟨_, rfl⟩
  obtain ⟨W1, hW1⟩ : ∃ W1, W1 = w.drew.alloc (.cells CE 37) := ⟨_, rfl⟩
  obtain ⟨u1, hu1⟩ : ∃ u1, (cs.toList.drop (i * 2)).take ((n - i) * 2) = u1 := ⟨_, rfl⟩
  obtain ⟨u2, hu2⟩ : ∃ u2, us.toList.take (m * 2) = u2 := ⟨_, rfl⟩
  have hl1 : u1.length = (n - i) * 2 := by rw [← hu1]; simp; omega
  have hl2 : u2.length = m * 2 := by rw [← hu2]; simp; omega
  have h11 : ∀ v ∈ u1, v.oneCell' = true := fun v hv => h1c v (by
    rw [← hu1, show (n - i) * 2 = n * 2 - i * 2 by omega, ← List.drop_take] at hv
    exact List.mem_of_mem_drop hv)
  rw [hu2] at h1v
  have hA0 : W1.heap[nb]? = some (.cells CE 37 (0, 0)) := by rw [hW1, ← hnb]; exact alloc_new w.drew _
  have hAb : W1.heap[b]? = some (.cells cs eb (0, 0)) := by rw [hW1, ← hb]; exact alloc_old w.drew _ hbw
  have hAv : W1.heap[vb]? = some (.cells us eu (0, 0)) := by rw [hW1, ← hvb]; exact alloc_old w.drew _ hvw
  obtain ⟨A, hA⟩ : ∃ A, setL CE.toList (i * 2) u2 = A := ⟨_, rfl⟩
  obtain ⟨B, hB⟩ : ∃ B, setL A ((i + m) * 2) u1 = B := ⟨_, rfl⟩
  have hAl : A.length = CE.size := by rw [← hA, setL_length (by rw [hl2, Array.length_toList]; omega), Array.length_toList]
  have hcpA : ∀ (W : World), W.heap = W1.heap → ∀ ty dc, (Builtin.copy_ #[27, 27] ty #[.slice (some ⟨nb, i * 2, none⟩) (n + m - i) dc, .slice (some ⟨vb, 0, none⟩) m vc]).run Tryz.prog W = .ok (goInt (m : Int)) (W.setRow nb A.toArray) := fun W hW ty dc => by
    rw [← hA]
    refine run_copyZ (sl := m) (dl := n + m - i) (m := m) (o := i * 2) (sb := vb) (so := 0) (us := u2) u27 hsz (by rw [hW]; exact hA0) (by omega) hl2 (fun j v hj => ?_) h1v (by rw [hl2]; omega)
    rw [← hu2, List.getElem?_take] at hj
    split at hj
    · simp only [World.cell?, hW, hAv, ← Array.getElem?_toList]
      simpa using hj
    · cases hj
  have hcpB : ∀ (W : World), W.heap = (W1.setRow nb A.toArray).heap → ∀ ty dc sc, (Builtin.copy_ #[27, 27] ty #[.slice (some ⟨nb, (i + m) * 2, none⟩) (n + m - (i + m)) dc, .slice (some ⟨b, i * 2, none⟩) (n - i) sc]).run Tryz.prog W = .ok (goInt ((n - i : Nat) : Int)) (W.setRow nb B.toArray) := fun W hW ty dc sc => by
    rw [← hB]
    have hC := run_copyZ (P := Tryz.prog) (w := W) (t := 27) (ty := ty) (dc := dc) (sc := sc) (sl := n - i) (dl := n + m - (i + m)) (m := n - i) (o := (i + m) * 2) (sb := b) (so := i * 2) (us := u1) u27 hsz (b := nb) (cs := A.toArray) (eb := 37) (by rw [hW]; exact setRow_heap W1 nb CE _ 37 (0, 0) hA0) (by omega) hl1 (fun j v hj => by
      rw [← hu1, List.getElem?_take] at hj
      split at hj
      · rw [List.getElem?_drop] at hj
        simp only [World.cell?, hW]
        rw [setRow_other _ _ _ _ (by omega), hAb]
        simp only [← Array.getElem?_toList]
        simpa using hj
      · cases hj) h11 (by rw [hl1, List.size_toArray, hAl]; omega)
    exact hC
  rw [hnb, ← hW1] at hrz
  rw [hu1, hu2]
  have hfin : ∀ (ex : Ending) (w' : World), (ex = .returned (.slice (some ⟨nb, 0, none⟩) (n + m) G) ∧ w'.heap = ((W1.setRow nb A.toArray).setRow nb B.toArray).heap ∧ w'.os = w.os ∧ w'.tape = w.tape ∧ w'.output = w.output ∧ w.drawn ≤ w'.drawn) → ∃ G CE, n + m ≤ G ∧ G ≤ maxLen ∧ CE.size = G * 2 ∧ CE.toList.take (i * 2) = cs.toList.take (i * 2) ∧ ex = .returned (.slice (some ⟨w.heap.size, 0, none⟩) (n + m) G) ∧
        w'.heap = (((w.drew.alloc (.cells CE 37)).setRow w.heap.size (setL CE.toList (i * 2) u2).toArray).setRow w.heap.size (setL (setL CE.toList (i * 2) u2) ((i + m) * 2) u1).toArray).heap ∧
        w'.os = w.os ∧ w'.tape = w.tape ∧ w'.output = w.output ∧ w.drawn ≤ w'.drawn := fun ex w' hp => ⟨G, CE, hG1, hG2, hG3, hG4, by rw [hnb]; exact hp.1, by rw [hnb, hA, hB, ← hW1]; exact hp.2.1, hp.2.2⟩
  refine Calls.mono ?_ hfin
  have hd0 : w.os = W1.os ∧ w.tape = W1.tape ∧ w.output = W1.output ∧ w.drawn + 1 = W1.drawn := by rw [hW1]; exact ⟨rfl, rfl, rfl, rfl⟩
  obtain ⟨hd1, hd2, hd3, hd4⟩ := hd0
  rw [hd1, hd2, hd3]
  have hd5 : w.drawn ≤ W1.drawn := by omega
  have hGi : ¬ (G = i) := by omega
  have hGim : ¬ (G = i + m) := by omega
  have hci : ¬ (cap = i) := by omega
  have hGn : n + m ≤ G := hG1
  have hG63 : G ≤ 9223372036854775807 := by simp only [maxLen] at hG2; omega
  have hw1 : IntKind.i64.wrap ((i : Int) + (m : Int)) = (i : Int) + (m : Int) := by rw [IntKind.wrap_i64]; omega
  have hb1 : (0 : Int) ≤ (i : Int) + (m : Int) := by omega
  have hin : i ≤ n := by omega
  have htn : ((i : Int) + (m : Int)).toNat = i + m := by omega
  have hb3 : (i : Int) ≤ (n : Int) := by omega
  have hb5 : (i : Int) ≤ (n : Int) + (m : Int) := by omega
  clear hfin hG1 hG2 hG3 hG4 hnb hd1 hd2 hd3 hd4 hA0 hAb hAv hAl hW1 hb hcs hvb hus h1c h1v hl1 hl2 h11 hu1 hu2 hA hB hbig hsz
  go_enter Tryz.func112, Tryz.ntmps112
  go_wp2_with (first
    | (at_builtin; refine Lib.wpList_append_run _ rfl _ _ _ _ rfl _ _ rfl rfl _ _ (hrz _) ?_)
    | (at_builtin; refine wpList_copy_runI _ rfl _ _ 27 27 rfl _ _ rfl rfl (hcpA _ rfl _ _) ?_)
    | (at_builtin; refine wpList_copy_runI _ rfl _ _ 27 27 rfl _ _ rfl rfl (hcpB _ rfl _ _ _) ?_))
  go_region_law_o (refine step_copy_runI rfl _ _ 27 27 rfl (.slice (some ⟨nb, (i + m) * 2, none⟩) (n + m - (i + m)) (G - (i + m))) (.slice (some ⟨b, i * 2, none⟩) (n - i) (cap - i)) (by simp [Act.eval, Act.put]) (by simp [Act.eval, Act.put]) (hcpB (W1.setRow nb A.toArray).drew rfl _ _ _) ?_)
  go_wp2
  go_ret
  exact ⟨rfl, rfl, rfl, rfl, rfl, Nat.le_succ_of_le hd5⟩
theorem insAt112 : InsAt Tryz.prog 112 2 := by
  intro w b cap n i vb vc cs eb us eu hi hnc hcm hn hb hcs hvb hus hv1 hne h1c h1v
  by_cases hroom : n + 1 ≤ cap
  · refine (ins112_room w b cap n i 1 vb vc cs us eb eu hi (by omega) hroom (by simp only [maxLen] at hcm; omega) hb hcs hvb hus hv1 hne h1c (by simpa using h1v)).mono fun ex w' hp => ?_
    obtain ⟨rfl, rfl⟩ := hp
    exact insPost_room hi hroom hcm hb hcs (by omega)
  · refine (ins112_grow w b cap n i 1 vb vc cs us eb eu hi (by omega) hnc (by omega) (by omega) hb hcs hvb hus hv1 hne h1c (by simpa using h1v)).mono fun ex w' hp => ?_
    obtain ⟨G, CE, hG1, hG2, hG3, hG4, rfl, hh, ho, ht, hp, hd⟩ := hp
    exact insPost_grow hi hG1 hG2 hG3 (by omega) hG4 (by omega) hh ho ht hp hd
end Go.Ai

set_option linter.unusedVariables false
set_option linter.unusedSimpArgs false
set_option maxHeartbeats 4000000
set_option maxRecDepth 100000
namespace Go.Ai
open Go.Proofs
theorem stepM_mem {w y : Mb} {s : List Mb × Bool} {b : Mb} (h : b ∈ (stepM w s y).1) : b ∈ s.1 ∨ b = w ∨ b = y := by
  unfold stepM at h
  by_cases h1 : s.2 = false ∧ w.v ≤ y.v <;> by_cases h2 : w.v = y.v <;> simp [h1, h2] at h <;> grind
theorem setF_mem {w b : Mb} : ∀ {L : List Mb} {s : List Mb × Bool}, b ∈ (L.foldl (stepM w) s).1 → b ∈ s.1 ∨ b = w ∨ b ∈ L
  | [], s, h => .inl h
  | y :: l, s, h => by
    rw [List.foldl_cons] at h
    rcases setF_mem h with h1 | h1 | h1
    · rcases stepM_mem h1 with h2 | h2 | h2
      · exact .inl h2
      · exact .inr (.inl h2)
      · exact .inr (.inr (h2 ▸ List.mem_cons_self ..))
    · exact .inr (.inl h1)
    · exact .inr (.inr (List.mem_cons_of_mem _ h1))
theorem setMb_mem {w b : Mb} {L : List Mb} (h : b ∈ setMbL w L) : b = w ∨ b ∈ L := by
  unfold setMbL at h
  have key : b ∈ (setF w L).1 → b = w ∨ b ∈ L := fun h1 => by
    rcases setF_mem (w := w) (L := L) (s := ([], false)) h1 with h2 | h2 | h2
    · cases h2
    · exact .inl h2
    · exact .inr h2
  by_cases hb : (setF w L).2 = true
  · rw [if_pos hb] at h; exact key h
  · rw [if_neg hb] at h
    rcases List.mem_append.1 h with h1 | h1
    · exact key h1
    · exact .inl (by simpa using h1)
/-- Do's answer is not much longer. -/
theorem refDo_ok {p : Pv} {x : Cm} (h1 : p.ks.length ≤ 1000) (h2 : p.ms.length ≤ 999) (h3 : p.cs.length ≤ 999) (h4 : p.bs.length ≤ 999) (h5 : ∀ b ∈ p.bs, b.l.length ≤ 1000) (hw : x.w.l.length ≤ 1000) : okL (refDo p x).1 := by
  have h0 : okL p := ⟨h1, by omega, by omega, by omega, h5⟩
  unfold refDo
  split
  · exact h0
  split
  · unfold refMap
    dsimp only
    split
    · exact ⟨h1, by rw [insL_len]; omega, by dsimp only; omega, by dsimp only; omega, h5⟩
    · exact h0
  split
  · unfold refMapD
    dsimp only
    split
    · exact ⟨h1, Nat.le_trans (List.length_filter_le _ _) (by omega), by dsimp only; omega, by dsimp only; omega, h5⟩
    · exact h0
  split
  · unfold refCar
    dsimp only
    split
    · exact ⟨h1, by dsimp only; omega, by rw [insL_len]; omega, by dsimp only; omega, h5⟩
    · exact h0
  split
  · unfold refCarD
    dsimp only
    split
    · exact ⟨h1, by dsimp only; omega, Nat.le_trans (List.length_filter_le _ _) (by omega), by dsimp only; omega, h5⟩
    · exact h0
  split
  · unfold refMem
    dsimp only
    split
    · refine ⟨h1, by dsimp only; omega, by dsimp only; omega, ?_, ?_⟩
      · dsimp only
        rw [setMb_len]
        have := List.length_filter_le (fun y : Mb => y.v != x.w.v) p.bs
        omega
      · intro b hb
        rcases setMb_mem hb with rfl | hb
        · exact hw
        · exact h5 b hb
    · exact h0
  split
  · unfold refMemD
    dsimp only
    split
    · exact ⟨h1, by dsimp only; omega, by dsimp only; omega, Nat.le_trans (List.length_filter_le _ _) (by omega), fun b hb => h5 b (List.mem_filter.1 hb).1⟩
    · exact h0
  · exact h0
abbrev shortC (x : Cm) : Cm := { x with w := shortM x.w }
end Go.Ai

set_option linter.unusedVariables false
set_option linter.unusedSimpArgs false
set_option maxHeartbeats 4000000
set_option maxRecDepth 100000
namespace Go.Ai
open Go.Proofs
/-- Do answers as the reference's, if put and drop give these rows. -/
theorem pdo_ref (p : Pv) (hp : okL p) (ho : isB p.own.a) (x : Cm) (hw : x.w.l.length ≤ 1000)
    (h35 : checkE p = 0 → addMapE p x.m = 0 → AC Tryz.prog 35 [msV p.ms, mpV x.m, .clo (.func 36) [] []] [] (eqR (msV (insL beforeB x.m p.ms))))
    (h38 : checkE p = 0 → x.m ∈ p.ms → AC Tryz.prog 38 [msV p.ms, mpV x.m, .clo (.func 36) [] []] [] (eqR (msV (p.ms.filter (fun y : Mp => !decide (y = x.m))))))
    (h40 : checkE p = 0 → addCarryE p x.c = 0 → AC Tryz.prog 40 [csV p.cs, crV x.c, .clo (.func 41) [] []] [] (eqR (csV (insL ltCr x.c p.cs))))
    (h43 : checkE p = 0 → x.c ∈ p.cs → AC Tryz.prog 43 [csV p.cs, crV x.c, .clo (.func 41) [] []] [] (eqR (csV (p.cs.filter (fun y : Cr => !decide (y = x.c))))))
    (h45 : checkE p = 0 → setMemberE p x.w = 0 → AC Tryz.prog 45 [bsV p.bs, mbV x.w, .clo (.func 47) [] []] [] (eqR (bsV (setMbL x.w p.bs))))
    (h49 : checkE p = 0 → hasM p.bs x.w.v = true → AC Tryz.prog 49 [bsV p.bs, mbV x.w, .clo (.func 47) [] []] [] (eqR (bsV (p.bs.filter (fun y : Mb => y.v != x.w.v))))) :
    AC Tryz.prog 12 [pvV p, cmV x] [] (eqR (.tuple [pvV (refDo p x).1, vI (refDo p x).2])) := by
  have h := pdo p hp ho x hw _ _ _ _ _ _ h35 h38 h40 h43 h45 h49
  rw [doL_ref] at h
  exact h
/-- What Check says of the rows. -/
theorem rows_ok {p : Pv} (h : checkE p = 0) : okB p = true ∧ risB beforeB p.ms = true ∧ risB ltCr p.cs = true ∧ risB ltMb p.bs = true := by
  have hok : okB p = true := by
    unfold checkE at h
    cases ho : okB p with
    | true => rfl
    | false => rw [ho] at h; exact absurd h (by decide)
  refine ⟨hok, ?_⟩
  unfold okB at hok
  simp only [Bool.and_eq_true] at hok
  have h2 := hok.2.1
  unfold okR at h2
  simp only [Bool.and_eq_true] at h2
  exact ⟨h2.2.2, h2.2.1, h2.1⟩
/-- Where put lays a map: the cut of the row, and no map of that key is there. -/
theorem put_ms {p : Pv} (h : checkE p = 0) {m : Mp} (he : addMapE p m = 0) : ∃ n0, n0 ≤ p.ms.length ∧ insL beforeB m p.ms = p.ms.take n0 ++ m :: p.ms.drop n0 ∧ AC Tryz.prog 99 [msV p.ms, mpV m, .clo (.func 36) [] []] [] (eqR (.tuple [vI n0, vB false])) := by
  obtain ⟨hok, hr, _, _⟩ := rows_ok h
  have hl : p.ms.length ≤ 64 := by
    unfold okB at hok
    simp only [Bool.and_eq_true] at hok
    have h1 := hok.1
    unfold okA at h1
    simp only [Bool.and_eq_true, decide_eq_true_eq] at h1
    have := h1.2.2.1
    omega
  have hno : ∀ y ∈ p.ms, ¬ cmpMp y m = 0 := by
    intro y hy hc
    unfold addMapE aMap at he
    have : (p.ms.any fun x => x.p == m.p && (x.v == m.v || x.s == m.s)) = true := by
      rw [List.any_eq_true]
      refine ⟨y, hy, ?_⟩
      unfold cmpMp at hc
      have h1 : cmpZ y.p m.p = 0 := by
        by_cases hz : cmpZ y.p m.p = 0
        · exact hz
        · rw [if_pos hz] at hc; exact hc
      rw [if_neg (by rw [h1]; simp)] at hc
      have h2 := (cmpZ_zero _ _).1 h1
      have h3 := (cmpZ_zero _ _).1 hc
      simp [h2, h3]
    rw [this] at he
    (repeat' split at he) <;> simp_all
  have key : ∀ a b : Mp, beforeB a b = true ↔ cmpMp a b < 0 := by
    intro a b
    unfold beforeB cmpMp cmpZ
    simp only [Bool.or_eq_true, Bool.and_eq_true, decide_eq_true_eq, beq_iff_eq]
    (repeat' split) <;> omega
  have anti : ∀ a b : Mp, ¬ cmpMp a b < 0 → ¬ cmpMp a b = 0 → cmpMp b a < 0 := by
    intro a b h1 h2
    unfold cmpMp cmpZ at *
    (repeat' split at h1) <;> (repeat' split at h2) <;> (repeat' split) <;> omega
  obtain ⟨n0, hn, hlo, hhi⟩ := cut_of (lt := beforeB) (c := fun y => cmpMp y m) (fun a b hab hb => (key a m).1 (before_tr a b m hab ((key b m).2 hb))) hr
  refine ⟨n0, hn, insL_at hn ?_ ?_, pc99 m p.ms (by omega) n0 hn hlo hhi false ?_⟩
  · intro k y hy hk
    have h1 := hlo k y hy hk
    cases hb : beforeB m y with
    | false => rfl
    | true =>
      have h2 := before_tr _ _ _ hb ((key y m).2 h1)
      have h3 := (key m m).1 h2
      rw [cmpMp_self] at h3
      exact absurd h3 (by decide)
  · intro y hy
    exact (key m y).2 (anti y m (hhi n0 y hy (Nat.le_refl _)) (hno y (List.mem_of_getElem? hy)))
  · cases hy : p.ms[n0]? with
    | none => rfl
    | some y =>
      have h1 := hno y (List.mem_of_getElem? hy)
      simp [h1]
end Go.Ai

set_option linter.unusedVariables false
set_option linter.unusedSimpArgs false
set_option maxHeartbeats 4000000
set_option maxRecDepth 100000
namespace Go.Ai
open Go.Proofs
theorem cmpZ_neg (a b : Int) : cmpZ a b < 0 ↔ a < b := by unfold cmpZ; (repeat' split) <;> omega
theorem rows_len {p : Pv} (h : checkE p = 0) : p.ms.length ≤ 64 ∧ p.cs.length ≤ 64 ∧ p.bs.length ≤ 64 := by
  have hok := (rows_ok h).1
  unfold okB at hok
  simp only [Bool.and_eq_true] at hok
  have h1 := hok.1
  unfold okA at h1
  simp only [Bool.and_eq_true, decide_eq_true_eq] at h1
  have h2 := h1.2.2
  omega
/-- Where put lays a carry. -/
theorem put_cs {p : Pv} (h : checkE p = 0) {m : Cr} (he : addCarryE p m = 0) : ∃ n0, n0 ≤ p.cs.length ∧ insL ltCr m p.cs = p.cs.take n0 ++ m :: p.cs.drop n0 ∧ AC Tryz.prog 106 [csV p.cs, crV m, .clo (.func 41) [] []] [] (eqR (.tuple [vI n0, vB false])) := by
  obtain ⟨hok, _, hr, _⟩ := rows_ok h
  have hl := (rows_len h).2.1
  have hno : ∀ y ∈ p.cs, ¬ y.s = m.s := by
    intro y hy hc
    have : hasC p.cs m.s = true := by
      unfold hasC
      rw [List.any_eq_true]
      exact ⟨y, hy, by simp [hc]⟩
    unfold addCarryE aCar at he
    rw [this] at he
    (repeat' split at he) <;> simp_all
  have key : ∀ a b : Cr, ltCr a b = true ↔ a.s < b.s := fun a b => by unfold ltCr; exact decide_eq_true_iff
  obtain ⟨n0, hn, hlo, hhi⟩ := cut_of (lt := ltCr) (c := fun y => cmpZ y.s m.s) (fun a b hab hb => (cmpZ_neg _ _).2 (Int.lt_trans ((key a b).1 hab) ((cmpZ_neg _ _).1 hb))) hr
  refine ⟨n0, hn, insL_at hn ?_ ?_, pc106 m p.cs (by omega) n0 hn hlo hhi false ?_⟩
  · intro k y hy hk
    have h1 := (cmpZ_neg _ _).1 (hlo k y hy hk)
    cases hb : ltCr m y with
    | false => rfl
    | true => have h2 := (key m y).1 hb; omega
  · intro y hy
    have h1 : ¬ y.s < m.s := fun hh => hhi n0 y hy (Nat.le_refl _) ((cmpZ_neg _ _).2 hh)
    have h2 := hno y (List.mem_of_getElem? hy)
    exact (key m y).2 (by omega)
  · cases hy : p.cs[n0]? with
    | none => rfl
    | some y =>
      have h1 : ¬ cmpZ y.s m.s = 0 := fun hh => hno y (List.mem_of_getElem? hy) ((cmpZ_zero _ _).1 hh)
      simp [h1]
/-- Where put lays a member: over the one that is there, or at the cut. -/
theorem put_bs {p : Pv} (h : checkE p = 0) (m : Mb) : (∃ n0 y, p.bs[n0]? = some y ∧ setMbL m p.bs = p.bs.take n0 ++ m :: p.bs.drop (n0 + 1) ∧ AC Tryz.prog 111 [bsV p.bs, mbV m, .clo (.func 47) [] []] [] (eqR (.tuple [vI n0, vB true]))) ∨ (∃ n0, n0 ≤ p.bs.length ∧ setMbL m p.bs = p.bs.take n0 ++ m :: p.bs.drop n0 ∧ AC Tryz.prog 111 [bsV p.bs, mbV m, .clo (.func 47) [] []] [] (eqR (.tuple [vI n0, vB false]))) := by
  obtain ⟨hok, _, _, hr⟩ := rows_ok h
  have hl := (rows_len h).2.2
  have key : ∀ a b : Mb, ltMb a b = true ↔ a.v < b.v := fun a b => by unfold ltMb; exact decide_eq_true_iff
  obtain ⟨n0, hn, hlo, hhi⟩ := cut_of (lt := ltMb) (c := fun y => cmpZ y.v m.v) (fun a b hab hb => (cmpZ_neg _ _).2 (Int.lt_trans ((key a b).1 hab) ((cmpZ_neg _ _).1 hb))) hr
  have lo : ∀ (k : Nat) (z : Mb), p.bs[k]? = some z → k < n0 → z.v < m.v := fun k z hz hk => (cmpZ_neg _ _).1 (hlo k z hz hk)
  have hi : ∀ (k : Nat) (z : Mb), p.bs[k]? = some z → n0 ≤ k → ¬ z.v < m.v := fun k z hz hk hh => hhi k z hz hk ((cmpZ_neg _ _).2 hh)
  by_cases hf : ∃ y, p.bs[n0]? = some y ∧ m.v = y.v
  · obtain ⟨y, hy, hv⟩ := hf
    refine .inl ⟨n0, y, hy, setMb_found hr lo hy hv, pc111 m p.bs (by omega) n0 hn hlo hhi true ?_⟩
    rw [hy]
    have : cmpZ y.v m.v = 0 := (cmpZ_zero _ _).2 hv.symm
    simp [this]
  · have hno : ∀ z ∈ p.bs, ¬ m.v = z.v := by
      intro z hz hv
      obtain ⟨k, hk⟩ := List.getElem?_of_mem hz
      by_cases hlt : k < n0
      · have := lo k z hk hlt; omega
      · have hn0 : n0 < p.bs.length := by have := (List.getElem?_eq_some_iff.1 hk).1; omega
        have hg := List.getElem?_eq_getElem hn0
        have h1 := hi n0 _ hg (Nat.le_refl _)
        have h2 : ¬ m.v = p.bs[n0].v := fun hh => hf ⟨_, hg, hh⟩
        have hzin : z ∈ p.bs := hz
        rcases one_of (lt := ltMb) (fun a b c ha hb => (key a c).2 (Int.lt_trans ((key a b).1 ha) ((key b c).1 hb))) hr p.bs[n0] (List.getElem_mem hn0) z hz with h3 | h3 | h3
        · rw [h3] at h2; exact h2 hv
        · have := (key _ _).1 h3; omega
        · have h4 := (key _ _).1 h3
          -- z stands behind n0 and is smaller: against the order
          have hle : n0 ≤ k := by omega
          have mono : ∀ d : Nat, ∀ w : Mb, p.bs[n0 + d]? = some w → p.bs[n0].v ≤ w.v := by
            intro d
            induction d with
            | zero => intro w hw; rw [Nat.add_zero, hg] at hw; cases hw; exact Int.le_refl _
            | succ d ih =>
              intro w hw
              have hd : n0 + d < p.bs.length := by have := (List.getElem?_eq_some_iff.1 hw).1; omega
              have hgd := List.getElem?_eq_getElem hd
              have h5 := ih _ hgd
              have h6 := (key _ _).1 ((risB_iff ltMb p.bs).1 hr (n0 + d) _ w hgd hw)
              omega
          have h7 := mono (k - n0) z (by rw [show n0 + (k - n0) = k from by omega]; exact hk)
          omega
    refine .inr ⟨n0, hn, setMb_new lo hi hno, pc111 m p.bs (by omega) n0 hn hlo hhi false ?_⟩
    cases hy : p.bs[n0]? with
    | none => rfl
    | some y =>
      have h1 : ¬ cmpZ y.v m.v = 0 := fun hh => hf ⟨y, hy, ((cmpZ_zero _ _).1 hh).symm⟩
      simp [h1]
end Go.Ai

set_option linter.unusedVariables false
set_option linter.unusedSimpArgs false
set_option maxHeartbeats 4000000
set_option maxRecDepth 100000
namespace Go.Ai
open Go.Proofs
attribute [local go_sem] QH QR V.noimm V.noimms frzZs frzZ frzA frzV frzVs frzBox boxLen Option.isSome cond_true cond_false aopD calW flatV stepX amap stepY alookup afind aupdate adelete amlen arange ameq mapOf akeq pl V.mapT V.mapTs Option.bind stepK runK guardD stepE runD callD compact selB callK evS ofVal ofVals scalar aop ares mkRes V.rn V.rns V.cells? cellsAt Go.Ai.part aload astore setL V.atom abin aun intBin shiftBin aconv fieldOf aindexAddr aindex bound? aslice aarr abuild afill alen nilP nilS nilF aeq eqCells eqCell Go.Ai.known strBin abuiltin aappend abuildSlice arowsFill amakeSlice acopy aclear minmax rowsOf numsT notStr isIntD isByte V.pz V.pzs T.toV frz1 frz scalT scalTs chunkT List.range List.range.loop ite_true ite_false if_true if_false ne_eq implies_true forall_const eq_self IntKind.bits kPostKF_ret kPostKF_normal kPostX_ret kPostX_normal bsl nil2K nil2 kPostFW_ret kPostFW_normal kPostKM_ret kPostKM_normal kPostXK_ret kPostXK_normal
theorem put35_mid (x : Mp) (L : List Mp) (hL : L.length ≤ 1000) (n0 : Nat) (hn : n0 < L.length) (h1 : AC Tryz.prog 99 [msV L, mpV x, .clo (.func 36) [] []] [] (eqR (.tuple [vI n0, vB false]))) :
    AC Tryz.prog 35 [msV L, mpV x, .clo (.func 36) [] []] [] (eqR (msV (L.take n0 ++ x :: L.drop n0))) := by
  obtain ⟨l, hl⟩ : ∃ l, L.map mpT = l := ⟨_, rfl⟩
  have hll : L.length = l.length := by rw [← hl]; simp
  have h2 := pco94 l (by omega)
  have h3 := AC_ins (P := Tryz.prog) (f := 100) (z := 3) (by kernel_rfl) insAt100 (by decide) (mpT x) l (by omega) n0 (by omega) (bxMp x) ((flat1_Mp x).pz _)
  obtain ⟨X, hX⟩ : ∃ X, l.take n0 ++ mpT x :: l.drop n0 = X := ⟨_, rfl⟩
  have hX2 : (L.take n0 ++ x :: L.drop n0).map mpT = X := by rw [← hX, List.map_append, List.map_cons, List.map_take, List.map_drop, hl]
  have hXl : X.length = l.length + 1 := by rw [← hX]; simp; omega
  have tk : List.take (l.length + 1) X = X := List.take_of_length_le (by omega)
  rw [hX] at h3
  rw [show msV (L.take n0 ++ x :: L.drop n0) = .sl 3 X from by rw [← hX2], show msV L = .sl 3 l from by rw [← hl]]
  rw [show msV L = .sl 3 l from by rw [← hl]] at h1
  refine AC_frozen orders Tryz.func35 rfl (by kernel_rfl) (by kernel_rfl) Tryz.ntmps35 (by simp) ?_
  unfold Tryz.f35
  (have hwq := trivial; repeat' (first | simp (maxSteps:=9999999)-implicitDefEqProofs only [go_sem,simprocAttr,hwq,FT3,FT25,FT32,FT69,List.length_map,List.getElem?_map,Int.natCast_nonneg,List.length_append,List.map_append,hXl,tk,Nat.le_refl] | (refine condK_split ?_ ?_ <;> intro hwq) | (refine two_split ?_ ?_) | (refine guardK_split ?_ ?_ <;> intro hwq) | (refine guardE_split ?_ ?_ <;> intro hwq) | (refine awp_drawW [] (by decide +kernel) ?_; have hwq := trivial) | (refine call_plain h1 rfl rfl ?_; have hwq := trivial) | (refine call_at [] h2 (by simp) (by simp) rfl rfl rfl (V.les_refl _) ?_; have hwq := trivial) | (refine call_here h3 ?_; have hwq := trivial) | fail))
theorem drop38_all (x : Mp) (L : List Mp) (hL : L.length ≤ 1000) : AC Tryz.prog 38 [msV L, mpV x, .clo (.func 36) [] []] [] (eqR (msV (L.filter (fun y => !(cmpMp x y == 0))))) := by
  have hT : isAgg Tryz.prog 69 = some false := by kernel_rfl
  obtain ⟨F, hF⟩ : ∃ F, L.filter (fun y => !(cmpMp x y == 0)) = F := ⟨_, rfl⟩
  have hFl : F.length ≤ L.length := by rw [← hF]; exact List.length_filter_le _ _
  obtain ⟨Y, hY⟩ : ∃ Y, F.map mpT ++ List.replicate (L.length - F.length) [.s (.int .i64 0), .s (.int .i64 0), .s (.int .i64 0)] = Y := ⟨_, rfl⟩
  have h3 := pdf104 x L hL (fun y => cmpMp x y == 0) (fun _ => rfl) F hF Y hY
  have h2 := pco94 (L.map mpT) (by simp; omega)
  rw [List.length_map] at h2
  have hYl : Y.length = L.length := by rw [← hY]; simp; omega
  have tk : List.take F.length Y = F.map mpT := by
    rw [← hY, List.take_append_of_le_length (by simp), List.take_of_length_le (by simp)]
  rw [hF]
  refine AC_frozen orders Tryz.func38 rfl (by kernel_rfl) (by kernel_rfl) Tryz.ntmps38 (by simp) ?_
  unfold Tryz.f38
  (have hwq := trivial; repeat' (first | simp (maxSteps:=9999999)-implicitDefEqProofs only [go_sem,simprocAttr,hwq,FT3,FT25,FT32,FT69,FT101,List.length_map,List.getElem?_map,Int.natCast_nonneg,List.length_append,List.map_append,hT,hYl,tk,hFl,Nat.le_refl] | (refine condK_split ?_ ?_ <;> intro hwq) | (refine two_split ?_ ?_) | (refine guardK_split ?_ ?_ <;> intro hwq) | (refine guardE_split ?_ ?_ <;> intro hwq) | (refine awp_drawW [] (by decide +kernel) ?_; have hwq := trivial) | (refine call_at [] h2 (by simp) (by simp) rfl rfl rfl (V.les_refl _) ?_; have hwq := trivial) | (refine call_here h3 ?_; have hwq := trivial) | fail))
theorem put40_mid (x : Cr) (L : List Cr) (hL : L.length ≤ 1000) (n0 : Nat) (hn : n0 < L.length) (h1 : AC Tryz.prog 106 [csV L, crV x, .clo (.func 41) [] []] [] (eqR (.tuple [vI n0, vB false]))) :
    AC Tryz.prog 40 [csV L, crV x, .clo (.func 41) [] []] [] (eqR (csV (L.take n0 ++ x :: L.drop n0))) := by
  obtain ⟨l, hl⟩ : ∃ l, L.map crT = l := ⟨_, rfl⟩
  have hll : L.length = l.length := by rw [← hl]; simp
  have h2 := pco95 l (by omega)
  have h3 := AC_ins (P := Tryz.prog) (f := 107) (z := 2) (by kernel_rfl) insAt107 (by decide) (crT x) l (by omega) n0 (by omega) (bxCr x) ((flat1_Cr x).pz _)
  obtain ⟨X, hX⟩ : ∃ X, l.take n0 ++ crT x :: l.drop n0 = X := ⟨_, rfl⟩
  have hX2 : (L.take n0 ++ x :: L.drop n0).map crT = X := by rw [← hX, List.map_append, List.map_cons, List.map_take, List.map_drop, hl]
  have hXl : X.length = l.length + 1 := by rw [← hX]; simp; omega
  have tk : List.take (l.length + 1) X = X := List.take_of_length_le (by omega)
  rw [hX] at h3
  rw [show csV (L.take n0 ++ x :: L.drop n0) = .sl 2 X from by rw [← hX2], show csV L = .sl 2 l from by rw [← hl]]
  rw [show csV L = .sl 2 l from by rw [← hl]] at h1
  refine AC_frozen orders Tryz.func40 rfl (by kernel_rfl) (by kernel_rfl) Tryz.ntmps40 (by simp) ?_
  unfold Tryz.f40
  (have hwq := trivial; repeat' (first | simp (maxSteps:=9999999)-implicitDefEqProofs only [go_sem,simprocAttr,hwq,FT3,FT26,FT34,FT73,List.length_map,List.getElem?_map,Int.natCast_nonneg,List.length_append,List.map_append,hXl,tk,Nat.le_refl] | (refine condK_split ?_ ?_ <;> intro hwq) | (refine two_split ?_ ?_) | (refine guardK_split ?_ ?_ <;> intro hwq) | (refine guardE_split ?_ ?_ <;> intro hwq) | (refine awp_drawW [] (by decide +kernel) ?_; have hwq := trivial) | (refine call_plain h1 rfl rfl ?_; have hwq := trivial) | (refine call_at [] h2 (by simp) (by simp) rfl rfl rfl (V.les_refl _) ?_; have hwq := trivial) | (refine call_here h3 ?_; have hwq := trivial) | fail))
theorem drop43_all (x : Cr) (L : List Cr) (hL : L.length ≤ 1000) : AC Tryz.prog 43 [csV L, crV x, .clo (.func 41) [] []] [] (eqR (csV (L.filter (fun y => !(cmpZ x.s y.s == 0))))) := by
  have hT : isAgg Tryz.prog 73 = some false := by kernel_rfl
  obtain ⟨F, hF⟩ : ∃ F, L.filter (fun y => !(cmpZ x.s y.s == 0)) = F := ⟨_, rfl⟩
  have hFl : F.length ≤ L.length := by rw [← hF]; exact List.length_filter_le _ _
  obtain ⟨Y, hY⟩ : ∃ Y, F.map crT ++ List.replicate (L.length - F.length) [.s (.int .i64 0), .s (.int .i64 0)] = Y := ⟨_, rfl⟩
  have h3 := pdf109 x L hL (fun y => cmpZ x.s y.s == 0) (fun _ => rfl) F hF Y hY
  have h2 := pco95 (L.map crT) (by simp; omega)
  rw [List.length_map] at h2
  have hYl : Y.length = L.length := by rw [← hY]; simp; omega
  have tk : List.take F.length Y = F.map crT := by
    rw [← hY, List.take_append_of_le_length (by simp), List.take_of_length_le (by simp)]
  rw [hF]
  refine AC_frozen orders Tryz.func43 rfl (by kernel_rfl) (by kernel_rfl) Tryz.ntmps43 (by simp) ?_
  unfold Tryz.f43
  (have hwq := trivial; repeat' (first | simp (maxSteps:=9999999)-implicitDefEqProofs only [go_sem,simprocAttr,hwq,FT3,FT26,FT34,FT73,FT99,List.length_map,List.getElem?_map,Int.natCast_nonneg,List.length_append,List.map_append,hT,hYl,tk,hFl,Nat.le_refl] | (refine condK_split ?_ ?_ <;> intro hwq) | (refine two_split ?_ ?_) | (refine guardK_split ?_ ?_ <;> intro hwq) | (refine guardE_split ?_ ?_ <;> intro hwq) | (refine awp_drawW [] (by decide +kernel) ?_; have hwq := trivial) | (refine call_at [] h2 (by simp) (by simp) rfl rfl rfl (V.les_refl _) ?_; have hwq := trivial) | (refine call_here h3 ?_; have hwq := trivial) | fail))
theorem put45_mid (x : Mb) (L : List Mb) (hL : L.length ≤ 1000) (n0 : Nat) (hn : n0 < L.length) (h1 : AC Tryz.prog 111 [bsV L, mbV x, .clo (.func 47) [] []] [] (eqR (.tuple [vI n0, vB false]))) :
    AC Tryz.prog 45 [bsV L, mbV x, .clo (.func 47) [] []] [] (eqR (bsV (L.take n0 ++ x :: L.drop n0))) := by
  obtain ⟨l, hl⟩ : ∃ l, L.map mbT = l := ⟨_, rfl⟩
  have hll : L.length = l.length := by rw [← hl]; simp
  have h2 := pco96 l (by omega)
  have h3 := AC_ins (P := Tryz.prog) (f := 112) (z := 2) (by kernel_rfl) insAt112 (by decide) (mbT x) l (by omega) n0 (by omega) (bxMb x) ((flat1_Mb x).pz _)
  obtain ⟨X, hX⟩ : ∃ X, l.take n0 ++ mbT x :: l.drop n0 = X := ⟨_, rfl⟩
  have hX2 : (L.take n0 ++ x :: L.drop n0).map mbT = X := by rw [← hX, List.map_append, List.map_cons, List.map_take, List.map_drop, hl]
  have hXl : X.length = l.length + 1 := by rw [← hX]; simp; omega
  have tk : List.take (l.length + 1) X = X := List.take_of_length_le (by omega)
  rw [hX] at h3
  rw [show bsV (L.take n0 ++ x :: L.drop n0) = .sl 2 X from by rw [← hX2], show bsV L = .sl 2 l from by rw [← hl]]
  rw [show bsV L = .sl 2 l from by rw [← hl]] at h1
  refine AC_frozen orders Tryz.func45 rfl (by kernel_rfl) (by kernel_rfl) Tryz.ntmps45 (by simp) ?_
  unfold Tryz.f45
  (have hwq := trivial; repeat' (first | simp (maxSteps:=9999999)-implicitDefEqProofs only [go_sem,simprocAttr,hwq,FT3,FT27,FT35,FT37,FT78,List.length_map,List.getElem?_map,Int.natCast_nonneg,List.length_append,List.map_append,hXl,tk,Nat.le_refl] | (refine condK_split ?_ ?_ <;> intro hwq) | (refine two_split ?_ ?_) | (refine guardK_split ?_ ?_ <;> intro hwq) | (refine guardE_split ?_ ?_ <;> intro hwq) | (refine awp_drawW [] (by decide +kernel) ?_; have hwq := trivial) | (refine call_plain h1 rfl rfl ?_; have hwq := trivial) | (refine call_at [] h2 (by simp) (by simp) rfl rfl rfl (V.les_refl _) ?_; have hwq := trivial) | (refine call_here h3 ?_; have hwq := trivial) | fail))
theorem drop49_all (x : Mb) (L : List Mb) (hL : L.length ≤ 1000) : AC Tryz.prog 49 [bsV L, mbV x, .clo (.func 47) [] []] [] (eqR (bsV (L.filter (fun y => !(cmpZ x.v y.v == 0))))) := by
  have hT : isAgg Tryz.prog 78 = some false := by kernel_rfl
  obtain ⟨F, hF⟩ : ∃ F, L.filter (fun y => !(cmpZ x.v y.v == 0)) = F := ⟨_, rfl⟩
  have hFl : F.length ≤ L.length := by rw [← hF]; exact List.length_filter_le _ _
  obtain ⟨Y, hY⟩ : ∃ Y, F.map mbT ++ List.replicate (L.length - F.length) [.s (.int .i64 0), .s (.slice none 0 0)] = Y := ⟨_, rfl⟩
  have h3 := pdf114 x L hL (fun y => cmpZ x.v y.v == 0) (fun _ => rfl) F hF Y hY
  have h2 := pco96 (L.map mbT) (by simp; omega)
  rw [List.length_map] at h2
  have hYl : Y.length = L.length := by rw [← hY]; simp; omega
  have tk : List.take F.length Y = F.map mbT := by
    rw [← hY, List.take_append_of_le_length (by simp), List.take_of_length_le (by simp)]
  rw [hF]
  refine AC_frozen orders Tryz.func49 rfl (by kernel_rfl) (by kernel_rfl) Tryz.ntmps49 (by simp) ?_
  unfold Tryz.f49
  (have hwq := trivial; repeat' (first | simp (maxSteps:=9999999)-implicitDefEqProofs only [go_sem,simprocAttr,hwq,FT3,FT27,FT35,FT37,FT78,FT97,List.length_map,List.getElem?_map,Int.natCast_nonneg,List.length_append,List.map_append,hT,hYl,tk,hFl,Nat.le_refl] | (refine condK_split ?_ ?_ <;> intro hwq) | (refine two_split ?_ ?_) | (refine guardK_split ?_ ?_ <;> intro hwq) | (refine guardE_split ?_ ?_ <;> intro hwq) | (refine awp_drawW [] (by decide +kernel) ?_; have hwq := trivial) | (refine call_at [] h2 (by simp) (by simp) rfl rfl rfl (V.les_refl _) ?_; have hwq := trivial) | (refine call_here h3 ?_; have hwq := trivial) | fail))
/-- put of a map that is not there. -/
theorem do35 {p : Pv} (h : checkE p = 0) {m : Mp} (he : addMapE p m = 0) : AC Tryz.prog 35 [msV p.ms, mpV m, .clo (.func 36) [] []] [] (eqR (msV (insL beforeB m p.ms))) := by
  obtain ⟨n0, hn, e, h1⟩ := put_ms h he
  have hl := (rows_len h).1
  rw [e]
  rcases Nat.lt_or_ge n0 p.ms.length with hlt | hge
  · exact put35_mid m p.ms (by omega) n0 hlt h1
  · obtain rfl : n0 = p.ms.length := Nat.le_antisymm hn hge
    rw [List.take_length, List.drop_length]
    exact put35_end m p.ms (by omega) h1
theorem do40 {p : Pv} (h : checkE p = 0) {m : Cr} (he : addCarryE p m = 0) : AC Tryz.prog 40 [csV p.cs, crV m, .clo (.func 41) [] []] [] (eqR (csV (insL ltCr m p.cs))) := by
  obtain ⟨n0, hn, e, h1⟩ := put_cs h he
  have hl := (rows_len h).2.1
  rw [e]
  rcases Nat.lt_or_ge n0 p.cs.length with hlt | hge
  · exact put40_mid m p.cs (by omega) n0 hlt h1
  · obtain rfl : n0 = p.cs.length := Nat.le_antisymm hn hge
    rw [List.take_length, List.drop_length]
    exact put40_end m p.cs (by omega) h1
theorem do45 {p : Pv} (h : checkE p = 0) (m : Mb) : AC Tryz.prog 45 [bsV p.bs, mbV m, .clo (.func 47) [] []] [] (eqR (bsV (setMbL m p.bs))) := by
  have hl := (rows_len h).2.2
  rcases put_bs h m with ⟨n0, y, hy, e, h1⟩ | ⟨n0, hn, e, h1⟩
  · rw [e]
    exact put45_found m p.bs (by omega) n0 y hy h1
  · rw [e]
    rcases Nat.lt_or_ge n0 p.bs.length with hlt | hge
    · exact put45_mid m p.bs (by omega) n0 hlt h1
    · obtain rfl : n0 = p.bs.length := Nat.le_antisymm hn hge
      rw [List.take_length, List.drop_length]
      exact put45_end m p.bs (by omega) h1
theorem do38 {p : Pv} (h : checkE p = 0) {m : Mp} (hm : m ∈ p.ms) : AC Tryz.prog 38 [msV p.ms, mpV m, .clo (.func 36) [] []] [] (eqR (msV (p.ms.filter (fun y : Mp => !decide (y = m))))) := by
  rw [← drop_ms (rows_ok h).2.1 hm]
  exact drop38_all m p.ms (by have := (rows_len h).1; omega)
theorem do43 {p : Pv} (h : checkE p = 0) {m : Cr} (hm : m ∈ p.cs) : AC Tryz.prog 43 [csV p.cs, crV m, .clo (.func 41) [] []] [] (eqR (csV (p.cs.filter (fun y : Cr => !decide (y = m))))) := by
  rw [← drop_cs (rows_ok h).2.2.1 hm]
  exact drop43_all m p.cs (by have := (rows_len h).2.1; omega)
theorem do49 {p : Pv} (h : checkE p = 0) (m : Mb) : AC Tryz.prog 49 [bsV p.bs, mbV m, .clo (.func 47) [] []] [] (eqR (bsV (p.bs.filter (fun y : Mb => y.v != m.v)))) := by
  rw [← drop_bs p.bs m.v]
  exact drop49_all m p.bs (by have := (rows_len h).2.2; omega)
end Go.Ai

set_option linter.unusedVariables false
set_option linter.unusedSimpArgs false
namespace Go.Ai
open Go.Proofs
/-- Do answers as the reference's. -/
theorem pc12 (p : Pv) (hp : okL p) (ho : isB p.own.a) (x : Cm) (hw : x.w.l.length ≤ 1000) :
    AC Tryz.prog 12 [pvV p, cmV x] [] (eqR (.tuple [pvV (refDo p x).1, vI (refDo p x).2])) :=
  pdo_ref p hp ho x hw (fun h he => do35 h he) (fun h hm => do38 h hm) (fun h he => do40 h he) (fun h hm => do43 h hm) (fun h _ => do45 h x.w) (fun h _ => do49 h x.w)
end Go.Ai

set_option linter.unusedVariables false
set_option linter.unusedSimpArgs false
set_option maxHeartbeats 1000000
set_option maxRecDepth 100000
namespace Go.Ai
open Go.Proofs
/-! ## What is provisioned, plainly: no program in sight -/
theorem ris_pw {α : Type} {lt : α → α → Bool} (tr : ∀ a b c, lt a b = true → lt b c = true → lt a c = true) : ∀ {L : List α}, risB lt L = true ↔ L.Pairwise (fun a b => lt a b = true)
  | [] => by simp [risB]
  | [a] => by simp [risB]
  | a :: b :: l => by
    constructor
    · intro h
      have h2 := h
      rw [risB, Bool.and_eq_true] at h2
      exact List.pairwise_cons.2 ⟨fun y hy => pair_of tr h y hy, (ris_pw tr).1 h2.2⟩
    · intro h
      rw [List.pairwise_cons] at h
      rw [risB, Bool.and_eq_true]
      exact ⟨h.1 b (by simp), (ris_pw tr).2 h.2⟩
theorem ltMb_tr (a b c : Mb) (h1 : ltMb a b = true) (h2 : ltMb b c = true) : ltMb a c = true := by
  unfold ltMb at *
  simp only [decide_eq_true_eq] at *
  omega
theorem before_iff (a b : Mp) : beforeB a b = true ↔ (a.p < b.p ∨ (a.p = b.p ∧ a.v < b.v)) := by
  unfold beforeB
  simp only [Bool.or_eq_true, Bool.and_eq_true, decide_eq_true_eq, beq_iff_eq]
structure Okp (p : Pv) : Prop where
  kd : kindZ p.own.a p.own.b p.own.c p.own.d p.own.e p.own.f = 1
  k1 : 1 ≤ p.ks.length
  k8 : p.ks.length ≤ 8
  kk : ∀ k ∈ p.ks, k = 1 ∨ k = 2
  ml : p.ms.length ≤ 64
  cl : p.cs.length ≤ 64
  bl : p.bs.length ≤ 64
  rm : p.ms.Pairwise (fun a b => beforeB a b = true)
  rc : p.cs.Pairwise (fun a b => ltCr a b = true)
  rb : p.bs.Pairwise (fun a b => ltMb a b = true)
  mb : ∀ x ∈ p.bs, vidOk x.v ∧ portsE p.ks x.l = 0
  mc : ∀ x ∈ p.cs, isidOk x.s ∧ hasM p.bs x.v = true
  mm : ∀ x ∈ p.ms, kindP p.ks x.p = 1 ∧ vidOk x.v ∧ hasC p.cs x.s = true
  mo : p.ms.Pairwise (fun a b => ¬ (a.p = b.p ∧ a.s = b.s))
theorem okM_iff (p : Pv) : okM p = true ↔ p.ms.Pairwise (fun a b => ¬ (a.p = b.p ∧ a.s = b.s)) ∧ ∀ x ∈ p.ms, kindP p.ks x.p = 1 ∧ vidOk x.v ∧ hasC p.cs x.s = true := by
  have one : ∀ (pre : List Mp) (m : Mp), mOk p pre m = true ↔ (∀ x ∈ pre, ¬ (x.p = m.p ∧ x.s = m.s)) ∧ kindP p.ks m.p = 1 ∧ vidOk m.v ∧ hasC p.cs m.s = true := by
    intro pre m
    unfold mOk
    simp only [Bool.and_eq_true, Bool.not_eq_true', List.any_eq_false, beq_iff_eq, decide_eq_true_eq]
  unfold okM
  rw [List.all_eq_true]
  constructor
  · intro h
    have h' : ∀ i (hi : i < p.ms.length), (∀ x ∈ p.ms.take i, ¬ (x.p = p.ms[i].p ∧ x.s = p.ms[i].s)) ∧ kindP p.ks p.ms[i].p = 1 ∧ vidOk p.ms[i].v ∧ hasC p.cs p.ms[i].s = true := by
      intro i hi
      have := h i (List.mem_range.2 hi)
      rw [one] at this
      simpa [List.getD_eq_getElem?_getD, List.getElem?_eq_getElem hi] using this
    refine ⟨?_, fun x hx => ?_⟩
    · rw [List.pairwise_iff_getElem]
      intro i j hi hj hij
      exact (h' j hj).1 _ (List.mem_take_iff_getElem.2 ⟨i, by omega, rfl⟩)
    · obtain ⟨i, hi, rfl⟩ := List.getElem_of_mem hx
      exact (h' i hi).2
  · rintro ⟨h1, h2⟩ i hi
    have hi := List.mem_range.1 hi
    rw [one]
    have e : p.ms.getD i default = p.ms[i] := by simp [List.getD_eq_getElem?_getD, List.getElem?_eq_getElem hi]
    rw [e]
    refine ⟨fun x hx => ?_, h2 _ (List.getElem_mem hi)⟩
    rw [List.pairwise_iff_getElem] at h1
    obtain ⟨k, hk, rfl⟩ := List.mem_take_iff_getElem.1 hx
    exact h1 k i (by omega) hi (by omega)
theorem okB_iff (p : Pv) : okB p = true ↔ Okp p := by
  have hA : okA p = true ↔ kindZ p.own.a p.own.b p.own.c p.own.d p.own.e p.own.f = 1 ∧ (1 ≤ p.ks.length ∧ p.ks.length ≤ 8) ∧ p.ms.length ≤ 64 ∧ p.cs.length ≤ 64 ∧ p.bs.length ≤ 64 := by
    unfold okA
    simp only [Bool.and_eq_true, beq_iff_eq, decide_eq_true_eq]
    omega
  have hR : okR p = true ↔ p.bs.Pairwise (fun a b => ltMb a b = true) ∧ p.cs.Pairwise (fun a b => ltCr a b = true) ∧ p.ms.Pairwise (fun a b => beforeB a b = true) := by
    unfold okR
    simp only [Bool.and_eq_true]
    rw [ris_pw ltMb_tr, ris_pw ltCr_tr, ris_pw before_tr]
  have hQ : okQ p = true ↔ (∀ k ∈ p.ks, k = 1 ∨ k = 2) ∧ (∀ x ∈ p.bs, vidOk x.v ∧ portsE p.ks x.l = 0) ∧ ∀ x ∈ p.cs, isidOk x.s ∧ hasM p.bs x.v = true := by
    unfold okQ
    simp only [Bool.and_eq_true, Bool.not_eq_true', List.any_eq_false, Bool.or_eq_true, not_or, bne_iff_ne, ne_eq, Classical.not_not, decide_eq_true_eq, decide_eq_false_iff_not, Bool.not_eq_false]
    have hk : ∀ x : Int, ¬ (¬ x = 1 ∧ ¬ x = 2) ↔ x = 1 ∨ x = 2 := fun x => by omega
    simp only [hk]
  unfold okB
  simp only [Bool.and_eq_true]
  rw [hA, hR, hQ, okM_iff]
  constructor
  · rintro ⟨⟨a1, ⟨a2, a3⟩, a4, a5, a6⟩, ⟨b1, b2, b3⟩, ⟨c1, c2, c3⟩, d1, d2⟩
    exact ⟨a1, a2, a3, c1, a4, a5, a6, b3, b2, b1, c2, c3, d2, d1⟩
  · rintro ⟨a1, a2, a3, c1, a4, a5, a6, b3, b2, b1, c2, c3, d2, d1⟩
    exact ⟨⟨a1, ⟨a2, a3⟩, a4, a5, a6⟩, ⟨b1, b2, b3⟩, ⟨c1, c2, c3⟩, d1, d2⟩
theorem chk_iff (p : Pv) : checkE p = 0 ↔ Okp p := by
  rw [← okB_iff]
  unfold checkE
  cases okB p <;> simp
/-! ### Insertion -/
theorem insL_perm {α : Type} {lt : α → α → Bool} {x : α} : ∀ {L : List α}, (insL lt x L).Perm (x :: L)
  | [] => List.Perm.refl _
  | y :: l => by
    rw [insL]
    split
    · exact List.Perm.refl _
    · exact (List.Perm.cons y insL_perm).trans (List.Perm.swap x y l)
theorem insL_mem {α : Type} {lt : α → α → Bool} {x y : α} {L : List α} : y ∈ insL lt x L ↔ y = x ∨ y ∈ L := by
  rw [insL_perm.mem_iff, List.mem_cons]
theorem insL_lenE {α : Type} {lt : α → α → Bool} {x : α} {L : List α} : (insL lt x L).length = L.length + 1 := by
  rw [insL_perm.length_eq]; rfl
theorem insL_pw {α : Type} {lt : α → α → Bool} (tr : ∀ a b c, lt a b = true → lt b c = true → lt a c = true) {x : α} : ∀ {L : List α}, (∀ y ∈ L, lt x y = true ∨ lt y x = true) → L.Pairwise (fun a b => lt a b = true) → (insL lt x L).Pairwise (fun a b => lt a b = true)
  | [], _, _ => by simp [insL]
  | y :: l, ht, h => by
    rw [List.pairwise_cons] at h
    rw [insL]
    split
    · rename_i hxy
      refine List.pairwise_cons.2 ⟨fun z hz => ?_, List.pairwise_cons.2 h⟩
      rcases List.mem_cons.1 hz with rfl | hz
      · exact hxy
      · exact tr _ _ _ hxy (h.1 z hz)
    · rename_i hxy
      refine List.pairwise_cons.2 ⟨fun z hz => ?_, insL_pw tr (fun w hw => ht w (by simp [hw])) h.2⟩
      rcases insL_mem.1 hz with rfl | hz
      · rcases ht y (by simp) with h1 | h1
        · exact absurd h1 hxy
        · exact h1
      · exact h.1 z hz
/-! ### What adding asks -/
theorem hasM_iff {bs : List Mb} {n : Int} : hasM bs n = true ↔ ∃ y ∈ bs, y.v = n := by
  unfold hasM; simp [List.any_eq_true]
theorem hasC_iff {cs : List Cr} {n : Int} : hasC cs n = true ↔ ∃ y ∈ cs, y.s = n := by
  unfold hasC; simp [List.any_eq_true]
theorem addMap_iff {p : Pv} {m : Mp} : addMapE p m = 0 ↔ vidOk m.v ∧ isidOk m.s ∧ kindP p.ks m.p = 1 ∧ (∀ x ∈ p.ms, ¬ (x.p = m.p ∧ (x.v = m.v ∨ x.s = m.s))) ∧ hasC p.cs m.s = true ∧ p.ms.length < 64 := by
  unfold addMapE aMap fullZ
  have hb : (p.ms.any fun x => x.p == m.p && (x.v == m.v || x.s == m.s)) = false ↔ ∀ x ∈ p.ms, ¬ (x.p = m.p ∧ (x.v = m.v ∨ x.s = m.s)) := by
    simp only [List.any_eq_false, Bool.and_eq_true, Bool.or_eq_true, beq_iff_eq]
  rw [← hb]
  generalize (p.ms.any fun x => x.p == m.p && (x.v == m.v || x.s == m.s)) = b
  generalize kindP p.ks m.p = kk
  by_cases a1 : vidOk m.v <;> by_cases a2 : isidOk m.s <;> by_cases a3 : kk = 1 <;> cases b <;> cases a5 : hasC p.cs m.s <;> by_cases a6 : p.ms.length < 64 <;> simp [a1, a2, a3] <;> (try split) <;> omega
theorem addCarry_iff {p : Pv} {c : Cr} : addCarryE p c = 0 ↔ isidOk c.s ∧ vidOk c.v ∧ hasC p.cs c.s = false ∧ hasM p.bs c.v = true ∧ p.cs.length < 64 := by
  unfold addCarryE aCar fullZ
  by_cases a1 : isidOk c.s <;> by_cases a2 : vidOk c.v <;> cases a3 : hasC p.cs c.s <;> cases a4 : hasM p.bs c.v <;> by_cases a6 : p.cs.length < 64 <;> simp [a1, a2] <;> omega
theorem setMember_iff {p : Pv} {w : Mb} : setMemberE p w = 0 ↔ vidOk w.v ∧ portsE p.ks w.l = 0 ∧ (hasM p.bs w.v = true ∨ p.bs.length < 64) := by
  unfold setMemberE sMem fullZ
  by_cases a1 : vidOk w.v <;> by_cases a2 : portsE p.ks w.l = 0 <;> cases a4 : hasM p.bs w.v <;> by_cases a6 : p.bs.length < 64 <;> simp [a1, a2] <;> omega
/-- A member is laid over one that is there, or in between. -/
theorem setMb_cases {bs : List Mb} (hr : bs.Pairwise (fun a b => ltMb a b = true)) (w : Mb) :
    ∃ A B, setMbL w bs = A ++ w :: B ∧ (∀ z ∈ A, z.v < w.v) ∧ (∀ z ∈ B, w.v < z.v) ∧ ((∃ y, bs = A ++ y :: B ∧ y.v = w.v) ∨ (bs = A ++ B ∧ hasM bs w.v = false)) := by
  have hrB := (ris_pw ltMb_tr).2 hr
  have key : ∀ a b : Mb, ltMb a b = true ↔ a.v < b.v := fun a b => by unfold ltMb; exact decide_eq_true_iff
  obtain ⟨n0, hn, hlo, hhi⟩ := cut_of (lt := ltMb) (c := fun y => cmpZ y.v w.v) (fun a b hab hb => (cmpZ_neg _ _).2 (Int.lt_trans ((key a b).1 hab) ((cmpZ_neg _ _).1 hb))) hrB
  have lo : ∀ (k : Nat) (z : Mb), bs[k]? = some z → k < n0 → z.v < w.v := fun k z hz hk => (cmpZ_neg _ _).1 (hlo k z hz hk)
  have hi : ∀ (k : Nat) (z : Mb), bs[k]? = some z → n0 ≤ k → ¬ z.v < w.v := fun k z hz hk hh => hhi k z hz hk ((cmpZ_neg _ _).2 hh)
  have hA : ∀ z ∈ bs.take n0, z.v < w.v := fun z hz => by
    obtain ⟨k, hk, hg⟩ := in_take hz
    exact lo k z hg hk
  by_cases hm : hasM bs w.v = true
  · obtain ⟨y, hy, hyv⟩ := hasM_iff.1 hm
    obtain ⟨k, hk⟩ := List.getElem?_of_mem hy
    have hkn : n0 ≤ k := Nat.le_of_not_lt fun h => by have := lo k y hk h; omega
    have hk0 : k = n0 := by
      rcases Nat.lt_or_ge n0 k with h | h
      · have hkl := (List.getElem?_eq_some_iff.1 hk).1
        have hg : bs[n0]? = some bs[n0] := List.getElem?_eq_getElem (by omega)
        have h1 := hi n0 _ hg (Nat.le_refl _)
        rw [List.pairwise_iff_getElem] at hr
        have h2 := (key _ _).1 (hr n0 k (by omega) hkl h)
        rw [(List.getElem?_eq_some_iff.1 hk).2] at h2
        omega
      · omega
    subst hk0
    refine ⟨bs.take k, bs.drop (k + 1), setMb_found hrB lo hk hyv.symm, hA, fun z hz => ?_, .inl ⟨y, at_cut hk, hyv⟩⟩
    rw [at_cut hk, List.pairwise_append] at hr
    have := (key _ _).1 ((List.pairwise_cons.1 hr.2.1).1 z hz)
    omega
  · have hm' : hasM bs w.v = false := by simpa using hm
    have hno : ∀ z ∈ bs, ¬ w.v = z.v := fun z hz e => hm (hasM_iff.2 ⟨z, hz, e.symm⟩)
    refine ⟨bs.take n0, bs.drop n0, setMb_new lo hi hno, hA, fun z hz => ?_, .inr ⟨(List.take_append_drop _ _).symm, hm'⟩⟩
    obtain ⟨k, hk, hg⟩ := in_drop hz
    have := hi k z hg hk
    have := hno z (List.mem_of_mem_drop hz)
    omega
end Go.Ai

set_option linter.unusedVariables false
set_option linter.unusedSimpArgs false
set_option maxHeartbeats 1000000
set_option maxRecDepth 100000
namespace Go.Ai
open Go.Proofs
/-! ## What commands leave may be; what is undone is as it was -/
theorem okp_addMap {p : Pv} {m : Mp} (h : Okp p) (e : addMapE p m = 0) : Okp { p with ms := insL beforeB m p.ms } := by
  obtain ⟨e1, e2, e3, e4, e5, e6⟩ := addMap_iff.1 e
  refine ⟨h.kd, h.k1, h.k8, h.kk, ?_, h.cl, h.bl, ?_, h.rc, h.rb, h.mb, h.mc, ?_, ?_⟩
  · show (insL beforeB m p.ms).length ≤ 64
    rw [insL_lenE]; omega
  · refine insL_pw before_tr (fun y hy => ?_) h.rm
    have := e4 y hy
    rw [before_iff, before_iff]
    omega
  · intro x hx
    rcases insL_mem.1 hx with rfl | hx
    · exact ⟨e3, e1, e5⟩
    · exact h.mm x hx
  · show (insL beforeB m p.ms).Pairwise _
    rw [(insL_perm (lt := beforeB) (x := m) (L := p.ms)).pairwise_iff (fun {a b} hab hba => hab ⟨hba.1.symm, hba.2.symm⟩)]
    refine List.pairwise_cons.2 ⟨fun y hy hc => e4 y hy ⟨hc.1.symm, .inr hc.2.symm⟩, h.mo⟩
theorem okp_delMap {p : Pv} (f : Mp → Bool) (h : Okp p) : Okp { p with ms := p.ms.filter f } :=
  ⟨h.kd, h.k1, h.k8, h.kk, Nat.le_trans (List.length_filter_le _ _) h.ml, h.cl, h.bl, h.rm.filter _, h.rc, h.rb, h.mb, h.mc, fun x hx => h.mm x (List.mem_filter.1 hx).1, h.mo.filter _⟩
theorem okp_addCarry {p : Pv} {c : Cr} (h : Okp p) (e : addCarryE p c = 0) : Okp { p with cs := insL ltCr c p.cs } := by
  obtain ⟨e1, e2, e3, e4, e5⟩ := addCarry_iff.1 e
  have hn : ∀ y ∈ p.cs, ¬ y.s = c.s := fun y hy he => by
    have := hasC_iff.2 ⟨y, hy, he⟩
    rw [e3] at this; cases this
  refine ⟨h.kd, h.k1, h.k8, h.kk, h.ml, ?_, h.bl, h.rm, ?_, h.rb, h.mb, ?_, ?_, h.mo⟩
  · show (insL ltCr c p.cs).length ≤ 64
    rw [insL_lenE]; omega
  · refine insL_pw ltCr_tr (fun y hy => ?_) h.rc
    have := hn y hy
    unfold ltCr
    simp only [decide_eq_true_eq]
    omega
  · intro x hx
    rcases insL_mem.1 hx with rfl | hx
    · exact ⟨e1, e4⟩
    · exact h.mc x hx
  · intro x hx
    obtain ⟨a, b, d⟩ := h.mm x hx
    obtain ⟨y, hy, hv⟩ := hasC_iff.1 d
    exact ⟨a, b, hasC_iff.2 ⟨y, insL_mem.2 (.inr hy), hv⟩⟩
theorem okp_delCarry {p : Pv} {c : Cr} (h : Okp p) (hu : ∀ x ∈ p.ms, ¬ x.s = c.s) : Okp { p with cs := p.cs.filter (fun y : Cr => !decide (y = c)) } := by
  refine ⟨h.kd, h.k1, h.k8, h.kk, h.ml, Nat.le_trans (List.length_filter_le _ _) h.cl, h.bl, h.rm, h.rc.filter _, h.rb, h.mb, fun x hx => h.mc x (List.mem_filter.1 hx).1, ?_, h.mo⟩
  intro x hx
  obtain ⟨a, b, d⟩ := h.mm x hx
  obtain ⟨y, hy, hv⟩ := hasC_iff.1 d
  refine ⟨a, b, hasC_iff.2 ⟨y, List.mem_filter.2 ⟨hy, ?_⟩, hv⟩⟩
  have : ¬ y = c := fun e => hu x hx (by rw [← hv, e])
  simp [this]
theorem okp_setMember {p : Pv} {w : Mb} (h : Okp p) (e : setMemberE p w = 0) : Okp { p with bs := setMbL w p.bs } := by
  obtain ⟨e1, e2, e3⟩ := setMember_iff.1 e
  obtain ⟨A, B, hs, hA, hB, hd⟩ := setMb_cases h.rb w
  have key : ∀ a b : Mb, ltMb a b = true ↔ a.v < b.v := fun a b => by unfold ltMb; exact decide_eq_true_iff
  have hab : (A ++ B).Pairwise (fun a b => ltMb a b = true) := by
    rcases hd with ⟨y, hy, hv⟩ | ⟨hy, _⟩
    · have := h.rb
      rw [hy] at this
      exact this.sublist (List.Sublist.append (List.Sublist.refl _) (List.sublist_cons_self _ _))
    · rw [← hy]; exact h.rb
  have hin : ∀ z ∈ A ++ B, z ∈ p.bs := by
    intro z hz
    rcases hd with ⟨y, hy, hv⟩ | ⟨hy, _⟩
    · rw [hy]
      rcases List.mem_append.1 hz with hz | hz
      · exact List.mem_append_left _ hz
      · exact List.mem_append_right _ (List.mem_cons_of_mem _ hz)
    · rw [hy]; exact hz
  have hM : ∀ n, hasM p.bs n = true → hasM (setMbL w p.bs) n = true := by
    intro n hn
    obtain ⟨z, hz, hv⟩ := hasM_iff.1 hn
    rw [hs]
    rcases hd with ⟨y, hy, hyv⟩ | ⟨hy, _⟩
    · rw [hy] at hz
      rcases List.mem_append.1 hz with hz | hz
      · exact hasM_iff.2 ⟨z, List.mem_append_left _ hz, hv⟩
      · rcases List.mem_cons.1 hz with rfl | hz
        · exact hasM_iff.2 ⟨w, by simp, by rw [← hyv, hv]⟩
        · exact hasM_iff.2 ⟨z, by simp [hz], hv⟩
    · rw [hy] at hz
      rcases List.mem_append.1 hz with hz | hz
      · exact hasM_iff.2 ⟨z, List.mem_append_left _ hz, hv⟩
      · exact hasM_iff.2 ⟨z, by simp [hz], hv⟩
  refine ⟨h.kd, h.k1, h.k8, h.kk, h.ml, h.cl, ?_, h.rm, h.rc, ?_, ?_, fun x hx => ⟨(h.mc x hx).1, hM _ (h.mc x hx).2⟩, h.mm, h.mo⟩
  · show (setMbL w p.bs).length ≤ 64
    rw [hs]
    have hbl := h.bl
    rcases hd with ⟨y, hy, hyv⟩ | ⟨hy, hno⟩
    · rw [hy] at hbl; simpa using hbl
    · rw [hno] at e3
      rcases e3 with e3 | e3
      · cases e3
      · rw [hy] at e3; simp at e3 ⊢; omega
  · show (setMbL w p.bs).Pairwise _
    rw [hs]
    rw [List.pairwise_append] at hab ⊢
    refine ⟨hab.1, List.pairwise_cons.2 ⟨fun z hz => (key _ _).2 (hB z hz), hab.2.1⟩, fun a ha z hz => ?_⟩
    rcases List.mem_cons.1 hz with rfl | hz
    · exact (key _ _).2 (hA a ha)
    · exact hab.2.2 a ha z hz
  · intro x hx
    have hx : x ∈ A ++ w :: B := hs ▸ hx
    rcases List.mem_append.1 hx with hx | hx
    · exact h.mb x (hin x (List.mem_append_left _ hx))
    · rcases List.mem_cons.1 hx with rfl | hx
      · exact ⟨e1, e2⟩
      · exact h.mb x (hin x (List.mem_append_right _ hx))
theorem okp_delMember {p : Pv} {v : Int} (h : Okp p) (hu : ∀ x ∈ p.cs, ¬ x.v = v) : Okp { p with bs := p.bs.filter (fun y : Mb => y.v != v) } := by
  refine ⟨h.kd, h.k1, h.k8, h.kk, h.ml, h.cl, Nat.le_trans (List.length_filter_le _ _) h.bl, h.rm, h.rc, h.rb.filter _, fun x hx => h.mb x (List.mem_filter.1 hx).1, ?_, h.mm, h.mo⟩
  intro x hx
  obtain ⟨a, d⟩ := h.mc x hx
  obtain ⟨y, hy, hv⟩ := hasM_iff.1 d
  refine ⟨a, hasM_iff.2 ⟨y, List.mem_filter.2 ⟨hy, ?_⟩, hv⟩⟩
  have : ¬ y.v = v := fun e => hu x hx (by rw [← hv, e])
  simpa using this
theorem used_none {α : Type} {f : α → Bool} {g : α → Int} {L : List α} (h : decide ((0 : Int) < (((L.filter f).map g).length : Int)) = false) : ∀ x ∈ L, f x = false := by
  simp only [List.length_map, decide_eq_false_iff_not] at h
  have h0 : (L.filter f).length = 0 := by omega
  have h1 := List.eq_nil_of_length_eq_zero h0
  intro x hx
  cases hf : f x with
  | false => rfl
  | true =>
    have : x ∈ L.filter f := List.mem_filter.2 ⟨hx, hf⟩
    rw [h1] at this; cases this
/-- Do, of what may be. -/
theorem do_cases {p : Pv} (h : Okp p) (x : Cm) : refDo p x =
    if x.k == 1 then (if addMapE p x.m == 0 then ({ p with ms := insL beforeB x.m p.ms }, 0) else (p, addMapE p x.m))
    else if x.k == 2 then (if decide (x.m ∈ p.ms) then ({ p with ms := p.ms.filter (fun y : Mp => !decide (y = x.m)) }, 0) else (p, 182))
    else if x.k == 3 then (if addCarryE p x.c == 0 then ({ p with cs := insL ltCr x.c p.cs }, 0) else (p, addCarryE p x.c))
    else if x.k == 4 then (if decide (x.c ∈ p.cs) then (if decide ((0 : Int) < ((usedC p x.c.s).length : Int)) then (p, 183) else ({ p with cs := p.cs.filter (fun y : Cr => !decide (y = x.c)) }, 0)) else (p, 182))
    else if x.k == 5 then (if setMemberE p x.w == 0 then ({ p with bs := setMbL x.w p.bs }, 0) else (p, setMemberE p x.w))
    else if x.k == 6 then (if hasM p.bs x.w.v then (if decide ((0 : Int) < ((usedM p x.w.v).length : Int)) then (p, 183) else ({ p with bs := p.bs.filter (fun y : Mb => y.v != x.w.v) }, 0)) else (p, 182))
    else (p, 1) := by
  rw [← doL_ref]
  unfold doL
  rw [(chk_iff p).2 h]
  rfl
theorem refDo_okp {p : Pv} (h : Okp p) (x : Cm) : Okp (refDo p x).1 := by
  rw [do_cases h]
  split
  · split
    · rename_i e; exact okp_addMap h (by simpa using e)
    · exact h
  split
  · split
    · exact okp_delMap _ h
    · exact h
  split
  · split
    · rename_i e; exact okp_addCarry h (by simpa using e)
    · exact h
  split
  · split
    · split
      · exact h
      · rename_i e
        exact okp_delCarry h fun y hy => by
          have := used_none (f := fun z : Mp => z.s == x.c.s) (g := fun z : Mp => z.p) (by simpa [usedC] using e) y hy
          simpa using this
    · exact h
  split
  · split
    · rename_i e; exact okp_setMember h (by simpa using e)
    · exact h
  split
  · split
    · split
      · exact h
      · rename_i e
        exact okp_delMember h fun y hy => by
          have := used_none (f := fun z : Cr => z.v == x.w.v) (g := fun z : Cr => z.s) (by simpa [usedM] using e) y hy
          simpa using this
    · exact h
  · exact h
theorem refDo_own (p : Pv) (x : Cm) : (refDo p x).1.own = p.own := by
  unfold refDo refMap refMapD refCar refCarD refMem refMemD
  (repeat' split) <;> rfl
/-! ### Undone -/
end Go.Ai

set_option linter.unusedVariables false
set_option linter.unusedSimpArgs false
set_option maxHeartbeats 4000000
set_option maxRecDepth 100000
namespace Go.Ai
open Go.Proofs
attribute [local go_sem] QH QR V.noimm V.noimms frzZs frzZ frzA frzV frzVs frzBox boxLen Option.isSome cond_true cond_false aopD calW flatV stepX amap stepY alookup afind aupdate adelete amlen arange ameq mapOf akeq pl V.mapT V.mapTs Option.bind stepK runK guardD stepE runD callD compact selB callK evS ofVal ofVals scalar aop ares mkRes V.rn V.rns V.cells? cellsAt Go.Ai.part aload astore setL V.atom abin aun intBin shiftBin aconv fieldOf aindexAddr aindex bound? aslice aarr abuild afill alen nilP nilS nilF aeq eqCells eqCell Go.Ai.known strBin abuiltin aappend abuildSlice arowsFill amakeSlice acopy aclear minmax rowsOf numsT notStr isIntD isByte V.pz V.pzs T.toV frz1 frz scalT scalTs chunkT List.range List.range.loop ite_true ite_false if_true if_false ne_eq implies_true forall_const eq_self IntKind.bits kPostKF_ret kPostKF_normal kPostX_ret kPostX_normal bsl nil2K nil2 kPostFW_ret kPostFW_normal kPostKM_ret kPostKM_normal kPostXK_ret kPostXK_normal
/-! ## Made -/
abbrev zBx : Blk := .box [.s (.int .u8 0), .s (.int .u8 0), .s (.int .u8 0), .s (.int .u8 0), .s (.int .u8 0), .s (.int .u8 0), .s (.slice none 0 0), .s (.slice none 0 0), .s (.slice none 0 0), .s (.slice none 0 0)] false
def begP (ks : List Int) : Pv := ⟨⟨2, 0, 0, 0, 0, 1⟩, ks, [], [], []⟩
def mstep (p : Pv) (x : Cm) : Pv := if (refDo p (shortC x)).2 == 0 then (refDo p (shortC x)).1 else p
structure Gdp (p : Pv) : Prop where
  ok : Okp p
  l : okL p
  o : isB p.own.a
theorem gd_beg {ks : List Int} (h1 : 1 ≤ ks.length) (h8 : ks.length ≤ 8) (hk : ∀ k ∈ ks, k = 1 ∨ k = 2) : Gdp (begP ks) := by
  refine ⟨⟨by show kindZ 2 0 0 0 0 1 = 1; decide, h1, h8, hk, by simp [begP], by simp [begP], by simp [begP], by simp [begP], by simp [begP], by simp [begP], by simp [begP], by simp [begP], by simp [begP], by simp [begP]⟩, ⟨by simp [begP]; omega, by simp [begP], by simp [begP], by simp [begP], by simp [begP]⟩, by simp [begP, isB]⟩
theorem shortC_len (x : Cm) : (shortC x).w.l.length ≤ 1000 := by simp [shortC, shortM]; omega
theorem gd_do {p : Pv} (h : Gdp p) (x : Cm) (hw : x.w.l.length ≤ 1000) : Gdp (refDo p x).1 := by
  obtain ⟨a, b, c, d, e⟩ := h.l
  refine ⟨refDo_okp h.ok x, refDo_ok a ?_ ?_ ?_ e hw, by rw [refDo_own]; exact h.o⟩
  · have := h.ok.ml; omega
  · have := h.ok.cl; omega
  · have := h.ok.bl; omega
theorem gd_step {p : Pv} (h : Gdp p) (x : Cm) : Gdp (mstep p x) := by
  unfold mstep
  split
  · exact gd_do h _ (shortC_len x)
  · exact h
theorem gd_fold : ∀ {l : List Cm} {p : Pv}, Gdp p → Gdp (l.foldl mstep p)
  | [], p, h => h
  | x :: l, p, h => by rw [List.foldl_cons]; exact gd_fold (gd_step h x)
def bitK (b : Int) (i : Nat) : Bool := bAnd .u8 (b.fdiv (2 ^ i)) 1 == 1
def kindsB (b : Int) (n : Nat) : List Int := (List.range n).map fun i => if bitK b i = true then 2 else 1
theorem kindsB_len (b : Int) (n : Nat) : (kindsB b n).length = n := by simp [kindsB]
theorem kindsB_succ (b : Int) (n : Nat) : kindsB b (n + 1) = kindsB b n ++ [if bitK b n = true then 2 else 1] := by simp [kindsB, List.range_succ]
theorem kindsB_mem (b : Int) (n : Nat) : ∀ k ∈ kindsB b n, k = 1 ∨ k = 2 := by
  intro k hk
  obtain ⟨i, _, rfl⟩ := List.mem_map.1 hk
  split
  · exact .inr rfl
  · exact .inl rfl
def kindsN (b n : Int) : List Int := kindsB b ((n % 8).toNat + 1)
theorem gd_kinds (b n : Int) : Gdp (begP (kindsN b n)) := gd_beg (by unfold kindsN; rw [kindsB_len]; omega) (by unfold kindsN; rw [kindsB_len]; omega) (kindsB_mem _ _)
def Mk16 (b n : Int) (L : V) (M : Nat) (k : Nat) (S : St) : Prop :=
  ∃ (j : Nat) (mv : List Nat), S = ⟨tms [(0, .s (.int .u8 b)), (1, .s (.int .u8 n)), (2, L), (6, .ptr 0 0 0), (7, .own 1 0 j), (8, vI j)], [zBx, .rows 1 ((kindsB b j).map inT) false], mv⟩ ∧ j ≤ M ∧ k = M - j
def madeP (ks : List Int) (L : List Cm) : Pv := (L.take 100).foldl mstep (begP ks)
theorem gd_made (b n : Int) (L : List Cm) : Gdp (madeP (kindsN b n) L) := gd_fold (gd_kinds b n)
def Ml16 (L : List Cm) (ks : List Int) (k : Nat) (S : St) : Prop :=
  ∃ (j : Nat) (p : Pv) (mv : List Nat), S = ⟨tms [(2, .sl 21 (L.map cmT)), (6, .ptr 0 0 0), (10, .ptr 1 0 0), (11, vI j)], [zBx, bxP p], mv⟩ ∧ j ≤ (L.take 100).length ∧ k = (L.take 100).length - j ∧ p = ((L.take 100).take j).foldl mstep (begP ks)
theorem pm16 (b n : Int) (hb : isB b) (hn : isB n) (L : List Cm) : AC Tryz.prog 16 [.s (.int .u8 b), .s (.int .u8 n), .sl 21 (L.map cmT)] [] (eqR (pvV (madeP (kindsN b n) L))) := by
  obtain ⟨M, hMe⟩ : ∃ M : Nat, (n % 8).toNat = M := ⟨_, rfl⟩
  have hM : n.tmod 8 = (M : Int) := by rw [Int.tmod_eq_emod_of_nonneg hn.1]; omega
  have hM7 : M ≤ 7 := by omega
  have wn : IntKind.i64.wrap n = n := wI64 _ (by have := hn.1; omega) (by have := hn.2; omega)
  have wM : IntKind.i64.wrap (1 + (M : Int)) = ((M + 1 : Nat) : Int) := by rw [wI64 _ (by omega) (by omega)]; omega
  have hK : kindsN b n = kindsB b (M + 1) := by unfold kindsN; rw [hMe]
  have gk := gd_kinds b n
  rw [hK] at gk ⊢
  refine AC_frozen orders Tryz.func16 rfl (by kernel_rfl) (by kernel_rfl) Tryz.ntmps16 (by simp) ?_
  unfold Tryz.f16
  (have hwq := trivial; repeat' (first | simp (maxSteps:=9999999)-implicitDefEqProofs only [go_sem,simprocAttr,hwq,FT3,FT4,FT5,FT23,FT24,FT25,FT26,FT27,FT29,FT30,FT32,FT34,FT35,FT37,FT39,FT40,FT41,FT43,FT46,FT52,FT59,FT85,List.length_map,List.getElem?_map,Int.natCast_nonneg,List.length_append,List.map_append] | (refine condK_split ?_ ?_ <;> intro hwq) | (refine two_split ?_ ?_) | (refine guardK_split ?_ ?_ <;> intro hwq) | (refine guardE_split ?_ ?_ <;> intro hwq) | (refine awp_drawW [] (by decide +kernel) ?_; have hwq := trivial) | fail))
  refine awp_loopK (Mk16 b n (.sl 21 (L.map cmT)) (M + 1)) (M + 1) _ (Weak.trans (Weak.virt 7 1 (.inl rfl)) (Weak.cutI 2 [0, 1, 2, 6, 7, 8] ?_ ?_)) ⟨0, _, rfl, by simp, rfl⟩ ?_
  · simp (maxSteps:=9999999)-implicitDefEqProofs only [simprocAttr,QH,Option.isSome,cond_true,cond_false,Option.bind,selB,V.rn,V.rns,Go.Ai.known,V.pz,V.pzs,T.toV,frz1,List.range,List.range.loop,ite_true,ite_false,if_true,if_false,ne_eq,implies_true,forall_const,eq_self,IntKind.bits,upd_tmsS,selT_cons,selT_nil,List.length_map,List.getElem?_map,Int.natCast_nonneg,List.length_append,List.map_append]
  · simp (maxSteps:=9999999)-implicitDefEqProofs only [simprocAttr,QH,Option.isSome,cond_true,cond_false,Option.bind,selB,V.rn,V.rns,Go.Ai.known,V.pz,V.pzs,T.toV,frz1,List.range,List.range.loop,ite_true,ite_false,if_true,if_false,ne_eq,implies_true,forall_const,eq_self,IntKind.bits,upd_tmsS,selT_cons,selT_nil,show kindsB b 0 = [] from rfl, List.map_nil]
  rintro kk S ⟨j, mv, rfl, hk, rfl⟩
  have zs : (j + 1) * 8 ≤ 140737488355328 := by omega
  have wj : IntKind.i64.wrap ((j : Int) + 1) = (j : Int) + 1 := wI64 _ (by omega) (by omega)
  have wu : IntKind.u64.wrap (j : Int) = (j : Int) := wU64 _ (by omega) (by omega)
  have hj8 : j ≤ 8 := by omega
  have hkl := kindsB_len b j
  obtain ⟨ks, hks⟩ : ∃ ks, (kindsB b j).map inT = ks := ⟨_, rfl⟩
  have hksl : ks.length = j := by rw [← hks]; simpa using hkl
  by_cases hjl : j < M + 1
  · have hjl' : (j : Int) < (M : Int) + 1 := by omega
    rw [hks]
    (have hwq := trivial; repeat' (first | simp (maxSteps:=9999999)-implicitDefEqProofs only [go_sem,simprocAttr,hwq,FT3,FT4,FT5,FT23,FT24,FT25,FT26,FT27,FT29,FT30,FT32,FT34,FT35,FT37,FT39,FT40,FT41,FT43,FT46,FT52,FT59,FT85,List.length_map,List.getElem?_map,Int.natCast_nonneg,List.length_append,List.map_append,wn,hM,wM,wj,zs,wu,hj8,hjl',hksl] | (refine condK_split ?_ ?_ <;> intro hwq) | (refine two_split ?_ ?_) | (refine guardK_split ?_ ?_ <;> intro hwq) | (refine guardE_split ?_ ?_ <;> intro hwq) | (refine awp_drawW [] (by decide +kernel) ?_; have hwq := trivial) | fail))
    · have hs : (kindsB b (j + 1)).map inT = ks ++ [inT 2] := by rw [kindsB_succ, if_pos (show bitK b j = true from hwq), List.map_append, hks]; rfl
      refine ⟨M + 1 - (j + 1), _, by omega, Weak.cutI 2 [0, 1, 2, 6, 7, 8] ?_ ?_, j + 1, _, rfl, by omega, rfl⟩
      · simp (maxSteps:=9999999)-implicitDefEqProofs only [simprocAttr,QH,Option.isSome,cond_true,cond_false,Option.bind,selB,V.rn,V.rns,Go.Ai.known,V.pz,V.pzs,T.toV,frz1,List.range,List.range.loop,ite_true,ite_false,if_true,if_false,ne_eq,implies_true,forall_const,eq_self,IntKind.bits,upd_tmsS,selT_cons,selT_nil,List.length_map,List.getElem?_map,Int.natCast_nonneg,List.length_append,List.map_append]
      · simp (maxSteps:=9999999)-implicitDefEqProofs only [simprocAttr,QH,Option.isSome,cond_true,cond_false,Option.bind,selB,V.rn,V.rns,Go.Ai.known,V.pz,V.pzs,T.toV,frz1,List.range,List.range.loop,ite_true,ite_false,if_true,if_false,ne_eq,implies_true,forall_const,eq_self,IntKind.bits,upd_tmsS,selT_cons,selT_nil,List.length_map,List.getElem?_map,Int.natCast_nonneg,List.length_append,List.map_append,hs]
    · have hs : (kindsB b (j + 1)).map inT = ks ++ [inT 1] := by rw [kindsB_succ, if_neg (by rw [show bitK b j = false from hwq]; simp), List.map_append, hks]; rfl
      refine ⟨M + 1 - (j + 1), _, by omega, Weak.cutI 2 [0, 1, 2, 6, 7, 8] ?_ ?_, j + 1, _, rfl, by omega, rfl⟩
      · simp (maxSteps:=9999999)-implicitDefEqProofs only [simprocAttr,QH,Option.isSome,cond_true,cond_false,Option.bind,selB,V.rn,V.rns,Go.Ai.known,V.pz,V.pzs,T.toV,frz1,List.range,List.range.loop,ite_true,ite_false,if_true,if_false,ne_eq,implies_true,forall_const,eq_self,IntKind.bits,upd_tmsS,selT_cons,selT_nil,List.length_map,List.getElem?_map,Int.natCast_nonneg,List.length_append,List.map_append]
      · simp (maxSteps:=9999999)-implicitDefEqProofs only [simprocAttr,QH,Option.isSome,cond_true,cond_false,Option.bind,selB,V.rn,V.rns,Go.Ai.known,V.pz,V.pzs,T.toV,frz1,List.range,List.range.loop,ite_true,ite_false,if_true,if_false,ne_eq,implies_true,forall_const,eq_self,IntKind.bits,upd_tmsS,selT_cons,selT_nil,List.length_map,List.getElem?_map,Int.natCast_nonneg,List.length_append,List.map_append,hs]
  · have hjM : j = M + 1 := by omega
    have hjl' : ¬ (j : Int) < (M : Int) + 1 := by omega
    rw [← hjM] at gk ⊢
    have n57 : AC Tryz.prog 57 [.sl 1 ks] [] (eqR (pvV (begP (kindsB b j)))) := hks ▸ pc57 (kindsB b j)
    have tk : List.take j ks = ks := List.take_of_length_le (by omega)
    have hfz : frzVs false [zBx, .rows 1 ks false] [.own 1 0 j] = some ([.sl 1 ks], [zBx, .rows 1 ks true]) := by
      simp [frzVs, frzV, frz1, T.toV, tk, hksl]
    rw [hks]
    generalize kindsB b j = kz at gk n57 ⊢
    have hni : (pvV (begP kz)).noimm = false := by
      have := gk.ok.k1
      cases kz with
      | nil => simp [begP] at this
      | cons a l => rfl
    (have hwq := trivial; repeat' (first | simp (maxSteps:=9999999)-implicitDefEqProofs only [go_sem,simprocAttr,hwq,FT3,FT4,FT5,FT23,FT24,FT25,FT26,FT27,FT29,FT30,FT32,FT34,FT35,FT37,FT39,FT40,FT41,FT43,FT46,FT52,FT59,FT85,List.length_map,List.getElem?_map,Int.natCast_nonneg,List.length_append,List.map_append,wn,hM,wM,hjl',hksl] | (refine condK_split ?_ ?_ <;> intro hwq) | (refine two_split ?_ ?_) | (refine guardK_split ?_ ?_ <;> intro hwq) | (refine guardE_split ?_ ?_ <;> intro hwq) | (refine awp_drawW [] (by decide +kernel) ?_; have hwq := trivial) | (refine call_dataF n57 hfz (V.les_refl _) rfl hni ?_; have hwq := trivial) | fail))
    refine awp_loopK (Ml16 L kz) (L.take 100).length _ (Weak.selI [0, 2] [2, 6, 10, 11] (by decide) ?_ ?_) ⟨0, begP kz, _, rfl, Nat.zero_le _, rfl, rfl⟩ ?_
    · simp (maxSteps:=9999999)-implicitDefEqProofs only [simprocAttr,QH,Option.isSome,cond_true,cond_false,Option.bind,selB,V.rn,V.rns,Go.Ai.known,V.pz,V.pzs,T.toV,frz1,List.range,List.range.loop,ite_true,ite_false,if_true,if_false,ne_eq,implies_true,forall_const,eq_self,IntKind.bits,upd_tmsS,selT_cons,selT_nil,List.length_map,List.getElem?_map,Int.natCast_nonneg,List.length_append,List.map_append,selF_cons,selF_nil]
    · simp (maxSteps:=9999999)-implicitDefEqProofs only [simprocAttr,QH,Option.isSome,cond_true,cond_false,Option.bind,selB,V.rn,V.rns,Go.Ai.known,V.pz,V.pzs,T.toV,frz1,List.range,List.range.loop,ite_true,ite_false,if_true,if_false,ne_eq,implies_true,forall_const,eq_self,IntKind.bits,upd_tmsS,selT_cons,selT_nil,List.length_map,List.getElem?_map,Int.natCast_nonneg,List.length_append,List.map_append]
    rintro kk S ⟨i, p, mv2, rfl, hi, rfl, hp⟩
    have gp : Gdp p := by rw [hp]; exact gd_fold gk
    have hl100 : (L.take 100).length ≤ 100 := by simp; omega
    have hlL : (L.take 100).length ≤ L.length := by simp; omega
    have wi : IntKind.i64.wrap ((i : Int) + 1) = (i : Int) + 1 := wI64 _ (by omega) (by omega)
    by_cases hil : i < (L.take 100).length
    · have hi1 : (i : Int) < (L.length : Int) := by omega
      have hi2 : (i : Int) < 100 := by omega
      obtain ⟨x, hx⟩ : ∃ x, L[i]? = some x := ⟨_, List.getElem?_eq_getElem (by omega)⟩
      have hx2 : (L.take 100)[i]? = some x := by rw [List.getElem?_take, if_pos (by omega)]; exact hx
      have n11 := pc11 x.w
      obtain ⟨w', hw'⟩ : ∃ w', shortM x.w = w' := ⟨_, rfl⟩
      rw [hw'] at n11
      have hs : shortC x = { x with w := w' } := by rw [← hw']
      have n13 := pc13 p gp.l gp.o (shortC x) (shortC_len x)
      have hst : mstep p x = if (refDo p (shortC x)).2 == 0 then (refDo p (shortC x)).1 else p := rfl
      have hnext : ((L.take 100).take (i + 1)).foldl mstep (begP kz) = mstep p x := by rw [take_in hx2, List.foldl_append, ← hp]; rfl
      obtain ⟨D, hD⟩ : ∃ D, refDo p (shortC x) = D := ⟨_, rfl⟩
      rw [hD] at n13 hst
      rw [hs] at n13
      obtain ⟨q, e⟩ := D
      cases hz : (e == 0) with
      | true =>
        rw [if_pos hz] at hst
        (have hwq := trivial; repeat' (first | simp (maxSteps:=9999999)-implicitDefEqProofs only [go_sem,simprocAttr,hwq,FT3,FT4,FT5,FT23,FT24,FT25,FT26,FT27,FT29,FT30,FT32,FT34,FT35,FT37,FT39,FT40,FT41,FT43,FT46,FT52,FT59,FT85,List.length_map,List.getElem?_map,Int.natCast_nonneg,List.length_append,List.map_append,hi1,hi2,hx,wi,hz] | (refine condK_split ?_ ?_ <;> intro hwq) | (refine two_split ?_ ?_) | (refine guardK_split ?_ ?_ <;> intro hwq) | (refine guardE_split ?_ ?_ <;> intro hwq) | (refine awp_drawW [] (by decide +kernel) ?_; have hwq := trivial) | (refine call_plain n11 rfl rfl ?_; have hwq := trivial) | (refine call_plain n13 rfl rfl ?_; have hwq := trivial) | fail))
        refine ⟨(L.take 100).length - (i + 1), _, by omega, Weak.cutI 2 [2, 6, 10, 11] ?_ ?_, i + 1, q, _, rfl, by omega, rfl, by rw [hnext, hst]⟩
        · simp (maxSteps:=9999999)-implicitDefEqProofs only [simprocAttr,QH,Option.isSome,cond_true,cond_false,Option.bind,selB,V.rn,V.rns,Go.Ai.known,V.pz,V.pzs,T.toV,frz1,List.range,List.range.loop,ite_true,ite_false,if_true,if_false,ne_eq,implies_true,forall_const,eq_self,IntKind.bits,upd_tmsS,selT_cons,selT_nil,List.length_map,List.getElem?_map,Int.natCast_nonneg,List.length_append,List.map_append]
        · simp (maxSteps:=9999999)-implicitDefEqProofs only [simprocAttr,QH,Option.isSome,cond_true,cond_false,Option.bind,selB,V.rn,V.rns,Go.Ai.known,V.pz,V.pzs,T.toV,frz1,List.range,List.range.loop,ite_true,ite_false,if_true,if_false,ne_eq,implies_true,forall_const,eq_self,IntKind.bits,upd_tmsS,selT_cons,selT_nil,List.length_map,List.getElem?_map,Int.natCast_nonneg,List.length_append,List.map_append]
      | false =>
        rw [if_neg (by rw [hz]; simp)] at hst
        (have hwq := trivial; repeat' (first | simp (maxSteps:=9999999)-implicitDefEqProofs only [go_sem,simprocAttr,hwq,FT3,FT4,FT5,FT23,FT24,FT25,FT26,FT27,FT29,FT30,FT32,FT34,FT35,FT37,FT39,FT40,FT41,FT43,FT46,FT52,FT59,FT85,List.length_map,List.getElem?_map,Int.natCast_nonneg,List.length_append,List.map_append,hi1,hi2,hx,wi,hz] | (refine condK_split ?_ ?_ <;> intro hwq) | (refine two_split ?_ ?_) | (refine guardK_split ?_ ?_ <;> intro hwq) | (refine guardE_split ?_ ?_ <;> intro hwq) | (refine awp_drawW [] (by decide +kernel) ?_; have hwq := trivial) | (refine call_plain n11 rfl rfl ?_; have hwq := trivial) | (refine call_plain n13 rfl rfl ?_; have hwq := trivial) | fail))
        refine ⟨(L.take 100).length - (i + 1), _, by omega, Weak.cutI 2 [2, 6, 10, 11] ?_ ?_, i + 1, p, _, rfl, by omega, rfl, by rw [hnext, hst]⟩
        · simp (maxSteps:=9999999)-implicitDefEqProofs only [simprocAttr,QH,Option.isSome,cond_true,cond_false,Option.bind,selB,V.rn,V.rns,Go.Ai.known,V.pz,V.pzs,T.toV,frz1,List.range,List.range.loop,ite_true,ite_false,if_true,if_false,ne_eq,implies_true,forall_const,eq_self,IntKind.bits,upd_tmsS,selT_cons,selT_nil,List.length_map,List.getElem?_map,Int.natCast_nonneg,List.length_append,List.map_append]
        · simp (maxSteps:=9999999)-implicitDefEqProofs only [simprocAttr,QH,Option.isSome,cond_true,cond_false,Option.bind,selB,V.rn,V.rns,Go.Ai.known,V.pz,V.pzs,T.toV,frz1,List.range,List.range.loop,ite_true,ite_false,if_true,if_false,ne_eq,implies_true,forall_const,eq_self,IntKind.bits,upd_tmsS,selT_cons,selT_nil,List.length_map,List.getElem?_map,Int.natCast_nonneg,List.length_append,List.map_append]
    · have hie : i = (L.take 100).length := by omega
      have hmd : madeP kz L = p := by rw [hp, hie, List.take_length]; rfl
      rw [hmd]
      have hor : ¬ (i : Int) < (L.length : Int) ∨ ¬ (i : Int) < 100 := by
        rw [List.length_take] at hie; omega
      by_cases hi1 : (i : Int) < (L.length : Int)
      · have hi2 : ¬ (i : Int) < 100 := hor.elim (fun h => absurd hi1 h) id
        (have hwq := trivial; repeat' (first | simp (maxSteps:=9999999)-implicitDefEqProofs only [go_sem,simprocAttr,hwq,FT3,FT4,FT5,FT23,FT24,FT25,FT26,FT27,FT29,FT30,FT32,FT34,FT35,FT37,FT39,FT40,FT41,FT43,FT46,FT52,FT59,FT85,List.length_map,List.getElem?_map,Int.natCast_nonneg,List.length_append,List.map_append,hi1,hi2] | (refine condK_split ?_ ?_ <;> intro hwq) | (refine two_split ?_ ?_) | (refine guardK_split ?_ ?_ <;> intro hwq) | (refine guardE_split ?_ ?_ <;> intro hwq) | (refine awp_drawW [] (by decide +kernel) ?_; have hwq := trivial) | fail))
      · (have hwq := trivial; repeat' (first | simp (maxSteps:=9999999)-implicitDefEqProofs only [go_sem,simprocAttr,hwq,FT3,FT4,FT5,FT23,FT24,FT25,FT26,FT27,FT29,FT30,FT32,FT34,FT35,FT37,FT39,FT40,FT41,FT43,FT46,FT52,FT59,FT85,List.length_map,List.getElem?_map,Int.natCast_nonneg,List.length_append,List.map_append,hi1] | (refine condK_split ?_ ?_ <;> intro hwq) | (refine two_split ?_ ?_) | (refine guardK_split ?_ ?_ <;> intro hwq) | (refine guardE_split ?_ ?_ <;> intro hwq) | (refine awp_drawW [] (by decide +kernel) ?_; have hwq := trivial) | fail))
end Go.Ai

set_option linter.unusedVariables false
set_option linter.unusedSimpArgs false
set_option maxHeartbeats 4000000
set_option maxRecDepth 100000
namespace Go.Ai
open Go.Proofs
attribute [local go_sem] QH QR V.noimm V.noimms frzZs frzZ frzA frzV frzVs frzBox boxLen Option.isSome cond_true cond_false aopD calW flatV stepX amap stepY alookup afind aupdate adelete amlen arange ameq mapOf akeq pl V.mapT V.mapTs Option.bind stepK runK guardD stepE runD callD compact selB callK evS ofVal ofVals scalar aop ares mkRes V.rn V.rns V.cells? cellsAt Go.Ai.part aload astore setL V.atom abin aun intBin shiftBin aconv fieldOf aindexAddr aindex bound? aslice aarr abuild afill alen nilP nilS nilF aeq eqCells eqCell Go.Ai.known strBin abuiltin aappend abuildSlice arowsFill amakeSlice acopy aclear minmax rowsOf numsT notStr isIntD isByte V.pz V.pzs T.toV frz1 frz scalT scalTs chunkT List.range List.range.loop ite_true ite_false if_true if_false ne_eq implies_true forall_const eq_self IntKind.bits kPostKF_ret kPostKF_normal kPostX_ret kPostX_normal bsl nil2K nil2 kPostFW_ret kPostFW_normal kPostKM_ret kPostKM_normal kPostXK_ret kPostXK_normal
/-! ## Any commands, one behind the other -/
theorem le_nil21 (a b : Int) : V.les [.s (.int .u8 a), .s (.int .u8 b), .s (.slice none 0 0)] [.s (.int .u8 a), .s (.int .u8 b), .sl 21 (List.map cmT [])] := by
  simp [V.les, V.le]
end Go.Ai
