/- Contracts of functions of the loaded program: called with data in the ranges that each names, it returns this value and writes to no old memory. -/
import Derived.Test.YtbiolkmddpkheaaGreatPrvIns
import Derived.Shelf.Spec.SlicesInsertGrow
set_option linter.unusedVariables false
set_option linter.unusedSimpArgs false
namespace Go.Ai
open Go.Proofs Go.Shelf Go.RowKit Go.Lib
set_option maxHeartbeats 4000000 in
set_option maxRecDepth 100000 in
theorem ins100_room (w : World) (b cap n i m vb vc : Nat) (cs us : Array Value) (eb eu : TypeId) (hi : i < n) (hm : 0 < m) (hroom : n + m ≤ cap) (hc63 : cap ≤ 9223372036854775807)
    (hb : w.heap[b]? = some (.cells cs eb (0, 0))) (hcs : cs.size = cap * 3) (hvb : w.heap[vb]? = some (.cells us eu (0, 0))) (hus : us.size = vc * 3) (hmv : m ≤ vc) (hne : vb ≠ b)
    (h1c : ∀ v ∈ cs.toList.take (n * 3), v.oneCell' = true) (h1v : ∀ v ∈ us.toList.take (m * 3), v.oneCell' = true) :
    Calls Tryz.prog 100 #[.slice (some ⟨b, 0, none⟩) n cap, .int .i64 i, .slice (some ⟨vb, 0, none⟩) m vc] w fun ex w' =>
      ex = .returned (.slice (some ⟨b, 0, none⟩) (n + m) cap) ∧ w' = (w.drew.setRow b (setL cs.toList ((i + m) * 3) ((cs.toList.drop (i * 3)).take ((n - i) * 3))).toArray).setRow b
        (setL (setL cs.toList ((i + m) * 3) ((cs.toList.drop (i * 3)).take ((n - i) * 3))) (i * 3) (us.toList.take (m * 3))).toArray := by
  have mixed := orders
  have hz1 : ¬ ((m : Int) = 0) := by omega
  have hz2 : ¬ ((i : Int) = (n : Int)) := by omega
  have hw1 : IntKind.i64.wrap ((i : Int) + (m : Int)) = (i : Int) + (m : Int) := by rw [IntKind.wrap_i64]; omega
  have hb1 : (0 : Int) ≤ (i : Int) + (m : Int) := by omega
  have hin : i ≤ n := by omega
  have htn : ((i : Int) + (m : Int)).toNat = i + m := by omega
  have hb2 : ¬ (cap = i + m) := by omega
  have hb3 : (i : Int) ≤ (n : Int) + (m : Int) := by omega
  have hb4 : ¬ (cap = i) := by omega
  have hsz : ∀ w, (Go.sizeOf 32).run Tryz.prog w = .ok 3 w := fun w => by
    have := run_siz' (P := Tryz.prog) (t := 32) (by rw [c32]; decide) w
    rwa [c32] at this
  have hfz : ∀ k, w.frozen? ⟨vb, k, none⟩ = false := fun k => by simp [World.frozen?, hvb]
  have hov : ∀ lb cb, (callFunc 129 #[.slice (some ⟨vb, 0, none⟩) m vc, .slice (some ⟨b, (i + m) * 3, none⟩) lb cb]).run Tryz.prog w = .ok (.value (.bool false)) w := fun lb cb => by
    rw [run_callFunc_extern Tryz.func129 (by kernel_rfl) (by kernel_rfl) (by kernel_rfl) (e := Extern.SlicesOverlaps.overlaps #[25, 25] #[4]) (by kernel_rfl),
      Lib.run_overlaps_apart w 25 4 32 u25 3 hsz ⟨vb, 0, none⟩ ⟨b, (i + m) * 3, none⟩ m vc lb cb hne eu eb us.size cs.size (by simp [World.shape?, hvb]) (by simp [World.shape?, hb]) (by omega) (hfz _) (hfz _)]
    rfl
  have hA0 : (w.drew).heap[b]? = some (.cells cs eb (0, 0)) := hb
  obtain ⟨u1, hu1⟩ : ∃ u1, (cs.toList.drop (i * 3)).take ((n - i) * 3) = u1 := ⟨_, rfl⟩
  obtain ⟨u2, hu2⟩ : ∃ u2, us.toList.take (m * 3) = u2 := ⟨_, rfl⟩
  have hl1 : u1.length = (n - i) * 3 := by rw [← hu1]; simp; omega
  have hl2 : u2.length = m * 3 := by rw [← hu2]; simp; omega
  have h11 : ∀ v ∈ u1, v.oneCell' = true := fun v hv => h1c v (by
    rw [← hu1, show (n - i) * 3 = n * 3 - i * 3 by omega, ← List.drop_take] at hv
    exact List.mem_of_mem_drop hv)
  rw [hu2] at h1v
  rw [hu1, hu2]
  obtain ⟨A, hA⟩ : ∃ A, setL cs.toList ((i + m) * 3) u1 = A := ⟨_, rfl⟩
  have hcp1 : ∀ ty dc sc, (Builtin.copy_ #[25, 25] ty #[.slice (some ⟨b, (i + m) * 3, none⟩) (n + m - (i + m)) dc, .slice (some ⟨b, i * 3, none⟩) (n + m - i) sc]).run Tryz.prog w.drew = .ok (goInt ((n - i : Nat) : Int)) (w.drew.setRow b A.toArray) := fun ty dc sc => by
    rw [← hA]
    refine run_copyZ (sl := n + m - i) (dl := n + m - (i + m)) (m := n - i) (o := (i + m) * 3) (sb := b) (so := i * 3) (us := u1) u25 hsz hA0 (by omega) hl1 (fun j v hj => ?_) h11 (by rw [hl1]; omega)
    rw [← hu1, List.getElem?_take] at hj
    split at hj
    · rw [List.getElem?_drop] at hj
      simp only [World.cell?, hA0, ← Array.getElem?_toList]
      simpa using hj
    · cases hj
  obtain ⟨W1, hW1⟩ : ∃ W1, W1 = w.drew.setRow b A.toArray := ⟨_, rfl⟩
  rw [hA, ← hW1]
  have hA1 : W1.heap[b]? = some (.cells A.toArray eb (0, 0)) := by rw [hW1]; exact setRow_heap w.drew b cs _ eb (0, 0) hA0
  have hA2 : W1.heap[vb]? = some (.cells us eu (0, 0)) := by rw [hW1, setRow_other _ _ _ _ hne]; exact hvb
  have hAl : A.length = cs.size := by rw [← hA, setL_length (by rw [hl1, Array.length_toList]; omega), Array.length_toList]
  have hcp2 : ∀ ty dc, (Builtin.copy_ #[25, 25] ty #[.slice (some ⟨b, i * 3, none⟩) (n + m - i) dc, .slice (some ⟨vb, 0, none⟩) m vc]).run Tryz.prog W1 = .ok (goInt m) (W1.setRow b (setL A (i * 3) u2).toArray) := fun ty dc => by
    have := run_copyZ (P := Tryz.prog) (ty := ty) (dc := dc) (dl := n + m - i) (sc := vc) u25 hsz hA1 (o := i * 3) (sb := vb) (so := 0) (sl := m) (m := m) (us := u2) (by omega) hl2 (fun j v hj => by
      rw [← hu2, List.getElem?_take] at hj
      split at hj
      · simp only [World.cell?, hA2, ← Array.getElem?_toList]
        simpa using hj
      · cases hj) h1v (by rw [hl2, List.size_toArray, hAl]; omega)
    exact this
  rw [← hW1] at hcp1
  clear hA0 hA1 hA2 hW1 hb hcs hvb hus h1c h1v hfz hl1 hl2 h11 hAl hu1 hu2
  go_enter Tryz.func100, Tryz.ntmps100
  go_wp2_with (simp only [hov])
  go_region_law_o (refine step_copy_runI rfl _ _ 25 25 rfl _ _ (by simp [Act.eval, Act.put]) (by simp [Act.eval, Act.put]) (hcp1 _ _ _) ?_)
  go_wp2_with (at_builtin; refine wpList_copy_runI _ rfl _ _ 25 25 rfl _ _ rfl rfl (hcp2 _ _) ?_)
  go_ret
  exact ⟨rfl, rfl⟩
set_option maxHeartbeats 4000000 in
set_option maxRecDepth 100000 in
theorem ins100_grow (w : World) (b cap n i m vb vc : Nat) (cs us : Array Value) (eb eu : TypeId) (hi : i < n) (hm : 0 < m) (hnc : n ≤ cap) (hroom : cap < n + m) (hbig : (n + m) * 24 ≤ 140737488355328)
    (hb : w.heap[b]? = some (.cells cs eb (0, 0))) (hcs : cs.size = cap * 3) (hvb : w.heap[vb]? = some (.cells us eu (0, 0))) (hus : us.size = vc * 3) (hmv : m ≤ vc) (hne : vb ≠ b)
    (h1c : ∀ v ∈ cs.toList.take (n * 3), v.oneCell' = true) (h1v : ∀ v ∈ us.toList.take (m * 3), v.oneCell' = true) :
    Calls Tryz.prog 100 #[.slice (some ⟨b, 0, none⟩) n cap, .int .i64 i, .slice (some ⟨vb, 0, none⟩) m vc] w fun ex w' =>
      ∃ G CE, n + m ≤ G ∧ G ≤ maxLen ∧ CE.size = G * 3 ∧ CE.toList.take (i * 3) = cs.toList.take (i * 3) ∧ ex = .returned (.slice (some ⟨w.heap.size, 0, none⟩) (n + m) G) ∧
        w'.heap = (((w.drew.alloc (.cells CE 32)).setRow w.heap.size (setL CE.toList (i * 3) (us.toList.take (m * 3))).toArray).setRow w.heap.size (setL (setL CE.toList (i * 3) (us.toList.take (m * 3))) ((i + m) * 3) ((cs.toList.drop (i * 3)).take ((n - i) * 3))).toArray).heap ∧
        w'.os = w.os ∧ w'.tape = w.tape ∧ w'.output = w.output ∧ w.drawn ≤ w'.drawn := by
  have mixed := orders
  have hz1 : ¬ ((m : Int) = 0) := by omega
  have hz2 : ¬ ((i : Int) = (n : Int)) := by omega
  have hz3 : (cap : Int) < (n : Int) + (m : Int) := by omega
  have hsz : ∀ w, (Go.sizeOf 32).run Tryz.prog w = .ok 3 w := fun w => by
    have := run_siz' (P := Tryz.prog) (t := 32) (by rw [c32]; decide) w
    rwa [c32] at this
  obtain ⟨G, CE, hG1, hG2, hG3, hG4, hrz⟩ := run_appendZ (w := w) (kq := .i64) (s := i) (k := n + m - i) (cap := cap) u25 u3 k32 (by rw [c32]; decide) (by rw [b32]; decide) hb (by omega) (by rw [c32]; omega) (by omega) (by rw [b32]; omega)
  rw [c32] at hG3 hG4
  rw [show i + (n + m - i) = n + m by omega] at hG1 hrz
  rw [show ((n + m - i : Nat) : Int) = (n : Int) + (m : Int) - (i : Int) by omega] at hrz
  have hbw : b < w.heap.size := (Array.getElem?_eq_some_iff.1 hb).1
  have hvw : vb < w.heap.size := (Array.getElem?_eq_some_iff.1 hvb).1
  obtain ⟨nb, hnb⟩ : ∃ nb, w.heap.size = nb := ⟨_, rfl⟩
  obtain ⟨W1, hW1⟩ : ∃ W1, W1 = w.drew.alloc (.cells CE 32) := ⟨_, rfl⟩
  obtain ⟨u1, hu1⟩ : ∃ u1, (cs.toList.drop (i * 3)).take ((n - i) * 3) = u1 := ⟨_, rfl⟩
  obtain ⟨u2, hu2⟩ : ∃ u2, us.toList.take (m * 3) = u2 := ⟨_, rfl⟩
  have hl1 : u1.length = (n - i) * 3 := by rw [← hu1]; simp; omega
  have hl2 : u2.length = m * 3 := by rw [← hu2]; simp; omega
  have h11 : ∀ v ∈ u1, v.oneCell' = true := fun v hv => h1c v (by
    rw [← hu1, show (n - i) * 3 = n * 3 - i * 3 by omega, ← List.drop_take] at hv
    exact List.mem_of_mem_drop hv)
  rw [hu2] at h1v
  have hA0 : W1.heap[nb]? = some (.cells CE 32 (0, 0)) := by rw [hW1, ← hnb]; exact alloc_new w.drew _
  have hAb : W1.heap[b]? = some (.cells cs eb (0, 0)) := by rw [hW1, ← hb]; exact alloc_old w.drew _ hbw
  have hAv : W1.heap[vb]? = some (.cells us eu (0, 0)) := by rw [hW1, ← hvb]; exact alloc_old w.drew _ hvw
  obtain ⟨A, hA⟩ : ∃ A, setL CE.toList (i * 3) u2 = A := ⟨_, rfl⟩
  obtain ⟨B, hB⟩ : ∃ B, setL A ((i + m) * 3) u1 = B := ⟨_, rfl⟩
  have hAl : A.length = CE.size := by rw [← hA, setL_length (by rw [hl2, Array.length_toList]; omega), Array.length_toList]
  have hcpA : ∀ (W : World), W.heap = W1.heap → ∀ ty dc, (Builtin.copy_ #[25, 25] ty #[.slice (some ⟨nb, i * 3, none⟩) (n + m - i) dc, .slice (some ⟨vb, 0, none⟩) m vc]).run Tryz.prog W = .ok (goInt (m : Int)) (W.setRow nb A.toArray) := fun W hW ty dc => by
    rw [← hA]
    refine run_copyZ (sl := m) (dl := n + m - i) (m := m) (o := i * 3) (sb := vb) (so := 0) (us := u2) u25 hsz (by rw [hW]; exact hA0) (by omega) hl2 (fun j v hj => ?_) h1v (by rw [hl2]; omega)
    rw [← hu2, List.getElem?_take] at hj
    split at hj
    · simp only [World.cell?, hW, hAv, ← Array.getElem?_toList]
      simpa using hj
    · cases hj
  have hcpB : ∀ (W : World), W.heap = (W1.setRow nb A.toArray).heap → ∀ ty dc sc, (Builtin.copy_ #[25, 25] ty #[.slice (some ⟨nb, (i + m) * 3, none⟩) (n + m - (i + m)) dc, .slice (some ⟨b, i * 3, none⟩) (n - i) sc]).run Tryz.prog W = .ok (goInt ((n - i : Nat) : Int)) (W.setRow nb B.toArray) := fun W hW ty dc sc => by
    rw [← hB]
    have hC := run_copyZ (P := Tryz.prog) (w := W) (t := 25) (ty := ty) (dc := dc) (sc := sc) (sl := n - i) (dl := n + m - (i + m)) (m := n - i) (o := (i + m) * 3) (sb := b) (so := i * 3) (us := u1) u25 hsz (b := nb) (cs := A.toArray) (eb := 32) (by rw [hW]; exact setRow_heap W1 nb CE _ 32 (0, 0) hA0) (by omega) hl1 (fun j v hj => by
      rw [← hu1, List.getElem?_take] at hj
      split at hj
      · rw [List.getElem?_drop] at hj
        simp only [World.cell?, hW]
        rw [setRow_other _ _ _ _ (by omega), hAb]
        simp only [← Array.getElem?_toList]
        simpa using hj
      · cases hj) h11 (by rw [hl1, List.size_toArray, hAl]; omega)
    exact hC
  rw [hnb, ← hW1] at hrz
  rw [hu1, hu2]
  have hfin : ∀ (ex : Ending) (w' : World), (ex = .returned (.slice (some ⟨nb, 0, none⟩) (n + m) G) ∧ w'.heap = ((W1.setRow nb A.toArray).setRow nb B.toArray).heap ∧ w'.os = w.os ∧ w'.tape = w.tape ∧ w'.output = w.output ∧ w.drawn ≤ w'.drawn) → ∃ G CE, n + m ≤ G ∧ G ≤ maxLen ∧ CE.size = G * 3 ∧ CE.toList.take (i * 3) = cs.toList.take (i * 3) ∧ ex = .returned (.slice (some ⟨w.heap.size, 0, none⟩) (n + m) G) ∧
        w'.heap = (((w.drew.alloc (.cells CE 32)).setRow w.heap.size (setL CE.toList (i * 3) u2).toArray).setRow w.heap.size (setL (setL CE.toList (i * 3) u2) ((i + m) * 3) u1).toArray).heap ∧
        w'.os = w.os ∧ w'.tape = w.tape ∧ w'.output = w.output ∧ w.drawn ≤ w'.drawn := fun ex w' hp => ⟨G, CE, hG1, hG2, hG3, hG4, by rw [hnb]; exact hp.1, by rw [hnb, hA, hB, ← hW1]; exact hp.2.1, hp.2.2⟩
  refine Calls.mono ?_ hfin
  have hd0 : w.os = W1.os ∧ w.tape = W1.tape ∧ w.output = W1.output ∧ w.drawn + 1 = W1.drawn := by rw [hW1]; exact ⟨rfl, rfl, rfl, rfl⟩
  obtain ⟨hd1, hd2, hd3, hd4⟩ := hd0
  rw [hd1, hd2, hd3]
  have hd5 : w.drawn ≤ W1.drawn := by omega
  have hGi : ¬ (G = i) := by omega
  have hGim : ¬ (G = i + m) := by omega
  have hci : ¬ (cap = i) := by omega
  have hGn : n + m ≤ G := hG1
  have hG63 : G ≤ 9223372036854775807 := by simp only [maxLen] at hG2; omega
  have hw1 : IntKind.i64.wrap ((i : Int) + (m : Int)) = (i : Int) + (m : Int) := by rw [IntKind.wrap_i64]; omega
  have hb1 : (0 : Int) ≤ (i : Int) + (m : Int) := by omega
  have hin : i ≤ n := by omega
  have htn : ((i : Int) + (m : Int)).toNat = i + m := by omega
  have hb3 : (i : Int) ≤ (n : Int) := by omega
  have hb5 : (i : Int) ≤ (n : Int) + (m : Int) := by omega
  clear hfin hG1 hG2 hG3 hG4 hnb hd1 hd2 hd3 hd4 hA0 hAb hAv hAl hW1 hb hcs hvb hus h1c h1v hl1 hl2 h11 hu1 hu2 hA hB hbig hsz
  go_enter Tryz.func100, Tryz.ntmps100
  go_wp2_with (first
    | (at_builtin; refine Lib.wpList_append_run _ rfl _ _ _ _ rfl _ _ rfl rfl _ _ (hrz _) ?_)
    | (at_builtin; refine wpList_copy_runI _ rfl _ _ 25 25 rfl _ _ rfl rfl (hcpA _ rfl _ _) ?_)
    | (at_builtin; refine wpList_copy_runI _ rfl _ _ 25 25 rfl _ _ rfl rfl (hcpB _ rfl _ _ _) ?_))
  go_region_law_o (refine step_copy_runI rfl _ _ 25 25 rfl (.slice (some ⟨nb, (i + m) * 3, none⟩) (n + m - (i + m)) (G - (i + m))) (.slice (some ⟨b, i * 3, none⟩) (n - i) (cap - i)) (by simp [Act.eval, Act.put]) (by simp [Act.eval, Act.put]) (hcpB (W1.setRow nb A.toArray).drew rfl _ _ _) ?_)
  go_wp2
  go_ret
  exact ⟨rfl, rfl, rfl, rfl, rfl, Nat.le_succ_of_le hd5⟩
theorem insAt100 : InsAt Tryz.prog 100 3 := by
  intro w b cap n i vb vc cs eb us eu hi hnc hcm hn hb hcs hvb hus hv1 hne h1c h1v
  by_cases hroom : n + 1 ≤ cap
  · refine (ins100_room w b cap n i 1 vb vc cs us eb eu hi (by omega) hroom (by simp only [maxLen] at hcm; omega) hb hcs hvb hus hv1 hne h1c (by simpa using h1v)).mono fun ex w' hp => ?_
    obtain ⟨rfl, rfl⟩ := hp
    exact insPost_room hi hroom hcm hb hcs (by omega)
  · refine (ins100_grow w b cap n i 1 vb vc cs us eb eu hi (by omega) hnc (by omega) (by omega) hb hcs hvb hus hv1 hne h1c (by simpa using h1v)).mono fun ex w' hp => ?_
    obtain ⟨G, CE, hG1, hG2, hG3, hG4, rfl, hh, ho, ht, hp, hd⟩ := hp
    exact insPost_grow hi hG1 hG2 hG3 (by omega) hG4 (by omega) hh ho ht hp hd
set_option maxHeartbeats 4000000 in
set_option maxRecDepth 100000 in
theorem ins107_room (w : World) (b cap n i m vb vc : Nat) (cs us : Array Value) (eb eu : TypeId) (hi : i < n) (hm : 0 < m) (hroom : n + m ≤ cap) (hc63 : cap ≤ 9223372036854775807)
    (hb : w.heap[b]? = some (.cells cs eb (0, 0))) (hcs : cs.size = cap * 2) (hvb : w.heap[vb]? = some (.cells us eu (0, 0))) (hus : us.size = vc * 2) (hmv : m ≤ vc) (hne : vb ≠ b)
    (h1c : ∀ v ∈ cs.toList.take (n * 2), v.oneCell' = true) (h1v : ∀ v ∈ us.toList.take (m * 2), v.oneCell' = true) :
    Calls Tryz.prog 107 #[.slice (some ⟨b, 0, none⟩) n cap, .int .i64 i, .slice (some ⟨vb, 0, none⟩) m vc] w fun ex w' =>
      ex = .returned (.slice (some ⟨b, 0, none⟩) (n + m) cap) ∧ w' = (w.drew.setRow b (setL cs.toList ((i + m) * 2) ((cs.toList.drop (i * 2)).take ((n - i) * 2))).toArray).setRow b
        (setL (setL cs.toList ((i + m) * 2) ((cs.toList.drop (i * 2)).take ((n - i) * 2))) (i * 2) (us.toList.take (m * 2))).toArray := by
  have mixed := orders
  have hz1 : ¬ ((m : Int) = 0) := by omega
  have hz2 : ¬ ((i : Int) = (n : Int)) := by omega
  have hw1 : IntKind.i64.wrap ((i : Int) + (m : Int)) = (i : Int) + (m : Int) := by rw [IntKind.wrap_i64]; omega
  have hb1 : (0 : Int) ≤ (i : Int) + (m : Int) := by omega
  have hin : i ≤ n := by omega
  have htn : ((i : Int) + (m : Int)).toNat = i + m := by omega
  have hb2 : ¬ (cap = i + m) := by omega
  have hb3 : (i : Int) ≤ (n : Int) + (m : Int) := by omega
  have hb4 : ¬ (cap = i) := by omega
  have hsz : ∀ w, (Go.sizeOf 34).run Tryz.prog w = .ok 2 w := fun w => by
    have := run_siz' (P := Tryz.prog) (t := 34) (by rw [c34]; decide) w
    rwa [c34] at this
  have hfz : ∀ k, w.frozen? ⟨vb, k, none⟩ = false := fun k => by simp [World.frozen?, hvb]
  have hov : ∀ lb cb, (callFunc 132 #[.slice (some ⟨vb, 0, none⟩) m vc, .slice (some ⟨b, (i + m) * 2, none⟩) lb cb]).run Tryz.prog w = .ok (.value (.bool false)) w := fun lb cb => by
    rw [run_callFunc_extern Tryz.func132 (by kernel_rfl) (by kernel_rfl) (by kernel_rfl) (e := Extern.SlicesOverlaps.overlaps #[26, 26] #[4]) (by kernel_rfl),
      Lib.run_overlaps_apart w 26 4 34 u26 2 hsz ⟨vb, 0, none⟩ ⟨b, (i + m) * 2, none⟩ m vc lb cb hne eu eb us.size cs.size (by simp [World.shape?, hvb]) (by simp [World.shape?, hb]) (by omega) (hfz _) (hfz _)]
    rfl
  have hA0 : (w.drew).heap[b]? = some (.cells cs eb (0, 0)) := hb
  obtain ⟨u1, hu1⟩ : ∃ u1, (cs.toList.drop (i * 2)).take ((n - i) * 2) = u1 := ⟨_, rfl⟩
  obtain ⟨u2, hu2⟩ : ∃ u2, us.toList.take (m * 2) = u2 := ⟨_, rfl⟩
  have hl1 : u1.length = (n - i) * 2 := by rw [← hu1]; simp; omega
  have hl2 : u2.length = m * 2 := by rw [← hu2]; simp; omega
  have h11 : ∀ v ∈ u1, v.oneCell' = true := fun v hv => h1c v (by
    rw [← hu1, show (n - i) * 2 = n * 2 - i * 2 by omega, ← List.drop_take] at hv
    exact List.mem_of_mem_drop hv)
  rw [hu2] at h1v
  rw [hu1, hu2]
  obtain ⟨A, hA⟩ : ∃ A, setL cs.toList ((i + m) * 2) u1 = A := ⟨_, rfl⟩
  have hcp1 : ∀ ty dc sc, (Builtin.copy_ #[26, 26] ty #[.slice (some ⟨b, (i + m) * 2, none⟩) (n + m - (i + m)) dc, .slice (some ⟨b, i * 2, none⟩) (n + m - i) sc]).run Tryz.prog w.drew = .ok (goInt ((n - i : Nat) : Int)) (w.drew.setRow b A.toArray) := fun ty dc sc => by
    rw [← hA]
    refine run_copyZ (sl := n + m - i) (dl := n + m - (i + m)) (m := n - i) (o := (i + m) * 2) (sb := b) (so := i * 2) (us := u1) u26 hsz hA0 (by omega) hl1 (fun j v hj => ?_) h11 (by rw [hl1]; omega)
    rw [← hu1, List.getElem?_take] at hj
    split at hj
    · rw [List.getElem?_drop] at hj
      simp only [World.cell?, hA0, ← Array.getElem?_toList]
      simpa using hj
    · cases hj
  obtain ⟨W1, hW1⟩ : ∃ W1, W1 = w.drew.setRow b A.toArray := ⟨_, rfl⟩
  rw [hA, ← hW1]
  have hA1 : W1.heap[b]? = some (.cells A.toArray eb (0, 0)) := by rw [hW1]; exact setRow_heap w.drew b cs _ eb (0, 0) hA0
  have hA2 : W1.heap[vb]? = some (.cells us eu (0, 0)) := by rw [hW1, setRow_other _ _ _ _ hne]; exact hvb
  have hAl : A.length = cs.size := by rw [← hA, setL_length (by rw [hl1, Array.length_toList]; omega), Array.length_toList]
  have hcp2 : ∀ ty dc, (Builtin.copy_ #[26, 26] ty #[.slice (some ⟨b, i * 2, none⟩) (n + m - i) dc, .slice (some ⟨vb, 0, none⟩) m vc]).run Tryz.prog W1 = .ok (goInt m) (W1.setRow b (setL A (i * 2) u2).toArray) := fun ty dc => by
    have := run_copyZ (P := Tryz.prog) (ty := ty) (dc := dc) (dl := n + m - i) (sc := vc) u26 hsz hA1 (o := i * 2) (sb := vb) (so := 0) (sl := m) (m := m) (us := u2) (by omega) hl2 (fun j v hj => by
      rw [← hu2, List.getElem?_take] at hj
      split at hj
      · simp only [World.cell?, hA2, ← Array.getElem?_toList]
        simpa using hj
      · cases hj) h1v (by rw [hl2, List.size_toArray, hAl]; omega)
    exact this
  rw [← hW1] at hcp1
  clear hA0 hA1 hA2 hW1 hb hcs hvb hus h1c h1v hfz hl1 hl2 h11 hAl hu1 hu2
  go_enter Tryz.func107, Tryz.ntmps107
  go_wp2_with (simp only [hov])
  go_region_law_o (refine step_copy_runI rfl _ _ 26 26 rfl _ _ (by simp [Act.eval, Act.put]) (by simp [Act.eval, Act.put]) (hcp1 _ _ _) ?_)
  go_wp2_with (at_builtin; refine wpList_copy_runI _ rfl _ _ 26 26 rfl _ _ rfl rfl (hcp2 _ _) ?_)
  go_ret
  exact ⟨rfl, rfl⟩
set_option maxHeartbeats 4000000 in
set_option maxRecDepth 100000 in
theorem ins107_grow (w : World) (b cap n i m vb vc : Nat) (cs us : Array Value) (eb eu : TypeId) (hi : i < n) (hm : 0 < m) (hnc : n ≤ cap) (hroom : cap < n + m) (hbig : (n + m) * 16 ≤ 140737488355328)
    (hb : w.heap[b]? = some (.cells cs eb (0, 0))) (hcs : cs.size = cap * 2) (hvb : w.heap[vb]? = some (.cells us eu (0, 0))) (hus : us.size = vc * 2) (hmv : m ≤ vc) (hne : vb ≠ b)
    (h1c : ∀ v ∈ cs.toList.take (n * 2), v.oneCell' = true) (h1v : ∀ v ∈ us.toList.take (m * 2), v.oneCell' = true) :
    Calls Tryz.prog 107 #[.slice (some ⟨b, 0, none⟩) n cap, .int .i64 i, .slice (some ⟨vb, 0, none⟩) m vc] w fun ex w' =>
      ∃ G CE, n + m ≤ G ∧ G ≤ maxLen ∧ CE.size = G * 2 ∧ CE.toList.take (i * 2) = cs.toList.take (i * 2) ∧ ex = .returned (.slice (some ⟨w.heap.size, 0, none⟩) (n + m) G) ∧
        w'.heap = (((w.drew.alloc (.cells CE 34)).setRow w.heap.size (setL CE.toList (i * 2) (us.toList.take (m * 2))).toArray).setRow w.heap.size (setL (setL CE.toList (i * 2) (us.toList.take (m * 2))) ((i + m) * 2) ((cs.toList.drop (i * 2)).take ((n - i) * 2))).toArray).heap ∧
        w'.os = w.os ∧ w'.tape = w.tape ∧ w'.output = w.output ∧ w.drawn ≤ w'.drawn := by
  have mixed := orders
  have hz1 : ¬ ((m : Int) = 0) := by omega
  have hz2 : ¬ ((i : Int) = (n : Int)) := by omega
  have hz3 : (cap : Int) < (n : Int) + (m : Int) := by omega
  have hsz : ∀ w, (Go.sizeOf 34).run Tryz.prog w = .ok 2 w := fun w => by
    have := run_siz' (P := Tryz.prog) (t := 34) (by rw [c34]; decide) w
    rwa [c34] at this
  obtain ⟨G, CE, hG1, hG2, hG3, hG4, hrz⟩ := run_appendZ (w := w) (kq := .i64) (s := i) (k := n + m - i) (cap := cap) u26 u3 k34 (by rw [c34]; decide) (by rw [b34]; decide) hb (by omega) (by rw [c34]; omega) (by omega) (by rw [b34]; omega)
  rw [c34] at hG3 hG4
  rw [show i + (n + m - i) = n + m by omega] at hG1 hrz
  rw [show ((n + m - i : Nat) : Int) = (n : Int) + (m : Int) - (i : Int) by omega] at hrz
  have hbw : b < w.heap.size := (Array.getElem?_eq_some_iff.1 hb).1
  have hvw : vb < w.heap.size := (Array.getElem?_eq_some_iff.1 hvb).1
  obtain ⟨nb, hnb⟩ : ∃ nb, w.heap.size = nb := ⟨_, rfl⟩
  obtain ⟨W1, hW1⟩ : ∃ W1, W1 = w.drew.alloc (.cells CE 34) := ⟨_, rfl⟩
  obtain ⟨u1, hu1⟩ : ∃ u1, (cs.toList.drop (i * 2)).take ((n - i) * 2) = u1 := ⟨_, rfl⟩
  obtain ⟨u2, hu2⟩ : ∃ u2, us.toList.take (m * 2) = u2 := ⟨_, rfl⟩
  have hl1 : u1.length = (n - i) * 2 := by rw [← hu1]; simp; omega
  have hl2 : u2.length = m * 2 := by rw [← hu2]; simp; omega
  have h11 : ∀ v ∈ u1, v.oneCell' = true := fun v hv => h1c v (by
    rw [← hu1, show (n - i) * 2 = n * 2 - i * 2 by omega, ← List.drop_take] at hv
    exact List.mem_of_mem_drop hv)
  rw [hu2] at h1v
  have hA0 : W1.heap[nb]? = some (.cells CE 34 (0, 0)) := by rw [hW1, ← hnb]; exact alloc_new w.drew _
  have hAb : W1.heap[b]? = some (.cells cs eb (0, 0)) := by rw [hW1, ← hb]; exact alloc_old w.drew _ hbw
  have hAv : W1.heap[vb]? = some (.cells us eu (0, 0)) := by rw [hW1, ← hvb]; exact alloc_old w.drew _ hvw
  obtain ⟨A, hA⟩ : ∃ A, setL CE.toList (i * 2) u2 = A := ⟨_, rfl⟩
  obtain ⟨B, hB⟩ : ∃ B, setL A ((i + m) * 2) u1 = B := ⟨_, rfl⟩
  have hAl : A.length = CE.size := by rw [← hA, setL_length (by rw [hl2, Array.length_toList]; omega), Array.length_toList]
  have hcpA : ∀ (W : World), W.heap = W1.heap → ∀ ty dc, (Builtin.copy_ #[26, 26] ty #[.slice (some ⟨nb, i * 2, none⟩) (n + m - i) dc, .slice (some ⟨vb, 0, none⟩) m vc]).run Tryz.prog W = .ok (goInt (m : Int)) (W.setRow nb A.toArray) := fun W hW ty dc => by
    rw [← hA]
    refine run_copyZ (sl := m) (dl := n + m - i) (m := m) (o := i * 2) (sb := vb) (so := 0) (us := u2) u26 hsz (by rw [hW]; exact hA0) (by omega) hl2 (fun j v hj => ?_) h1v (by rw [hl2]; omega)
    rw [← hu2, List.getElem?_take] at hj
    split at hj
    · simp only [World.cell?, hW, hAv, ← Array.getElem?_toList]
      simpa using hj
    · cases hj
  have hcpB : ∀ (W : World), W.heap = (W1.setRow nb A.toArray).heap → ∀ ty dc sc, (Builtin.copy_ #[26, 26] ty #[.slice (some ⟨nb, (i + m) * 2, none⟩) (n + m - (i + m)) dc, .slice (some ⟨b, i * 2, none⟩) (n - i) sc]).run Tryz.prog W = .ok (goInt ((n - i : Nat) : Int)) (W.setRow nb B.toArray) := fun W hW ty dc sc => by
    rw [← hB]
    have hC := run_copyZ (P := Tryz.prog) (w := W) (t := 26) (ty := ty) (dc := dc) (sc := sc) (sl := n - i) (dl := n + m - (i + m)) (m := n - i) (o := (i + m) * 2) (sb := b) (so := i * 2) (us := u1) u26 hsz (b := nb) (cs := A.toArray) (eb := 34) (by rw [hW]; exact setRow_heap W1 nb CE _ 34 (0, 0) hA0) (by omega) hl1 (fun j v hj => by
      rw [← hu1, List.getElem?_take] at hj
      split at hj
      · rw [List.getElem?_drop] at hj
        simp only [World.cell?, hW]
        rw [setRow_other _ _ _ _ (by omega), hAb]
        simp only [← Array.getElem?_toList]
        simpa using hj
      · cases hj) h11 (by rw [hl1, List.size_toArray, hAl]; omega)
    exact hC
  rw [hnb, ← hW1] at hrz
  rw [hu1, hu2]
  have hfin : ∀ (ex : Ending) (w' : World), (ex = .returned (.slice (some ⟨nb, 0, none⟩) (n + m) G) ∧ w'.heap = ((W1.setRow nb A.toArray).setRow nb B.toArray).heap ∧ w'.os = w.os ∧ w'.tape = w.tape ∧ w'.output = w.output ∧ w.drawn ≤ w'.drawn) → ∃ G CE, n + m ≤ G ∧ G ≤ maxLen ∧ CE.size = G * 2 ∧ CE.toList.take (i * 2) = cs.toList.take (i * 2) ∧ ex = .returned (.slice (some ⟨w.heap.size, 0, none⟩) (n + m) G) ∧
        w'.heap = (((w.drew.alloc (.cells CE 34)).setRow w.heap.size (setL CE.toList (i * 2) u2).toArray).setRow w.heap.size (setL (setL CE.toList (i * 2) u2) ((i + m) * 2) u1).toArray).heap ∧
        w'.os = w.os ∧ w'.tape = w.tape ∧ w'.output = w.output ∧ w.drawn ≤ w'.drawn := fun ex w' hp => ⟨G, CE, hG1, hG2, hG3, hG4, by rw [hnb]; exact hp.1, by rw [hnb, hA, hB, ← hW1]; exact hp.2.1, hp.2.2⟩
  refine Calls.mono ?_ hfin
  have hd0 : w.os = W1.os ∧ w.tape = W1.tape ∧ w.output = W1.output ∧ w.drawn + 1 = W1.drawn := by rw [hW1]; exact ⟨rfl, rfl, rfl, rfl⟩
  obtain ⟨hd1, hd2, hd3, hd4⟩ := hd0
  rw [hd1, hd2, hd3]
  have hd5 : w.drawn ≤ W1.drawn := by omega
  have hGi : ¬ (G = i) := by omega
  have hGim : ¬ (G = i + m) := by omega
  have hci : ¬ (cap = i) := by omega
  have hGn : n + m ≤ G := hG1
  have hG63 : G ≤ 9223372036854775807 := by simp only [maxLen] at hG2; omega
  have hw1 : IntKind.i64.wrap ((i : Int) + (m : Int)) = (i : Int) + (m : Int) := by rw [IntKind.wrap_i64]; omega
  have hb1 : (0 : Int) ≤ (i : Int) + (m : Int) := by omega
  have hin : i ≤ n := by omega
  have htn : ((i : Int) + (m : Int)).toNat = i + m := by omega
  have hb3 : (i : Int) ≤ (n : Int) := by omega
  have hb5 : (i : Int) ≤ (n : Int) + (m : Int) := by omega
  clear hfin hG1 hG2 hG3 hG4 hnb hd1 hd2 hd3 hd4 hA0 hAb hAv hAl hW1 hb hcs hvb hus h1c h1v hl1 hl2 h11 hu1 hu2 hA hB hbig hsz
  go_enter Tryz.func107, Tryz.ntmps107
  go_wp2_with (first
    | (at_builtin; refine Lib.wpList_append_run _ rfl _ _ _ _ rfl _ _ rfl rfl _ _ (hrz _) ?_)
    | (at_builtin; refine wpList_copy_runI _ rfl _ _ 26 26 rfl _ _ rfl rfl (hcpA _ rfl _ _) ?_)
    | (at_builtin; refine wpList_copy_runI _ rfl _ _ 26 26 rfl _ _ rfl rfl (hcpB _ rfl _ _ _) ?_))
  go_region_law_o (refine step_copy_runI rfl _ _ 26 26 rfl (.slice (some ⟨nb, (i + m) * 2, none⟩) (n + m - (i + m)) (G - (i + m))) (.slice (some ⟨b, i * 2, none⟩) (n - i) (cap - i)) (by simp [Act.eval, Act.put]) (by simp [Act.eval, Act.put]) (hcpB (W1.setRow nb A.toArray).drew rfl _ _ _) ?_)
  go_wp2
  go_ret
  exact ⟨rfl, rfl, rfl, rfl, rfl, Nat.le_succ_of_le hd5⟩
theorem insAt107 : InsAt Tryz.prog 107 2 := by
  intro w b cap n i vb vc cs eb us eu hi hnc hcm hn hb hcs hvb hus hv1 hne h1c h1v
  by_cases hroom : n + 1 ≤ cap
  · refine (ins107_room w b cap n i 1 vb vc cs us eb eu hi (by omega) hroom (by simp only [maxLen] at hcm; omega) hb hcs hvb hus hv1 hne h1c (by simpa using h1v)).mono fun ex w' hp => ?_
    obtain ⟨rfl, rfl⟩ := hp
    exact insPost_room hi hroom hcm hb hcs (by omega)
  · refine (ins107_grow w b cap n i 1 vb vc cs us eb eu hi (by omega) hnc (by omega) (by omega) hb hcs hvb hus hv1 hne h1c (by simpa using h1v)).mono fun ex w' hp => ?_
    obtain ⟨G, CE, hG1, hG2, hG3, hG4, rfl, hh, ho, ht, hp, hd⟩ := hp
    exact insPost_grow hi hG1 hG2 hG3 (by omega) hG4 (by omega) hh ho ht hp hd
set_option maxHeartbeats 4000000 in
set_option maxRecDepth 100000 in
theorem ins112_room (w : World) (b cap n i m vb vc : Nat) (cs us : Array Value) (eb eu : TypeId) (hi : i < n) (hm : 0 < m) (hroom : n + m ≤ cap) (hc63 : cap ≤ 9223372036854775807)
    (hb : w.heap[b]? = some (.cells cs eb (0, 0))) (hcs : cs.size = cap * 2) (hvb : w.heap[vb]? = some (.cells us eu (0, 0))) (hus : us.size = vc * 2) (hmv : m ≤ vc) (hne : vb ≠ b)
    (h1c : ∀ v ∈ cs.toList.take (n * 2), v.oneCell' = true) (h1v : ∀ v ∈ us.toList.take (m * 2), v.oneCell' = true) :
    Calls Tryz.prog 112 #[.slice (some ⟨b, 0, none⟩) n cap, .int .i64 i, .slice (some ⟨vb, 0, none⟩) m vc] w fun ex w' =>
      ex = .returned (.slice (some ⟨b, 0, none⟩) (n + m) cap) ∧ w' = (w.drew.setRow b (setL cs.toList ((i + m) * 2) ((cs.toList.drop (i * 2)).take ((n - i) * 2))).toArray).setRow b
        (setL (setL cs.toList ((i + m) * 2) ((cs.toList.drop (i * 2)).take ((n - i) * 2))) (i * 2) (us.toList.take (m * 2))).toArray := by
  have mixed := orders
  have hz1 : ¬ ((m : Int) = 0) := by omega
  have hz2 : ¬ ((i : Int) = (n : Int)) := by omega
  have hw1 : IntKind.i64.wrap ((i : Int) + (m : Int)) = (i : Int) + (m : Int) := by rw [IntKind.wrap_i64]; omega
  have hb1 : (0 : Int) ≤ (i : Int) + (m : Int) := by omega
  have hin : i ≤ n := by omega
  have htn : ((i : Int) + (m : Int)).toNat = i + m := by omega
  have hb2 : ¬ (cap = i + m) := by omega
  have hb3 : (i : Int) ≤ (n : Int) + (m : Int) := by omega
  have hb4 : ¬ (cap = i) := by omega
  have hsz : ∀ w, (Go.sizeOf 37).run Tryz.prog w = .ok 2 w := fun w => by
    have := run_siz' (P := Tryz.prog) (t := 37) (by rw [c37]; decide) w
    rwa [c37] at this
  have hfz : ∀ k, w.frozen? ⟨vb, k, none⟩ = false := fun k => by simp [World.frozen?, hvb]
  have hov : ∀ lb cb, (callFunc 134 #[.slice (some ⟨vb, 0, none⟩) m vc, .slice (some ⟨b, (i + m) * 2, none⟩) lb cb]).run Tryz.prog w = .ok (.value (.bool false)) w := fun lb cb => by
    rw [run_callFunc_extern Tryz.func134 (by kernel_rfl) (by kernel_rfl) (by kernel_rfl) (e := Extern.SlicesOverlaps.overlaps #[27, 27] #[4]) (by kernel_rfl),
      Lib.run_overlaps_apart w 27 4 37 u27 2 hsz ⟨vb, 0, none⟩ ⟨b, (i + m) * 2, none⟩ m vc lb cb hne eu eb us.size cs.size (by simp [World.shape?, hvb]) (by simp [World.shape?, hb]) (by omega) (hfz _) (hfz _)]
    rfl
  have hA0 : (w.drew).heap[b]? = some (.cells cs eb (0, 0)) := hb
  obtain ⟨u1, hu1⟩ : ∃ u1, (cs.toList.drop (i * 2)).take ((n - i) * 2) = u1 := ⟨_, rfl⟩
  obtain ⟨u2, hu2⟩ : ∃ u2, us.toList.take (m * 2) = u2 := ⟨_, rfl⟩
  have hl1 : u1.length = (n - i) * 2 := by rw [← hu1]; simp; omega
  have hl2 : u2.length = m * 2 := by rw [← hu2]; simp; omega
  have h11 : ∀ v ∈ u1, v.oneCell' = true := fun v hv => h1c v (by
    rw [← hu1, show (n - i) * 2 = n * 2 - i * 2 by omega, ← List.drop_take] at hv
    exact List.mem_of_mem_drop hv)
  rw [hu2] at h1v
  rw [hu1, hu2]
  obtain ⟨A, hA⟩ : ∃ A, setL cs.toList ((i + m) * 2) u1 = A := ⟨_, rfl⟩
  have hcp1 : ∀ ty dc sc, (Builtin.copy_ #[27, 27] ty #[.slice (some ⟨b, (i + m) * 2, none⟩) (n + m - (i + m)) dc, .slice (some ⟨b, i * 2, none⟩) (n + m - i) sc]).run Tryz.prog w.drew = .ok (goInt ((n - i : Nat) : Int)) (w.drew.setRow b A.toArray) := fun ty dc sc => by
    rw [← hA]
    refine run_copyZ (sl := n + m - i) (dl := n + m - (i + m)) (m := n - i) (o := (i + m) * 2) (sb := b) (so := i * 2) (us := u1) u27 hsz hA0 (by omega) hl1 (fun j v hj => ?_) h11 (by rw [hl1]; omega)
    rw [← hu1, List.getElem?_take] at hj
    split at hj
    · rw [List.getElem?_drop] at hj
      simp only [World.cell?, hA0, ← Array.getElem?_toList]
      simpa using hj
    · cases hj
  obtain ⟨W1, hW1⟩ : ∃ W1, W1 = w.drew.setRow b A.toArray := ⟨_, rfl⟩
  rw [hA, ← hW1]
  have hA1 : W1.heap[b]? = some (.cells A.toArray eb (0, 0)) := by rw [hW1]; exact setRow_heap w.drew b cs _ eb (0, 0) hA0
  have hA2 : W1.heap[vb]? = some (.cells us eu (0, 0)) := by rw [hW1, setRow_other _ _ _ _ hne]; exact hvb
  have hAl : A.length = cs.size := by rw [← hA, setL_length (by rw [hl1, Array.length_toList]; omega), Array.length_toList]
  have hcp2 : ∀ ty dc, (Builtin.copy_ #[27, 27] ty #[.slice (some ⟨b, i * 2, none⟩) (n + m - i) dc, .slice (some ⟨vb, 0, none⟩) m vc]).run Tryz.prog W1 = .ok (goInt m) (W1.setRow b (setL A (i * 2) u2).toArray) := fun ty dc => by
    have := run_copyZ (P := Tryz.prog) (ty := ty) (dc := dc) (dl := n + m - i) (sc := vc) u27 hsz hA1 (o := i * 2) (sb := vb) (so := 0) (sl := m) (m := m) (us := u2) (by omega) hl2 (fun j v hj => by
      rw [← hu2, List.getElem?_take] at hj
      split at hj
      · simp only [World.cell?, hA2, ← Array.getElem?_toList]
        simpa using hj
      · cases hj) h1v (by rw [hl2, List.size_toArray, hAl]; omega)
    exact this
  rw [← hW1] at hcp1
  clear hA0 hA1 hA2 hW1 hb hcs hvb hus h1c h1v hfz hl1 hl2 h11 hAl hu1 hu2
  go_enter Tryz.func112, Tryz.ntmps112
  go_wp2_with (simp only [hov])
  go_region_law_o (refine step_copy_runI rfl _ _ 27 27 rfl _ _ (by simp [Act.eval, Act.put]) (by simp [Act.eval, Act.put]) (hcp1 _ _ _) ?_)
  go_wp2_with (at_builtin; refine wpList_copy_runI _ rfl _ _ 27 27 rfl _ _ rfl rfl (hcp2 _ _) ?_)
  go_ret
  exact ⟨rfl, rfl⟩
set_option maxHeartbeats 4000000 in
set_option maxRecDepth 100000 in
theorem ins112_grow (w : World) (b cap n i m vb vc : Nat) (cs us : Array Value) (eb eu : TypeId) (hi : i < n) (hm : 0 < m) (hnc : n ≤ cap) (hroom : cap < n + m) (hbig : (n + m) * 32 ≤ 140737488355328)
    (hb : w.heap[b]? = some (.cells cs eb (0, 0))) (hcs : cs.size = cap * 2) (hvb : w.heap[vb]? = some (.cells us eu (0, 0))) (hus : us.size = vc * 2) (hmv : m ≤ vc) (hne : vb ≠ b)
    (h1c : ∀ v ∈ cs.toList.take (n * 2), v.oneCell' = true) (h1v : ∀ v ∈ us.toList.take (m * 2), v.oneCell' = true) :
    Calls Tryz.prog 112 #[.slice (some ⟨b, 0, none⟩) n cap, .int .i64 i, .slice (some ⟨vb, 0, none⟩) m vc] w fun ex w' =>
      ∃ G CE, n + m ≤ G ∧ G ≤ maxLen ∧ CE.size = G * 2 ∧ CE.toList.take (i * 2) = cs.toList.take (i * 2) ∧ ex = .returned (.slice (some ⟨w.heap.size, 0, none⟩) (n + m) G) ∧
        w'.heap = (((w.drew.alloc (.cells CE 37)).setRow w.heap.size (setL CE.toList (i * 2) (us.toList.take (m * 2))).toArray).setRow w.heap.size (setL (setL CE.toList (i * 2) (us.toList.take (m * 2))) ((i + m) * 2) ((cs.toList.drop (i * 2)).take ((n - i) * 2))).toArray).heap ∧
        w'.os = w.os ∧ w'.tape = w.tape ∧ w'.output = w.output ∧ w.drawn ≤ w'.drawn := by
  have mixed := orders
  have hz1 : ¬ ((m : Int) = 0) := by omega
  have hz2 : ¬ ((i : Int) = (n : Int)) := by omega
  have hz3 : (cap : Int) < (n : Int) + (m : Int) := by omega
  have hsz : ∀ w, (Go.sizeOf 37).run Tryz.prog w = .ok 2 w := fun w => by
    have := run_siz' (P := Tryz.prog) (t := 37) (by rw [c37]; decide) w
    rwa [c37] at this
  obtain ⟨G, CE, hG1, hG2, hG3, hG4, hrz⟩ := run_appendZ (w := w) (kq := .i64) (s := i) (k := n + m - i) (cap := cap) u27 u3 k37 (by rw [c37]; decide) (by rw [b37]; decide) hb (by omega) (by rw [c37]; omega) (by omega) (by rw [b37]; omega)
  rw [c37] at hG3 hG4
  rw [show i + (n + m - i) = n + m by omega] at hG1 hrz
  rw [show ((n + m - i : Nat) : Int) = (n : Int) + (m : Int) - (i : Int) by omega] at hrz
  have hbw : b < w.heap.size := (Array.getElem?_eq_some_iff.1 hb).1
  have hvw : vb < w.heap.size := (Array.getElem?_eq_some_iff.1 hvb).1
  obtain ⟨nb, hnb⟩ : ∃ nb, w.heap.size = nb := ⟨_, rfl⟩
  obtain ⟨W1, hW1⟩ : ∃ W1, W1 = w.drew.alloc (.cells CE 37) := ⟨_, rfl⟩
  obtain ⟨u1, hu1⟩ : ∃ u1, (cs.toList.drop (i * 2)).take ((n - i) * 2) = u1 := ⟨_, rfl⟩
  obtain ⟨u2, hu2⟩ : ∃ u2, us.toList.take (m * 2) = u2 := ⟨_, rfl⟩
  have hl1 : u1.length = (n - i) * 2 := by rw [← hu1]; simp; omega
  have hl2 : u2.length = m * 2 := by rw [← hu2]; simp; omega
  have h11 : ∀ v ∈ u1, v.oneCell' = true := fun v hv => h1c v (by
    rw [← hu1, show (n - i) * 2 = n * 2 - i * 2 by omega, ← List.drop_take] at hv
    exact List.mem_of_mem_drop hv)
  rw [hu2] at h1v
  have hA0 : W1.heap[nb]? = some (.cells CE 37 (0, 0)) := by rw [hW1, ← hnb]; exact alloc_new w.drew _
  have hAb : W1.heap[b]? = some (.cells cs eb (0, 0)) := by rw [hW1, ← hb]; exact alloc_old w.drew _ hbw
  have hAv : W1.heap[vb]? = some (.cells us eu (0, 0)) := by rw [hW1, ← hvb]; exact alloc_old w.drew _ hvw
  obtain ⟨A, hA⟩ : ∃ A, setL CE.toList (i * 2) u2 = A := ⟨_, rfl⟩
  obtain ⟨B, hB⟩ : ∃ B, setL A ((i + m) * 2) u1 = B := ⟨_, rfl⟩
  have hAl : A.length = CE.size := by rw [← hA, setL_length (by rw [hl2, Array.length_toList]; omega), Array.length_toList]
  have hcpA : ∀ (W : World), W.heap = W1.heap → ∀ ty dc, (Builtin.copy_ #[27, 27] ty #[.slice (some ⟨nb, i * 2, none⟩) (n + m - i) dc, .slice (some ⟨vb, 0, none⟩) m vc]).run Tryz.prog W = .ok (goInt (m : Int)) (W.setRow nb A.toArray) := fun W hW ty dc => by
    rw [← hA]
    refine run_copyZ (sl := m) (dl := n + m - i) (m := m) (o := i * 2) (sb := vb) (so := 0) (us := u2) u27 hsz (by rw [hW]; exact hA0) (by omega) hl2 (fun j v hj => ?_) h1v (by rw [hl2]; omega)
    rw [← hu2, List.getElem?_take] at hj
    split at hj
    · simp only [World.cell?, hW, hAv, ← Array.getElem?_toList]
      simpa using hj
    · cases hj
  have hcpB : ∀ (W : World), W.heap = (W1.setRow nb A.toArray).heap → ∀ ty dc sc, (Builtin.copy_ #[27, 27] ty #[.slice (some ⟨nb, (i + m) * 2, none⟩) (n + m - (i + m)) dc, .slice (some ⟨b, i * 2, none⟩) (n - i) sc]).run Tryz.prog W = .ok (goInt ((n - i : Nat) : Int)) (W.setRow nb B.toArray) := fun W hW ty dc sc => by
    rw [← hB]
    have hC := run_copyZ (P := Tryz.prog) (w := W) (t := 27) (ty := ty) (dc := dc) (sc := sc) (sl := n - i) (dl := n + m - (i + m)) (m := n - i) (o := (i + m) * 2) (sb := b) (so := i * 2) (us := u1) u27 hsz (b := nb) (cs := A.toArray) (eb := 37) (by rw [hW]; exact setRow_heap W1 nb CE _ 37 (0, 0) hA0) (by omega) hl1 (fun j v hj => by
      rw [← hu1, List.getElem?_take] at hj
      split at hj
      · rw [List.getElem?_drop] at hj
        simp only [World.cell?, hW]
        rw [setRow_other _ _ _ _ (by omega), hAb]
        simp only [← Array.getElem?_toList]
        simpa using hj
      · cases hj) h11 (by rw [hl1, List.size_toArray, hAl]; omega)
    exact hC
  rw [hnb, ← hW1] at hrz
  rw [hu1, hu2]
  have hfin : ∀ (ex : Ending) (w' : World), (ex = .returned (.slice (some ⟨nb, 0, none⟩) (n + m) G) ∧ w'.heap = ((W1.setRow nb A.toArray).setRow nb B.toArray).heap ∧ w'.os = w.os ∧ w'.tape = w.tape ∧ w'.output = w.output ∧ w.drawn ≤ w'.drawn) → ∃ G CE, n + m ≤ G ∧ G ≤ maxLen ∧ CE.size = G * 2 ∧ CE.toList.take (i * 2) = cs.toList.take (i * 2) ∧ ex = .returned (.slice (some ⟨w.heap.size, 0, none⟩) (n + m) G) ∧
        w'.heap = (((w.drew.alloc (.cells CE 37)).setRow w.heap.size (setL CE.toList (i * 2) u2).toArray).setRow w.heap.size (setL (setL CE.toList (i * 2) u2) ((i + m) * 2) u1).toArray).heap ∧
        w'.os = w.os ∧ w'.tape = w.tape ∧ w'.output = w.output ∧ w.drawn ≤ w'.drawn := fun ex w' hp => ⟨G, CE, hG1, hG2, hG3, hG4, by rw [hnb]; exact hp.1, by rw [hnb, hA, hB, ← hW1]; exact hp.2.1, hp.2.2⟩
  refine Calls.mono ?_ hfin
  have hd0 : w.os = W1.os ∧ w.tape = W1.tape ∧ w.output = W1.output ∧ w.drawn + 1 = W1.drawn := by rw [hW1]; exact ⟨rfl, rfl, rfl, rfl⟩
  obtain ⟨hd1, hd2, hd3, hd4⟩ := hd0
  rw [hd1, hd2, hd3]
  have hd5 : w.drawn ≤ W1.drawn := by omega
  have hGi : ¬ (G = i) := by omega
  have hGim : ¬ (G = i + m) := by omega
  have hci : ¬ (cap = i) := by omega
  have hGn : n + m ≤ G := hG1
  have hG63 : G ≤ 9223372036854775807 := by simp only [maxLen] at hG2; omega
  have hw1 : IntKind.i64.wrap ((i : Int) + (m : Int)) = (i : Int) + (m : Int) := by rw [IntKind.wrap_i64]; omega
  have hb1 : (0 : Int) ≤ (i : Int) + (m : Int) := by omega
  have hin : i ≤ n := by omega
  have htn : ((i : Int) + (m : Int)).toNat = i + m := by omega
  have hb3 : (i : Int) ≤ (n : Int) := by omega
  have hb5 : (i : Int) ≤ (n : Int) + (m : Int) := by omega
  clear hfin hG1 hG2 hG3 hG4 hnb hd1 hd2 hd3 hd4 hA0 hAb hAv hAl hW1 hb hcs hvb hus h1c h1v hl1 hl2 h11 hu1 hu2 hA hB hbig hsz
  go_enter Tryz.func112, Tryz.ntmps112
  go_wp2_with (first
    | (at_builtin; refine Lib.wpList_append_run _ rfl _ _ _ _ rfl _ _ rfl rfl _ _ (hrz _) ?_)
    | (at_builtin; refine wpList_copy_runI _ rfl _ _ 27 27 rfl _ _ rfl rfl (hcpA _ rfl _ _) ?_)
    | (at_builtin; refine wpList_copy_runI _ rfl _ _ 27 27 rfl _ _ rfl rfl (hcpB _ rfl _ _ _) ?_))
  go_region_law_o (refine step_copy_runI rfl _ _ 27 27 rfl (.slice (some ⟨nb, (i + m) * 2, none⟩) (n + m - (i + m)) (G - (i + m))) (.slice (some ⟨b, i * 2, none⟩) (n - i) (cap - i)) (by simp [Act.eval, Act.put]) (by simp [Act.eval, Act.put]) (hcpB (W1.setRow nb A.toArray).drew rfl _ _ _) ?_)
  go_wp2
  go_ret
  exact ⟨rfl, rfl, rfl, rfl, rfl, Nat.le_succ_of_le hd5⟩
theorem insAt112 : InsAt Tryz.prog 112 2 := by
  intro w b cap n i vb vc cs eb us eu hi hnc hcm hn hb hcs hvb hus hv1 hne h1c h1v
  by_cases hroom : n + 1 ≤ cap
  · refine (ins112_room w b cap n i 1 vb vc cs us eb eu hi (by omega) hroom (by simp only [maxLen] at hcm; omega) hb hcs hvb hus hv1 hne h1c (by simpa using h1v)).mono fun ex w' hp => ?_
    obtain ⟨rfl, rfl⟩ := hp
    exact insPost_room hi hroom hcm hb hcs (by omega)
  · refine (ins112_grow w b cap n i 1 vb vc cs us eb eu hi (by omega) hnc (by omega) (by omega) hb hcs hvb hus hv1 hne h1c (by simpa using h1v)).mono fun ex w' hp => ?_
    obtain ⟨G, CE, hG1, hG2, hG3, hG4, rfl, hh, ho, ht, hp, hd⟩ := hp
    exact insPost_grow hi hG1 hG2 hG3 (by omega) hG4 (by omega) hh ho ht hp hd
end Go.Ai

set_option linter.unusedVariables false
set_option linter.unusedSimpArgs false
set_option maxHeartbeats 8000000
set_option maxRecDepth 100000
namespace Go.Ai
open Go.Proofs
attribute [local go_sem] QH QR V.noimm V.noimms frzZs frzZ frzA frzV frzVs frzBox boxLen Option.isSome cond_true cond_false aopD calW flatV stepX amap stepY alookup afind aupdate adelete amlen arange ameq mapOf akeq pl V.mapT V.mapTs Option.bind stepK runK guardD stepE runD callD compact selB callK evS ofVal ofVals scalar aop ares mkRes V.rn V.rns V.cells? cellsAt Go.Ai.part aload astore setL V.atom abin aun intBin shiftBin aconv fieldOf aindexAddr aindex bound? aslice aarr abuild afill alen nilP nilS nilF aeq eqCells eqCell Go.Ai.known strBin abuiltin aappend abuildSlice arowsFill amakeSlice acopy aclear minmax rowsOf numsT notStr isIntD isByte V.pz V.pzs T.toV frz1 frz scalT scalTs chunkT List.range List.range.loop ite_true ite_false if_true if_false ne_eq implies_true forall_const eq_self IntKind.bits kPostKF_ret kPostKF_normal kPostX_ret kPostX_normal bsl nil2K nil2 kPostFW_ret kPostFW_normal kPostKM_ret kPostKM_normal kPostXK_ret kPostXK_normal
theorem mc_eq (x y : Mc) : (x.a == y.a && (x.b == y.b && (x.c == y.c && (x.d == y.d && (x.e == y.e && x.f == y.f))))) = decide (x = y) := by
  obtain ⟨a, b, c, d, e, f⟩ := x
  obtain ⟨a', b', c', d', e', f'⟩ := y
  rw [Bool.eq_iff_iff]
  simp [and_assoc]
theorem pv_eq (p q : Pv) : decide (p = q) = (decide (p.own = q.own) && (decide (p.ks = q.ks) && (decide (p.ms = q.ms) && (decide (p.cs = q.cs) && decide (p.bs = q.bs))))) := by
  obtain ⟨a, b, c, d, e⟩ := p
  obtain ⟨a2, b2, c2, d2, e2⟩ := q
  rw [Bool.eq_iff_iff]
  simp
def Sr1 (p q : Pv) (n : Nat) (S : St) : Prop :=
  ∃ (j : Nat) (mv : List Nat), S = ⟨tms [(2, .ptr 0 0 0), (3, .ptr 1 0 0), (5, vI j)], [bxP p, bxP q], mv⟩ ∧ j ≤ p.ms.length ∧ n = p.ms.length - j ∧ p.ms.take j = q.ms.take j
def Sr2 (p q : Pv) (n : Nat) (S : St) : Prop :=
  ∃ (j : Nat) (mv : List Nat), S = ⟨tms [(2, .ptr 0 0 0), (3, .ptr 1 0 0), (6, vI j)], [bxP p, bxP q], mv⟩ ∧ j ≤ p.cs.length ∧ n = p.cs.length - j ∧ p.cs.take j = q.cs.take j
theorem pc56 (p q : Pv) (hp : okL p) : AC Tryz.prog 56 [pvV p, pvV q] [] (eqR (vB (decide (p.ms = q.ms) && decide (p.cs = q.cs)))) := by
  obtain ⟨l1, l2, l3, l4, l5⟩ := hp
  refine AC_plain orders Tryz.func56 rfl (by kernel_rfl) (by kernel_rfl) Tryz.ntmps56 (by simp) ?_
  unfold Tryz.f56
  by_cases h1 : p.ms.length = q.ms.length
  · have h1' : ((p.ms.length : Int) != (q.ms.length : Int)) = false := by simp [h1]
    by_cases h2 : p.cs.length = q.cs.length
    · have h2' : ((p.cs.length : Int) != (q.cs.length : Int)) = false := by simp [h2]
      (have hwq := trivial; repeat' (first | simp (maxSteps:=9999999)-implicitDefEqProofs only [go_sem,simprocAttr,hwq,FT3,FT4,FT5,FT23,FT24,FT25,FT26,FT27,FT29,FT32,FT34,FT35,FT37,FT59,List.length_map,List.getElem?_map,Int.natCast_nonneg,List.length_append,List.map_append,h1',h2'] | (refine condK_split ?_ ?_ <;> intro hwq) | (refine two_split ?_ ?_) | (refine guardK_split ?_ ?_ <;> intro hwq) | (refine guardE_split ?_ ?_ <;> intro hwq) | (refine awp_drawW [] (by decide +kernel) ?_; have hwq := trivial) | fail))
      refine awp_loopK (Sr1 p q) p.ms.length _ (Weak.cutI 2 [2, 3, 5] ?_ ?_) ⟨0, _, rfl, by omega, rfl, by simp⟩ ?_
      · simp (maxSteps:=9999999)-implicitDefEqProofs only [simprocAttr,QH,Option.isSome,cond_true,cond_false,Option.bind,selB,V.rn,V.rns,Go.Ai.known,V.pz,V.pzs,T.toV,frz1,List.range,List.range.loop,ite_true,ite_false,if_true,if_false,ne_eq,implies_true,forall_const,eq_self,IntKind.bits,upd_tmsS,selT_cons,selT_nil,List.length_map,List.getElem?_map,Int.natCast_nonneg,List.length_append,List.map_append]
      · simp (maxSteps:=9999999)-implicitDefEqProofs only [simprocAttr,QH,Option.isSome,cond_true,cond_false,Option.bind,selB,V.rn,V.rns,Go.Ai.known,V.pz,V.pzs,T.toV,frz1,List.range,List.range.loop,ite_true,ite_false,if_true,if_false,ne_eq,implies_true,forall_const,eq_self,IntKind.bits,upd_tmsS,selT_cons,selT_nil]
      rintro kk S ⟨j, mv, rfl, hj, rfl, hts⟩
      have wj : IntKind.i64.wrap ((j : Int) + 1) = (j : Int) + 1 := wI64 _ (by omega) (by omega)
      by_cases hjl : j < p.ms.length
      · have hjl' : (j : Int) < (p.ms.length : Int) := by omega
        have hjb' : (j : Int) < (q.ms.length : Int) := by omega
        have hgj : p.ms[j]? = some p.ms[j] := List.getElem?_eq_getElem hjl
        have hgb : q.ms[j]? = some (q.ms[j]'(by omega)) := List.getElem?_eq_getElem (by omega)
        obtain ⟨x, hx⟩ : ∃ x, p.ms[j] = x := ⟨_, rfl⟩
        obtain ⟨y, hy⟩ : ∃ y, q.ms[j]'(by omega) = y := ⟨_, rfl⟩
        rw [hx] at hgj
        rw [hy] at hgb
        have hee := mp_eq x y
        by_cases hxy : x = y
        · have hxy' : (!decide (x = y)) = false := by simp [hxy]
          (have hwq := trivial; repeat' (first | simp (maxSteps:=9999999)-implicitDefEqProofs only [go_sem,simprocAttr,hwq,FT3,FT4,FT5,FT23,FT24,FT25,FT26,FT27,FT29,FT32,FT34,FT35,FT37,FT59,List.length_map,List.getElem?_map,Int.natCast_nonneg,List.length_append,List.map_append,hjl',hjb',hgj,hgb,wj,hee,hxy'] | (refine condK_split ?_ ?_ <;> intro hwq) | (refine two_split ?_ ?_) | (refine guardK_split ?_ ?_ <;> intro hwq) | (refine guardE_split ?_ ?_ <;> intro hwq) | (refine awp_drawW [] (by decide +kernel) ?_; have hwq := trivial) | fail))
          refine ⟨p.ms.length - (j + 1), _, by omega, Weak.cutI 2 [2, 3, 5] ?_ ?_, j + 1, _, rfl, by omega, rfl, by rw [take_in hgj, take_in hgb, hts, hxy]⟩
          · simp (maxSteps:=9999999)-implicitDefEqProofs only [simprocAttr,QH,Option.isSome,cond_true,cond_false,Option.bind,selB,V.rn,V.rns,Go.Ai.known,V.pz,V.pzs,T.toV,frz1,List.range,List.range.loop,ite_true,ite_false,if_true,if_false,ne_eq,implies_true,forall_const,eq_self,IntKind.bits,upd_tmsS,selT_cons,selT_nil,List.length_map,List.getElem?_map,Int.natCast_nonneg,List.length_append,List.map_append]
          · simp (maxSteps:=9999999)-implicitDefEqProofs only [simprocAttr,QH,Option.isSome,cond_true,cond_false,Option.bind,selB,V.rn,V.rns,Go.Ai.known,V.pz,V.pzs,T.toV,frz1,List.range,List.range.loop,ite_true,ite_false,if_true,if_false,ne_eq,implies_true,forall_const,eq_self,IntKind.bits,upd_tmsS,selT_cons,selT_nil,List.length_map,List.getElem?_map,Int.natCast_nonneg,List.length_append,List.map_append]
        · have hxy' : (!decide (x = y)) = true := by simp [hxy]
          have hne : p.ms ≠ q.ms := by
            intro h
            rw [h, hgb] at hgj
            exact hxy (Option.some.inj hgj).symm
          rw [decide_eq_false hne, Bool.false_and]
          (have hwq := trivial; repeat' (first | simp (maxSteps:=9999999)-implicitDefEqProofs only [go_sem,simprocAttr,hwq,FT3,FT4,FT5,FT23,FT24,FT25,FT26,FT27,FT29,FT32,FT34,FT35,FT37,FT59,List.length_map,List.getElem?_map,Int.natCast_nonneg,List.length_append,List.map_append,hjl',hjb',hgj,hgb,wj,hee,hxy'] | (refine condK_split ?_ ?_ <;> intro hwq) | (refine two_split ?_ ?_) | (refine guardK_split ?_ ?_ <;> intro hwq) | (refine guardE_split ?_ ?_ <;> intro hwq) | (refine awp_drawW [] (by decide +kernel) ?_; have hwq := trivial) | fail))
      · have hjl' : ¬ (j : Int) < (p.ms.length : Int) := by omega
        have hms : p.ms = q.ms := by
          rw [List.take_of_length_le (by omega), List.take_of_length_le (by omega)] at hts
          exact hts
        (have hwq := trivial; repeat' (first | simp (maxSteps:=9999999)-implicitDefEqProofs only [go_sem,simprocAttr,hwq,FT3,FT4,FT5,FT23,FT24,FT25,FT26,FT27,FT29,FT32,FT34,FT35,FT37,FT59,List.length_map,List.getElem?_map,Int.natCast_nonneg,List.length_append,List.map_append,hjl'] | (refine condK_split ?_ ?_ <;> intro hwq) | (refine two_split ?_ ?_) | (refine guardK_split ?_ ?_ <;> intro hwq) | (refine guardE_split ?_ ?_ <;> intro hwq) | (refine awp_drawW [] (by decide +kernel) ?_; have hwq := trivial) | fail))
        refine awp_loopK (Sr2 p q) p.cs.length _ (Weak.cutI 2 [2, 3, 6] ?_ ?_) ⟨0, _, rfl, by omega, rfl, by simp⟩ ?_
        · simp (maxSteps:=9999999)-implicitDefEqProofs only [simprocAttr,QH,Option.isSome,cond_true,cond_false,Option.bind,selB,V.rn,V.rns,Go.Ai.known,V.pz,V.pzs,T.toV,frz1,List.range,List.range.loop,ite_true,ite_false,if_true,if_false,ne_eq,implies_true,forall_const,eq_self,IntKind.bits,upd_tmsS,selT_cons,selT_nil,List.length_map,List.getElem?_map,Int.natCast_nonneg,List.length_append,List.map_append]
        · simp (maxSteps:=9999999)-implicitDefEqProofs only [simprocAttr,QH,Option.isSome,cond_true,cond_false,Option.bind,selB,V.rn,V.rns,Go.Ai.known,V.pz,V.pzs,T.toV,frz1,List.range,List.range.loop,ite_true,ite_false,if_true,if_false,ne_eq,implies_true,forall_const,eq_self,IntKind.bits,upd_tmsS,selT_cons,selT_nil]
        rintro kk S ⟨j, mv, rfl, hj, rfl, hts⟩
        have wj : IntKind.i64.wrap ((j : Int) + 1) = (j : Int) + 1 := wI64 _ (by omega) (by omega)
        by_cases hjl : j < p.cs.length
        · have hjl' : (j : Int) < (p.cs.length : Int) := by omega
          have hjb' : (j : Int) < (q.cs.length : Int) := by omega
          have hgj : p.cs[j]? = some p.cs[j] := List.getElem?_eq_getElem hjl
          have hgb : q.cs[j]? = some (q.cs[j]'(by omega)) := List.getElem?_eq_getElem (by omega)
          obtain ⟨x, hx⟩ : ∃ x, p.cs[j] = x := ⟨_, rfl⟩
          obtain ⟨y, hy⟩ : ∃ y, q.cs[j]'(by omega) = y := ⟨_, rfl⟩
          rw [hx] at hgj
          rw [hy] at hgb
          have hee := cr_eq x y
          by_cases hxy : x = y
          · have hxy' : (!decide (x = y)) = false := by simp [hxy]
            (have hwq := trivial; repeat' (first | simp (maxSteps:=9999999)-implicitDefEqProofs only [go_sem,simprocAttr,hwq,FT3,FT4,FT5,FT23,FT24,FT25,FT26,FT27,FT29,FT32,FT34,FT35,FT37,FT59,List.length_map,List.getElem?_map,Int.natCast_nonneg,List.length_append,List.map_append,hjl',hjb',hgj,hgb,wj,hee,hxy'] | (refine condK_split ?_ ?_ <;> intro hwq) | (refine two_split ?_ ?_) | (refine guardK_split ?_ ?_ <;> intro hwq) | (refine guardE_split ?_ ?_ <;> intro hwq) | (refine awp_drawW [] (by decide +kernel) ?_; have hwq := trivial) | fail))
            refine ⟨p.cs.length - (j + 1), _, by omega, Weak.cutI 2 [2, 3, 6] ?_ ?_, j + 1, _, rfl, by omega, rfl, by rw [take_in hgj, take_in hgb, hts, hxy]⟩
            · simp (maxSteps:=9999999)-implicitDefEqProofs only [simprocAttr,QH,Option.isSome,cond_true,cond_false,Option.bind,selB,V.rn,V.rns,Go.Ai.known,V.pz,V.pzs,T.toV,frz1,List.range,List.range.loop,ite_true,ite_false,if_true,if_false,ne_eq,implies_true,forall_const,eq_self,IntKind.bits,upd_tmsS,selT_cons,selT_nil,List.length_map,List.getElem?_map,Int.natCast_nonneg,List.length_append,List.map_append]
            · simp (maxSteps:=9999999)-implicitDefEqProofs only [simprocAttr,QH,Option.isSome,cond_true,cond_false,Option.bind,selB,V.rn,V.rns,Go.Ai.known,V.pz,V.pzs,T.toV,frz1,List.range,List.range.loop,ite_true,ite_false,if_true,if_false,ne_eq,implies_true,forall_const,eq_self,IntKind.bits,upd_tmsS,selT_cons,selT_nil,List.length_map,List.getElem?_map,Int.natCast_nonneg,List.length_append,List.map_append]
          · have hxy' : (!decide (x = y)) = true := by simp [hxy]
            have hne : p.cs ≠ q.cs := by
              intro h
              rw [h, hgb] at hgj
              exact hxy (Option.some.inj hgj).symm
            rw [decide_eq_false hne, Bool.and_false]
            (have hwq := trivial; repeat' (first | simp (maxSteps:=9999999)-implicitDefEqProofs only [go_sem,simprocAttr,hwq,FT3,FT4,FT5,FT23,FT24,FT25,FT26,FT27,FT29,FT32,FT34,FT35,FT37,FT59,List.length_map,List.getElem?_map,Int.natCast_nonneg,List.length_append,List.map_append,hjl',hjb',hgj,hgb,wj,hee,hxy'] | (refine condK_split ?_ ?_ <;> intro hwq) | (refine two_split ?_ ?_) | (refine guardK_split ?_ ?_ <;> intro hwq) | (refine guardE_split ?_ ?_ <;> intro hwq) | (refine awp_drawW [] (by decide +kernel) ?_; have hwq := trivial) | fail))
        · have hjl' : ¬ (j : Int) < (p.cs.length : Int) := by omega
          have hcs : p.cs = q.cs := by
            rw [List.take_of_length_le (by omega), List.take_of_length_le (by omega)] at hts
            exact hts
          have he : (decide (p.ms = q.ms) && decide (p.cs = q.cs)) = true := by simp [hms, hcs]
          rw [he]
          (have hwq := trivial; repeat' (first | simp (maxSteps:=9999999)-implicitDefEqProofs only [go_sem,simprocAttr,hwq,FT3,FT4,FT5,FT23,FT24,FT25,FT26,FT27,FT29,FT32,FT34,FT35,FT37,FT59,List.length_map,List.getElem?_map,Int.natCast_nonneg,List.length_append,List.map_append,hjl'] | (refine condK_split ?_ ?_ <;> intro hwq) | (refine two_split ?_ ?_) | (refine guardK_split ?_ ?_ <;> intro hwq) | (refine guardE_split ?_ ?_ <;> intro hwq) | (refine awp_drawW [] (by decide +kernel) ?_; have hwq := trivial) | fail))
    · have h2' : ((p.cs.length : Int) != (q.cs.length : Int)) = true := by simp; omega
      have hne : p.cs ≠ q.cs := fun h => h2 (by rw [h])
      rw [decide_eq_false hne, Bool.and_false]
      (have hwq := trivial; repeat' (first | simp (maxSteps:=9999999)-implicitDefEqProofs only [go_sem,simprocAttr,hwq,FT3,FT4,FT5,FT23,FT24,FT25,FT26,FT27,FT29,FT32,FT34,FT35,FT37,FT59,List.length_map,List.getElem?_map,Int.natCast_nonneg,List.length_append,List.map_append,h1',h2'] | (refine condK_split ?_ ?_ <;> intro hwq) | (refine two_split ?_ ?_) | (refine guardK_split ?_ ?_ <;> intro hwq) | (refine guardE_split ?_ ?_ <;> intro hwq) | (refine awp_drawW [] (by decide +kernel) ?_; have hwq := trivial) | fail))
  · have h1' : ((p.ms.length : Int) != (q.ms.length : Int)) = true := by simp; omega
    have hne : p.ms ≠ q.ms := fun h => h1 (by rw [h])
    rw [decide_eq_false hne, Bool.false_and]
    (have hwq := trivial; repeat' (first | simp (maxSteps:=9999999)-implicitDefEqProofs only [go_sem,simprocAttr,hwq,FT3,FT4,FT5,FT23,FT24,FT25,FT26,FT27,FT29,FT32,FT34,FT35,FT37,FT59,List.length_map,List.getElem?_map,Int.natCast_nonneg,List.length_append,List.map_append,h1'] | (refine condK_split ?_ ?_ <;> intro hwq) | (refine two_split ?_ ?_) | (refine guardK_split ?_ ?_ <;> intro hwq) | (refine guardE_split ?_ ?_ <;> intro hwq) | (refine awp_drawW [] (by decide +kernel) ?_; have hwq := trivial) | fail))
end Go.Ai

set_option linter.unusedVariables false
set_option linter.unusedSimpArgs false
set_option maxHeartbeats 8000000
set_option maxRecDepth 100000
namespace Go.Ai
open Go.Proofs
attribute [local go_sem] QH QR V.noimm V.noimms frzZs frzZ frzA frzV frzVs frzBox boxLen Option.isSome cond_true cond_false aopD calW flatV stepX amap stepY alookup afind aupdate adelete amlen arange ameq mapOf akeq pl V.mapT V.mapTs Option.bind stepK runK guardD stepE runD callD compact selB callK evS ofVal ofVals scalar aop ares mkRes V.rn V.rns V.cells? cellsAt Go.Ai.part aload astore setL V.atom abin aun intBin shiftBin aconv fieldOf aindexAddr aindex bound? aslice aarr abuild afill alen nilP nilS nilF aeq eqCells eqCell Go.Ai.known strBin abuiltin aappend abuildSlice arowsFill amakeSlice acopy aclear minmax rowsOf numsT notStr isIntD isByte V.pz V.pzs T.toV frz1 frz scalT scalTs chunkT List.range List.range.loop ite_true ite_false if_true if_false ne_eq implies_true forall_const eq_self IntKind.bits kPostKF_ret kPostKF_normal kPostX_ret kPostX_normal bsl nil2K nil2 kPostFW_ret kPostFW_normal kPostKM_ret kPostKM_normal kPostXK_ret kPostXK_normal
def Sk1 (p q : Pv) (n : Nat) (S : St) : Prop :=
  ∃ (j : Nat) (mv : List Nat), S = ⟨tms [(2, .ptr 0 0 0), (3, .ptr 1 0 0), (5, vI j)], [bxP p, bxP q], mv⟩ ∧ j ≤ p.ks.length ∧ n = p.ks.length - j ∧ p.ks.take j = q.ks.take j
def Sk2 (p q : Pv) (n : Nat) (S : St) : Prop :=
  ∃ (j : Nat) (mv : List Nat), S = ⟨tms [(2, .ptr 0 0 0), (3, .ptr 1 0 0), (6, vI j)], [bxP p, bxP q], mv⟩ ∧ j ≤ p.bs.length ∧ n = p.bs.length - j ∧ p.bs.take j = q.bs.take j
theorem pc14 (p q : Pv) (hp : okL p) : AC Tryz.prog 14 [pvV p, pvV q] [] (eqR (vB (decide (p = q)))) := by
  have n56 := pc56 p q hp
  obtain ⟨l1, l2, l3, l4, l5⟩ := hp
  have ho := mc_eq p.own q.own
  have dif : p ≠ q → decide (p = q) = false := fun h => decide_eq_false h
  refine AC_plain orders Tryz.func14 rfl (by kernel_rfl) (by kernel_rfl) Tryz.ntmps14 (by simp) ?_
  unfold Tryz.f14
  by_cases h0 : p.own = q.own
  · rw [decide_eq_true h0] at ho
    by_cases h1 : p.ks.length = q.ks.length
    · have h1' : ((p.ks.length : Int) != (q.ks.length : Int)) = false := by simp [h1]
      by_cases h2 : p.bs.length = q.bs.length
      · have h2' : ((p.bs.length : Int) != (q.bs.length : Int)) = false := by simp [h2]
        by_cases h3 : p.ms = q.ms ∧ p.cs = q.cs
        · rw [decide_eq_true h3.1, decide_eq_true h3.2, Bool.and_self] at n56
          (have hwq := trivial; repeat' (first | simp (maxSteps:=9999999)-implicitDefEqProofs only [go_sem,simprocAttr,hwq,FT3,FT4,FT5,FT23,FT24,FT25,FT26,FT27,FT29,FT32,FT34,FT35,FT37,FT59,List.length_map,List.getElem?_map,Int.natCast_nonneg,List.length_append,List.map_append,ho,h1',h2'] | (refine condK_split ?_ ?_ <;> intro hwq) | (refine two_split ?_ ?_) | (refine guardK_split ?_ ?_ <;> intro hwq) | (refine guardE_split ?_ ?_ <;> intro hwq) | (refine awp_drawI 11 [] (List.range 29) [0, 1, 0, 7, 15, 31, 0, 64, 0, 448, 960, 1984, 4095, 8191, 16383, 32767, 16383, 131071, 262143, 524287, 16383, 1064959, 16383, 7356415, 15745023, 32522239, 67108863, 134217727, 268435455] (by decide +kernel) ?_; have hwq := trivial) | (refine awp_drawW [] (by decide +kernel) ?_; have hwq := trivial) | (refine call_plain n56 rfl rfl ?_; have hwq := trivial) | fail))
          refine awp_loopK (Sk1 p q) p.ks.length _ (Weak.cutI 2 [2, 3, 5] ?_ ?_) ⟨0, _, rfl, by omega, rfl, by simp⟩ ?_
          · simp (maxSteps:=9999999)-implicitDefEqProofs only [simprocAttr,QH,Option.isSome,cond_true,cond_false,Option.bind,selB,V.rn,V.rns,Go.Ai.known,V.pz,V.pzs,T.toV,frz1,List.range,List.range.loop,ite_true,ite_false,if_true,if_false,ne_eq,implies_true,forall_const,eq_self,IntKind.bits,upd_tmsS,selT_cons,selT_nil,List.length_map,List.getElem?_map,Int.natCast_nonneg,List.length_append,List.map_append]
          · simp (maxSteps:=9999999)-implicitDefEqProofs only [simprocAttr,QH,Option.isSome,cond_true,cond_false,Option.bind,selB,V.rn,V.rns,Go.Ai.known,V.pz,V.pzs,T.toV,frz1,List.range,List.range.loop,ite_true,ite_false,if_true,if_false,ne_eq,implies_true,forall_const,eq_self,IntKind.bits,upd_tmsS,selT_cons,selT_nil]
          rintro kk S ⟨j, mv, rfl, hj, rfl, hts⟩
          have wj : IntKind.i64.wrap ((j : Int) + 1) = (j : Int) + 1 := wI64 _ (by omega) (by omega)
          by_cases hjl : j < p.ks.length
          · have hjl' : (j : Int) < (p.ks.length : Int) := by omega
            have hjb' : (j : Int) < (q.ks.length : Int) := by omega
            have hgj : p.ks[j]? = some p.ks[j] := List.getElem?_eq_getElem hjl
            have hgb : q.ks[j]? = some (q.ks[j]'(by omega)) := List.getElem?_eq_getElem (by omega)
            obtain ⟨x, hx⟩ : ∃ x, p.ks[j] = x := ⟨_, rfl⟩
            obtain ⟨y, hy⟩ : ∃ y, q.ks[j]'(by omega) = y := ⟨_, rfl⟩
            rw [hx] at hgj
            rw [hy] at hgb
            have hee := trivial
            by_cases hxy : x = y
            · have hxy' : (x != y) = false := by simp [hxy]
              (have hwq := trivial; repeat' (first | simp (maxSteps:=9999999)-implicitDefEqProofs only [go_sem,simprocAttr,hwq,FT3,FT4,FT5,FT23,FT24,FT25,FT26,FT27,FT29,FT32,FT34,FT35,FT37,FT59,List.length_map,List.getElem?_map,Int.natCast_nonneg,List.length_append,List.map_append,hjl',hjb',hgj,hgb,wj,hee,hxy'] | (refine condK_split ?_ ?_ <;> intro hwq) | (refine two_split ?_ ?_) | (refine guardK_split ?_ ?_ <;> intro hwq) | (refine guardE_split ?_ ?_ <;> intro hwq) | (refine awp_drawI 11 [] (List.range 29) [0, 1, 0, 7, 15, 31, 0, 64, 0, 448, 960, 1984, 4095, 8191, 16383, 32767, 16383, 131071, 262143, 524287, 16383, 1064959, 16383, 7356415, 15745023, 32522239, 67108863, 134217727, 268435455] (by decide +kernel) ?_; have hwq := trivial) | (refine awp_drawW [] (by decide +kernel) ?_; have hwq := trivial) | fail))
              refine ⟨p.ks.length - (j + 1), _, by omega, Weak.cutI 2 [2, 3, 5] ?_ ?_, j + 1, _, rfl, by omega, rfl, by rw [take_in hgj, take_in hgb, hts, hxy]⟩
              · simp (maxSteps:=9999999)-implicitDefEqProofs only [simprocAttr,QH,Option.isSome,cond_true,cond_false,Option.bind,selB,V.rn,V.rns,Go.Ai.known,V.pz,V.pzs,T.toV,frz1,List.range,List.range.loop,ite_true,ite_false,if_true,if_false,ne_eq,implies_true,forall_const,eq_self,IntKind.bits,upd_tmsS,selT_cons,selT_nil,List.length_map,List.getElem?_map,Int.natCast_nonneg,List.length_append,List.map_append]
              · simp (maxSteps:=9999999)-implicitDefEqProofs only [simprocAttr,QH,Option.isSome,cond_true,cond_false,Option.bind,selB,V.rn,V.rns,Go.Ai.known,V.pz,V.pzs,T.toV,frz1,List.range,List.range.loop,ite_true,ite_false,if_true,if_false,ne_eq,implies_true,forall_const,eq_self,IntKind.bits,upd_tmsS,selT_cons,selT_nil,List.length_map,List.getElem?_map,Int.natCast_nonneg,List.length_append,List.map_append]
            · have hxy' : (x != y) = true := by simp [hxy]
              have hne : p.ks ≠ q.ks := by
                intro h
                rw [h, hgb] at hgj
                exact hxy (Option.some.inj hgj).symm
              rw [dif (fun h => hne (by rw [h]))]
              (have hwq := trivial; repeat' (first | simp (maxSteps:=9999999)-implicitDefEqProofs only [go_sem,simprocAttr,hwq,FT3,FT4,FT5,FT23,FT24,FT25,FT26,FT27,FT29,FT32,FT34,FT35,FT37,FT59,List.length_map,List.getElem?_map,Int.natCast_nonneg,List.length_append,List.map_append,hjl',hjb',hgj,hgb,wj,hee,hxy'] | (refine condK_split ?_ ?_ <;> intro hwq) | (refine two_split ?_ ?_) | (refine guardK_split ?_ ?_ <;> intro hwq) | (refine guardE_split ?_ ?_ <;> intro hwq) | (refine awp_drawI 11 [] (List.range 29) [0, 1, 0, 7, 15, 31, 0, 64, 0, 448, 960, 1984, 4095, 8191, 16383, 32767, 16383, 131071, 262143, 524287, 16383, 1064959, 16383, 7356415, 15745023, 32522239, 67108863, 134217727, 268435455] (by decide +kernel) ?_; have hwq := trivial) | (refine awp_drawW [] (by decide +kernel) ?_; have hwq := trivial) | fail))
          · have hjl' : ¬ (j : Int) < (p.ks.length : Int) := by omega
            have hks : p.ks = q.ks := by
              rw [List.take_of_length_le (by omega), List.take_of_length_le (by omega)] at hts
              exact hts
            (have hwq := trivial; repeat' (first | simp (maxSteps:=9999999)-implicitDefEqProofs only [go_sem,simprocAttr,hwq,FT3,FT4,FT5,FT23,FT24,FT25,FT26,FT27,FT29,FT32,FT34,FT35,FT37,FT59,List.length_map,List.getElem?_map,Int.natCast_nonneg,List.length_append,List.map_append,hjl'] | (refine condK_split ?_ ?_ <;> intro hwq) | (refine two_split ?_ ?_) | (refine guardK_split ?_ ?_ <;> intro hwq) | (refine guardE_split ?_ ?_ <;> intro hwq) | (refine awp_drawI 11 [] (List.range 29) [0, 1, 0, 7, 15, 31, 0, 64, 0, 448, 960, 1984, 4095, 8191, 16383, 32767, 16383, 131071, 262143, 524287, 16383, 1064959, 16383, 7356415, 15745023, 32522239, 67108863, 134217727, 268435455] (by decide +kernel) ?_; have hwq := trivial) | (refine awp_drawW [] (by decide +kernel) ?_; have hwq := trivial) | fail))
            refine awp_loopK (Sk2 p q) p.bs.length _ (Weak.cutI 2 [2, 3, 6] ?_ ?_) ⟨0, _, rfl, by omega, rfl, by simp⟩ ?_
            · simp (maxSteps:=9999999)-implicitDefEqProofs only [simprocAttr,QH,Option.isSome,cond_true,cond_false,Option.bind,selB,V.rn,V.rns,Go.Ai.known,V.pz,V.pzs,T.toV,frz1,List.range,List.range.loop,ite_true,ite_false,if_true,if_false,ne_eq,implies_true,forall_const,eq_self,IntKind.bits,upd_tmsS,selT_cons,selT_nil,List.length_map,List.getElem?_map,Int.natCast_nonneg,List.length_append,List.map_append]
            · simp (maxSteps:=9999999)-implicitDefEqProofs only [simprocAttr,QH,Option.isSome,cond_true,cond_false,Option.bind,selB,V.rn,V.rns,Go.Ai.known,V.pz,V.pzs,T.toV,frz1,List.range,List.range.loop,ite_true,ite_false,if_true,if_false,ne_eq,implies_true,forall_const,eq_self,IntKind.bits,upd_tmsS,selT_cons,selT_nil]
            rintro kk S ⟨j, mv, rfl, hj, rfl, hts⟩
            have wj : IntKind.i64.wrap ((j : Int) + 1) = (j : Int) + 1 := wI64 _ (by omega) (by omega)
            by_cases hjl : j < p.bs.length
            · have hjl' : (j : Int) < (p.bs.length : Int) := by omega
              have hjb' : (j : Int) < (q.bs.length : Int) := by omega
              have hgj : p.bs[j]? = some p.bs[j] := List.getElem?_eq_getElem hjl
              have hgb : q.bs[j]? = some (q.bs[j]'(by omega)) := List.getElem?_eq_getElem (by omega)
              obtain ⟨x, hx⟩ : ∃ x, p.bs[j] = x := ⟨_, rfl⟩
              obtain ⟨y, hy⟩ : ∃ y, q.bs[j]'(by omega) = y := ⟨_, rfl⟩
              rw [hx] at hgj
              rw [hy] at hgb
              have n26 := pe26 x.l y.l (by have := l5 x (mem_in hgj); omega)
              have bad : x ≠ y → decide (p = q) = false := fun hxy => dif fun h => by
                rw [h, hgb] at hgj
                exact hxy (Option.some.inj hgj).symm
              by_cases hv : x.v = y.v
              · have hv' : (x.v != y.v) = false := by simp [hv]
                by_cases hl : x.l = y.l
                · have hxy : x = y := by obtain ⟨a, b⟩ := x; obtain ⟨c, d⟩ := y; simp only at hv hl; rw [hv, hl]
                  rw [decide_eq_true hl] at n26
                  (have hwq := trivial; repeat' (first | simp (maxSteps:=9999999)-implicitDefEqProofs only [go_sem,simprocAttr,hwq,FT3,FT4,FT5,FT23,FT24,FT25,FT26,FT27,FT29,FT32,FT34,FT35,FT37,FT59,List.length_map,List.getElem?_map,Int.natCast_nonneg,List.length_append,List.map_append,hjl',hjb',hgj,hgb,wj,hv'] | (refine condK_split ?_ ?_ <;> intro hwq) | (refine two_split ?_ ?_) | (refine guardK_split ?_ ?_ <;> intro hwq) | (refine guardE_split ?_ ?_ <;> intro hwq) | (refine awp_drawI 11 [] (List.range 29) [0, 1, 0, 7, 15, 31, 0, 64, 0, 448, 960, 1984, 4095, 8191, 16383, 32767, 16383, 131071, 262143, 524287, 16383, 1064959, 16383, 7356415, 15745023, 32522239, 67108863, 134217727, 268435455] (by decide +kernel) ?_; have hwq := trivial) | (refine awp_drawW [] (by decide +kernel) ?_; have hwq := trivial) | (refine draw_plain n26 rfl (fun _ => rfl) ?_; have hwq := trivial) | fail))
                  refine ⟨p.bs.length - (j + 1), _, by omega, Weak.cutI 2 [2, 3, 6] ?_ ?_, j + 1, _, rfl, by omega, rfl, by rw [take_in hgj, take_in hgb, hts, hxy]⟩
                  · simp (maxSteps:=9999999)-implicitDefEqProofs only [simprocAttr,QH,Option.isSome,cond_true,cond_false,Option.bind,selB,V.rn,V.rns,Go.Ai.known,V.pz,V.pzs,T.toV,frz1,List.range,List.range.loop,ite_true,ite_false,if_true,if_false,ne_eq,implies_true,forall_const,eq_self,IntKind.bits,upd_tmsS,selT_cons,selT_nil,List.length_map,List.getElem?_map,Int.natCast_nonneg,List.length_append,List.map_append]
                  · simp (maxSteps:=9999999)-implicitDefEqProofs only [simprocAttr,QH,Option.isSome,cond_true,cond_false,Option.bind,selB,V.rn,V.rns,Go.Ai.known,V.pz,V.pzs,T.toV,frz1,List.range,List.range.loop,ite_true,ite_false,if_true,if_false,ne_eq,implies_true,forall_const,eq_self,IntKind.bits,upd_tmsS,selT_cons,selT_nil,List.length_map,List.getElem?_map,Int.natCast_nonneg,List.length_append,List.map_append]
                · rw [decide_eq_false hl] at n26
                  rw [bad (fun h => hl (by rw [h]))]
                  (have hwq := trivial; repeat' (first | simp (maxSteps:=9999999)-implicitDefEqProofs only [go_sem,simprocAttr,hwq,FT3,FT4,FT5,FT23,FT24,FT25,FT26,FT27,FT29,FT32,FT34,FT35,FT37,FT59,List.length_map,List.getElem?_map,Int.natCast_nonneg,List.length_append,List.map_append,hjl',hjb',hgj,hgb,wj,hv'] | (refine condK_split ?_ ?_ <;> intro hwq) | (refine two_split ?_ ?_) | (refine guardK_split ?_ ?_ <;> intro hwq) | (refine guardE_split ?_ ?_ <;> intro hwq) | (refine awp_drawI 11 [] (List.range 29) [0, 1, 0, 7, 15, 31, 0, 64, 0, 448, 960, 1984, 4095, 8191, 16383, 32767, 16383, 131071, 262143, 524287, 16383, 1064959, 16383, 7356415, 15745023, 32522239, 67108863, 134217727, 268435455] (by decide +kernel) ?_; have hwq := trivial) | (refine awp_drawW [] (by decide +kernel) ?_; have hwq := trivial) | (refine draw_plain n26 rfl (fun _ => rfl) ?_; have hwq := trivial) | fail))
              · have hv' : (x.v != y.v) = true := by simp [hv]
                rw [bad (fun h => hv (by rw [h]))]
                (have hwq := trivial; repeat' (first | simp (maxSteps:=9999999)-implicitDefEqProofs only [go_sem,simprocAttr,hwq,FT3,FT4,FT5,FT23,FT24,FT25,FT26,FT27,FT29,FT32,FT34,FT35,FT37,FT59,List.length_map,List.getElem?_map,Int.natCast_nonneg,List.length_append,List.map_append,hjl',hjb',hgj,hgb,wj,hv'] | (refine condK_split ?_ ?_ <;> intro hwq) | (refine two_split ?_ ?_) | (refine guardK_split ?_ ?_ <;> intro hwq) | (refine guardE_split ?_ ?_ <;> intro hwq) | (refine awp_drawI 11 [] (List.range 29) [0, 1, 0, 7, 15, 31, 0, 64, 0, 448, 960, 1984, 4095, 8191, 16383, 32767, 16383, 131071, 262143, 524287, 16383, 1064959, 16383, 7356415, 15745023, 32522239, 67108863, 134217727, 268435455] (by decide +kernel) ?_; have hwq := trivial) | (refine awp_drawW [] (by decide +kernel) ?_; have hwq := trivial) | fail))
            · have hjl' : ¬ (j : Int) < (p.bs.length : Int) := by omega
              have hbs : p.bs = q.bs := by
                rw [List.take_of_length_le (by omega), List.take_of_length_le (by omega)] at hts
                exact hts
              have he : decide (p = q) = true := by rw [pv_eq, decide_eq_true h0, decide_eq_true hks, decide_eq_true h3.1, decide_eq_true h3.2, decide_eq_true hbs]; rfl
              rw [he]
              (have hwq := trivial; repeat' (first | simp (maxSteps:=9999999)-implicitDefEqProofs only [go_sem,simprocAttr,hwq,FT3,FT4,FT5,FT23,FT24,FT25,FT26,FT27,FT29,FT32,FT34,FT35,FT37,FT59,List.length_map,List.getElem?_map,Int.natCast_nonneg,List.length_append,List.map_append,hjl'] | (refine condK_split ?_ ?_ <;> intro hwq) | (refine two_split ?_ ?_) | (refine guardK_split ?_ ?_ <;> intro hwq) | (refine guardE_split ?_ ?_ <;> intro hwq) | (refine awp_drawI 11 [] (List.range 29) [0, 1, 0, 7, 15, 31, 0, 64, 0, 448, 960, 1984, 4095, 8191, 16383, 32767, 16383, 131071, 262143, 524287, 16383, 1064959, 16383, 7356415, 15745023, 32522239, 67108863, 134217727, 268435455] (by decide +kernel) ?_; have hwq := trivial) | (refine awp_drawW [] (by decide +kernel) ?_; have hwq := trivial) | fail))
        · have hr : (decide (p.ms = q.ms) && decide (p.cs = q.cs)) = false := by
            rw [Bool.and_eq_false_iff, decide_eq_false_iff_not, decide_eq_false_iff_not]
            rcases Classical.em (p.ms = q.ms) with h | h
            · exact .inr fun hc => h3 ⟨h, hc⟩
            · exact .inl h
          rw [hr] at n56
          rw [dif (fun h => h3 ⟨by rw [h], by rw [h]⟩)]
          (have hwq := trivial; repeat' (first | simp (maxSteps:=9999999)-implicitDefEqProofs only [go_sem,simprocAttr,hwq,FT3,FT4,FT5,FT23,FT24,FT25,FT26,FT27,FT29,FT32,FT34,FT35,FT37,FT59,List.length_map,List.getElem?_map,Int.natCast_nonneg,List.length_append,List.map_append,ho,h1',h2'] | (refine condK_split ?_ ?_ <;> intro hwq) | (refine two_split ?_ ?_) | (refine guardK_split ?_ ?_ <;> intro hwq) | (refine guardE_split ?_ ?_ <;> intro hwq) | (refine awp_drawI 11 [] (List.range 29) [0, 1, 0, 7, 15, 31, 0, 64, 0, 448, 960, 1984, 4095, 8191, 16383, 32767, 16383, 131071, 262143, 524287, 16383, 1064959, 16383, 7356415, 15745023, 32522239, 67108863, 134217727, 268435455] (by decide +kernel) ?_; have hwq := trivial) | (refine awp_drawW [] (by decide +kernel) ?_; have hwq := trivial) | (refine call_plain n56 rfl rfl ?_; have hwq := trivial) | fail))
      · have h2' : ((p.bs.length : Int) != (q.bs.length : Int)) = true := by simp; omega
        rw [dif (fun h => h2 (by rw [h]))]
        (have hwq := trivial; repeat' (first | simp (maxSteps:=9999999)-implicitDefEqProofs only [go_sem,simprocAttr,hwq,FT3,FT4,FT5,FT23,FT24,FT25,FT26,FT27,FT29,FT32,FT34,FT35,FT37,FT59,List.length_map,List.getElem?_map,Int.natCast_nonneg,List.length_append,List.map_append,ho,h1',h2'] | (refine condK_split ?_ ?_ <;> intro hwq) | (refine two_split ?_ ?_) | (refine guardK_split ?_ ?_ <;> intro hwq) | (refine guardE_split ?_ ?_ <;> intro hwq) | (refine awp_drawI 11 [] (List.range 29) [0, 1, 0, 7, 15, 31, 0, 64, 0, 448, 960, 1984, 4095, 8191, 16383, 32767, 16383, 131071, 262143, 524287, 16383, 1064959, 16383, 7356415, 15745023, 32522239, 67108863, 134217727, 268435455] (by decide +kernel) ?_; have hwq := trivial) | (refine awp_drawW [] (by decide +kernel) ?_; have hwq := trivial) | fail))
    · have h1' : ((p.ks.length : Int) != (q.ks.length : Int)) = true := by simp; omega
      rw [dif (fun h => h1 (by rw [h]))]
      (have hwq := trivial; repeat' (first | simp (maxSteps:=9999999)-implicitDefEqProofs only [go_sem,simprocAttr,hwq,FT3,FT4,FT5,FT23,FT24,FT25,FT26,FT27,FT29,FT32,FT34,FT35,FT37,FT59,List.length_map,List.getElem?_map,Int.natCast_nonneg,List.length_append,List.map_append,ho,h1'] | (refine condK_split ?_ ?_ <;> intro hwq) | (refine two_split ?_ ?_) | (refine guardK_split ?_ ?_ <;> intro hwq) | (refine guardE_split ?_ ?_ <;> intro hwq) | (refine awp_drawI 11 [] (List.range 29) [0, 1, 0, 7, 15, 31, 0, 64, 0, 448, 960, 1984, 4095, 8191, 16383, 32767, 16383, 131071, 262143, 524287, 16383, 1064959, 16383, 7356415, 15745023, 32522239, 67108863, 134217727, 268435455] (by decide +kernel) ?_; have hwq := trivial) | (refine awp_drawW [] (by decide +kernel) ?_; have hwq := trivial) | fail))
  · rw [decide_eq_false h0] at ho
    rw [dif (fun h => h0 (by rw [h]))]
    (have hwq := trivial; repeat' (first | simp (maxSteps:=9999999)-implicitDefEqProofs only [go_sem,simprocAttr,hwq,FT3,FT4,FT5,FT23,FT24,FT25,FT26,FT27,FT29,FT32,FT34,FT35,FT37,FT59,List.length_map,List.getElem?_map,Int.natCast_nonneg,List.length_append,List.map_append,ho] | (refine condK_split ?_ ?_ <;> intro hwq) | (refine two_split ?_ ?_) | (refine guardK_split ?_ ?_ <;> intro hwq) | (refine guardE_split ?_ ?_ <;> intro hwq) | (refine awp_drawI 11 [] (List.range 29) [0, 1, 0, 7, 15, 31, 0, 64, 0, 448, 960, 1984, 4095, 8191, 16383, 32767, 16383, 131071, 262143, 524287, 16383, 1064959, 16383, 7356415, 15745023, 32522239, 67108863, 134217727, 268435455] (by decide +kernel) ?_; have hwq := trivial) | (refine awp_drawW [] (by decide +kernel) ?_; have hwq := trivial) | fail))
end Go.Ai

set_option linter.unusedVariables false
set_option linter.unusedSimpArgs false
set_option maxHeartbeats 4000000
set_option maxRecDepth 100000
namespace Go.Ai
open Go.Proofs
theorem stepM_mem {w y : Mb} {s : List Mb × Bool} {b : Mb} (h : b ∈ (stepM w s y).1) : b ∈ s.1 ∨ b = w ∨ b = y := by
  unfold stepM at h
  by_cases h1 : s.2 = false ∧ w.v ≤ y.v <;> by_cases h2 : w.v = y.v <;> simp [h1, h2] at h <;> grind
theorem setF_mem {w b : Mb} : ∀ {L : List Mb} {s : List Mb × Bool}, b ∈ (L.foldl (stepM w) s).1 → b ∈ s.1 ∨ b = w ∨ b ∈ L
  | [], s, h => .inl h
  | y :: l, s, h => by
    rw [List.foldl_cons] at h
    rcases setF_mem h with h1 | h1 | h1
    · rcases stepM_mem h1 with h2 | h2 | h2
      · exact .inl h2
      · exact .inr (.inl h2)
      · exact .inr (.inr (h2 ▸ List.mem_cons_self ..))
    · exact .inr (.inl h1)
    · exact .inr (.inr (List.mem_cons_of_mem _ h1))
theorem setMb_mem {w b : Mb} {L : List Mb} (h : b ∈ setMbL w L) : b = w ∨ b ∈ L := by
  unfold setMbL at h
  have key : b ∈ (setF w L).1 → b = w ∨ b ∈ L := fun h1 => by
    rcases setF_mem (w := w) (L := L) (s := ([], false)) h1 with h2 | h2 | h2
    · cases h2
    · exact .inl h2
    · exact .inr h2
  by_cases hb : (setF w L).2 = true
  · rw [if_pos hb] at h; exact key h
  · rw [if_neg hb] at h
    rcases List.mem_append.1 h with h1 | h1
    · exact key h1
    · exact .inl (by simpa using h1)
/-- Do's answer is not much longer. -/
theorem refDo_ok {p : Pv} {x : Cm} (h1 : p.ks.length ≤ 1000) (h2 : p.ms.length ≤ 999) (h3 : p.cs.length ≤ 999) (h4 : p.bs.length ≤ 999) (h5 : ∀ b ∈ p.bs, b.l.length ≤ 1000) (hw : x.w.l.length ≤ 1000) : okL (refDo p x).1 := by
  have h0 : okL p := ⟨h1, by omega, by omega, by omega, h5⟩
  unfold refDo
  split
  · exact h0
  split
  · unfold refMap
    dsimp only
    split
    · exact ⟨h1, by rw [insL_len]; omega, by dsimp only; omega, by dsimp only; omega, h5⟩
    · exact h0
  split
  · unfold refMapD
    dsimp only
    split
    · exact ⟨h1, Nat.le_trans (List.length_filter_le _ _) (by omega), by dsimp only; omega, by dsimp only; omega, h5⟩
    · exact h0
  split
  · unfold refCar
    dsimp only
    split
    · exact ⟨h1, by dsimp only; omega, by rw [insL_len]; omega, by dsimp only; omega, h5⟩
    · exact h0
  split
  · unfold refCarD
    dsimp only
    split
    · exact ⟨h1, by dsimp only; omega, Nat.le_trans (List.length_filter_le _ _) (by omega), by dsimp only; omega, h5⟩
    · exact h0
  split
  · unfold refMem
    dsimp only
    split
    · refine ⟨h1, by dsimp only; omega, by dsimp only; omega, ?_, ?_⟩
      · dsimp only
        rw [setMb_len]
        have := List.length_filter_le (fun y : Mb => y.v != x.w.v) p.bs
        omega
      · intro b hb
        rcases setMb_mem hb with rfl | hb
        · exact hw
        · exact h5 b hb
    · exact h0
  split
  · unfold refMemD
    dsimp only
    split
    · exact ⟨h1, by dsimp only; omega, by dsimp only; omega, Nat.le_trans (List.length_filter_le _ _) (by omega), fun b hb => h5 b (List.mem_filter.1 hb).1⟩
    · exact h0
  · exact h0
abbrev shortC (x : Cm) : Cm := { x with w := shortM x.w }
end Go.Ai

set_option linter.unusedVariables false
set_option linter.unusedSimpArgs false
set_option maxHeartbeats 4000000
set_option maxRecDepth 100000
namespace Go.Ai
open Go.Proofs
/-- Do answers as the reference's, if put and drop give these rows. -/
theorem pdo_ref (p : Pv) (hp : okL p) (ho : isB p.own.a) (x : Cm) (hw : x.w.l.length ≤ 1000)
    (h35 : checkE p = 0 → addMapE p x.m = 0 → AC Tryz.prog 35 [msV p.ms, mpV x.m, .clo (.func 36) [] []] [] (eqR (msV (insL beforeB x.m p.ms))))
    (h38 : checkE p = 0 → x.m ∈ p.ms → AC Tryz.prog 38 [msV p.ms, mpV x.m, .clo (.func 36) [] []] [] (eqR (msV (p.ms.filter (fun y : Mp => !decide (y = x.m))))))
    (h40 : checkE p = 0 → addCarryE p x.c = 0 → AC Tryz.prog 40 [csV p.cs, crV x.c, .clo (.func 41) [] []] [] (eqR (csV (insL ltCr x.c p.cs))))
    (h43 : checkE p = 0 → x.c ∈ p.cs → AC Tryz.prog 43 [csV p.cs, crV x.c, .clo (.func 41) [] []] [] (eqR (csV (p.cs.filter (fun y : Cr => !decide (y = x.c))))))
    (h45 : checkE p = 0 → setMemberE p x.w = 0 → AC Tryz.prog 45 [bsV p.bs, mbV x.w, .clo (.func 47) [] []] [] (eqR (bsV (setMbL x.w p.bs))))
    (h49 : checkE p = 0 → hasM p.bs x.w.v = true → AC Tryz.prog 49 [bsV p.bs, mbV x.w, .clo (.func 47) [] []] [] (eqR (bsV (p.bs.filter (fun y : Mb => y.v != x.w.v))))) :
    AC Tryz.prog 12 [pvV p, cmV x] [] (eqR (.tuple [pvV (refDo p x).1, vI (refDo p x).2])) := by
  have h := pdo p hp ho x hw _ _ _ _ _ _ h35 h38 h40 h43 h45 h49
  rw [doL_ref] at h
  exact h
/-- What Check says of the rows. -/
theorem rows_ok {p : Pv} (h : checkE p = 0) : okB p = true ∧ risB beforeB p.ms = true ∧ risB ltCr p.cs = true ∧ risB ltMb p.bs = true := by
  have hok : okB p = true := by
    unfold checkE at h
    cases ho : okB p with
    | true => rfl
    | false => rw [ho] at h; exact absurd h (by decide)
  refine ⟨hok, ?_⟩
  unfold okB at hok
  simp only [Bool.and_eq_true] at hok
  have h2 := hok.2.1
  unfold okR at h2
  simp only [Bool.and_eq_true] at h2
  exact ⟨h2.2.2, h2.2.1, h2.1⟩
/-- Where put lays a map: the cut of the row, and no map of that key is there. -/
theorem put_ms {p : Pv} (h : checkE p = 0) {m : Mp} (he : addMapE p m = 0) : ∃ n0, n0 ≤ p.ms.length ∧ insL beforeB m p.ms = p.ms.take n0 ++ m :: p.ms.drop n0 ∧ AC Tryz.prog 99 [msV p.ms, mpV m, .clo (.func 36) [] []] [] (eqR (.tuple [vI n0, vB false])) := by
  obtain ⟨hok, hr, _, _⟩ := rows_ok h
  have hl : p.ms.length ≤ 64 := by
    unfold okB at hok
    simp only [Bool.and_eq_true] at hok
    have h1 := hok.1
    unfold okA at h1
    simp only [Bool.and_eq_true, decide_eq_true_eq] at h1
    have := h1.2.2.1
    omega
  have hno : ∀ y ∈ p.ms, ¬ cmpMp y m = 0 := by
    intro y hy hc
    unfold addMapE aMap at he
    have : (p.ms.any fun x => x.p == m.p && (x.v == m.v || x.s == m.s)) = true := by
      rw [List.any_eq_true]
      refine ⟨y, hy, ?_⟩
      unfold cmpMp at hc
      have h1 : cmpZ y.p m.p = 0 := by
        by_cases hz : cmpZ y.p m.p = 0
        · exact hz
        · rw [if_pos hz] at hc; exact hc
      rw [if_neg (by rw [h1]; simp)] at hc
      have h2 := (cmpZ_zero _ _).1 h1
      have h3 := (cmpZ_zero _ _).1 hc
      simp [h2, h3]
    rw [this] at he
    (repeat' split at he) <;> simp_all
  have key : ∀ a b : Mp, beforeB a b = true ↔ cmpMp a b < 0 := by
    intro a b
    unfold beforeB cmpMp cmpZ
    simp only [Bool.or_eq_true, Bool.and_eq_true, decide_eq_true_eq, beq_iff_eq]
    (repeat' split) <;> omega
  have anti : ∀ a b : Mp, ¬ cmpMp a b < 0 → ¬ cmpMp a b = 0 → cmpMp b a < 0 := by
    intro a b h1 h2
    unfold cmpMp cmpZ at *
    (repeat' split at h1) <;> (repeat' split at h2) <;> (repeat' split) <;> omega
  obtain ⟨n0, hn, hlo, hhi⟩ := cut_of (lt := beforeB) (c := fun y => cmpMp y m) (fun a b hab hb => (key a m).1 (before_tr a b m hab ((key b m).2 hb))) hr
  refine ⟨n0, hn, insL_at hn ?_ ?_, pc99 m p.ms (by omega) n0 hn hlo hhi false ?_⟩
  · intro k y hy hk
    have h1 := hlo k y hy hk
    cases hb : beforeB m y with
    | false => rfl
    | true =>
      have h2 := before_tr _ _ _ hb ((key y m).2 h1)
      have h3 := (key m m).1 h2
      rw [cmpMp_self] at h3
      exact absurd h3 (by decide)
  · intro y hy
    exact (key m y).2 (anti y m (hhi n0 y hy (Nat.le_refl _)) (hno y (List.mem_of_getElem? hy)))
  · cases hy : p.ms[n0]? with
    | none => rfl
    | some y =>
      have h1 := hno y (List.mem_of_getElem? hy)
      simp [h1]
end Go.Ai

set_option linter.unusedVariables false
set_option linter.unusedSimpArgs false
set_option maxHeartbeats 4000000
set_option maxRecDepth 100000
namespace Go.Ai
open Go.Proofs
theorem cmpZ_neg (a b : Int) : cmpZ a b < 0 ↔ a < b := by unfold cmpZ; (repeat' split) <;> omega
theorem rows_len {p : Pv} (h : checkE p = 0) : p.ms.length ≤ 64 ∧ p.cs.length ≤ 64 ∧ p.bs.length ≤ 64 := by
  have hok := (rows_ok h).1
  unfold okB at hok
  simp only [Bool.and_eq_true] at hok
  have h1 := hok.1
  unfold okA at h1
  simp only [Bool.and_eq_true, decide_eq_true_eq] at h1
  have h2 := h1.2.2
  omega
/-- Where put lays a carry. -/
theorem put_cs {p : Pv} (h : checkE p = 0) {m : Cr} (he : addCarryE p m = 0) : ∃ n0, n0 ≤ p.cs.length ∧ insL ltCr m p.cs = p.cs.take n0 ++ m :: p.cs.drop n0 ∧ AC Tryz.prog 106 [csV p.cs, crV m, .clo (.func 41) [] []] [] (eqR (.tuple [vI n0, vB false])) := by
  obtain ⟨hok, _, hr, _⟩ := rows_ok h
  have hl := (rows_len h).2.1
  have hno : ∀ y ∈ p.cs, ¬ y.s = m.s := by
    intro y hy hc
    have : hasC p.cs m.s = true := by
      unfold hasC
      rw [List.any_eq_true]
      exact ⟨y, hy, by simp [hc]⟩
    unfold addCarryE aCar at he
    rw [this] at he
    (repeat' split at he) <;> simp_all
  have key : ∀ a b : Cr, ltCr a b = true ↔ a.s < b.s := fun a b => by unfold ltCr; exact decide_eq_true_iff
  obtain ⟨n0, hn, hlo, hhi⟩ := cut_of (lt := ltCr) (c := fun y => cmpZ y.s m.s) (fun a b hab hb => (cmpZ_neg _ _).2 (Int.lt_trans ((key a b).1 hab) ((cmpZ_neg _ _).1 hb))) hr
  refine ⟨n0, hn, insL_at hn ?_ ?_, pc106 m p.cs (by omega) n0 hn hlo hhi false ?_⟩
  · intro k y hy hk
    have h1 := (cmpZ_neg _ _).1 (hlo k y hy hk)
    cases hb : ltCr m y with
    | false => rfl
    | true => have h2 := (key m y).1 hb; omega
  · intro y hy
    have h1 : ¬ y.s < m.s := fun hh => hhi n0 y hy (Nat.le_refl _) ((cmpZ_neg _ _).2 hh)
    have h2 := hno y (List.mem_of_getElem? hy)
    exact (key m y).2 (by omega)
  · cases hy : p.cs[n0]? with
    | none => rfl
    | some y =>
      have h1 : ¬ cmpZ y.s m.s = 0 := fun hh => hno y (List.mem_of_getElem? hy) ((cmpZ_zero _ _).1 hh)
      simp [h1]
/-- Where put lays a member: over the one that is there, or at the cut. -/
theorem put_bs {p : Pv} (h : checkE p = 0) (m : Mb) : (∃ n0 y, p.bs[n0]? = some y ∧ setMbL m p.bs = p.bs.take n0 ++ m :: p.bs.drop (n0 + 1) ∧ AC Tryz.prog 111 [bsV p.bs, mbV m, .clo (.func 47) [] []] [] (eqR (.tuple [vI n0, vB true]))) ∨ (∃ n0, n0 ≤ p.bs.length ∧ setMbL m p.bs = p.bs.take n0 ++ m :: p.bs.drop n0 ∧ AC Tryz.prog 111 [bsV p.bs, mbV m, .clo (.func 47) [] []] [] (eqR (.tuple [vI n0, vB false]))) := by
  obtain ⟨hok, _, _, hr⟩ := rows_ok h
  have hl := (rows_len h).2.2
  have key : ∀ a b : Mb, ltMb a b = true ↔ a.v < b.v := fun a b => by unfold ltMb; exact decide_eq_true_iff
  obtain ⟨n0, hn, hlo, hhi⟩ := cut_of (lt := ltMb) (c := fun y => cmpZ y.v m.v) (fun a b hab hb => (cmpZ_neg _ _).2 (Int.lt_trans ((key a b).1 hab) ((cmpZ_neg _ _).1 hb))) hr
  have lo : ∀ (k : Nat) (z : Mb), p.bs[k]? = some z → k < n0 → z.v < m.v := fun k z hz hk => (cmpZ_neg _ _).1 (hlo k z hz hk)
  have hi : ∀ (k : Nat) (z : Mb), p.bs[k]? = some z → n0 ≤ k → ¬ z.v < m.v := fun k z hz hk hh => hhi k z hz hk ((cmpZ_neg _ _).2 hh)
  by_cases hf : ∃ y, p.bs[n0]? = some y ∧ m.v = y.v
  · obtain ⟨y, hy, hv⟩ := hf
    refine .inl ⟨n0, y, hy, setMb_found hr lo hy hv, pc111 m p.bs (by omega) n0 hn hlo hhi true ?_⟩
    rw [hy]
    have : cmpZ y.v m.v = 0 := (cmpZ_zero _ _).2 hv.symm
    simp [this]
  · have hno : ∀ z ∈ p.bs, ¬ m.v = z.v := by
      intro z hz hv
      obtain ⟨k, hk⟩ := List.getElem?_of_mem hz
      by_cases hlt : k < n0
      · have := lo k z hk hlt; omega
      · have hn0 : n0 < p.bs.length := by have := (List.getElem?_eq_some_iff.1 hk).1; omega
        have hg := List.getElem?_eq_getElem hn0
        have h1 := hi n0 _ hg (Nat.le_refl _)
        have h2 : ¬ m.v = p.bs[n0].v := fun hh => hf ⟨_, hg, hh⟩
        have hzin : z ∈ p.bs := hz
        rcases one_of (lt := ltMb) (fun a b c ha hb => (key a c).2 (Int.lt_trans ((key a b).1 ha) ((key b c).1 hb))) hr p.bs[n0] (List.getElem_mem hn0) z hz with h3 | h3 | h3
        · rw [h3] at h2; exact h2 hv
        · have := (key _ _).1 h3; omega
        · have h4 := (key _ _).1 h3
          -- z stands behind n0 and is smaller: against the order
          have hle : n0 ≤ k := by omega
          have mono : ∀ d : Nat, ∀ w : Mb, p.bs[n0 + d]? = some w → p.bs[n0].v ≤ w.v := by
            intro d
            induction d with
            | zero => intro w hw; rw [Nat.add_zero, hg] at hw; cases hw; exact Int.le_refl _
            | succ d ih =>
              intro w hw
              have hd : n0 + d < p.bs.length := by have := (List.getElem?_eq_some_iff.1 hw).1; omega
              have hgd := List.getElem?_eq_getElem hd
              have h5 := ih _ hgd
              have h6 := (key _ _).1 ((risB_iff ltMb p.bs).1 hr (n0 + d) _ w hgd hw)
              omega
          have h7 := mono (k - n0) z (by rw [show n0 + (k - n0) = k from by omega]; exact hk)
          omega
    refine .inr ⟨n0, hn, setMb_new lo hi hno, pc111 m p.bs (by omega) n0 hn hlo hhi false ?_⟩
    cases hy : p.bs[n0]? with
    | none => rfl
    | some y =>
      have h1 : ¬ cmpZ y.v m.v = 0 := fun hh => hf ⟨y, hy, ((cmpZ_zero _ _).1 hh).symm⟩
      simp [h1]
end Go.Ai

set_option linter.unusedVariables false
set_option linter.unusedSimpArgs false
set_option maxHeartbeats 4000000
set_option maxRecDepth 100000
namespace Go.Ai
open Go.Proofs
attribute [local go_sem] QH QR V.noimm V.noimms frzZs frzZ frzA frzV frzVs frzBox boxLen Option.isSome cond_true cond_false aopD calW flatV stepX amap stepY alookup afind aupdate adelete amlen arange ameq mapOf akeq pl V.mapT V.mapTs Option.bind stepK runK guardD stepE runD callD compact selB callK evS ofVal ofVals scalar aop ares mkRes V.rn V.rns V.cells? cellsAt Go.Ai.part aload astore setL V.atom abin aun intBin shiftBin aconv fieldOf aindexAddr aindex bound? aslice aarr abuild afill alen nilP nilS nilF aeq eqCells eqCell Go.Ai.known strBin abuiltin aappend abuildSlice arowsFill amakeSlice acopy aclear minmax rowsOf numsT notStr isIntD isByte V.pz V.pzs T.toV frz1 frz scalT scalTs chunkT List.range List.range.loop ite_true ite_false if_true if_false ne_eq implies_true forall_const eq_self IntKind.bits kPostKF_ret kPostKF_normal kPostX_ret kPostX_normal bsl nil2K nil2 kPostFW_ret kPostFW_normal kPostKM_ret kPostKM_normal kPostXK_ret kPostXK_normal
theorem put35_mid (x : Mp) (L : List Mp) (hL : L.length ≤ 1000) (n0 : Nat) (hn : n0 < L.length) (h1 : AC Tryz.prog 99 [msV L, mpV x, .clo (.func 36) [] []] [] (eqR (.tuple [vI n0, vB false]))) :
    AC Tryz.prog 35 [msV L, mpV x, .clo (.func 36) [] []] [] (eqR (msV (L.take n0 ++ x :: L.drop n0))) := by
  obtain ⟨l, hl⟩ : ∃ l, L.map mpT = l := ⟨_, rfl⟩
  have hll : L.length = l.length := by rw [← hl]; simp
  have h2 := pco94 l (by omega)
  have h3 := AC_ins (P := Tryz.prog) (f := 100) (z := 3) (by kernel_rfl) insAt100 (by decide) (mpT x) l (by omega) n0 (by omega) (bxMp x) ((flat1_Mp x).pz _)
  obtain ⟨X, hX⟩ : ∃ X, l.take n0 ++ mpT x :: l.drop n0 = X := ⟨_, rfl⟩
  have hX2 : (L.take n0 ++ x :: L.drop n0).map mpT = X := by rw [← hX, List.map_append, List.map_cons, List.map_take, List.map_drop, hl]
  have hXl : X.length = l.length + 1 := by rw [← hX]; simp; omega
  have tk : List.take (l.length + 1) X = X := List.take_of_length_le (by omega)
  rw [hX] at h3
  rw [show msV (L.take n0 ++ x :: L.drop n0) = .sl 3 X from by rw [← hX2], show msV L = .sl 3 l from by rw [← hl]]
  rw [show msV L = .sl 3 l from by rw [← hl]] at h1
  refine AC_frozen orders Tryz.func35 rfl (by kernel_rfl) (by kernel_rfl) Tryz.ntmps35 (by simp) ?_
  unfold Tryz.f35
  (have hwq := trivial; repeat' (first | simp (maxSteps:=9999999)-implicitDefEqProofs only [go_sem,simprocAttr,hwq,FT3,FT25,FT32,FT69,List.length_map,List.getElem?_map,Int.natCast_nonneg,List.length_append,List.map_append,hXl,tk,Nat.le_refl] | (refine condK_split ?_ ?_ <;> intro hwq) | (refine two_split ?_ ?_) | (refine guardK_split ?_ ?_ <;> intro hwq) | (refine guardE_split ?_ ?_ <;> intro hwq) | (refine awp_drawW [] (by decide +kernel) ?_; have hwq := trivial) | (refine call_plain h1 rfl rfl ?_; have hwq := trivial) | (refine call_at [] h2 (by simp) (by simp) rfl rfl rfl (V.les_refl _) ?_; have hwq := trivial) | (refine call_here h3 ?_; have hwq := trivial) | fail))
theorem drop38_all (x : Mp) (L : List Mp) (hL : L.length ≤ 1000) : AC Tryz.prog 38 [msV L, mpV x, .clo (.func 36) [] []] [] (eqR (msV (L.filter (fun y => !(cmpMp x y == 0))))) := by
  have hT : isAgg Tryz.prog 69 = some false := by kernel_rfl
  obtain ⟨F, hF⟩ : ∃ F, L.filter (fun y => !(cmpMp x y == 0)) = F := ⟨_, rfl⟩
  have hFl : F.length ≤ L.length := by rw [← hF]; exact List.length_filter_le _ _
  obtain ⟨Y, hY⟩ : ∃ Y, F.map mpT ++ List.replicate (L.length - F.length) [.s (.int .i64 0), .s (.int .i64 0), .s (.int .i64 0)] = Y := ⟨_, rfl⟩
  have h3 := pdf104 x L hL (fun y => cmpMp x y == 0) (fun _ => rfl) F hF Y hY
  have h2 := pco94 (L.map mpT) (by simp; omega)
  rw [List.length_map] at h2
  have hYl : Y.length = L.length := by rw [← hY]; simp; omega
  have tk : List.take F.length Y = F.map mpT := by
    rw [← hY, List.take_append_of_le_length (by simp), List.take_of_length_le (by simp)]
  rw [hF]
  refine AC_frozen orders Tryz.func38 rfl (by kernel_rfl) (by kernel_rfl) Tryz.ntmps38 (by simp) ?_
  unfold Tryz.f38
  (have hwq := trivial; repeat' (first | simp (maxSteps:=9999999)-implicitDefEqProofs only [go_sem,simprocAttr,hwq,FT3,FT25,FT32,FT69,FT101,List.length_map,List.getElem?_map,Int.natCast_nonneg,List.length_append,List.map_append,hT,hYl,tk,hFl,Nat.le_refl] | (refine condK_split ?_ ?_ <;> intro hwq) | (refine two_split ?_ ?_) | (refine guardK_split ?_ ?_ <;> intro hwq) | (refine guardE_split ?_ ?_ <;> intro hwq) | (refine awp_drawW [] (by decide +kernel) ?_; have hwq := trivial) | (refine call_at [] h2 (by simp) (by simp) rfl rfl rfl (V.les_refl _) ?_; have hwq := trivial) | (refine call_here h3 ?_; have hwq := trivial) | fail))
theorem put40_mid (x : Cr) (L : List Cr) (hL : L.length ≤ 1000) (n0 : Nat) (hn : n0 < L.length) (h1 : AC Tryz.prog 106 [csV L, crV x, .clo (.func 41) [] []] [] (eqR (.tuple [vI n0, vB false]))) :
    AC Tryz.prog 40 [csV L, crV x, .clo (.func 41) [] []] [] (eqR (csV (L.take n0 ++ x :: L.drop n0))) := by
  obtain ⟨l, hl⟩ : ∃ l, L.map crT = l := ⟨_, rfl⟩
  have hll : L.length = l.length := by rw [← hl]; simp
  have h2 := pco95 l (by omega)
  have h3 := AC_ins (P := Tryz.prog) (f := 107) (z := 2) (by kernel_rfl) insAt107 (by decide) (crT x) l (by omega) n0 (by omega) (bxCr x) ((flat1_Cr x).pz _)
  obtain ⟨X, hX⟩ : ∃ X, l.take n0 ++ crT x :: l.drop n0 = X := ⟨_, rfl⟩
  have hX2 : (L.take n0 ++ x :: L.drop n0).map crT = X := by rw [← hX, List.map_append, List.map_cons, List.map_take, List.map_drop, hl]
  have hXl : X.length = l.length + 1 := by rw [← hX]; simp; omega
  have tk : List.take (l.length + 1) X = X := List.take_of_length_le (by omega)
  rw [hX] at h3
  rw [show csV (L.take n0 ++ x :: L.drop n0) = .sl 2 X from by rw [← hX2], show csV L = .sl 2 l from by rw [← hl]]
  rw [show csV L = .sl 2 l from by rw [← hl]] at h1
  refine AC_frozen orders Tryz.func40 rfl (by kernel_rfl) (by kernel_rfl) Tryz.ntmps40 (by simp) ?_
  unfold Tryz.f40
  (have hwq := trivial; repeat' (first | simp (maxSteps:=9999999)-implicitDefEqProofs only [go_sem,simprocAttr,hwq,FT3,FT26,FT34,FT73,List.length_map,List.getElem?_map,Int.natCast_nonneg,List.length_append,List.map_append,hXl,tk,Nat.le_refl] | (refine condK_split ?_ ?_ <;> intro hwq) | (refine two_split ?_ ?_) | (refine guardK_split ?_ ?_ <;> intro hwq) | (refine guardE_split ?_ ?_ <;> intro hwq) | (refine awp_drawW [] (by decide +kernel) ?_; have hwq := trivial) | (refine call_plain h1 rfl rfl ?_; have hwq := trivial) | (refine call_at [] h2 (by simp) (by simp) rfl rfl rfl (V.les_refl _) ?_; have hwq := trivial) | (refine call_here h3 ?_; have hwq := trivial) | fail))
theorem drop43_all (x : Cr) (L : List Cr) (hL : L.length ≤ 1000) : AC Tryz.prog 43 [csV L, crV x, .clo (.func 41) [] []] [] (eqR (csV (L.filter (fun y => !(cmpZ x.s y.s == 0))))) := by
  have hT : isAgg Tryz.prog 73 = some false := by kernel_rfl
  obtain ⟨F, hF⟩ : ∃ F, L.filter (fun y => !(cmpZ x.s y.s == 0)) = F := ⟨_, rfl⟩
  have hFl : F.length ≤ L.length := by rw [← hF]; exact List.length_filter_le _ _
  obtain ⟨Y, hY⟩ : ∃ Y, F.map crT ++ List.replicate (L.length - F.length) [.s (.int .i64 0), .s (.int .i64 0)] = Y := ⟨_, rfl⟩
  have h3 := pdf109 x L hL (fun y => cmpZ x.s y.s == 0) (fun _ => rfl) F hF Y hY
  have h2 := pco95 (L.map crT) (by simp; omega)
  rw [List.length_map] at h2
  have hYl : Y.length = L.length := by rw [← hY]; simp; omega
  have tk : List.take F.length Y = F.map crT := by
    rw [← hY, List.take_append_of_le_length (by simp), List.take_of_length_le (by simp)]
  rw [hF]
  refine AC_frozen orders Tryz.func43 rfl (by kernel_rfl) (by kernel_rfl) Tryz.ntmps43 (by simp) ?_
  unfold Tryz.f43
  (have hwq := trivial; repeat' (first | simp (maxSteps:=9999999)-implicitDefEqProofs only [go_sem,simprocAttr,hwq,FT3,FT26,FT34,FT73,FT99,List.length_map,List.getElem?_map,Int.natCast_nonneg,List.length_append,List.map_append,hT,hYl,tk,hFl,Nat.le_refl] | (refine condK_split ?_ ?_ <;> intro hwq) | (refine two_split ?_ ?_) | (refine guardK_split ?_ ?_ <;> intro hwq) | (refine guardE_split ?_ ?_ <;> intro hwq) | (refine awp_drawW [] (by decide +kernel) ?_; have hwq := trivial) | (refine call_at [] h2 (by simp) (by simp) rfl rfl rfl (V.les_refl _) ?_; have hwq := trivial) | (refine call_here h3 ?_; have hwq := trivial) | fail))
theorem put45_mid (x : Mb) (L : List Mb) (hL : L.length ≤ 1000) (n0 : Nat) (hn : n0 < L.length) (h1 : AC Tryz.prog 111 [bsV L, mbV x, .clo (.func 47) [] []] [] (eqR (.tuple [vI n0, vB false]))) :
    AC Tryz.prog 45 [bsV L, mbV x, .clo (.func 47) [] []] [] (eqR (bsV (L.take n0 ++ x :: L.drop n0))) := by
  obtain ⟨l, hl⟩ : ∃ l, L.map mbT = l := ⟨_, rfl⟩
  have hll : L.length = l.length := by rw [← hl]; simp
  have h2 := pco96 l (by omega)
  have h3 := AC_ins (P := Tryz.prog) (f := 112) (z := 2) (by kernel_rfl) insAt112 (by decide) (mbT x) l (by omega) n0 (by omega) (bxMb x) ((flat1_Mb x).pz _)
  obtain ⟨X, hX⟩ : ∃ X, l.take n0 ++ mbT x :: l.drop n0 = X := ⟨_, rfl⟩
  have hX2 : (L.take n0 ++ x :: L.drop n0).map mbT = X := by rw [← hX, List.map_append, List.map_cons, List.map_take, List.map_drop, hl]
  have hXl : X.length = l.length + 1 := by rw [← hX]; simp; omega
  have tk : List.take (l.length + 1) X = X := List.take_of_length_le (by omega)
  rw [hX] at h3
  rw [show bsV (L.take n0 ++ x :: L.drop n0) = .sl 2 X from by rw [← hX2], show bsV L = .sl 2 l from by rw [← hl]]
  rw [show bsV L = .sl 2 l from by rw [← hl]] at h1
  refine AC_frozen orders Tryz.func45 rfl (by kernel_rfl) (by kernel_rfl) Tryz.ntmps45 (by simp) ?_
  unfold Tryz.f45
  (have hwq := trivial; repeat' (first | simp (maxSteps:=9999999)-implicitDefEqProofs only [go_sem,simprocAttr,hwq,FT3,FT27,FT35,FT37,FT78,List.length_map,List.getElem?_map,Int.natCast_nonneg,List.length_append,List.map_append,hXl,tk,Nat.le_refl] | (refine condK_split ?_ ?_ <;> intro hwq) | (refine two_split ?_ ?_) | (refine guardK_split ?_ ?_ <;> intro hwq) | (refine guardE_split ?_ ?_ <;> intro hwq) | (refine awp_drawW [] (by decide +kernel) ?_; have hwq := trivial) | (refine call_plain h1 rfl rfl ?_; have hwq := trivial) | (refine call_at [] h2 (by simp) (by simp) rfl rfl rfl (V.les_refl _) ?_; have hwq := trivial) | (refine call_here h3 ?_; have hwq := trivial) | fail))
theorem drop49_all (x : Mb) (L : List Mb) (hL : L.length ≤ 1000) : AC Tryz.prog 49 [bsV L, mbV x, .clo (.func 47) [] []] [] (eqR (bsV (L.filter (fun y => !(cmpZ x.v y.v == 0))))) := by
  have hT : isAgg Tryz.prog 78 = some false := by kernel_rfl
  obtain ⟨F, hF⟩ : ∃ F, L.filter (fun y => !(cmpZ x.v y.v == 0)) = F := ⟨_, rfl⟩
  have hFl : F.length ≤ L.length := by rw [← hF]; exact List.length_filter_le _ _
  obtain ⟨Y, hY⟩ : ∃ Y, F.map mbT ++ List.replicate (L.length - F.length) [.s (.int .i64 0), .s (.slice none 0 0)] = Y := ⟨_, rfl⟩
  have h3 := pdf114 x L hL (fun y => cmpZ x.v y.v == 0) (fun _ => rfl) F hF Y hY
  have h2 := pco96 (L.map mbT) (by simp; omega)
  rw [List.length_map] at h2
  have hYl : Y.length = L.length := by rw [← hY]; simp; omega
  have tk : List.take F.length Y = F.map mbT := by
    rw [← hY, List.take_append_of_le_length (by simp), List.take_of_length_le (by simp)]
  rw [hF]
  refine AC_frozen orders Tryz.func49 rfl (by kernel_rfl) (by kernel_rfl) Tryz.ntmps49 (by simp) ?_
  unfold Tryz.f49
  (have hwq := trivial; repeat' (first | simp (maxSteps:=9999999)-implicitDefEqProofs only [go_sem,simprocAttr,hwq,FT3,FT27,FT35,FT37,FT78,FT97,List.length_map,List.getElem?_map,Int.natCast_nonneg,List.length_append,List.map_append,hT,hYl,tk,hFl,Nat.le_refl] | (refine condK_split ?_ ?_ <;> intro hwq) | (refine two_split ?_ ?_) | (refine guardK_split ?_ ?_ <;> intro hwq) | (refine guardE_split ?_ ?_ <;> intro hwq) | (refine awp_drawW [] (by decide +kernel) ?_; have hwq := trivial) | (refine call_at [] h2 (by simp) (by simp) rfl rfl rfl (V.les_refl _) ?_; have hwq := trivial) | (refine call_here h3 ?_; have hwq := trivial) | fail))
/-- put of a map that is not there. -/
theorem do35 {p : Pv} (h : checkE p = 0) {m : Mp} (he : addMapE p m = 0) : AC Tryz.prog 35 [msV p.ms, mpV m, .clo (.func 36) [] []] [] (eqR (msV (insL beforeB m p.ms))) := by
  obtain ⟨n0, hn, e, h1⟩ := put_ms h he
  have hl := (rows_len h).1
  rw [e]
  rcases Nat.lt_or_ge n0 p.ms.length with hlt | hge
  · exact put35_mid m p.ms (by omega) n0 hlt h1
  · obtain rfl : n0 = p.ms.length := Nat.le_antisymm hn hge
    rw [List.take_length, List.drop_length]
    exact put35_end m p.ms (by omega) h1
theorem do40 {p : Pv} (h : checkE p = 0) {m : Cr} (he : addCarryE p m = 0) : AC Tryz.prog 40 [csV p.cs, crV m, .clo (.func 41) [] []] [] (eqR (csV (insL ltCr m p.cs))) := by
  obtain ⟨n0, hn, e, h1⟩ := put_cs h he
  have hl := (rows_len h).2.1
  rw [e]
  rcases Nat.lt_or_ge n0 p.cs.length with hlt | hge
  · exact put40_mid m p.cs (by omega) n0 hlt h1
  · obtain rfl : n0 = p.cs.length := Nat.le_antisymm hn hge
    rw [List.take_length, List.drop_length]
    exact put40_end m p.cs (by omega) h1
theorem do45 {p : Pv} (h : checkE p = 0) (m : Mb) : AC Tryz.prog 45 [bsV p.bs, mbV m, .clo (.func 47) [] []] [] (eqR (bsV (setMbL m p.bs))) := by
  have hl := (rows_len h).2.2
  rcases put_bs h m with ⟨n0, y, hy, e, h1⟩ | ⟨n0, hn, e, h1⟩
  · rw [e]
    exact put45_found m p.bs (by omega) n0 y hy h1
  · rw [e]
    rcases Nat.lt_or_ge n0 p.bs.length with hlt | hge
    · exact put45_mid m p.bs (by omega) n0 hlt h1
    · obtain rfl : n0 = p.bs.length := Nat.le_antisymm hn hge
      rw [List.take_length, List.drop_length]
      exact put45_end m p.bs (by omega) h1
theorem do38 {p : Pv} (h : checkE p = 0) {m : Mp} (hm : m ∈ p.ms) : AC Tryz.prog 38 [msV p.ms, mpV m, .clo (.func 36) [] []] [] (eqR (msV (p.ms.filter (fun y : Mp => !decide (y = m))))) := by
  rw [← drop_ms (rows_ok h).2.1 hm]
  exact drop38_all m p.ms (by have := (rows_len h).1; omega)
theorem do43 {p : Pv} (h : checkE p = 0) {m : Cr} (hm : m ∈ p.cs) : AC Tryz.prog 43 [csV p.cs, crV m, .clo (.func 41) [] []] [] (eqR (csV (p.cs.filter (fun y : Cr => !decide (y = m))))) := by
  rw [← drop_cs (rows_ok h).2.2.1 hm]
  exact drop43_all m p.cs (by have := (rows_len h).2.1; omega)
theorem do49 {p : Pv} (h : checkE p = 0) (m : Mb) : AC Tryz.prog 49 [bsV p.bs, mbV m, .clo (.func 47) [] []] [] (eqR (bsV (p.bs.filter (fun y : Mb => y.v != m.v)))) := by
  rw [← drop_bs p.bs m.v]
  exact drop49_all m p.bs (by have := (rows_len h).2.2; omega)
end Go.Ai

set_option linter.unusedVariables false
set_option linter.unusedSimpArgs false
namespace Go.Ai
open Go.Proofs
/-- Do answers as the reference's. -/
theorem pc12 (p : Pv) (hp : okL p) (ho : isB p.own.a) (x : Cm) (hw : x.w.l.length ≤ 1000) :
    AC Tryz.prog 12 [pvV p, cmV x] [] (eqR (.tuple [pvV (refDo p x).1, vI (refDo p x).2])) :=
  pdo_ref p hp ho x hw (fun h he => do35 h he) (fun h hm => do38 h hm) (fun h he => do40 h he) (fun h hm => do43 h hm) (fun h _ => do45 h x.w) (fun h _ => do49 h x.w)
end Go.Ai
