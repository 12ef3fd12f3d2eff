/- Contracts of functions of the loaded program: called with data in the ranges that each names, it returns this value and writes to no old memory. -/
import Derived.Test.YtbiolkmddpkheaaPvmZh
import Derived.Test.YtbiolkmddpkheaaRows
set_option linter.unusedVariables false
set_option linter.unusedSimpArgs false
set_option maxHeartbeats 4000000
set_option maxRecDepth 100000
namespace Go.Ai
open Go.Proofs
attribute [local go_sem] QH QR V.noimm V.noimms frzZs frzZ frzA frzV frzVs frzBox boxLen Option.isSome cond_true cond_false aopD calW flatV stepX amap stepY alookup afind aupdate adelete amlen arange ameq mapOf akeq pl V.mapT V.mapTs Option.bind stepK runK guardD stepE runD callD compact selB callK evS ofVal ofVals scalar aop ares mkRes V.rn V.rns V.cells? cellsAt Go.Ai.part aload astore setL V.atom abin aun intBin shiftBin aconv fieldOf aindexAddr aindex bound? aslice aarr abuild afill alen nilP nilS nilF aeq eqCells eqCell Go.Ai.known strBin abuiltin aappend abuildSlice arowsFill amakeSlice acopy aclear minmax rowsOf numsT notStr isIntD isByte V.pz V.pzs T.toV frz1 frz scalT scalTs chunkT List.range List.range.loop ite_true ite_false if_true if_false ne_eq implies_true forall_const eq_self IntKind.bits kPostKF_ret kPostKF_normal kPostX_ret kPostX_normal bsl nil2K nil2 kPostFW_ret kPostFW_normal kPostKM_ret kPostKM_normal kPostXK_ret kPostXK_normal
theorem put35_mid (x : Mp) (L : List Mp) (hL : L.length ≤ 1000) (n0 : Nat) (hn : n0 < L.length) (h1 : AC Try.prog 52 [msV L, mpV x, .clo (.func 11) [] []] [] (eqR (.tuple [vI n0, vB false]))) :
    AC Try.prog 10 [msV L, mpV x, .clo (.func 11) [] []] [] (eqR (msV (L.take n0 ++ x :: L.drop n0))) := by
  obtain ⟨l, hl⟩ : ∃ l, L.map mpT = l := ⟨_, rfl⟩
  have hll : L.length = l.length := by rw [← hl]; simp
  have h2 := pco94 l (by omega)
  have h3 := AC_ins (P := Try.prog) (f := 53) (z := 3) (by kernel_rfl) insAt100 (by decide) (mpT x) l (by omega) n0 (by omega) (bxMp x) ((flat1_Mp x).pz _)
  obtain ⟨X, hX⟩ : ∃ X, l.take n0 ++ mpT x :: l.drop n0 = X := ⟨_, rfl⟩
  have hX2 : (L.take n0 ++ x :: L.drop n0).map mpT = X := by rw [← hX, List.map_append, List.map_cons, List.map_take, List.map_drop, hl]
  have hXl : X.length = l.length + 1 := by rw [← hX]; simp; omega
  have tk : List.take (l.length + 1) X = X := List.take_of_length_le (by omega)
  rw [hX] at h3
  rw [show msV (L.take n0 ++ x :: L.drop n0) = .sl 3 X from by rw [← hX2], show msV L = .sl 3 l from by rw [← hl]]
  rw [show msV L = .sl 3 l from by rw [← hl]] at h1
  refine AC_frozen orders Try.func10 rfl (by kernel_rfl) (by kernel_rfl) Try.ntmps10 (by simp) ?_
  unfold Try.f10
  (have hwq := trivial; repeat' (first | simp (maxSteps:=9999999)-implicitDefEqProofs only [go_sem,simprocAttr,hwq,FT3,FT25,FT40,FT55,List.length_map,List.getElem?_map,Int.natCast_nonneg,List.length_append,List.map_append,hXl,tk,Nat.le_refl] | (refine condK_split ?_ ?_ <;> intro hwq) | (refine two_split ?_ ?_) | (refine guardK_split ?_ ?_ <;> intro hwq) | (refine guardE_split ?_ ?_ <;> intro hwq) | (refine awp_drawW [] (by decide +kernel) ?_; have hwq := trivial) | (refine call_plain h1 rfl rfl ?_; have hwq := trivial) | (refine call_at [] h2 (by simp) (by simp) rfl rfl rfl (V.les_refl _) ?_; have hwq := trivial) | (refine call_here h3 ?_; have hwq := trivial) | fail))
theorem drop38_all (x : Mp) (L : List Mp) (hL : L.length ≤ 1000) : AC Try.prog 13 [msV L, mpV x, .clo (.func 11) [] []] [] (eqR (msV (L.filter (fun y => !(cmpMp x y == 0))))) := by
  have hT : isAgg Try.prog 55 = some false := by kernel_rfl
  obtain ⟨F, hF⟩ : ∃ F, L.filter (fun y => !(cmpMp x y == 0)) = F := ⟨_, rfl⟩
  have hFl : F.length ≤ L.length := by rw [← hF]; exact List.length_filter_le _ _
  obtain ⟨Y, hY⟩ : ∃ Y, F.map mpT ++ List.replicate (L.length - F.length) [.s (.int .i64 0), .s (.int .i64 0), .s (.int .i64 0)] = Y := ⟨_, rfl⟩
  have h3 := pdf104 x L hL (fun y => cmpMp x y == 0) (fun _ => rfl) F hF Y hY
  have h2 := pco94 (L.map mpT) (by simp; omega)
  rw [List.length_map] at h2
  have hYl : Y.length = L.length := by rw [← hY]; simp; omega
  have tk : List.take F.length Y = F.map mpT := by
    rw [← hY, List.take_append_of_le_length (by simp), List.take_of_length_le (by simp)]
  rw [hF]
  refine AC_frozen orders Try.func13 rfl (by kernel_rfl) (by kernel_rfl) Try.ntmps13 (by simp) ?_
  unfold Try.f13
  (have hwq := trivial; repeat' (first | simp (maxSteps:=9999999)-implicitDefEqProofs only [go_sem,simprocAttr,hwq,FT3,FT25,FT40,FT55,FT88,List.length_map,List.getElem?_map,Int.natCast_nonneg,List.length_append,List.map_append,hT,hYl,tk,hFl,Nat.le_refl] | (refine condK_split ?_ ?_ <;> intro hwq) | (refine two_split ?_ ?_) | (refine guardK_split ?_ ?_ <;> intro hwq) | (refine guardE_split ?_ ?_ <;> intro hwq) | (refine awp_drawW [] (by decide +kernel) ?_; have hwq := trivial) | (refine call_at [] h2 (by simp) (by simp) rfl rfl rfl (V.les_refl _) ?_; have hwq := trivial) | (refine call_here h3 ?_; have hwq := trivial) | fail))
theorem put40_mid (x : Cr) (L : List Cr) (hL : L.length ≤ 1000) (n0 : Nat) (hn : n0 < L.length) (h1 : AC Try.prog 59 [csV L, crV x, .clo (.func 16) [] []] [] (eqR (.tuple [vI n0, vB false]))) :
    AC Try.prog 15 [csV L, crV x, .clo (.func 16) [] []] [] (eqR (csV (L.take n0 ++ x :: L.drop n0))) := by
  obtain ⟨l, hl⟩ : ∃ l, L.map crT = l := ⟨_, rfl⟩
  have hll : L.length = l.length := by rw [← hl]; simp
  have h2 := pco95 l (by omega)
  have h3 := AC_ins (P := Try.prog) (f := 60) (z := 2) (by kernel_rfl) insAt107 (by decide) (crT x) l (by omega) n0 (by omega) (bxCr x) ((flat1_Cr x).pz _)
  obtain ⟨X, hX⟩ : ∃ X, l.take n0 ++ crT x :: l.drop n0 = X := ⟨_, rfl⟩
  have hX2 : (L.take n0 ++ x :: L.drop n0).map crT = X := by rw [← hX, List.map_append, List.map_cons, List.map_take, List.map_drop, hl]
  have hXl : X.length = l.length + 1 := by rw [← hX]; simp; omega
  have tk : List.take (l.length + 1) X = X := List.take_of_length_le (by omega)
  rw [hX] at h3
  rw [show csV (L.take n0 ++ x :: L.drop n0) = .sl 2 X from by rw [← hX2], show csV L = .sl 2 l from by rw [← hl]]
  rw [show csV L = .sl 2 l from by rw [← hl]] at h1
  refine AC_frozen orders Try.func15 rfl (by kernel_rfl) (by kernel_rfl) Try.ntmps15 (by simp) ?_
  unfold Try.f15
  (have hwq := trivial; repeat' (first | simp (maxSteps:=9999999)-implicitDefEqProofs only [go_sem,simprocAttr,hwq,FT3,FT26,FT42,FT59,List.length_map,List.getElem?_map,Int.natCast_nonneg,List.length_append,List.map_append,hXl,tk,Nat.le_refl] | (refine condK_split ?_ ?_ <;> intro hwq) | (refine two_split ?_ ?_) | (refine guardK_split ?_ ?_ <;> intro hwq) | (refine guardE_split ?_ ?_ <;> intro hwq) | (refine awp_drawW [] (by decide +kernel) ?_; have hwq := trivial) | (refine call_plain h1 rfl rfl ?_; have hwq := trivial) | (refine call_at [] h2 (by simp) (by simp) rfl rfl rfl (V.les_refl _) ?_; have hwq := trivial) | (refine call_here h3 ?_; have hwq := trivial) | fail))
theorem drop43_all (x : Cr) (L : List Cr) (hL : L.length ≤ 1000) : AC Try.prog 19 [csV L, crV x, .clo (.func 16) [] []] [] (eqR (csV (L.filter (fun y => !(cmpZ x.s y.s == 0))))) := by
  have hT : isAgg Try.prog 59 = some false := by kernel_rfl
  obtain ⟨F, hF⟩ : ∃ F, L.filter (fun y => !(cmpZ x.s y.s == 0)) = F := ⟨_, rfl⟩
  have hFl : F.length ≤ L.length := by rw [← hF]; exact List.length_filter_le _ _
  obtain ⟨Y, hY⟩ : ∃ Y, F.map crT ++ List.replicate (L.length - F.length) [.s (.int .i64 0), .s (.int .i64 0)] = Y := ⟨_, rfl⟩
  have h3 := pdf109 x L hL (fun y => cmpZ x.s y.s == 0) (fun _ => rfl) F hF Y hY
  have h2 := pco95 (L.map crT) (by simp; omega)
  rw [List.length_map] at h2
  have hYl : Y.length = L.length := by rw [← hY]; simp; omega
  have tk : List.take F.length Y = F.map crT := by
    rw [← hY, List.take_append_of_le_length (by simp), List.take_of_length_le (by simp)]
  rw [hF]
  refine AC_frozen orders Try.func19 rfl (by kernel_rfl) (by kernel_rfl) Try.ntmps19 (by simp) ?_
  unfold Try.f19
  (have hwq := trivial; repeat' (first | simp (maxSteps:=9999999)-implicitDefEqProofs only [go_sem,simprocAttr,hwq,FT3,FT26,FT42,FT59,FT86,List.length_map,List.getElem?_map,Int.natCast_nonneg,List.length_append,List.map_append,hT,hYl,tk,hFl,Nat.le_refl] | (refine condK_split ?_ ?_ <;> intro hwq) | (refine two_split ?_ ?_) | (refine guardK_split ?_ ?_ <;> intro hwq) | (refine guardE_split ?_ ?_ <;> intro hwq) | (refine awp_drawW [] (by decide +kernel) ?_; have hwq := trivial) | (refine call_at [] h2 (by simp) (by simp) rfl rfl rfl (V.les_refl _) ?_; have hwq := trivial) | (refine call_here h3 ?_; have hwq := trivial) | fail))
theorem put45_mid (x : Mb) (L : List Mb) (hL : L.length ≤ 1000) (n0 : Nat) (hn : n0 < L.length) (h1 : AC Try.prog 64 [bsV L, mbV x, .clo (.func 23) [] []] [] (eqR (.tuple [vI n0, vB false]))) :
    AC Try.prog 21 [bsV L, mbV x, .clo (.func 23) [] []] [] (eqR (bsV (L.take n0 ++ x :: L.drop n0))) := by
  obtain ⟨l, hl⟩ : ∃ l, L.map mbT = l := ⟨_, rfl⟩
  have hll : L.length = l.length := by rw [← hl]; simp
  have h2 := pco96 l (by omega)
  have h3 := AC_ins (P := Try.prog) (f := 65) (z := 2) (by kernel_rfl) insAt112 (by decide) (mbT x) l (by omega) n0 (by omega) (bxMb x) ((flat1_Mb x).pz _)
  obtain ⟨X, hX⟩ : ∃ X, l.take n0 ++ mbT x :: l.drop n0 = X := ⟨_, rfl⟩
  have hX2 : (L.take n0 ++ x :: L.drop n0).map mbT = X := by rw [← hX, List.map_append, List.map_cons, List.map_take, List.map_drop, hl]
  have hXl : X.length = l.length + 1 := by rw [← hX]; simp; omega
  have tk : List.take (l.length + 1) X = X := List.take_of_length_le (by omega)
  rw [hX] at h3
  rw [show bsV (L.take n0 ++ x :: L.drop n0) = .sl 2 X from by rw [← hX2], show bsV L = .sl 2 l from by rw [← hl]]
  rw [show bsV L = .sl 2 l from by rw [← hl]] at h1
  refine AC_frozen orders Try.func21 rfl (by kernel_rfl) (by kernel_rfl) Try.ntmps21 (by simp) ?_
  unfold Try.f21
  (have hwq := trivial; repeat' (first | simp (maxSteps:=9999999)-implicitDefEqProofs only [go_sem,simprocAttr,hwq,FT3,FT27,FT36,FT38,FT65,List.length_map,List.getElem?_map,Int.natCast_nonneg,List.length_append,List.map_append,hXl,tk,Nat.le_refl] | (refine condK_split ?_ ?_ <;> intro hwq) | (refine two_split ?_ ?_) | (refine guardK_split ?_ ?_ <;> intro hwq) | (refine guardE_split ?_ ?_ <;> intro hwq) | (refine awp_drawW [] (by decide +kernel) ?_; have hwq := trivial) | (refine call_plain h1 rfl rfl ?_; have hwq := trivial) | (refine call_at [] h2 (by simp) (by simp) rfl rfl rfl (V.les_refl _) ?_; have hwq := trivial) | (refine call_here h3 ?_; have hwq := trivial) | fail))
theorem drop49_all (x : Mb) (L : List Mb) (hL : L.length ≤ 1000) : AC Try.prog 26 [bsV L, mbV x, .clo (.func 23) [] []] [] (eqR (bsV (L.filter (fun y => !(cmpZ x.v y.v == 0))))) := by
  have hT : isAgg Try.prog 65 = some false := by kernel_rfl
  obtain ⟨F, hF⟩ : ∃ F, L.filter (fun y => !(cmpZ x.v y.v == 0)) = F := ⟨_, rfl⟩
  have hFl : F.length ≤ L.length := by rw [← hF]; exact List.length_filter_le _ _
  obtain ⟨Y, hY⟩ : ∃ Y, F.map mbT ++ List.replicate (L.length - F.length) [.s (.int .i64 0), .s (.slice none 0 0)] = Y := ⟨_, rfl⟩
  have h3 := pdf114 x L hL (fun y => cmpZ x.v y.v == 0) (fun _ => rfl) F hF Y hY
  have h2 := pco96 (L.map mbT) (by simp; omega)
  rw [List.length_map] at h2
  have hYl : Y.length = L.length := by rw [← hY]; simp; omega
  have tk : List.take F.length Y = F.map mbT := by
    rw [← hY, List.take_append_of_le_length (by simp), List.take_of_length_le (by simp)]
  rw [hF]
  refine AC_frozen orders Try.func26 rfl (by kernel_rfl) (by kernel_rfl) Try.ntmps26 (by simp) ?_
  unfold Try.f26
  (have hwq := trivial; repeat' (first | simp (maxSteps:=9999999)-implicitDefEqProofs only [go_sem,simprocAttr,hwq,FT3,FT27,FT36,FT38,FT65,FT84,List.length_map,List.getElem?_map,Int.natCast_nonneg,List.length_append,List.map_append,hT,hYl,tk,hFl,Nat.le_refl] | (refine condK_split ?_ ?_ <;> intro hwq) | (refine two_split ?_ ?_) | (refine guardK_split ?_ ?_ <;> intro hwq) | (refine guardE_split ?_ ?_ <;> intro hwq) | (refine awp_drawW [] (by decide +kernel) ?_; have hwq := trivial) | (refine call_at [] h2 (by simp) (by simp) rfl rfl rfl (V.les_refl _) ?_; have hwq := trivial) | (refine call_here h3 ?_; have hwq := trivial) | fail))
/-- put of a map that is not there. -/
theorem do35 {p : Pv} (h : checkE p = 0) {m : Mp} (he : addMapE p m = 0) : AC Try.prog 10 [msV p.ms, mpV m, .clo (.func 11) [] []] [] (eqR (msV (insL beforeB m p.ms))) := by
  obtain ⟨n0, hn, e, h1⟩ := put_ms h he
  have hl := (rows_len h).1
  rw [e]
  rcases Nat.lt_or_ge n0 p.ms.length with hlt | hge
  · exact put35_mid m p.ms (by omega) n0 hlt h1
  · obtain rfl : n0 = p.ms.length := Nat.le_antisymm hn hge
    rw [List.take_length, List.drop_length]
    exact put35_end m p.ms (by omega) h1
theorem do40 {p : Pv} (h : checkE p = 0) {m : Cr} (he : addCarryE p m = 0) : AC Try.prog 15 [csV p.cs, crV m, .clo (.func 16) [] []] [] (eqR (csV (insL ltCr m p.cs))) := by
  obtain ⟨n0, hn, e, h1⟩ := put_cs h he
  have hl := (rows_len h).2.1
  rw [e]
  rcases Nat.lt_or_ge n0 p.cs.length with hlt | hge
  · exact put40_mid m p.cs (by omega) n0 hlt h1
  · obtain rfl : n0 = p.cs.length := Nat.le_antisymm hn hge
    rw [List.take_length, List.drop_length]
    exact put40_end m p.cs (by omega) h1
theorem do45 {p : Pv} (h : checkE p = 0) (m : Mb) : AC Try.prog 21 [bsV p.bs, mbV m, .clo (.func 23) [] []] [] (eqR (bsV (setMbL m p.bs))) := by
  have hl := (rows_len h).2.2
  rcases put_bs h m with ⟨n0, y, hy, e, h1⟩ | ⟨n0, hn, e, h1⟩
  · rw [e]
    exact put45_found m p.bs (by omega) n0 y hy h1
  · rw [e]
    rcases Nat.lt_or_ge n0 p.bs.length with hlt | hge
    · exact put45_mid m p.bs (by omega) n0 hlt h1
    · obtain rfl : n0 = p.bs.length := Nat.le_antisymm hn hge
      rw [List.take_length, List.drop_length]
      exact put45_end m p.bs (by omega) h1
theorem do38 {p : Pv} (h : checkE p = 0) {m : Mp} (hm : m ∈ p.ms) : AC Try.prog 13 [msV p.ms, mpV m, .clo (.func 11) [] []] [] (eqR (msV (p.ms.filter (fun y : Mp => !decide (y = m))))) := by
  rw [← drop_ms (rows_ok h).2.1 hm]
  exact drop38_all m p.ms (by have := (rows_len h).1; omega)
theorem do43 {p : Pv} (h : checkE p = 0) {m : Cr} (hm : m ∈ p.cs) : AC Try.prog 19 [csV p.cs, crV m, .clo (.func 16) [] []] [] (eqR (csV (p.cs.filter (fun y : Cr => !decide (y = m))))) := by
  rw [← drop_cs (rows_ok h).2.2.1 hm]
  exact drop43_all m p.cs (by have := (rows_len h).2.1; omega)
theorem do49 {p : Pv} (h : checkE p = 0) (m : Mb) : AC Try.prog 26 [bsV p.bs, mbV m, .clo (.func 23) [] []] [] (eqR (bsV (p.bs.filter (fun y : Mb => y.v != m.v)))) := by
  rw [← drop_bs p.bs m.v]
  exact drop49_all m p.bs (by have := (rows_len h).2.2; omega)
end Go.Ai

set_option linter.unusedVariables false
set_option linter.unusedSimpArgs false
namespace Go.Ai
open Go.Proofs
/-- Do answers as the reference's. -/
theorem pc12 (p : Pv) (hp : okL p) (ho : isB p.own.a) (x : Cm) (hw : x.w.l.length ≤ 1000) :
    AC Try.prog 5 [pvV p, cmV x] [] (eqR (.tuple [pvV (refDo p x).1, vI (refDo p x).2])) :=
  pdo_ref p hp ho x hw (fun h he => do35 h he) (fun h hm => do38 h hm) (fun h he => do40 h he) (fun h hm => do43 h hm) (fun h _ => do45 h x.w) (fun h _ => do49 h x.w)
end Go.Ai

set_option linter.unusedVariables false
set_option linter.unusedSimpArgs false
set_option maxHeartbeats 1000000
set_option maxRecDepth 100000
namespace Go.Ai
open Go.Proofs
/-! ## What is provisioned, plainly: no program in sight -/
theorem ris_pw {α : Type} {lt : α → α → Bool} (tr : ∀ a b c, lt a b = true → lt b c = true → lt a c = true) : ∀ {L : List α}, risB lt L = true ↔ L.Pairwise (fun a b => lt a b = true)
  | [] => by simp [risB]
  | [a] => by simp [risB]
  | a :: b :: l => by
    constructor
    · intro h
      have h2 := h
      rw [risB, Bool.and_eq_true] at h2
      exact List.pairwise_cons.2 ⟨fun y hy => pair_of tr h y hy, (ris_pw tr).1 h2.2⟩
    · intro h
      rw [List.pairwise_cons] at h
      rw [risB, Bool.and_eq_true]
      exact ⟨h.1 b (by simp), (ris_pw tr).2 h.2⟩
theorem ltMb_tr (a b c : Mb) (h1 : ltMb a b = true) (h2 : ltMb b c = true) : ltMb a c = true := by
  unfold ltMb at *
  simp only [decide_eq_true_eq] at *
  omega
theorem before_iff (a b : Mp) : beforeB a b = true ↔ (a.p < b.p ∨ (a.p = b.p ∧ a.v < b.v)) := by
  unfold beforeB
  simp only [Bool.or_eq_true, Bool.and_eq_true, decide_eq_true_eq, beq_iff_eq]
structure Okp (p : Pv) : Prop where
  kd : kindZ p.own.a p.own.b p.own.c p.own.d p.own.e p.own.f = 1
  k1 : 1 ≤ p.ks.length
  k8 : p.ks.length ≤ 8
  kk : ∀ k ∈ p.ks, k = 1 ∨ k = 2
  ml : p.ms.length ≤ 64
  cl : p.cs.length ≤ 64
  bl : p.bs.length ≤ 64
  rm : p.ms.Pairwise (fun a b => beforeB a b = true)
  rc : p.cs.Pairwise (fun a b => ltCr a b = true)
  rb : p.bs.Pairwise (fun a b => ltMb a b = true)
  mb : ∀ x ∈ p.bs, vidOk x.v ∧ portsE p.ks x.l = 0
  mc : ∀ x ∈ p.cs, isidOk x.s ∧ hasM p.bs x.v = true
  mm : ∀ x ∈ p.ms, kindP p.ks x.p = 1 ∧ vidOk x.v ∧ hasC p.cs x.s = true
  mo : p.ms.Pairwise (fun a b => ¬ (a.p = b.p ∧ a.s = b.s))
theorem okM_iff (p : Pv) : okM p = true ↔ p.ms.Pairwise (fun a b => ¬ (a.p = b.p ∧ a.s = b.s)) ∧ ∀ x ∈ p.ms, kindP p.ks x.p = 1 ∧ vidOk x.v ∧ hasC p.cs x.s = true := by
  have one : ∀ (pre : List Mp) (m : Mp), mOk p pre m = true ↔ (∀ x ∈ pre, ¬ (x.p = m.p ∧ x.s = m.s)) ∧ kindP p.ks m.p = 1 ∧ vidOk m.v ∧ hasC p.cs m.s = true := by
    intro pre m
    unfold mOk
    simp only [Bool.and_eq_true, Bool.not_eq_true', List.any_eq_false, beq_iff_eq, decide_eq_true_eq]
  unfold okM
  rw [List.all_eq_true]
  constructor
  · intro h
    have h' : ∀ i (hi : i < p.ms.length), (∀ x ∈ p.ms.take i, ¬ (x.p = p.ms[i].p ∧ x.s = p.ms[i].s)) ∧ kindP p.ks p.ms[i].p = 1 ∧ vidOk p.ms[i].v ∧ hasC p.cs p.ms[i].s = true := by
      intro i hi
      have := h i (List.mem_range.2 hi)
      rw [one] at this
      simpa [List.getD_eq_getElem?_getD, List.getElem?_eq_getElem hi] using this
    refine ⟨?_, fun x hx => ?_⟩
    · rw [List.pairwise_iff_getElem]
      intro i j hi hj hij
      exact (h' j hj).1 _ (List.mem_take_iff_getElem.2 ⟨i, by omega, rfl⟩)
    · obtain ⟨i, hi, rfl⟩ := List.getElem_of_mem hx
      exact (h' i hi).2
  · rintro ⟨h1, h2⟩ i hi
    have hi := List.mem_range.1 hi
    rw [one]
    have e : p.ms.getD i default = p.ms[i] := by simp [List.getD_eq_getElem?_getD, List.getElem?_eq_getElem hi]
    rw [e]
    refine ⟨fun x hx => ?_, h2 _ (List.getElem_mem hi)⟩
    rw [List.pairwise_iff_getElem] at h1
    obtain ⟨k, hk, rfl⟩ := List.mem_take_iff_getElem.1 hx
    exact h1 k i (by omega) hi (by omega)
theorem okB_iff (p : Pv) : okB p = true ↔ Okp p := by
  have hA : okA p = true ↔ kindZ p.own.a p.own.b p.own.c p.own.d p.own.e p.own.f = 1 ∧ (1 ≤ p.ks.length ∧ p.ks.length ≤ 8) ∧ p.ms.length ≤ 64 ∧ p.cs.length ≤ 64 ∧ p.bs.length ≤ 64 := by
    unfold okA
    simp only [Bool.and_eq_true, beq_iff_eq, decide_eq_true_eq]
    omega
  have hR : okR p = true ↔ p.bs.Pairwise (fun a b => ltMb a b = true) ∧ p.cs.Pairwise (fun a b => ltCr a b = true) ∧ p.ms.Pairwise (fun a b => beforeB a b = true) := by
    unfold okR
    simp only [Bool.and_eq_true]
    rw [ris_pw ltMb_tr, ris_pw ltCr_tr, ris_pw before_tr]
  have hQ : okQ p = true ↔ (∀ k ∈ p.ks, k = 1 ∨ k = 2) ∧ (∀ x ∈ p.bs, vidOk x.v ∧ portsE p.ks x.l = 0) ∧ ∀ x ∈ p.cs, isidOk x.s ∧ hasM p.bs x.v = true := by
    unfold okQ
    simp only [Bool.and_eq_true, Bool.not_eq_true', List.any_eq_false, Bool.or_eq_true, not_or, bne_iff_ne, ne_eq, Classical.not_not, decide_eq_true_eq, decide_eq_false_iff_not, Bool.not_eq_false]
    have hk : ∀ x : Int, ¬ (¬ x = 1 ∧ ¬ x = 2) ↔ x = 1 ∨ x = 2 := fun x => by omega
    simp only [hk]
  unfold okB
  simp only [Bool.and_eq_true]
  rw [hA, hR, hQ, okM_iff]
  constructor
  · rintro ⟨⟨a1, ⟨a2, a3⟩, a4, a5, a6⟩, ⟨b1, b2, b3⟩, ⟨c1, c2, c3⟩, d1, d2⟩
    exact ⟨a1, a2, a3, c1, a4, a5, a6, b3, b2, b1, c2, c3, d2, d1⟩
  · rintro ⟨a1, a2, a3, c1, a4, a5, a6, b3, b2, b1, c2, c3, d2, d1⟩
    exact ⟨⟨a1, ⟨a2, a3⟩, a4, a5, a6⟩, ⟨b1, b2, b3⟩, ⟨c1, c2, c3⟩, d1, d2⟩
theorem chk_iff (p : Pv) : checkE p = 0 ↔ Okp p := by
  rw [← okB_iff]
  unfold checkE
  cases okB p <;> simp
/-! ### Insertion -/
theorem insL_perm {α : Type} {lt : α → α → Bool} {x : α} : ∀ {L : List α}, (insL lt x L).Perm (x :: L)
  | [] => List.Perm.refl _
  | y :: l => by
    rw [insL]
    split
    · exact List.Perm.refl _
    · exact (List.Perm.cons y insL_perm).trans (List.Perm.swap x y l)
theorem insL_mem {α : Type} {lt : α → α → Bool} {x y : α} {L : List α} : y ∈ insL lt x L ↔ y = x ∨ y ∈ L := by
  rw [insL_perm.mem_iff, List.mem_cons]
theorem insL_lenE {α : Type} {lt : α → α → Bool} {x : α} {L : List α} : (insL lt x L).length = L.length + 1 := by
  rw [insL_perm.length_eq]; rfl
theorem insL_pw {α : Type} {lt : α → α → Bool} (tr : ∀ a b c, lt a b = true → lt b c = true → lt a c = true) {x : α} : ∀ {L : List α}, (∀ y ∈ L, lt x y = true ∨ lt y x = true) → L.Pairwise (fun a b => lt a b = true) → (insL lt x L).Pairwise (fun a b => lt a b = true)
  | [], _, _ => by simp [insL]
  | y :: l, ht, h => by
    rw [List.pairwise_cons] at h
    rw [insL]
    split
    · rename_i hxy
      refine List.pairwise_cons.2 ⟨fun z hz => ?_, List.pairwise_cons.2 h⟩
      rcases List.mem_cons.1 hz with rfl | hz
      · exact hxy
      · exact tr _ _ _ hxy (h.1 z hz)
    · rename_i hxy
      refine List.pairwise_cons.2 ⟨fun z hz => ?_, insL_pw tr (fun w hw => ht w (by simp [hw])) h.2⟩
      rcases insL_mem.1 hz with rfl | hz
      · rcases ht y (by simp) with h1 | h1
        · exact absurd h1 hxy
        · exact h1
      · exact h.1 z hz
/-! ### What adding asks -/
theorem hasM_iff {bs : List Mb} {n : Int} : hasM bs n = true ↔ ∃ y ∈ bs, y.v = n := by
  unfold hasM; simp [List.any_eq_true]
theorem hasC_iff {cs : List Cr} {n : Int} : hasC cs n = true ↔ ∃ y ∈ cs, y.s = n := by
  unfold hasC; simp [List.any_eq_true]
theorem addMap_iff {p : Pv} {m : Mp} : addMapE p m = 0 ↔ vidOk m.v ∧ isidOk m.s ∧ kindP p.ks m.p = 1 ∧ (∀ x ∈ p.ms, ¬ (x.p = m.p ∧ (x.v = m.v ∨ x.s = m.s))) ∧ hasC p.cs m.s = true ∧ p.ms.length < 64 := by
  unfold addMapE aMap fullZ
  have hb : (p.ms.any fun x => x.p == m.p && (x.v == m.v || x.s == m.s)) = false ↔ ∀ x ∈ p.ms, ¬ (x.p = m.p ∧ (x.v = m.v ∨ x.s = m.s)) := by
    simp only [List.any_eq_false, Bool.and_eq_true, Bool.or_eq_true, beq_iff_eq]
  rw [← hb]
  generalize (p.ms.any fun x => x.p == m.p && (x.v == m.v || x.s == m.s)) = b
  generalize kindP p.ks m.p = kk
  by_cases a1 : vidOk m.v <;> by_cases a2 : isidOk m.s <;> by_cases a3 : kk = 1 <;> cases b <;> cases a5 : hasC p.cs m.s <;> by_cases a6 : p.ms.length < 64 <;> simp [a1, a2, a3] <;> (try split) <;> omega
theorem addCarry_iff {p : Pv} {c : Cr} : addCarryE p c = 0 ↔ isidOk c.s ∧ vidOk c.v ∧ hasC p.cs c.s = false ∧ hasM p.bs c.v = true ∧ p.cs.length < 64 := by
  unfold addCarryE aCar fullZ
  by_cases a1 : isidOk c.s <;> by_cases a2 : vidOk c.v <;> cases a3 : hasC p.cs c.s <;> cases a4 : hasM p.bs c.v <;> by_cases a6 : p.cs.length < 64 <;> simp [a1, a2] <;> omega
theorem setMember_iff {p : Pv} {w : Mb} : setMemberE p w = 0 ↔ vidOk w.v ∧ portsE p.ks w.l = 0 ∧ (hasM p.bs w.v = true ∨ p.bs.length < 64) := by
  unfold setMemberE sMem fullZ
  by_cases a1 : vidOk w.v <;> by_cases a2 : portsE p.ks w.l = 0 <;> cases a4 : hasM p.bs w.v <;> by_cases a6 : p.bs.length < 64 <;> simp [a1, a2] <;> omega
/-- A member is laid over one that is there, or in between. -/
theorem setMb_cases {bs : List Mb} (hr : bs.Pairwise (fun a b => ltMb a b = true)) (w : Mb) :
    ∃ A B, setMbL w bs = A ++ w :: B ∧ (∀ z ∈ A, z.v < w.v) ∧ (∀ z ∈ B, w.v < z.v) ∧ ((∃ y, bs = A ++ y :: B ∧ y.v = w.v) ∨ (bs = A ++ B ∧ hasM bs w.v = false)) := by
  have hrB := (ris_pw ltMb_tr).2 hr
  have key : ∀ a b : Mb, ltMb a b = true ↔ a.v < b.v := fun a b => by unfold ltMb; exact decide_eq_true_iff
  obtain ⟨n0, hn, hlo, hhi⟩ := cut_of (lt := ltMb) (c := fun y => cmpZ y.v w.v) (fun a b hab hb => (cmpZ_neg _ _).2 (Int.lt_trans ((key a b).1 hab) ((cmpZ_neg _ _).1 hb))) hrB
  have lo : ∀ (k : Nat) (z : Mb), bs[k]? = some z → k < n0 → z.v < w.v := fun k z hz hk => (cmpZ_neg _ _).1 (hlo k z hz hk)
  have hi : ∀ (k : Nat) (z : Mb), bs[k]? = some z → n0 ≤ k → ¬ z.v < w.v := fun k z hz hk hh => hhi k z hz hk ((cmpZ_neg _ _).2 hh)
  have hA : ∀ z ∈ bs.take n0, z.v < w.v := fun z hz => by
    obtain ⟨k, hk, hg⟩ := in_take hz
    exact lo k z hg hk
  by_cases hm : hasM bs w.v = true
  · obtain ⟨y, hy, hyv⟩ := hasM_iff.1 hm
    obtain ⟨k, hk⟩ := List.getElem?_of_mem hy
    have hkn : n0 ≤ k := Nat.le_of_not_lt fun h => by have := lo k y hk h; omega
    have hk0 : k = n0 := by
      rcases Nat.lt_or_ge n0 k with h | h
      · have hkl := (List.getElem?_eq_some_iff.1 hk).1
        have hg : bs[n0]? = some bs[n0] := List.getElem?_eq_getElem (by omega)
        have h1 := hi n0 _ hg (Nat.le_refl _)
        rw [List.pairwise_iff_getElem] at hr
        have h2 := (key _ _).1 (hr n0 k (by omega) hkl h)
        rw [(List.getElem?_eq_some_iff.1 hk).2] at h2
        omega
      · omega
    subst hk0
    refine ⟨bs.take k, bs.drop (k + 1), setMb_found hrB lo hk hyv.symm, hA, fun z hz => ?_, .inl ⟨y, at_cut hk, hyv⟩⟩
    rw [at_cut hk, List.pairwise_append] at hr
    have := (key _ _).1 ((List.pairwise_cons.1 hr.2.1).1 z hz)
    omega
  · have hm' : hasM bs w.v = false := by simpa using hm
    have hno : ∀ z ∈ bs, ¬ w.v = z.v := fun z hz e => hm (hasM_iff.2 ⟨z, hz, e.symm⟩)
    refine ⟨bs.take n0, bs.drop n0, setMb_new lo hi hno, hA, fun z hz => ?_, .inr ⟨(List.take_append_drop _ _).symm, hm'⟩⟩
    obtain ⟨k, hk, hg⟩ := in_drop hz
    have := hi k z hg hk
    have := hno z (List.mem_of_mem_drop hz)
    omega
end Go.Ai

set_option linter.unusedVariables false
set_option linter.unusedSimpArgs false
set_option maxHeartbeats 1000000
set_option maxRecDepth 100000
namespace Go.Ai
open Go.Proofs
/-! ## What commands leave may be; what is undone is as it was -/
theorem okp_addMap {p : Pv} {m : Mp} (h : Okp p) (e : addMapE p m = 0) : Okp { p with ms := insL beforeB m p.ms } := by
  obtain ⟨e1, e2, e3, e4, e5, e6⟩ := addMap_iff.1 e
  refine ⟨h.kd, h.k1, h.k8, h.kk, ?_, h.cl, h.bl, ?_, h.rc, h.rb, h.mb, h.mc, ?_, ?_⟩
  · show (insL beforeB m p.ms).length ≤ 64
    rw [insL_lenE]; omega
  · refine insL_pw before_tr (fun y hy => ?_) h.rm
    have := e4 y hy
    rw [before_iff, before_iff]
    omega
  · intro x hx
    rcases insL_mem.1 hx with rfl | hx
    · exact ⟨e3, e1, e5⟩
    · exact h.mm x hx
  · show (insL beforeB m p.ms).Pairwise _
    rw [(insL_perm (lt := beforeB) (x := m) (L := p.ms)).pairwise_iff (fun {a b} hab hba => hab ⟨hba.1.symm, hba.2.symm⟩)]
    refine List.pairwise_cons.2 ⟨fun y hy hc => e4 y hy ⟨hc.1.symm, .inr hc.2.symm⟩, h.mo⟩
theorem okp_delMap {p : Pv} (f : Mp → Bool) (h : Okp p) : Okp { p with ms := p.ms.filter f } :=
  ⟨h.kd, h.k1, h.k8, h.kk, Nat.le_trans (List.length_filter_le _ _) h.ml, h.cl, h.bl, h.rm.filter _, h.rc, h.rb, h.mb, h.mc, fun x hx => h.mm x (List.mem_filter.1 hx).1, h.mo.filter _⟩
theorem okp_addCarry {p : Pv} {c : Cr} (h : Okp p) (e : addCarryE p c = 0) : Okp { p with cs := insL ltCr c p.cs } := by
  obtain ⟨e1, e2, e3, e4, e5⟩ := addCarry_iff.1 e
  have hn : ∀ y ∈ p.cs, ¬ y.s = c.s := fun y hy he => by
    have := hasC_iff.2 ⟨y, hy, he⟩
    rw [e3] at this; cases this
  refine ⟨h.kd, h.k1, h.k8, h.kk, h.ml, ?_, h.bl, h.rm, ?_, h.rb, h.mb, ?_, ?_, h.mo⟩
  · show (insL ltCr c p.cs).length ≤ 64
    rw [insL_lenE]; omega
  · refine insL_pw ltCr_tr (fun y hy => ?_) h.rc
    have := hn y hy
    unfold ltCr
    simp only [decide_eq_true_eq]
    omega
  · intro x hx
    rcases insL_mem.1 hx with rfl | hx
    · exact ⟨e1, e4⟩
    · exact h.mc x hx
  · intro x hx
    obtain ⟨a, b, d⟩ := h.mm x hx
    obtain ⟨y, hy, hv⟩ := hasC_iff.1 d
    exact ⟨a, b, hasC_iff.2 ⟨y, insL_mem.2 (.inr hy), hv⟩⟩
theorem okp_delCarry {p : Pv} {c : Cr} (h : Okp p) (hu : ∀ x ∈ p.ms, ¬ x.s = c.s) : Okp { p with cs := p.cs.filter (fun y : Cr => !decide (y = c)) } := by
  refine ⟨h.kd, h.k1, h.k8, h.kk, h.ml, Nat.le_trans (List.length_filter_le _ _) h.cl, h.bl, h.rm, h.rc.filter _, h.rb, h.mb, fun x hx => h.mc x (List.mem_filter.1 hx).1, ?_, h.mo⟩
  intro x hx
  obtain ⟨a, b, d⟩ := h.mm x hx
  obtain ⟨y, hy, hv⟩ := hasC_iff.1 d
  refine ⟨a, b, hasC_iff.2 ⟨y, List.mem_filter.2 ⟨hy, ?_⟩, hv⟩⟩
  have : ¬ y = c := fun e => hu x hx (by rw [← hv, e])
  simp [this]
theorem okp_setMember {p : Pv} {w : Mb} (h : Okp p) (e : setMemberE p w = 0) : Okp { p with bs := setMbL w p.bs } := by
  obtain ⟨e1, e2, e3⟩ := setMember_iff.1 e
  obtain ⟨A, B, hs, hA, hB, hd⟩ := setMb_cases h.rb w
  have key : ∀ a b : Mb, ltMb a b = true ↔ a.v < b.v := fun a b => by unfold ltMb; exact decide_eq_true_iff
  have hab : (A ++ B).Pairwise (fun a b => ltMb a b = true) := by
    rcases hd with ⟨y, hy, hv⟩ | ⟨hy, _⟩
    · have := h.rb
      rw [hy] at this
      exact this.sublist (List.Sublist.append (List.Sublist.refl _) (List.sublist_cons_self _ _))
    · rw [← hy]; exact h.rb
  have hin : ∀ z ∈ A ++ B, z ∈ p.bs := by
    intro z hz
    rcases hd with ⟨y, hy, hv⟩ | ⟨hy, _⟩
    · rw [hy]
      rcases List.mem_append.1 hz with hz | hz
      · exact List.mem_append_left _ hz
      · exact List.mem_append_right _ (List.mem_cons_of_mem _ hz)
    · rw [hy]; exact hz
  have hM : ∀ n, hasM p.bs n = true → hasM (setMbL w p.bs) n = true := by
    intro n hn
    obtain ⟨z, hz, hv⟩ := hasM_iff.1 hn
    rw [hs]
    rcases hd with ⟨y, hy, hyv⟩ | ⟨hy, _⟩
    · rw [hy] at hz
      rcases List.mem_append.1 hz with hz | hz
      · exact hasM_iff.2 ⟨z, List.mem_append_left _ hz, hv⟩
      · rcases List.mem_cons.1 hz with rfl | hz
        · exact hasM_iff.2 ⟨w, by simp, by rw [← hyv, hv]⟩
        · exact hasM_iff.2 ⟨z, by simp [hz], hv⟩
    · rw [hy] at hz
      rcases List.mem_append.1 hz with hz | hz
      · exact hasM_iff.2 ⟨z, List.mem_append_left _ hz, hv⟩
      · exact hasM_iff.2 ⟨z, by simp [hz], hv⟩
  refine ⟨h.kd, h.k1, h.k8, h.kk, h.ml, h.cl, ?_, h.rm, h.rc, ?_, ?_, fun x hx => ⟨(h.mc x hx).1, hM _ (h.mc x hx).2⟩, h.mm, h.mo⟩
  · show (setMbL w p.bs).length ≤ 64
    rw [hs]
    have hbl := h.bl
    rcases hd with ⟨y, hy, hyv⟩ | ⟨hy, hno⟩
    · rw [hy] at hbl; simpa using hbl
    · rw [hno] at e3
      rcases e3 with e3 | e3
      · cases e3
      · rw [hy] at e3; simp at e3 ⊢; omega
  · show (setMbL w p.bs).Pairwise _
    rw [hs]
    rw [List.pairwise_append] at hab ⊢
    refine ⟨hab.1, List.pairwise_cons.2 ⟨fun z hz => (key _ _).2 (hB z hz), hab.2.1⟩, fun a ha z hz => ?_⟩
    rcases List.mem_cons.1 hz with rfl | hz
    · exact (key _ _).2 (hA a ha)
    · exact hab.2.2 a ha z hz
  · intro x hx
    have hx : x ∈ A ++ w :: B := hs ▸ hx
    rcases List.mem_append.1 hx with hx | hx
    · exact h.mb x (hin x (List.mem_append_left _ hx))
    · rcases List.mem_cons.1 hx with rfl | hx
      · exact ⟨e1, e2⟩
      · exact h.mb x (hin x (List.mem_append_right _ hx))
theorem okp_delMember {p : Pv} {v : Int} (h : Okp p) (hu : ∀ x ∈ p.cs, ¬ x.v = v) : Okp { p with bs := p.bs.filter (fun y : Mb => y.v != v) } := by
  refine ⟨h.kd, h.k1, h.k8, h.kk, h.ml, h.cl, Nat.le_trans (List.length_filter_le _ _) h.bl, h.rm, h.rc, h.rb.filter _, fun x hx => h.mb x (List.mem_filter.1 hx).1, ?_, h.mm, h.mo⟩
  intro x hx
  obtain ⟨a, d⟩ := h.mc x hx
  obtain ⟨y, hy, hv⟩ := hasM_iff.1 d
  refine ⟨a, hasM_iff.2 ⟨y, List.mem_filter.2 ⟨hy, ?_⟩, hv⟩⟩
  have : ¬ y.v = v := fun e => hu x hx (by rw [← hv, e])
  simpa using this
theorem used_none {α : Type} {f : α → Bool} {g : α → Int} {L : List α} (h : decide ((0 : Int) < (((L.filter f).map g).length : Int)) = false) : ∀ x ∈ L, f x = false := by
  simp only [List.length_map, decide_eq_false_iff_not] at h
  have h0 : (L.filter f).length = 0 := by omega
  have h1 := List.eq_nil_of_length_eq_zero h0
  intro x hx
  cases hf : f x with
  | false => rfl
  | true =>
    have : x ∈ L.filter f := List.mem_filter.2 ⟨hx, hf⟩
    rw [h1] at this; cases this
/-- Do, of what may be. -/
theorem do_cases {p : Pv} (h : Okp p) (x : Cm) : refDo p x =
    if x.k == 1 then (if addMapE p x.m == 0 then ({ p with ms := insL beforeB x.m p.ms }, 0) else (p, addMapE p x.m))
    else if x.k == 2 then (if decide (x.m ∈ p.ms) then ({ p with ms := p.ms.filter (fun y : Mp => !decide (y = x.m)) }, 0) else (p, 182))
    else if x.k == 3 then (if addCarryE p x.c == 0 then ({ p with cs := insL ltCr x.c p.cs }, 0) else (p, addCarryE p x.c))
    else if x.k == 4 then (if decide (x.c ∈ p.cs) then (if decide ((0 : Int) < ((usedC p x.c.s).length : Int)) then (p, 183) else ({ p with cs := p.cs.filter (fun y : Cr => !decide (y = x.c)) }, 0)) else (p, 182))
    else if x.k == 5 then (if setMemberE p x.w == 0 then ({ p with bs := setMbL x.w p.bs }, 0) else (p, setMemberE p x.w))
    else if x.k == 6 then (if hasM p.bs x.w.v then (if decide ((0 : Int) < ((usedM p x.w.v).length : Int)) then (p, 183) else ({ p with bs := p.bs.filter (fun y : Mb => y.v != x.w.v) }, 0)) else (p, 182))
    else (p, 1) := by
  rw [← doL_ref]
  unfold doL
  rw [(chk_iff p).2 h]
  rfl
theorem refDo_okp {p : Pv} (h : Okp p) (x : Cm) : Okp (refDo p x).1 := by
  rw [do_cases h]
  split
  · split
    · rename_i e; exact okp_addMap h (by simpa using e)
    · exact h
  split
  · split
    · exact okp_delMap _ h
    · exact h
  split
  · split
    · rename_i e; exact okp_addCarry h (by simpa using e)
    · exact h
  split
  · split
    · split
      · exact h
      · rename_i e
        exact okp_delCarry h fun y hy => by
          have := used_none (f := fun z : Mp => z.s == x.c.s) (g := fun z : Mp => z.p) (by simpa [usedC] using e) y hy
          simpa using this
    · exact h
  split
  · split
    · rename_i e; exact okp_setMember h (by simpa using e)
    · exact h
  split
  · split
    · split
      · exact h
      · rename_i e
        exact okp_delMember h fun y hy => by
          have := used_none (f := fun z : Cr => z.v == x.w.v) (g := fun z : Cr => z.s) (by simpa [usedM] using e) y hy
          simpa using this
    · exact h
  · exact h
theorem refDo_own (p : Pv) (x : Cm) : (refDo p x).1.own = p.own := by
  unfold refDo refMap refMapD refCar refCarD refMem refMemD
  (repeat' split) <;> rfl
/-! ### Undone -/
end Go.Ai

set_option linter.unusedVariables false
set_option linter.unusedSimpArgs false
set_option maxHeartbeats 4000000
set_option maxRecDepth 100000
namespace Go.Ai
open Go.Proofs
/-! ## Made -/
def begP (ks : List Int) : Pv := ⟨⟨2, 0, 0, 0, 0, 1⟩, ks, [], [], []⟩
structure Gdp (p : Pv) : Prop where
  ok : Okp p
  l : okL p
  o : isB p.own.a
theorem gd_beg {ks : List Int} (h1 : 1 ≤ ks.length) (h8 : ks.length ≤ 8) (hk : ∀ k ∈ ks, k = 1 ∨ k = 2) : Gdp (begP ks) := by
  refine ⟨⟨by show kindZ 2 0 0 0 0 1 = 1; decide, h1, h8, hk, by simp [begP], by simp [begP], by simp [begP], by simp [begP], by simp [begP], by simp [begP], by simp [begP], by simp [begP], by simp [begP], by simp [begP]⟩, ⟨by simp [begP]; omega, by simp [begP], by simp [begP], by simp [begP], by simp [begP]⟩, by simp [begP, isB]⟩
theorem gd_do {p : Pv} (h : Gdp p) (x : Cm) (hw : x.w.l.length ≤ 1000) : Gdp (refDo p x).1 := by
  obtain ⟨a, b, c, d, e⟩ := h.l
  refine ⟨refDo_okp h.ok x, refDo_ok a ?_ ?_ ?_ e hw, by rw [refDo_own]; exact h.o⟩
  · have := h.ok.ml; omega
  · have := h.ok.cl; omega
  · have := h.ok.bl; omega
end Go.Ai

set_option linter.unusedVariables false
set_option linter.unusedSimpArgs false
set_option maxHeartbeats 8000000
set_option maxRecDepth 100000
namespace Go.Ai
open Go.Proofs
/-! ## How many there may be -/
structure S1 (j : Nat) (p : Pv) : Prop where
  g : Gdp p
  ks : p.ks = [2, 1, 1]
  ms : p.ms = []
  cs : p.cs = []
  len : p.bs.length = min j 64
  le : ∀ b ∈ p.bs, b.v ≤ (j : Int)
  has : ∀ v : Int, 1 ≤ v → v ≤ ((min j 64 : Nat) : Int) → hasM p.bs v = true
structure S2 (j : Nat) (p : Pv) : Prop where
  g : Gdp p
  ks : p.ks = [2, 1, 1]
  ms : p.ms = []
  bl : p.bs.length = 64
  hb : ∀ v : Int, 1 ≤ v → v ≤ 64 → hasM p.bs v = true
  len : p.cs.length = min j 64
  le : ∀ c ∈ p.cs, c.s ≤ (j : Int)
  has : ∀ v : Int, 1 ≤ v → v ≤ ((min j 64 : Nat) : Int) → hasC p.cs v = true
structure S3 (j : Nat) (p : Pv) : Prop where
  g : Gdp p
  ks : p.ks = [2, 1, 1]
  bl : p.bs.length = 64
  cl : p.cs.length = 64
  hc : ∀ v : Int, 1 ≤ v → v ≤ 64 → hasC p.cs v = true
  len : p.ms.length = min j 64
  le : ∀ m ∈ p.ms, ∃ k : Nat, k < j ∧ m.p = 1 + Int.tmod (k : Int) 2 ∧ m.v = 100 + (k : Int) ∧ m.s = 1 + Int.tdiv (k : Int) 2
theorem s1_zero : S1 0 (begP [2, 1, 1]) :=
  ⟨gd_beg (by decide) (by decide) (by decide), rfl, rfl, rfl, rfl, (fun b hb => by cases hb), fun v h1 h2 => by simp at h2; omega⟩
theorem s1_ask {j : Nat} {p : Pv} (h : S1 j p) (hj : j ≤ 64) : setMemberE p ⟨1 + (j : Int), [0]⟩ = fullZ p.bs.length ∧ hasM p.bs (1 + (j : Int)) = false := by
  have hv : vidOk (1 + (j : Int)) := ⟨by omega, by omega⟩
  have hn : hasM p.bs (1 + (j : Int)) = false := by
    cases hm : hasM p.bs (1 + (j : Int)) with
    | false => rfl
    | true =>
      obtain ⟨y, hy, he⟩ := hasM_iff.1 hm
      have := h.le y hy
      omega
  refine ⟨?_, hn⟩
  unfold setMemberE sMem
  simp only [decide_eq_true hv, hn, h.ks]
  rw [show portsE [2, 1, 1] [0] = 0 from by decide]
  simp
theorem s1_step {j : Nat} {p : Pv} (h : S1 j p) (hj : j < 64) : ∃ q, refDo p (awC 5 zMp zCr ⟨1 + (j : Int), [0]⟩) = (q, 0) ∧ S1 (j + 1) q := by
  obtain ⟨he, hno⟩ := s1_ask h (by omega)
  have h0 : fullZ p.bs.length = 0 := by unfold fullZ; rw [h.len, if_neg (by omega)]
  rw [h0] at he
  have hd := do_cases h.g.ok (awC 5 zMp zCr ⟨1 + (j : Int), [0]⟩)
  have hg := gd_do h.g (awC 5 zMp zCr ⟨1 + (j : Int), [0]⟩) (by simp)
  simp only [show ((5 : Int) == 1) = false from rfl, show ((5 : Int) == 2) = false from rfl, show ((5 : Int) == 3) = false from rfl, show ((5 : Int) == 4) = false from rfl, Bool.false_eq_true, if_false, beq_self_eq_true, if_true, he] at hd
  obtain ⟨A, B, hs, hA, hB, hdd⟩ := setMb_cases h.g.ok.rb ⟨1 + (j : Int), [0]⟩
  have hbs : p.bs = A ++ B := by
    rcases hdd with ⟨y, hy, hv⟩ | ⟨hy, _⟩
    · have := (hasM_iff (bs := p.bs)).2 ⟨y, by rw [hy]; simp, hv⟩
      rw [hno] at this; cases this
    · exact hy
  have hlen := h.len
  have hle := h.le
  rw [hbs] at hlen hle
  rw [hd] at hg
  refine ⟨_, hd, hg, h.ks, h.ms, h.cs, ?_, ?_, ?_⟩
  · show (setMbL ⟨1 + (j : Int), [0]⟩ p.bs).length = _
    rw [hs]
    simp only [List.length_append, List.length_cons] at hlen ⊢
    omega
  · intro b hb
    have hb : b ∈ A ++ (⟨1 + (j : Int), [0]⟩ : Mb) :: B := hs ▸ hb
    rcases List.mem_append.1 hb with hb | hb
    · have := hle b (List.mem_append_left _ hb); omega
    · rcases List.mem_cons.1 hb with rfl | hb
      · show 1 + (j : Int) ≤ _; omega
      · have := hle b (List.mem_append_right _ hb); omega
  · intro v h1 h2
    show hasM (setMbL ⟨1 + (j : Int), [0]⟩ p.bs) v = true
    rw [hs]
    by_cases hv : v = 1 + (j : Int)
    · exact hasM_iff.2 ⟨⟨1 + (j : Int), [0]⟩, by simp, hv.symm⟩
    · obtain ⟨y, hy, hyv⟩ := hasM_iff.1 (h.has v h1 (by omega))
      rw [hbs] at hy
      refine hasM_iff.2 ⟨y, ?_, hyv⟩
      rcases List.mem_append.1 hy with hy | hy
      · exact List.mem_append_left _ hy
      · exact List.mem_append_right _ (List.mem_cons_of_mem _ hy)
theorem s1_full {p : Pv} (h : S1 64 p) : refDo p (awC 5 zMp zCr ⟨1 + ((64 : Nat) : Int), [0]⟩) = (p, 3) ∧ S1 65 p := by
  obtain ⟨he, _⟩ := s1_ask h (Nat.le_refl _)
  have h0 : fullZ p.bs.length = 3 := by unfold fullZ; rw [h.len, if_pos (by decide)]
  rw [h0] at he
  have hd := do_cases h.g.ok (awC 5 zMp zCr ⟨1 + ((64 : Nat) : Int), [0]⟩)
  simp only [show ((5 : Int) == 1) = false from rfl, show ((5 : Int) == 2) = false from rfl, show ((5 : Int) == 3) = false from rfl, show ((5 : Int) == 4) = false from rfl, Bool.false_eq_true, if_false, beq_self_eq_true, if_true, he, show ((3 : Int) == 0) = false from rfl] at hd
  exact ⟨hd, h.g, h.ks, h.ms, h.cs, h.len, fun b hb => by have := h.le b hb; omega, h.has⟩
theorem s2_zero {p : Pv} (h : S1 65 p) : S2 0 p :=
  ⟨h.g, h.ks, h.ms, h.len, fun v h1 h2 => h.has v h1 (by omega), by rw [h.cs]; rfl, (by rw [h.cs]; intro c hc; cases hc), fun v h1 h2 => by simp at h2; omega⟩
theorem s2_ask {j : Nat} {p : Pv} (h : S2 j p) (hj : j ≤ 64) (t : Int) (h0 : 0 ≤ t) (h1 : t ≤ 63) : addCarryE p ⟨1 + (j : Int), 1 + t⟩ = fullZ p.cs.length ∧ hasC p.cs (1 + (j : Int)) = false := by
  have hv : isidOk (1 + (j : Int)) := ⟨by omega, by omega⟩
  have hw : vidOk (1 + t) := ⟨by omega, by omega⟩
  have hn : hasC p.cs (1 + (j : Int)) = false := by
    cases hm : hasC p.cs (1 + (j : Int)) with
    | false => rfl
    | true =>
      obtain ⟨y, hy, he⟩ := hasC_iff.1 hm
      have := h.le y hy
      omega
  refine ⟨?_, hn⟩
  unfold addCarryE aCar
  simp only [decide_eq_true hv, decide_eq_true hw, hn, h.hb (1 + t) (by omega) (by omega)]
  simp
theorem s2_step {j : Nat} {p : Pv} (h : S2 j p) (hj : j < 64) (t : Int) (h0 : 0 ≤ t) (h1 : t ≤ 63) : ∃ q, refDo p (awC 3 zMp ⟨1 + (j : Int), 1 + t⟩ zMb) = (q, 0) ∧ S2 (j + 1) q := by
  obtain ⟨he, hno⟩ := s2_ask h (by omega) t h0 h1
  have hz : fullZ p.cs.length = 0 := by unfold fullZ; rw [h.len, if_neg (by omega)]
  rw [hz] at he
  have hd := do_cases h.g.ok (awC 3 zMp ⟨1 + (j : Int), 1 + t⟩ zMb)
  have hg := gd_do h.g (awC 3 zMp ⟨1 + (j : Int), 1 + t⟩ zMb) (by simp)
  simp only [show ((3 : Int) == 1) = false from rfl, show ((3 : Int) == 2) = false from rfl, Bool.false_eq_true, if_false, beq_self_eq_true, if_true, he] at hd
  rw [hd] at hg
  refine ⟨_, hd, hg, h.ks, h.ms, h.bl, h.hb, ?_, ?_, ?_⟩
  · show (insL ltCr ⟨1 + (j : Int), 1 + t⟩ p.cs).length = _
    rw [insL_lenE, h.len]
    omega
  · intro c hc
    rcases insL_mem.1 hc with rfl | hc
    · show 1 + (j : Int) ≤ _; omega
    · have := h.le c hc; omega
  · intro v a1 a2
    by_cases hv : v = 1 + (j : Int)
    · exact hasC_iff.2 ⟨_, insL_mem.2 (.inl rfl), hv.symm⟩
    · obtain ⟨y, hy, hyv⟩ := hasC_iff.1 (h.has v a1 (by omega))
      exact hasC_iff.2 ⟨y, insL_mem.2 (.inr hy), hyv⟩
theorem s2_full {p : Pv} (h : S2 64 p) (t : Int) (h0 : 0 ≤ t) (h1 : t ≤ 63) : refDo p (awC 3 zMp ⟨1 + ((64 : Nat) : Int), 1 + t⟩ zMb) = (p, 3) ∧ S2 65 p := by
  obtain ⟨he, _⟩ := s2_ask h (Nat.le_refl _) t h0 h1
  have hz : fullZ p.cs.length = 3 := by unfold fullZ; rw [h.len, if_pos (by decide)]
  rw [hz] at he
  have hd := do_cases h.g.ok (awC 3 zMp ⟨1 + ((64 : Nat) : Int), 1 + t⟩ zMb)
  simp only [show ((3 : Int) == 1) = false from rfl, show ((3 : Int) == 2) = false from rfl, Bool.false_eq_true, if_false, beq_self_eq_true, if_true, he, show ((3 : Int) == 0) = false from rfl] at hd
  exact ⟨hd, h.g, h.ks, h.ms, h.bl, h.hb, h.len, fun b hb => by have := h.le b hb; omega, h.has⟩
theorem s3_zero {p : Pv} (h : S2 65 p) : S3 0 p :=
  ⟨h.g, h.ks, h.bl, h.len, fun v h1 h2 => h.has v h1 (by omega), by rw [h.ms]; rfl, by rw [h.ms]; intro c hc; cases hc⟩
abbrev m3 (j : Nat) : Mp := ⟨1 + Int.tmod (j : Int) 2, 100 + (j : Int), 1 + Int.tdiv (j : Int) 2⟩
theorem s3_ask {j : Nat} {p : Pv} (h : S3 j p) (hj : j ≤ 64) : addMapE p (m3 j) = fullZ p.ms.length := by
  have ht : Int.tmod (j : Int) 2 = (j : Int) % 2 := Int.tmod_eq_emod_of_nonneg (by omega)
  have hd : Int.tdiv (j : Int) 2 = (j : Int) / 2 := Int.tdiv_eq_ediv_of_nonneg (by omega)
  have hv : vidOk (100 + (j : Int)) := ⟨by omega, by omega⟩
  have hw : isidOk (1 + Int.tdiv (j : Int) 2) := by rw [hd]; exact ⟨by omega, by omega⟩
  have hk : kindP p.ks (1 + Int.tmod (j : Int) 2) = 1 := by
    rw [h.ks, ht]
    rcases (by omega : (j : Int) % 2 = 0 ∨ (j : Int) % 2 = 1) with e | e <;> rw [e] <;> decide
  have hc := h.hc (1 + Int.tdiv (j : Int) 2) (by rw [hd]; omega) (by rw [hd]; omega)
  have hn : (p.ms.any fun x => x.p == (m3 j).p && (x.v == (m3 j).v || x.s == (m3 j).s)) = false := by
    rw [List.any_eq_false]
    intro x hx hq
    simp only [Bool.and_eq_true, Bool.or_eq_true, beq_iff_eq] at hq
    obtain ⟨k, hk, e1, e2, e3⟩ := h.le x hx
    have ht' : Int.tmod (k : Int) 2 = (k : Int) % 2 := Int.tmod_eq_emod_of_nonneg (by omega)
    have hd' : Int.tdiv (k : Int) 2 = (k : Int) / 2 := Int.tdiv_eq_ediv_of_nonneg (by omega)
    rw [e1, e2, e3] at hq
    simp only [ht, hd, ht', hd'] at hq
    omega
  unfold addMapE aMap
  simp only [decide_eq_true hv, decide_eq_true hw, hk, hn, hc]
  simp
theorem s3_step {j : Nat} {p : Pv} (h : S3 j p) (hj : j < 64) : ∃ q, refDo p (awC 1 (m3 j) zCr zMb) = (q, 0) ∧ S3 (j + 1) q := by
  have he := s3_ask h (by omega)
  have hz : fullZ p.ms.length = 0 := by unfold fullZ; rw [h.len, if_neg (by omega)]
  rw [hz] at he
  have hd := do_cases h.g.ok (awC 1 (m3 j) zCr zMb)
  have hg := gd_do h.g (awC 1 (m3 j) zCr zMb) (by simp)
  simp only [beq_self_eq_true, if_true, he] at hd
  rw [hd] at hg
  refine ⟨_, hd, hg, h.ks, h.bl, h.cl, h.hc, ?_, ?_⟩
  · show (insL beforeB (m3 j) p.ms).length = _
    rw [insL_lenE, h.len]
    omega
  · intro m hm
    rcases insL_mem.1 hm with rfl | hm
    · exact ⟨j, by omega, rfl, rfl, rfl⟩
    · obtain ⟨k, hk, e⟩ := h.le m hm
      exact ⟨k, by omega, e⟩
theorem s3_full {p : Pv} (h : S3 64 p) : refDo p (awC 1 (m3 64) zCr zMb) = (p, 3) ∧ S3 65 p := by
  have he := s3_ask h (Nat.le_refl _)
  have hz : fullZ p.ms.length = 3 := by unfold fullZ; rw [h.len, if_pos (by decide)]
  rw [hz] at he
  have hd := do_cases h.g.ok (awC 1 (m3 64) zCr zMb)
  simp only [beq_self_eq_true, if_true, he, show ((3 : Int) == 0) = false from rfl, Bool.false_eq_true, if_false] at hd
  exact ⟨hd, h.g, h.ks, h.bl, h.cl, h.hc, h.len, fun m hm => by obtain ⟨k, hk, e⟩ := h.le m hm; exact ⟨k, by omega, e⟩⟩
end Go.Ai

set_option linter.unusedVariables false
set_option linter.unusedSimpArgs false
set_option maxHeartbeats 8000000
set_option maxRecDepth 100000
namespace Go.Ai
open Go.Proofs
attribute [local go_sem] QH QR V.noimm V.noimms frzZs frzZ frzA frzV frzVs frzBox boxLen Option.isSome cond_true cond_false aopD calW flatV stepX amap stepY alookup afind aupdate adelete amlen arange ameq mapOf akeq pl V.mapT V.mapTs Option.bind stepK runK guardD stepE runD callD compact selB callK evS ofVal ofVals scalar aop ares mkRes V.rn V.rns V.cells? cellsAt Go.Ai.part aload astore setL V.atom abin aun intBin shiftBin aconv fieldOf aindexAddr aindex bound? aslice aarr abuild afill alen nilP nilS nilF aeq eqCells eqCell Go.Ai.known strBin abuiltin aappend abuildSlice arowsFill amakeSlice acopy aclear minmax rowsOf numsT notStr isIntD isByte V.pz V.pzs T.toV frz1 frz scalT scalTs chunkT List.range List.range.loop ite_true ite_false if_true if_false ne_eq implies_true forall_const eq_self IntKind.bits kPostKF_ret kPostKF_normal kPostX_ret kPostX_normal bsl nil2K nil2 kPostFW_ret kPostFW_normal kPostKM_ret kPostKM_normal kPostXK_ret kPostXK_normal
def M1 (n : Int) (k : Nat) (S : St) : Prop :=
  ∃ (j : Nat) (p : Pv) (mv : List Nat), S = ⟨tms [(0, .s (.int .u8 n)), (3, .ptr 0 0 0), (4, vI j)], [bxP p], mv⟩ ∧ j ≤ 65 ∧ k = 65 - j ∧ S1 j p
def M2 (n : Int) (k : Nat) (S : St) : Prop :=
  ∃ (j : Nat) (p : Pv) (mv : List Nat), S = ⟨tms [(0, .s (.int .u8 n)), (3, .ptr 0 0 0), (7, vI j)], [bxP p], mv⟩ ∧ j ≤ 65 ∧ k = 65 - j ∧ S2 j p
def M3 (k : Nat) (S : St) : Prop :=
  ∃ (j : Nat) (p : Pv) (mv : List Nat), S = ⟨tms [(3, .ptr 0 0 0), (10, vI j)], [bxP p], mv⟩ ∧ j ≤ 65 ∧ k = 65 - j ∧ S3 j p
theorem ni_of {q : Pv} (h : q.ks = [2, 1, 1]) (e : Int) : (V.tuple [pvV q, vI e]).noimm = false := by
  obtain ⟨own, ks, ms, cs, bs⟩ := q
  subst h
  rfl
theorem pl3m (n : Int) (hn : isB n) : AC Try.prog 3 [.s (.int .u8 n)] [] (eqR (vB true)) := by
  have n57 := pc57 [2, 1, 1]
  have wn : IntKind.i64.wrap n = n := wI64 _ (by have := hn.1; omega) (by have := hn.2; omega)
  refine AC_plain orders Try.func3 rfl (by kernel_rfl) (by kernel_rfl) Try.ntmps3 (by simp) ?_
  unfold Try.f3
  (have hwq := trivial; repeat' (first | simp (maxSteps:=9999999)-implicitDefEqProofs only [go_sem,simprocAttr,hwq,FT3,FT4,FT5,FT23,FT24,FT25,FT26,FT27,FT29,FT31,FT32,FT35,FT36,FT38,FT40,FT42,FT44,FT45,FT46,FT48,List.length_map,List.getElem?_map,Int.natCast_nonneg,List.length_append,List.map_append] | (refine condK_split ?_ ?_ <;> intro hwq) | (refine two_split ?_ ?_) | (refine guardK_split ?_ ?_ <;> intro hwq) | (refine guardE_split ?_ ?_ <;> intro hwq) | (refine awp_drawW [] (by decide +kernel) ?_; have hwq := trivial) | (refine call_dataF n57 rfl (V.les_refl _) rfl rfl ?_; have hwq := trivial) | fail))
  refine awp_loopK (M1 n) 65 _ (Weak.selI [1] [0, 3, 4] (by decide) ?_ ?_) ⟨0, begP [2, 1, 1], _, rfl, by omega, rfl, s1_zero⟩ ?_
  · simp (maxSteps:=9999999)-implicitDefEqProofs only [simprocAttr,QH,Option.isSome,cond_true,cond_false,Option.bind,selB,V.rn,V.rns,Go.Ai.known,V.pz,V.pzs,T.toV,frz1,List.range,List.range.loop,ite_true,ite_false,if_true,if_false,ne_eq,implies_true,forall_const,eq_self,IntKind.bits,upd_tmsS,selT_cons,selT_nil,List.length_map,List.getElem?_map,Int.natCast_nonneg,List.length_append,List.map_append,selF_cons,selF_nil]
  · simp (maxSteps:=9999999)-implicitDefEqProofs only [simprocAttr,QH,Option.isSome,cond_true,cond_false,Option.bind,selB,V.rn,V.rns,Go.Ai.known,V.pz,V.pzs,T.toV,frz1,List.range,List.range.loop,ite_true,ite_false,if_true,if_false,ne_eq,implies_true,forall_const,eq_self,IntKind.bits,upd_tmsS,selT_cons,selT_nil,List.length_map,List.getElem?_map,Int.natCast_nonneg,List.length_append,List.map_append,begP]
  rintro kk S ⟨j, p, mv, rfl, hj, rfl, hS⟩
  have wj : IntKind.i64.wrap ((j : Int) + 1) = (j : Int) + 1 := wI64 _ (by omega) (by omega)
  have w1 : IntKind.i64.wrap (1 + (j : Int)) = 1 + (j : Int) := wI64 _ (by omega) (by omega)
  by_cases hj65 : j < 65
  · have hj1 : (j : Int) < 65 := by omega
    by_cases hj64 : j < 64
    · have hj2 : (j : Int) < 64 := by omega
      have hj3 : ¬ (64 : Int) ≤ (j : Int) := by omega
      obtain ⟨q, hd, hq⟩ := s1_step hS hj64
      have n12 := pc12 p hS.g.l hS.g.o (awC 5 zMp zCr ⟨1 + (j : Int), [0]⟩) (by simp)
      rw [hd] at n12
      have hni := ni_of hq.ks 0
      (have hwq := trivial; repeat' (first | simp (maxSteps:=9999999)-implicitDefEqProofs only [go_sem,simprocAttr,hwq,FT3,FT4,FT5,FT23,FT24,FT25,FT26,FT27,FT29,FT31,FT32,FT35,FT36,FT38,FT40,FT42,FT44,FT45,FT46,FT48,List.length_map,List.getElem?_map,Int.natCast_nonneg,List.length_append,List.map_append,wj,w1,hj1,hj2,hj3] | (refine condK_split ?_ ?_ <;> intro hwq) | (refine two_split ?_ ?_) | (refine guardK_split ?_ ?_ <;> intro hwq) | (refine guardE_split ?_ ?_ <;> intro hwq) | (refine awp_drawW [] (by decide +kernel) ?_; have hwq := trivial) | (refine call_dataF n12 rfl (V.les_refl _) rfl hni ?_; have hwq := trivial) | fail))
      refine ⟨65 - (j + 1), _, by omega, Weak.cutI 1 [0, 3, 4] ?_ ?_, j + 1, q, _, rfl, by omega, rfl, hq⟩
      · simp (maxSteps:=9999999)-implicitDefEqProofs only [simprocAttr,QH,Option.isSome,cond_true,cond_false,Option.bind,selB,V.rn,V.rns,Go.Ai.known,V.pz,V.pzs,T.toV,frz1,List.range,List.range.loop,ite_true,ite_false,if_true,if_false,ne_eq,implies_true,forall_const,eq_self,IntKind.bits,upd_tmsS,selT_cons,selT_nil,List.length_map,List.getElem?_map,Int.natCast_nonneg,List.length_append,List.map_append]
      · simp (maxSteps:=9999999)-implicitDefEqProofs only [simprocAttr,QH,Option.isSome,cond_true,cond_false,Option.bind,selB,V.rn,V.rns,Go.Ai.known,V.pz,V.pzs,T.toV,frz1,List.range,List.range.loop,ite_true,ite_false,if_true,if_false,ne_eq,implies_true,forall_const,eq_self,IntKind.bits,upd_tmsS,selT_cons,selT_nil,List.length_map,List.getElem?_map,Int.natCast_nonneg,List.length_append,List.map_append]
    · obtain rfl : j = 64 := by omega
      obtain ⟨hd, hq⟩ := s1_full hS
      have n12 := pc12 p hS.g.l hS.g.o (awC 5 zMp zCr ⟨1 + ((64 : Nat) : Int), [0]⟩) (by simp)
      rw [hd] at n12
      have hni := ni_of hq.ks 3
      have hw0 : IntKind.i64.wrap 65 = 65 := by decide
      (have hwq := trivial; repeat' (first | simp (maxSteps:=9999999)-implicitDefEqProofs only [go_sem,simprocAttr,hwq,FT3,FT4,FT5,FT23,FT24,FT25,FT26,FT27,FT29,FT31,FT32,FT35,FT36,FT38,FT40,FT42,FT44,FT45,FT46,FT48,List.length_map,List.getElem?_map,Int.natCast_nonneg,List.length_append,List.map_append,wj,w1,hw0] | (refine condK_split ?_ ?_ <;> intro hwq) | (refine two_split ?_ ?_) | (refine guardK_split ?_ ?_ <;> intro hwq) | (refine guardE_split ?_ ?_ <;> intro hwq) | (refine awp_drawW [] (by decide +kernel) ?_; have hwq := trivial) | (refine call_dataF n12 rfl (V.les_refl _) rfl hni ?_; have hwq := trivial) | fail))
      refine ⟨65 - 65, _, by omega, Weak.cutI 1 [0, 3, 4] ?_ ?_, 65, p, _, rfl, by omega, rfl, hq⟩
      · simp (maxSteps:=9999999)-implicitDefEqProofs only [simprocAttr,QH,Option.isSome,cond_true,cond_false,Option.bind,selB,V.rn,V.rns,Go.Ai.known,V.pz,V.pzs,T.toV,frz1,List.range,List.range.loop,ite_true,ite_false,if_true,if_false,ne_eq,implies_true,forall_const,eq_self,IntKind.bits,upd_tmsS,selT_cons,selT_nil,List.length_map,List.getElem?_map,Int.natCast_nonneg,List.length_append,List.map_append]
      · simp (maxSteps:=9999999)-implicitDefEqProofs only [simprocAttr,QH,Option.isSome,cond_true,cond_false,Option.bind,selB,V.rn,V.rns,Go.Ai.known,V.pz,V.pzs,T.toV,frz1,List.range,List.range.loop,ite_true,ite_false,if_true,if_false,ne_eq,implies_true,forall_const,eq_self,IntKind.bits,upd_tmsS,selT_cons,selT_nil,List.length_map,List.getElem?_map,Int.natCast_nonneg,List.length_append,List.map_append]
  obtain rfl : j = 65 := by omega
  (have hwq := trivial; repeat' (first | simp (maxSteps:=9999999)-implicitDefEqProofs only [go_sem,simprocAttr,hwq,FT3,FT4,FT5,FT23,FT24,FT25,FT26,FT27,FT29,FT31,FT32,FT35,FT36,FT38,FT40,FT42,FT44,FT45,FT46,FT48,List.length_map,List.getElem?_map,Int.natCast_nonneg,List.length_append,List.map_append] | (refine condK_split ?_ ?_ <;> intro hwq) | (refine two_split ?_ ?_) | (refine guardK_split ?_ ?_ <;> intro hwq) | (refine guardE_split ?_ ?_ <;> intro hwq) | (refine awp_drawW [] (by decide +kernel) ?_; have hwq := trivial) | fail))
  refine awp_loopK (M2 n) 65 _ (Weak.cutI 1 [0, 3, 7] ?_ ?_) ⟨0, p, _, rfl, by omega, rfl, s2_zero hS⟩ ?_
  · simp (maxSteps:=9999999)-implicitDefEqProofs only [simprocAttr,QH,Option.isSome,cond_true,cond_false,Option.bind,selB,V.rn,V.rns,Go.Ai.known,V.pz,V.pzs,T.toV,frz1,List.range,List.range.loop,ite_true,ite_false,if_true,if_false,ne_eq,implies_true,forall_const,eq_self,IntKind.bits,upd_tmsS,selT_cons,selT_nil,List.length_map,List.getElem?_map,Int.natCast_nonneg,List.length_append,List.map_append]
  · simp (maxSteps:=9999999)-implicitDefEqProofs only [simprocAttr,QH,Option.isSome,cond_true,cond_false,Option.bind,selB,V.rn,V.rns,Go.Ai.known,V.pz,V.pzs,T.toV,frz1,List.range,List.range.loop,ite_true,ite_false,if_true,if_false,ne_eq,implies_true,forall_const,eq_self,IntKind.bits,upd_tmsS,selT_cons,selT_nil,List.length_map,List.getElem?_map,Int.natCast_nonneg,List.length_append,List.map_append]
  clear hS wj w1 hj hj65 p
  rintro kk S ⟨j, p, mv, rfl, hj, rfl, hS⟩
  have wj : IntKind.i64.wrap ((j : Int) + 1) = (j : Int) + 1 := wI64 _ (by omega) (by omega)
  have w1 : IntKind.i64.wrap (1 + (j : Int)) = 1 + (j : Int) := wI64 _ (by omega) (by omega)
  have w2 : IntKind.i64.wrap ((j : Int) + n) = (j : Int) + n := wI64 _ (by have := hn.1; omega) (by have := hn.2; omega)
  obtain ⟨t, ht, ht0, ht1⟩ : ∃ t : Int, ((j : Int) + n).tmod 64 = t ∧ 0 ≤ t ∧ t ≤ 63 := ⟨((j : Int) + n) % 64, Int.tmod_eq_emod_of_nonneg (by have := hn.1; omega), by omega, by omega⟩
  have w3 : IntKind.i64.wrap (1 + t) = 1 + t := wI64 _ (by omega) (by omega)
  by_cases hj65 : j < 65
  · have hj1 : (j : Int) < 65 := by omega
    by_cases hj64 : j < 64
    · have hj2 : (j : Int) < 64 := by omega
      have hj3 : ¬ (64 : Int) ≤ (j : Int) := by omega
      obtain ⟨q, hd, hq⟩ := s2_step hS hj64 t ht0 ht1
      have n12 := (pc12 p hS.g.l hS.g.o (awC 3 zMp ⟨1 + (j : Int), 1 + t⟩ zMb) (by simp)).lesA (cmN_le _ _ rfl)
      rw [hd] at n12
      (have hwq := trivial; repeat' (first | simp (maxSteps:=9999999)-implicitDefEqProofs only [go_sem,simprocAttr,hwq,FT3,FT4,FT5,FT23,FT24,FT25,FT26,FT27,FT29,FT31,FT32,FT35,FT36,FT38,FT40,FT42,FT44,FT45,FT46,FT48,List.length_map,List.getElem?_map,Int.natCast_nonneg,List.length_append,List.map_append,wj,w1,w2,w3,wn,ht,hj1,hj2,hj3] | (refine condK_split ?_ ?_ <;> intro hwq) | (refine two_split ?_ ?_) | (refine guardK_split ?_ ?_ <;> intro hwq) | (refine guardE_split ?_ ?_ <;> intro hwq) | (refine awp_drawW [] (by decide +kernel) ?_; have hwq := trivial) | (refine call_plain n12 rfl rfl ?_; have hwq := trivial) | fail))
      refine ⟨65 - (j + 1), _, by omega, Weak.cutI 1 [0, 3, 7] ?_ ?_, j + 1, q, _, rfl, by omega, rfl, hq⟩
      · simp (maxSteps:=9999999)-implicitDefEqProofs only [simprocAttr,QH,Option.isSome,cond_true,cond_false,Option.bind,selB,V.rn,V.rns,Go.Ai.known,V.pz,V.pzs,T.toV,frz1,List.range,List.range.loop,ite_true,ite_false,if_true,if_false,ne_eq,implies_true,forall_const,eq_self,IntKind.bits,upd_tmsS,selT_cons,selT_nil,List.length_map,List.getElem?_map,Int.natCast_nonneg,List.length_append,List.map_append]
      · simp (maxSteps:=9999999)-implicitDefEqProofs only [simprocAttr,QH,Option.isSome,cond_true,cond_false,Option.bind,selB,V.rn,V.rns,Go.Ai.known,V.pz,V.pzs,T.toV,frz1,List.range,List.range.loop,ite_true,ite_false,if_true,if_false,ne_eq,implies_true,forall_const,eq_self,IntKind.bits,upd_tmsS,selT_cons,selT_nil,List.length_map,List.getElem?_map,Int.natCast_nonneg,List.length_append,List.map_append]
    · obtain rfl : j = 64 := by omega
      obtain ⟨hd, hq⟩ := s2_full hS t ht0 ht1
      have v2 : IntKind.i64.wrap (64 + n) = 64 + n := w2
      have vt : ((64 : Int) + n).tmod 64 = t := ht
      have n12 := (pc12 p hS.g.l hS.g.o (awC 3 zMp ⟨1 + ((64 : Nat) : Int), 1 + t⟩ zMb) (by simp)).lesA (cmN_le _ _ rfl)
      rw [hd] at n12
      have hw0 : IntKind.i64.wrap 65 = 65 := by decide
      (have hwq := trivial; repeat' (first | simp (maxSteps:=9999999)-implicitDefEqProofs only [go_sem,simprocAttr,hwq,FT3,FT4,FT5,FT23,FT24,FT25,FT26,FT27,FT29,FT31,FT32,FT35,FT36,FT38,FT40,FT42,FT44,FT45,FT46,FT48,List.length_map,List.getElem?_map,Int.natCast_nonneg,List.length_append,List.map_append,wj,w1,v2,vt,w3,wn,hw0] | (refine condK_split ?_ ?_ <;> intro hwq) | (refine two_split ?_ ?_) | (refine guardK_split ?_ ?_ <;> intro hwq) | (refine guardE_split ?_ ?_ <;> intro hwq) | (refine awp_drawW [] (by decide +kernel) ?_; have hwq := trivial) | (refine call_plain n12 rfl rfl ?_; have hwq := trivial) | fail))
      refine ⟨65 - 65, _, by omega, Weak.cutI 1 [0, 3, 7] ?_ ?_, 65, p, _, rfl, by omega, rfl, hq⟩
      · simp (maxSteps:=9999999)-implicitDefEqProofs only [simprocAttr,QH,Option.isSome,cond_true,cond_false,Option.bind,selB,V.rn,V.rns,Go.Ai.known,V.pz,V.pzs,T.toV,frz1,List.range,List.range.loop,ite_true,ite_false,if_true,if_false,ne_eq,implies_true,forall_const,eq_self,IntKind.bits,upd_tmsS,selT_cons,selT_nil,List.length_map,List.getElem?_map,Int.natCast_nonneg,List.length_append,List.map_append]
      · simp (maxSteps:=9999999)-implicitDefEqProofs only [simprocAttr,QH,Option.isSome,cond_true,cond_false,Option.bind,selB,V.rn,V.rns,Go.Ai.known,V.pz,V.pzs,T.toV,frz1,List.range,List.range.loop,ite_true,ite_false,if_true,if_false,ne_eq,implies_true,forall_const,eq_self,IntKind.bits,upd_tmsS,selT_cons,selT_nil,List.length_map,List.getElem?_map,Int.natCast_nonneg,List.length_append,List.map_append]
  obtain rfl : j = 65 := by omega
  (have hwq := trivial; repeat' (first | simp (maxSteps:=9999999)-implicitDefEqProofs only [go_sem,simprocAttr,hwq,FT3,FT4,FT5,FT23,FT24,FT25,FT26,FT27,FT29,FT31,FT32,FT35,FT36,FT38,FT40,FT42,FT44,FT45,FT46,FT48,List.length_map,List.getElem?_map,Int.natCast_nonneg,List.length_append,List.map_append] | (refine condK_split ?_ ?_ <;> intro hwq) | (refine two_split ?_ ?_) | (refine guardK_split ?_ ?_ <;> intro hwq) | (refine guardE_split ?_ ?_ <;> intro hwq) | (refine awp_drawW [] (by decide +kernel) ?_; have hwq := trivial) | fail))
  refine awp_loopK M3 65 _ (Weak.cutI 1 [3, 10] ?_ ?_) ⟨0, p, _, rfl, by omega, rfl, s3_zero hS⟩ ?_
  · simp (maxSteps:=9999999)-implicitDefEqProofs only [simprocAttr,QH,Option.isSome,cond_true,cond_false,Option.bind,selB,V.rn,V.rns,Go.Ai.known,V.pz,V.pzs,T.toV,frz1,List.range,List.range.loop,ite_true,ite_false,if_true,if_false,ne_eq,implies_true,forall_const,eq_self,IntKind.bits,upd_tmsS,selT_cons,selT_nil,List.length_map,List.getElem?_map,Int.natCast_nonneg,List.length_append,List.map_append]
  · simp (maxSteps:=9999999)-implicitDefEqProofs only [simprocAttr,QH,Option.isSome,cond_true,cond_false,Option.bind,selB,V.rn,V.rns,Go.Ai.known,V.pz,V.pzs,T.toV,frz1,List.range,List.range.loop,ite_true,ite_false,if_true,if_false,ne_eq,implies_true,forall_const,eq_self,IntKind.bits,upd_tmsS,selT_cons,selT_nil,List.length_map,List.getElem?_map,Int.natCast_nonneg,List.length_append,List.map_append]
  clear hS wj w1 w2 w3 ht ht0 ht1 t hj hj65 p
  rintro kk S ⟨j, p, mv, rfl, hj, rfl, hS⟩
  have wj : IntKind.i64.wrap ((j : Int) + 1) = (j : Int) + 1 := wI64 _ (by omega) (by omega)
  have tt : Int.tmod (j : Int) 2 = (j : Int) % 2 := Int.tmod_eq_emod_of_nonneg (by omega)
  have td : Int.tdiv (j : Int) 2 = (j : Int) / 2 := Int.tdiv_eq_ediv_of_nonneg (by omega)
  have w4 : IntKind.i64.wrap (1 + Int.tmod (j : Int) 2) = 1 + Int.tmod (j : Int) 2 := wI64 _ (by omega) (by omega)
  have w5 : IntKind.i64.wrap (100 + (j : Int)) = 100 + (j : Int) := wI64 _ (by omega) (by omega)
  have w6 : IntKind.i64.wrap (1 + Int.tdiv (j : Int) 2) = 1 + Int.tdiv (j : Int) 2 := wI64 _ (by omega) (by omega)
  have w7 : IntKind.i64.wrap (Int.tdiv (j : Int) 2) = Int.tdiv (j : Int) 2 := wI64 _ (by omega) (by omega)
  by_cases hj65 : j < 65
  · have hj1 : (j : Int) < 65 := by omega
    by_cases hj64 : j < 64
    · have hj2 : (j : Int) < 64 := by omega
      have hj3 : ¬ (64 : Int) ≤ (j : Int) := by omega
      obtain ⟨q, hd, hq⟩ := s3_step hS hj64
      have n12 := (pc12 p hS.g.l hS.g.o (awC 1 (m3 j) zCr zMb) (by simp)).lesA (cmN_le _ _ rfl)
      rw [hd] at n12
      (have hwq := trivial; repeat' (first | simp (maxSteps:=9999999)-implicitDefEqProofs only [go_sem,simprocAttr,hwq,FT3,FT4,FT5,FT23,FT24,FT25,FT26,FT27,FT29,FT31,FT32,FT35,FT36,FT38,FT40,FT42,FT44,FT45,FT46,FT48,List.length_map,List.getElem?_map,Int.natCast_nonneg,List.length_append,List.map_append,wj,w4,w5,w6,w7,hj1,hj2,hj3] | (refine condK_split ?_ ?_ <;> intro hwq) | (refine two_split ?_ ?_) | (refine guardK_split ?_ ?_ <;> intro hwq) | (refine guardE_split ?_ ?_ <;> intro hwq) | (refine awp_drawW [] (by decide +kernel) ?_; have hwq := trivial) | (refine call_plain n12 rfl rfl ?_; have hwq := trivial) | fail))
      refine ⟨65 - (j + 1), _, by omega, Weak.cutI 1 [3, 10] ?_ ?_, j + 1, q, _, rfl, by omega, rfl, hq⟩
      · simp (maxSteps:=9999999)-implicitDefEqProofs only [simprocAttr,QH,Option.isSome,cond_true,cond_false,Option.bind,selB,V.rn,V.rns,Go.Ai.known,V.pz,V.pzs,T.toV,frz1,List.range,List.range.loop,ite_true,ite_false,if_true,if_false,ne_eq,implies_true,forall_const,eq_self,IntKind.bits,upd_tmsS,selT_cons,selT_nil,List.length_map,List.getElem?_map,Int.natCast_nonneg,List.length_append,List.map_append]
      · simp (maxSteps:=9999999)-implicitDefEqProofs only [simprocAttr,QH,Option.isSome,cond_true,cond_false,Option.bind,selB,V.rn,V.rns,Go.Ai.known,V.pz,V.pzs,T.toV,frz1,List.range,List.range.loop,ite_true,ite_false,if_true,if_false,ne_eq,implies_true,forall_const,eq_self,IntKind.bits,upd_tmsS,selT_cons,selT_nil,List.length_map,List.getElem?_map,Int.natCast_nonneg,List.length_append,List.map_append]
    · obtain rfl : j = 64 := by omega
      obtain ⟨hd, hq⟩ := s3_full hS
      have n12 := (pc12 p hS.g.l hS.g.o (awC 1 (m3 64) zCr zMb) (by simp)).lesA (cmN_le _ _ rfl)
      rw [hd] at n12
      have hw0 : IntKind.i64.wrap 65 = 65 := by decide
      have hw1 : IntKind.i64.wrap 1 = 1 := by decide
      have hw2 : IntKind.i64.wrap 164 = 164 := by decide
      have hw3 : IntKind.i64.wrap 33 = 33 := by decide
      have hw4 : IntKind.i64.wrap 32 = 32 := by decide
      (have hwq := trivial; repeat' (first | simp (maxSteps:=9999999)-implicitDefEqProofs only [go_sem,simprocAttr,hwq,FT3,FT4,FT5,FT23,FT24,FT25,FT26,FT27,FT29,FT31,FT32,FT35,FT36,FT38,FT40,FT42,FT44,FT45,FT46,FT48,List.length_map,List.getElem?_map,Int.natCast_nonneg,List.length_append,List.map_append,wj,w4,w5,w6,w7,hw0,hw1,hw2,hw3,hw4] | (refine condK_split ?_ ?_ <;> intro hwq) | (refine two_split ?_ ?_) | (refine guardK_split ?_ ?_ <;> intro hwq) | (refine guardE_split ?_ ?_ <;> intro hwq) | (refine awp_drawW [] (by decide +kernel) ?_; have hwq := trivial) | (refine call_plain n12 rfl rfl ?_; have hwq := trivial) | fail))
      refine ⟨65 - 65, _, by omega, Weak.cutI 1 [3, 10] ?_ ?_, 65, p, _, rfl, by omega, rfl, hq⟩
      · simp (maxSteps:=9999999)-implicitDefEqProofs only [simprocAttr,QH,Option.isSome,cond_true,cond_false,Option.bind,selB,V.rn,V.rns,Go.Ai.known,V.pz,V.pzs,T.toV,frz1,List.range,List.range.loop,ite_true,ite_false,if_true,if_false,ne_eq,implies_true,forall_const,eq_self,IntKind.bits,upd_tmsS,selT_cons,selT_nil,List.length_map,List.getElem?_map,Int.natCast_nonneg,List.length_append,List.map_append]
      · simp (maxSteps:=9999999)-implicitDefEqProofs only [simprocAttr,QH,Option.isSome,cond_true,cond_false,Option.bind,selB,V.rn,V.rns,Go.Ai.known,V.pz,V.pzs,T.toV,frz1,List.range,List.range.loop,ite_true,ite_false,if_true,if_false,ne_eq,implies_true,forall_const,eq_self,IntKind.bits,upd_tmsS,selT_cons,selT_nil,List.length_map,List.getElem?_map,Int.natCast_nonneg,List.length_append,List.map_append]
  obtain rfl : j = 65 := by omega
  have l1 : ((p.ms.length : Int) == 64) = true := by rw [hS.len]; rfl
  have l2 : ((p.cs.length : Int) == 64) = true := by rw [hS.cl]; rfl
  have l3 : ((p.bs.length : Int) == 64) = true := by rw [hS.bl]; rfl
  (have hwq := trivial; repeat' (first | simp (maxSteps:=9999999)-implicitDefEqProofs only [go_sem,simprocAttr,hwq,FT3,FT4,FT5,FT23,FT24,FT25,FT26,FT27,FT29,FT31,FT32,FT35,FT36,FT38,FT40,FT42,FT44,FT45,FT46,FT48,List.length_map,List.getElem?_map,Int.natCast_nonneg,List.length_append,List.map_append,l1,l2,l3] | (refine condK_split ?_ ?_ <;> intro hwq) | (refine two_split ?_ ?_) | (refine guardK_split ?_ ?_ <;> intro hwq) | (refine guardE_split ?_ ?_ <;> intro hwq) | (refine awp_drawW [] (by decide +kernel) ?_; have hwq := trivial) | (refine call_plain pc15 rfl rfl ?_; have hwq := trivial) | fail))
end Go.Ai
