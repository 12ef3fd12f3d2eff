/- Contracts of functions of the loaded program: called with data in the ranges that each names, it returns this value and writes to no old memory. -/
import Derived.Test.YtbiolkmddpkheaaGreatPrvZh
set_option linter.unusedVariables false
set_option linter.unusedSimpArgs false
set_option maxHeartbeats 4000000
set_option maxRecDepth 100000
namespace Go.Ai
open Go.Proofs
attribute [local go_sem] QH QR V.noimm V.noimms frzZs frzZ frzA frzV frzVs frzBox boxLen Option.isSome cond_true cond_false aopD calW flatV stepX amap stepY alookup afind aupdate adelete amlen arange ameq mapOf akeq pl V.mapT V.mapTs Option.bind stepK runK guardD stepE runD callD compact selB callK evS ofVal ofVals scalar aop ares mkRes V.rn V.rns V.cells? cellsAt Go.Ai.part aload astore setL V.atom abin aun intBin shiftBin aconv fieldOf aindexAddr aindex bound? aslice aarr abuild afill alen nilP nilS nilF aeq eqCells eqCell Go.Ai.known strBin abuiltin aappend abuildSlice arowsFill amakeSlice acopy aclear minmax rowsOf numsT notStr isIntD isByte V.pz V.pzs T.toV frz1 frz scalT scalTs chunkT List.range List.range.loop ite_true ite_false if_true if_false ne_eq implies_true forall_const eq_self IntKind.bits kPostKF_ret kPostKF_normal kPostX_ret kPostX_normal bsl nil2K nil2 kPostFW_ret kPostFW_normal kPostKM_ret kPostKM_normal kPostXK_ret kPostXK_normal
theorem put35_mid (x : Mp) (L : List Mp) (hL : L.length ≤ 1000) (n0 : Nat) (hn : n0 < L.length) (h1 : AC Tryz.prog 99 [msV L, mpV x, .clo (.func 36) [] []] [] (eqR (.tuple [vI n0, vB false]))) :
    AC Tryz.prog 35 [msV L, mpV x, .clo (.func 36) [] []] [] (eqR (msV (L.take n0 ++ x :: L.drop n0))) := by
  obtain ⟨l, hl⟩ : ∃ l, L.map mpT = l := ⟨_, rfl⟩
  have hll : L.length = l.length := by rw [← hl]; simp
  have h2 := pco94 l (by omega)
  have h3 := AC_ins (P := Tryz.prog) (f := 100) (z := 3) (by kernel_rfl) insAt100 (by decide) (mpT x) l (by omega) n0 (by omega) (bxMp x) ((flat1_Mp x).pz _)
  obtain ⟨X, hX⟩ : ∃ X, l.take n0 ++ mpT x :: l.drop n0 = X := ⟨_, rfl⟩
  have hX2 : (L.take n0 ++ x :: L.drop n0).map mpT = X := by rw [← hX, List.map_append, List.map_cons, List.map_take, List.map_drop, hl]
  have hXl : X.length = l.length + 1 := by rw [← hX]; simp; omega
  have tk : List.take (l.length + 1) X = X := List.take_of_length_le (by omega)
  rw [hX] at h3
  rw [show msV (L.take n0 ++ x :: L.drop n0) = .sl 3 X from by rw [← hX2], show msV L = .sl 3 l from by rw [← hl]]
  rw [show msV L = .sl 3 l from by rw [← hl]] at h1
  refine AC_frozen orders Tryz.func35 rfl (by kernel_rfl) (by kernel_rfl) Tryz.ntmps35 (by simp) ?_
  unfold Tryz.f35
  (have hwq := trivial; repeat' (first | simp (maxSteps:=9999999)-implicitDefEqProofs only [go_sem,simprocAttr,hwq,FT3,FT25,FT32,FT69,List.length_map,List.getElem?_map,Int.natCast_nonneg,List.length_append,List.map_append,hXl,tk,Nat.le_refl] | (refine condK_split ?_ ?_ <;> intro hwq) | (refine two_split ?_ ?_) | (refine guardK_split ?_ ?_ <;> intro hwq) | (refine guardE_split ?_ ?_ <;> intro hwq) | (refine awp_drawW [] (by decide +kernel) ?_; have hwq := trivial) | (refine call_plain h1 rfl rfl ?_; have hwq := trivial) | (refine call_at [] h2 (by simp) (by simp) rfl rfl rfl (V.les_refl _) ?_; have hwq := trivial) | (refine call_here h3 ?_; have hwq := trivial) | fail))
theorem drop38_all (x : Mp) (L : List Mp) (hL : L.length ≤ 1000) : AC Tryz.prog 38 [msV L, mpV x, .clo (.func 36) [] []] [] (eqR (msV (L.filter (fun y => !(cmpMp x y == 0))))) := by
  have hT : isAgg Tryz.prog 69 = some false := by kernel_rfl
  obtain ⟨F, hF⟩ : ∃ F, L.filter (fun y => !(cmpMp x y == 0)) = F := ⟨_, rfl⟩
  have hFl : F.length ≤ L.length := by rw [← hF]; exact List.length_filter_le _ _
  obtain ⟨Y, hY⟩ : ∃ Y, F.map mpT ++ List.replicate (L.length - F.length) [.s (.int .i64 0), .s (.int .i64 0), .s (.int .i64 0)] = Y := ⟨_, rfl⟩
  have h3 := pdf104 x L hL (fun y => cmpMp x y == 0) (fun _ => rfl) F hF Y hY
  have h2 := pco94 (L.map mpT) (by simp; omega)
  rw [List.length_map] at h2
  have hYl : Y.length = L.length := by rw [← hY]; simp; omega
  have tk : List.take F.length Y = F.map mpT := by
    rw [← hY, List.take_append_of_le_length (by simp), List.take_of_length_le (by simp)]
  rw [hF]
  refine AC_frozen orders Tryz.func38 rfl (by kernel_rfl) (by kernel_rfl) Tryz.ntmps38 (by simp) ?_
  unfold Tryz.f38
  (have hwq := trivial; repeat' (first | simp (maxSteps:=9999999)-implicitDefEqProofs only [go_sem,simprocAttr,hwq,FT3,FT25,FT32,FT69,FT101,List.length_map,List.getElem?_map,Int.natCast_nonneg,List.length_append,List.map_append,hT,hYl,tk,hFl,Nat.le_refl] | (refine condK_split ?_ ?_ <;> intro hwq) | (refine two_split ?_ ?_) | (refine guardK_split ?_ ?_ <;> intro hwq) | (refine guardE_split ?_ ?_ <;> intro hwq) | (refine awp_drawW [] (by decide +kernel) ?_; have hwq := trivial) | (refine call_at [] h2 (by simp) (by simp) rfl rfl rfl (V.les_refl _) ?_; have hwq := trivial) | (refine call_here h3 ?_; have hwq := trivial) | fail))
theorem put40_mid (x : Cr) (L : List Cr) (hL : L.length ≤ 1000) (n0 : Nat) (hn : n0 < L.length) (h1 : AC Tryz.prog 106 [csV L, crV x, .clo (.func 41) [] []] [] (eqR (.tuple [vI n0, vB false]))) :
    AC Tryz.prog 40 [csV L, crV x, .clo (.func 41) [] []] [] (eqR (csV (L.take n0 ++ x :: L.drop n0))) := by
  obtain ⟨l, hl⟩ : ∃ l, L.map crT = l := ⟨_, rfl⟩
  have hll : L.length = l.length := by rw [← hl]; simp
  have h2 := pco95 l (by omega)
  have h3 := AC_ins (P := Tryz.prog) (f := 107) (z := 2) (by kernel_rfl) insAt107 (by decide) (crT x) l (by omega) n0 (by omega) (bxCr x) ((flat1_Cr x).pz _)
  obtain ⟨X, hX⟩ : ∃ X, l.take n0 ++ crT x :: l.drop n0 = X := ⟨_, rfl⟩
  have hX2 : (L.take n0 ++ x :: L.drop n0).map crT = X := by rw [← hX, List.map_append, List.map_cons, List.map_take, List.map_drop, hl]
  have hXl : X.length = l.length + 1 := by rw [← hX]; simp; omega
  have tk : List.take (l.length + 1) X = X := List.take_of_length_le (by omega)
  rw [hX] at h3
  rw [show csV (L.take n0 ++ x :: L.drop n0) = .sl 2 X from by rw [← hX2], show csV L = .sl 2 l from by rw [← hl]]
  rw [show csV L = .sl 2 l from by rw [← hl]] at h1
  refine AC_frozen orders Tryz.func40 rfl (by kernel_rfl) (by kernel_rfl) Tryz.ntmps40 (by simp) ?_
  unfold Tryz.f40
  (have hwq := trivial; repeat' (first | simp (maxSteps:=9999999)-implicitDefEqProofs only [go_sem,simprocAttr,hwq,FT3,FT26,FT34,FT73,List.length_map,List.getElem?_map,Int.natCast_nonneg,List.length_append,List.map_append,hXl,tk,Nat.le_refl] | (refine condK_split ?_ ?_ <;> intro hwq) | (refine two_split ?_ ?_) | (refine guardK_split ?_ ?_ <;> intro hwq) | (refine guardE_split ?_ ?_ <;> intro hwq) | (refine awp_drawW [] (by decide +kernel) ?_; have hwq := trivial) | (refine call_plain h1 rfl rfl ?_; have hwq := trivial) | (refine call_at [] h2 (by simp) (by simp) rfl rfl rfl (V.les_refl _) ?_; have hwq := trivial) | (refine call_here h3 ?_; have hwq := trivial) | fail))
theorem drop43_all (x : Cr) (L : List Cr) (hL : L.length ≤ 1000) : AC Tryz.prog 43 [csV L, crV x, .clo (.func 41) [] []] [] (eqR (csV (L.filter (fun y => !(cmpZ x.s y.s == 0))))) := by
  have hT : isAgg Tryz.prog 73 = some false := by kernel_rfl
  obtain ⟨F, hF⟩ : ∃ F, L.filter (fun y => !(cmpZ x.s y.s == 0)) = F := ⟨_, rfl⟩
  have hFl : F.length ≤ L.length := by rw [← hF]; exact List.length_filter_le _ _
  obtain ⟨Y, hY⟩ : ∃ Y, F.map crT ++ List.replicate (L.length - F.length) [.s (.int .i64 0), .s (.int .i64 0)] = Y := ⟨_, rfl⟩
  have h3 := pdf109 x L hL (fun y => cmpZ x.s y.s == 0) (fun _ => rfl) F hF Y hY
  have h2 := pco95 (L.map crT) (by simp; omega)
  rw [List.length_map] at h2
  have hYl : Y.length = L.length := by rw [← hY]; simp; omega
  have tk : List.take F.length Y = F.map crT := by
    rw [← hY, List.take_append_of_le_length (by simp), List.take_of_length_le (by simp)]
  rw [hF]
  refine AC_frozen orders Tryz.func43 rfl (by kernel_rfl) (by kernel_rfl) Tryz.ntmps43 (by simp) ?_
  unfold Tryz.f43
  (have hwq := trivial; repeat' (first | simp (maxSteps:=9999999)-implicitDefEqProofs only [go_sem,simprocAttr,hwq,FT3,FT26,FT34,FT73,FT99,List.length_map,List.getElem?_map,Int.natCast_nonneg,List.length_append,List.map_append,hT,hYl,tk,hFl,Nat.le_refl] | (refine condK_split ?_ ?_ <;> intro hwq) | (refine two_split ?_ ?_) | (refine guardK_split ?_ ?_ <;> intro hwq) | (refine guardE_split ?_ ?_ <;> intro hwq) | (refine awp_drawW [] (by decide +kernel) ?_; have hwq := trivial) | (refine call_at [] h2 (by simp) (by simp) rfl rfl rfl (V.les_refl _) ?_; have hwq := trivial) | (refine call_here h3 ?_; have hwq := trivial) | fail))
theorem put45_mid (x : Mb) (L : List Mb) (hL : L.length ≤ 1000) (n0 : Nat) (hn : n0 < L.length) (h1 : AC Tryz.prog 111 [bsV L, mbV x, .clo (.func 47) [] []] [] (eqR (.tuple [vI n0, vB false]))) :
    AC Tryz.prog 45 [bsV L, mbV x, .clo (.func 47) [] []] [] (eqR (bsV (L.take n0 ++ x :: L.drop n0))) := by
  obtain ⟨l, hl⟩ : ∃ l, L.map mbT = l := ⟨_, rfl⟩
  have hll : L.length = l.length := by rw [← hl]; simp
  have h2 := pco96 l (by omega)
  have h3 := AC_ins (P := Tryz.prog) (f := 112) (z := 2) (by kernel_rfl) insAt112 (by decide) (mbT x) l (by omega) n0 (by omega) (bxMb x) ((flat1_Mb x).pz _)
  obtain ⟨X, hX⟩ : ∃ X, l.take n0 ++ mbT x :: l.drop n0 = X := ⟨_, rfl⟩
  have hX2 : (L.take n0 ++ x :: L.drop n0).map mbT = X := by rw [← hX, List.map_append, List.map_cons, List.map_take, List.map_drop, hl]
  have hXl : X.length = l.length + 1 := by rw [← hX]; simp; omega
  have tk : List.take (l.length + 1) X = X := List.take_of_length_le (by omega)
  rw [hX] at h3
  rw [show bsV (L.take n0 ++ x :: L.drop n0) = .sl 2 X from by rw [← hX2], show bsV L = .sl 2 l from by rw [← hl]]
  rw [show bsV L = .sl 2 l from by rw [← hl]] at h1
  refine AC_frozen orders Tryz.func45 rfl (by kernel_rfl) (by kernel_rfl) Tryz.ntmps45 (by simp) ?_
  unfold Tryz.f45
  (have hwq := trivial; repeat' (first | simp (maxSteps:=9999999)-implicitDefEqProofs only [go_sem,simprocAttr,hwq,FT3,FT27,FT35,FT37,FT78,List.length_map,List.getElem?_map,Int.natCast_nonneg,List.length_append,List.map_append,hXl,tk,Nat.le_refl] | (refine condK_split ?_ ?_ <;> intro hwq) | (refine two_split ?_ ?_) | (refine guardK_split ?_ ?_ <;> intro hwq) | (refine guardE_split ?_ ?_ <;> intro hwq) | (refine awp_drawW [] (by decide +kernel) ?_; have hwq := trivial) | (refine call_plain h1 rfl rfl ?_; have hwq := trivial) | (refine call_at [] h2 (by simp) (by simp) rfl rfl rfl (V.les_refl _) ?_; have hwq := trivial) | (refine call_here h3 ?_; have hwq := trivial) | fail))
theorem drop49_all (x : Mb) (L : List Mb) (hL : L.length ≤ 1000) : AC Tryz.prog 49 [bsV L, mbV x, .clo (.func 47) [] []] [] (eqR (bsV (L.filter (fun y => !(cmpZ x.v y.v == 0))))) := by
  have hT : isAgg Tryz.prog 78 = some false := by kernel_rfl
  obtain ⟨F, hF⟩ : ∃ F, L.filter (fun y => !(cmpZ x.v y.v == 0)) = F := ⟨_, rfl⟩
  have hFl : F.length ≤ L.length := by rw [← hF]; exact List.length_filter_le _ _
  obtain ⟨Y, hY⟩ : ∃ Y, F.map mbT ++ List.replicate (L.length - F.length) [.s (.int .i64 0), .s (.slice none 0 0)] = Y := ⟨_, rfl⟩
  have h3 := pdf114 x L hL (fun y => cmpZ x.v y.v == 0) (fun _ => rfl) F hF Y hY
  have h2 := pco96 (L.map mbT) (by simp; omega)
  rw [List.length_map] at h2
  have hYl : Y.length = L.length := by rw [← hY]; simp; omega
  have tk : List.take F.length Y = F.map mbT := by
    rw [← hY, List.take_append_of_le_length (by simp), List.take_of_length_le (by simp)]
  rw [hF]
  refine AC_frozen orders Tryz.func49 rfl (by kernel_rfl) (by kernel_rfl) Tryz.ntmps49 (by simp) ?_
  unfold Tryz.f49
  (have hwq := trivial; repeat' (first | simp (maxSteps:=9999999)-implicitDefEqProofs only [go_sem,simprocAttr,hwq,FT3,FT27,FT35,FT37,FT78,FT97,List.length_map,List.getElem?_map,Int.natCast_nonneg,List.length_append,List.map_append,hT,hYl,tk,hFl,Nat.le_refl] | (refine condK_split ?_ ?_ <;> intro hwq) | (refine two_split ?_ ?_) | (refine guardK_split ?_ ?_ <;> intro hwq) | (refine guardE_split ?_ ?_ <;> intro hwq) | (refine awp_drawW [] (by decide +kernel) ?_; have hwq := trivial) | (refine call_at [] h2 (by simp) (by simp) rfl rfl rfl (V.les_refl _) ?_; have hwq := trivial) | (refine call_here h3 ?_; have hwq := trivial) | fail))
/-- put of a map that is not there. -/
theorem do35 {p : Pv} (h : checkE p = 0) {m : Mp} (he : addMapE p m = 0) : AC Tryz.prog 35 [msV p.ms, mpV m, .clo (.func 36) [] []] [] (eqR (msV (insL beforeB m p.ms))) := by
  obtain ⟨n0, hn, e, h1⟩ := put_ms h he
  have hl := (rows_len h).1
  rw [e]
  rcases Nat.lt_or_ge n0 p.ms.length with hlt | hge
  · exact put35_mid m p.ms (by omega) n0 hlt h1
  · obtain rfl : n0 = p.ms.length := Nat.le_antisymm hn hge
    rw [List.take_length, List.drop_length]
    exact put35_end m p.ms (by omega) h1
theorem do40 {p : Pv} (h : checkE p = 0) {m : Cr} (he : addCarryE p m = 0) : AC Tryz.prog 40 [csV p.cs, crV m, .clo (.func 41) [] []] [] (eqR (csV (insL ltCr m p.cs))) := by
  obtain ⟨n0, hn, e, h1⟩ := put_cs h he
  have hl := (rows_len h).2.1
  rw [e]
  rcases Nat.lt_or_ge n0 p.cs.length with hlt | hge
  · exact put40_mid m p.cs (by omega) n0 hlt h1
  · obtain rfl : n0 = p.cs.length := Nat.le_antisymm hn hge
    rw [List.take_length, List.drop_length]
    exact put40_end m p.cs (by omega) h1
theorem do45 {p : Pv} (h : checkE p = 0) (m : Mb) : AC Tryz.prog 45 [bsV p.bs, mbV m, .clo (.func 47) [] []] [] (eqR (bsV (setMbL m p.bs))) := by
  have hl := (rows_len h).2.2
  rcases put_bs h m with ⟨n0, y, hy, e, h1⟩ | ⟨n0, hn, e, h1⟩
  · rw [e]
    exact put45_found m p.bs (by omega) n0 y hy h1
  · rw [e]
    rcases Nat.lt_or_ge n0 p.bs.length with hlt | hge
    · exact put45_mid m p.bs (by omega) n0 hlt h1
    · obtain rfl : n0 = p.bs.length := Nat.le_antisymm hn hge
      rw [List.take_length, List.drop_length]
      exact put45_end m p.bs (by omega) h1
theorem do38 {p : Pv} (h : checkE p = 0) {m : Mp} (hm : m ∈ p.ms) : AC Tryz.prog 38 [msV p.ms, mpV m, .clo (.func 36) [] []] [] (eqR (msV (p.ms.filter (fun y : Mp => !decide (y = m))))) := by
  rw [← drop_ms (rows_ok h).2.1 hm]
  exact drop38_all m p.ms (by have := (rows_len h).1; omega)
theorem do43 {p : Pv} (h : checkE p = 0) {m : Cr} (hm : m ∈ p.cs) : AC Tryz.prog 43 [csV p.cs, crV m, .clo (.func 41) [] []] [] (eqR (csV (p.cs.filter (fun y : Cr => !decide (y = m))))) := by
  rw [← drop_cs (rows_ok h).2.2.1 hm]
  exact drop43_all m p.cs (by have := (rows_len h).2.1; omega)
theorem do49 {p : Pv} (h : checkE p = 0) (m : Mb) : AC Tryz.prog 49 [bsV p.bs, mbV m, .clo (.func 47) [] []] [] (eqR (bsV (p.bs.filter (fun y : Mb => y.v != m.v)))) := by
  rw [← drop_bs p.bs m.v]
  exact drop49_all m p.bs (by have := (rows_len h).2.2; omega)
end Go.Ai

set_option linter.unusedVariables false
set_option linter.unusedSimpArgs false
namespace Go.Ai
open Go.Proofs
/-- Do answers as the reference's. -/
theorem pc12 (p : Pv) (hp : okL p) (ho : isB p.own.a) (x : Cm) (hw : x.w.l.length ≤ 1000) :
    AC Tryz.prog 12 [pvV p, cmV x] [] (eqR (.tuple [pvV (refDo p x).1, vI (refDo p x).2])) :=
  pdo_ref p hp ho x hw (fun h he => do35 h he) (fun h hm => do38 h hm) (fun h he => do40 h he) (fun h hm => do43 h hm) (fun h _ => do45 h x.w) (fun h _ => do49 h x.w)
theorem pl3_done (p : Pv) (hp : isB p.own.a) (x : Cm) : AC Tryz.prog 3 [pvV p, cmV x] [] (eqR (vB true)) :=
  pl3 p hp x (pc12 (fewP p) (fewP_ok p) hp (shortC x) (by simp [shortC, shortM]; omega))
end Go.Ai
