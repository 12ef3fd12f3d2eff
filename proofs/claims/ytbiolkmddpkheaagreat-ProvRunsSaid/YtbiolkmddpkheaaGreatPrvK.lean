/- Contracts of functions of the loaded program: called with data in the ranges that each names, it returns this value and writes to no old memory. -/
import Derived.Test.YtbiolkmddpkheaaGreatPrvT
set_option linter.unusedVariables false
set_option linter.unusedSimpArgs false
set_option maxHeartbeats 8000000
set_option maxRecDepth 100000
namespace Go.Ai
open Go.Proofs
attribute [local go_sem] QH QR V.noimm V.noimms frzZs frzZ frzA frzV frzVs frzBox boxLen Option.isSome cond_true cond_false aopD calW flatV stepX amap stepY alookup afind aupdate adelete amlen arange ameq mapOf akeq pl V.mapT V.mapTs Option.bind stepK runK guardD stepE runD callD compact selB callK evS ofVal ofVals scalar aop ares mkRes V.rn V.rns V.cells? cellsAt Go.Ai.part aload astore setL V.atom abin aun intBin shiftBin aconv fieldOf aindexAddr aindex bound? aslice aarr abuild afill alen nilP nilS nilF aeq eqCells eqCell Go.Ai.known strBin abuiltin aappend abuildSlice arowsFill amakeSlice acopy aclear minmax rowsOf numsT notStr isIntD isByte V.pz V.pzs T.toV frz1 frz scalT scalTs chunkT List.range List.range.loop ite_true ite_false if_true if_false ne_eq implies_true forall_const eq_self IntKind.bits kPostKF_ret kPostKF_normal kPostX_ret kPostX_normal bsl nil2K nil2 kPostFW_ret kPostFW_normal kPostKM_ret kPostKM_normal kPostXK_ret kPostXK_normal
theorem zz_of {n l k : Nat} (h : n ≤ l) (h2 : l ≤ 1000) (h3 : k ≤ 100) : (n + 1) * k ≤ 140737488355328 :=
  Nat.le_trans (Nat.mul_le_mul (by omega : n + 1 ≤ 1001) h3) (by omega)
theorem fil_in {α : Type} {q : α → Bool} {L : List α} {j : Nat} {x : α} (h : L[j]? = some x) : (L.take (j + 1)).filter q = (L.take j).filter q ++ (if q x = true then [x] else []) := by
  rw [take_in h, List.filter_append]
  congr 1
  cases hq : q x <;> simp [hq]
theorem fil_le {α : Type} {q : α → Bool} {L : List α} {j : Nat} : ((L.take j).filter q).length ≤ L.length := by
  have h1 := List.length_filter_le q (L.take j)
  rw [List.length_take] at h1
  omega
def delE51 (p : Pv) (m : Mp) : Int := if (p.ms.filter (fun y : Mp => !decide (y = m))).length = p.ms.length then 182 else 0
def De51 (p : Pv) (m : Mp) (n : Nat) (S : St) : Prop :=
  ∃ (j : Nat) (N : List Mp) (mv : List Nat), S = ⟨tms [(2, .ptr 0 0 0), (3, .ptr 1 0 0), (4, .ptr 2 0 0), (6, .own 3 0 N.length), (7, vI j)], [bxP p, bxMp m, .box [.s (.int .u8 0), .s (.int .u8 0), .s (.int .u8 0), .s (.int .u8 0), .s (.int .u8 0), .s (.int .u8 0), .s (.slice none 0 0), .s (.slice none 0 0), .s (.slice none 0 0), .s (.slice none 0 0)] false, .rows 3 (N.map mpT) false], mv⟩ ∧ N = (p.ms.take j).filter (fun y : Mp => !decide (y = m)) ∧ j ≤ p.ms.length ∧ n = p.ms.length - j
theorem pc51 (p : Pv) (hp : okL p) (m : Mp) : AC Tryz.prog 51 [pvV p, mpV m] [] (eqR (.tuple [pvV (if delE51 p m = 0 then { p with ms := p.ms.filter (fun y : Mp => !decide (y = m)) } else p), vI (delE51 p m)])) := by
  obtain ⟨l1, l2, l3, l4, l5⟩ := hp
  have dd : delE51 p m = if (p.ms.filter (fun y : Mp => !decide (y = m))).length = p.ms.length then 182 else 0 := rfl
  obtain ⟨FL, hFL⟩ : ∃ FL, p.ms.filter (fun y : Mp => !decide (y = m)) = FL := ⟨_, rfl⟩
  obtain ⟨e, he⟩ : ∃ e, delE51 p m = e := ⟨_, rfl⟩
  rw [hFL, he] at dd
  rw [hFL, he]
  refine AC_frozen orders Tryz.func51 rfl (by kernel_rfl) (by kernel_rfl) Tryz.ntmps51 (by simp) ?_
  unfold Tryz.f51
  (have hwq := trivial; repeat' (first | simp (maxSteps:=9999999)-implicitDefEqProofs only [go_sem,simprocAttr,hwq,FT3,FT5,FT23,FT24,FT25,FT26,FT27,FT29,FT32,FT34,FT35,FT37,FT46,FT59] | (refine condK_split ?_ ?_ <;> intro hwq) | (refine two_split ?_ ?_) | (refine guardK_split ?_ ?_ <;> intro hwq) | (refine guardE_split ?_ ?_ <;> intro hwq) | (refine awp_drawW [] (by decide +kernel) ?_; have hwq := trivial) | fail))
  refine awp_loopK (De51 p m) p.ms.length _ (Weak.trans (Weak.virt 6 3 (.inl rfl)) (Weak.cutI 4 [2, 3, 4, 6, 7] ?_ ?_)) ⟨0, [], _, rfl, by simp, by omega, rfl⟩ ?_
  · simp (maxSteps:=9999999)-implicitDefEqProofs only [simprocAttr,QH,Option.isSome,cond_true,cond_false,Option.bind,selB,V.rn,V.rns,Go.Ai.known,V.pz,V.pzs,T.toV,frz1,List.range,List.range.loop,ite_true,ite_false,if_true,if_false,ne_eq,implies_true,forall_const,eq_self,IntKind.bits,upd_tmsS,selT_cons,selT_nil,List.length_map,List.getElem?_map,Int.natCast_nonneg,List.length_append,List.map_append]
  · simp (maxSteps:=9999999)-implicitDefEqProofs only [simprocAttr,QH,Option.isSome,cond_true,cond_false,Option.bind,selB,V.rn,V.rns,Go.Ai.known,V.pz,V.pzs,T.toV,frz1,List.range,List.range.loop,ite_true,ite_false,if_true,if_false,ne_eq,implies_true,forall_const,eq_self,IntKind.bits,upd_tmsS,selT_cons,selT_nil]
  rintro kk S ⟨j, N, mv, rfl, hN, hj, rfl⟩
  have hNl : N.length ≤ p.ms.length := by rw [hN]; exact fil_le
  have zs : (N.length + 1) * 24 ≤ 140737488355328 := zz_of hNl l2 (by decide)
  have wj := wj_of hj l2
  by_cases hjl : j < p.ms.length
  · have hjl' : (j : Int) < (p.ms.length : Int) := Int.ofNat_lt.2 hjl
    have hgj : p.ms[j]? = some p.ms[j] := List.getElem?_eq_getElem hjl
    obtain ⟨y, hy⟩ : ∃ y, p.ms[j] = y := ⟨_, rfl⟩
    rw [hy] at hgj
    have hee := mp_eq y m
    cases hq : (!decide (y = m)) with
    | true =>
      have hNx : N ++ [y] = (p.ms.take (j + 1)).filter (fun y : Mp => !decide (y = m)) := by rw [fil_in hgj, hN, if_pos hq]
      (have hwq := trivial; repeat' (first | simp (maxSteps:=9999999)-implicitDefEqProofs only [go_sem,simprocAttr,hwq,FT3,FT5,FT23,FT24,FT25,FT26,FT27,FT29,FT32,FT34,FT35,FT37,FT46,FT59,List.length_map,List.getElem?_map,Int.natCast_nonneg,List.length_append,List.map_append,hjl',hgj,wj,zs,hee,hq] | (refine condK_split ?_ ?_ <;> intro hwq) | (refine two_split ?_ ?_) | (refine guardK_split ?_ ?_ <;> intro hwq) | (refine guardE_split ?_ ?_ <;> intro hwq) | (refine awp_drawW [] (by decide +kernel) ?_; have hwq := trivial) | fail))
      refine ⟨p.ms.length - (j + 1), _, st_of hjl, Weak.cutI 4 [2, 3, 4, 6, 7] ?_ ?_, j + 1, N ++ [y], _, rfl, hNx, hjl, rfl⟩
      · simp (maxSteps:=9999999)-implicitDefEqProofs only [simprocAttr,QH,Option.isSome,cond_true,cond_false,Option.bind,selB,V.rn,V.rns,Go.Ai.known,V.pz,V.pzs,T.toV,frz1,List.range,List.range.loop,ite_true,ite_false,if_true,if_false,ne_eq,implies_true,forall_const,eq_self,IntKind.bits,upd_tmsS,selT_cons,selT_nil,List.length_map,List.getElem?_map,Int.natCast_nonneg,List.length_append,List.map_append,List.length_cons,List.length_nil,List.map_cons,List.map_nil]
      · simp (maxSteps:=9999999)-implicitDefEqProofs only [simprocAttr,QH,Option.isSome,cond_true,cond_false,Option.bind,selB,V.rn,V.rns,Go.Ai.known,V.pz,V.pzs,T.toV,frz1,List.range,List.range.loop,ite_true,ite_false,if_true,if_false,ne_eq,implies_true,forall_const,eq_self,IntKind.bits,upd_tmsS,selT_cons,selT_nil,List.length_map,List.getElem?_map,Int.natCast_nonneg,List.length_append,List.map_append,List.length_cons,List.length_nil,List.map_cons,List.map_nil]
    | false =>
      have hNx : N = (p.ms.take (j + 1)).filter (fun y : Mp => !decide (y = m)) := by rw [fil_in hgj, hN, if_neg (by rw [hq]; simp), List.append_nil]
      (have hwq := trivial; repeat' (first | simp (maxSteps:=9999999)-implicitDefEqProofs only [go_sem,simprocAttr,hwq,FT3,FT5,FT23,FT24,FT25,FT26,FT27,FT29,FT32,FT34,FT35,FT37,FT46,FT59,List.length_map,List.getElem?_map,Int.natCast_nonneg,List.length_append,List.map_append,hjl',hgj,wj,hee,hq] | (refine condK_split ?_ ?_ <;> intro hwq) | (refine two_split ?_ ?_) | (refine guardK_split ?_ ?_ <;> intro hwq) | (refine guardE_split ?_ ?_ <;> intro hwq) | (refine awp_drawW [] (by decide +kernel) ?_; have hwq := trivial) | fail))
      refine ⟨p.ms.length - (j + 1), _, st_of hjl, Weak.cutI 4 [2, 3, 4, 6, 7] ?_ ?_, j + 1, N, _, rfl, hNx, hjl, rfl⟩
      · simp (maxSteps:=9999999)-implicitDefEqProofs only [simprocAttr,QH,Option.isSome,cond_true,cond_false,Option.bind,selB,V.rn,V.rns,Go.Ai.known,V.pz,V.pzs,T.toV,frz1,List.range,List.range.loop,ite_true,ite_false,if_true,if_false,ne_eq,implies_true,forall_const,eq_self,IntKind.bits,upd_tmsS,selT_cons,selT_nil,List.length_map,List.getElem?_map,Int.natCast_nonneg,List.length_append,List.map_append]
      · simp (maxSteps:=9999999)-implicitDefEqProofs only [simprocAttr,QH,Option.isSome,cond_true,cond_false,Option.bind,selB,V.rn,V.rns,Go.Ai.known,V.pz,V.pzs,T.toV,frz1,List.range,List.range.loop,ite_true,ite_false,if_true,if_false,ne_eq,implies_true,forall_const,eq_self,IntKind.bits,upd_tmsS,selT_cons,selT_nil,List.length_map,List.getElem?_map,Int.natCast_nonneg,List.length_append,List.map_append]
  · have hjl' : ¬ (j : Int) < (p.ms.length : Int) := fun h => hjl (Int.ofNat_lt.1 h)
    rw [List.take_of_length_le (Nat.le_of_not_lt hjl), hFL] at hN
    rw [← hN] at dd ⊢
    have tk : List.take N.length (List.map mpT N) = List.map mpT N := List.take_of_length_le (by simp)
    by_cases h1 : N.length = p.ms.length
    · have h1' : ((N.length : Int) == (p.ms.length : Int)) = true := by simp [h1]
      rw [if_pos h1] at dd
      rw [dd, if_neg (by decide)]
      (have hwq := trivial; repeat' (first | simp (maxSteps:=9999999)-implicitDefEqProofs only [go_sem,simprocAttr,hwq,FT3,FT5,FT23,FT24,FT25,FT26,FT27,FT29,FT32,FT34,FT35,FT37,FT46,FT59,List.length_map,List.getElem?_map,Int.natCast_nonneg,List.length_append,List.map_append,hjl',h1'] | (refine condK_split ?_ ?_ <;> intro hwq) | (refine two_split ?_ ?_) | (refine guardK_split ?_ ?_ <;> intro hwq) | (refine guardE_split ?_ ?_ <;> intro hwq) | (refine awp_drawW [] (by decide +kernel) ?_; have hwq := trivial) | fail))
    · have h1' : ((N.length : Int) == (p.ms.length : Int)) = false := by simp; omega
      rw [if_neg h1] at dd
      rw [dd, if_pos rfl]
      (have hwq := trivial; repeat' (first | simp (maxSteps:=9999999)-implicitDefEqProofs only [go_sem,simprocAttr,hwq,FT3,FT5,FT23,FT24,FT25,FT26,FT27,FT29,FT32,FT34,FT35,FT37,FT46,FT59,List.length_map,List.getElem?_map,Int.natCast_nonneg,List.length_append,List.map_append,hjl',h1',tk,Nat.le_refl] | (refine condK_split ?_ ?_ <;> intro hwq) | (refine two_split ?_ ?_) | (refine guardK_split ?_ ?_ <;> intro hwq) | (refine guardE_split ?_ ?_ <;> intro hwq) | (refine awp_drawW [] (by decide +kernel) ?_; have hwq := trivial) | fail))
def delE53 (p : Pv) (m : Cr) : Int := if (p.cs.filter (fun y : Cr => !decide (y = m))).length = p.cs.length then 182 else if ((p.ms.filter (fun x => x.s == m.s)).map (·.p)).length = 0 then 0 else 183
def De53 (p : Pv) (m : Cr) (n : Nat) (S : St) : Prop :=
  ∃ (j : Nat) (N : List Cr) (mv : List Nat), S = ⟨tms [(2, .ptr 0 0 0), (3, .ptr 1 0 0), (4, .ptr 2 0 0), (6, .own 3 0 N.length), (7, vI j)], [bxP p, bxCr m, .box [.s (.int .u8 0), .s (.int .u8 0), .s (.int .u8 0), .s (.int .u8 0), .s (.int .u8 0), .s (.int .u8 0), .s (.slice none 0 0), .s (.slice none 0 0), .s (.slice none 0 0), .s (.slice none 0 0)] false, .rows 2 (N.map crT) false], mv⟩ ∧ N = (p.cs.take j).filter (fun y : Cr => !decide (y = m)) ∧ j ≤ p.cs.length ∧ n = p.cs.length - j
theorem pc53 (p : Pv) (hp : okL p) (m : Cr) : AC Tryz.prog 53 [pvV p, crV m] [] (eqR (.tuple [pvV (if delE53 p m = 0 then { p with cs := p.cs.filter (fun y : Cr => !decide (y = m)) } else p), vI (delE53 p m)])) := by
  have nu := pq28 p hp m.s
  obtain ⟨A, hA⟩ : ∃ A, (p.ms.filter (fun x => x.s == m.s)).map (·.p) = A := ⟨_, rfl⟩
  obtain ⟨l1, l2, l3, l4, l5⟩ := hp
  have dd : delE53 p m = if (p.cs.filter (fun y : Cr => !decide (y = m))).length = p.cs.length then 182 else if ((p.ms.filter (fun x => x.s == m.s)).map (·.p)).length = 0 then 0 else 183 := rfl
  rw [hA] at nu dd
  obtain ⟨FL, hFL⟩ : ∃ FL, p.cs.filter (fun y : Cr => !decide (y = m)) = FL := ⟨_, rfl⟩
  obtain ⟨e, he⟩ : ∃ e, delE53 p m = e := ⟨_, rfl⟩
  rw [hFL, he] at dd
  rw [hFL, he]
  refine AC_frozen orders Tryz.func53 rfl (by kernel_rfl) (by kernel_rfl) Tryz.ntmps53 (by simp) ?_
  unfold Tryz.f53
  (have hwq := trivial; repeat' (first | simp (maxSteps:=9999999)-implicitDefEqProofs only [go_sem,simprocAttr,hwq,FT3,FT5,FT23,FT24,FT25,FT26,FT27,FT29,FT32,FT34,FT35,FT37,FT46,FT59] | (refine condK_split ?_ ?_ <;> intro hwq) | (refine two_split ?_ ?_) | (refine guardK_split ?_ ?_ <;> intro hwq) | (refine guardE_split ?_ ?_ <;> intro hwq) | (refine awp_drawW [] (by decide +kernel) ?_; have hwq := trivial) | fail))
  refine awp_loopK (De53 p m) p.cs.length _ (Weak.trans (Weak.virt 6 2 (.inl rfl)) (Weak.cutI 4 [2, 3, 4, 6, 7] ?_ ?_)) ⟨0, [], _, rfl, by simp, by omega, rfl⟩ ?_
  · simp (maxSteps:=9999999)-implicitDefEqProofs only [simprocAttr,QH,Option.isSome,cond_true,cond_false,Option.bind,selB,V.rn,V.rns,Go.Ai.known,V.pz,V.pzs,T.toV,frz1,List.range,List.range.loop,ite_true,ite_false,if_true,if_false,ne_eq,implies_true,forall_const,eq_self,IntKind.bits,upd_tmsS,selT_cons,selT_nil,List.length_map,List.getElem?_map,Int.natCast_nonneg,List.length_append,List.map_append]
  · simp (maxSteps:=9999999)-implicitDefEqProofs only [simprocAttr,QH,Option.isSome,cond_true,cond_false,Option.bind,selB,V.rn,V.rns,Go.Ai.known,V.pz,V.pzs,T.toV,frz1,List.range,List.range.loop,ite_true,ite_false,if_true,if_false,ne_eq,implies_true,forall_const,eq_self,IntKind.bits,upd_tmsS,selT_cons,selT_nil]
  rintro kk S ⟨j, N, mv, rfl, hN, hj, rfl⟩
  have hNl : N.length ≤ p.cs.length := by rw [hN]; exact fil_le
  have zs : (N.length + 1) * 16 ≤ 140737488355328 := zz_of hNl l3 (by decide)
  have wj := wj_of hj l3
  by_cases hjl : j < p.cs.length
  · have hjl' : (j : Int) < (p.cs.length : Int) := Int.ofNat_lt.2 hjl
    have hgj : p.cs[j]? = some p.cs[j] := List.getElem?_eq_getElem hjl
    obtain ⟨y, hy⟩ : ∃ y, p.cs[j] = y := ⟨_, rfl⟩
    rw [hy] at hgj
    have hee := cr_eq y m
    cases hq : (!decide (y = m)) with
    | true =>
      have hNx : N ++ [y] = (p.cs.take (j + 1)).filter (fun y : Cr => !decide (y = m)) := by rw [fil_in hgj, hN, if_pos hq]
      (have hwq := trivial; repeat' (first | simp (maxSteps:=9999999)-implicitDefEqProofs only [go_sem,simprocAttr,hwq,FT3,FT5,FT23,FT24,FT25,FT26,FT27,FT29,FT32,FT34,FT35,FT37,FT46,FT59,List.length_map,List.getElem?_map,Int.natCast_nonneg,List.length_append,List.map_append,hjl',hgj,wj,zs,hee,hq] | (refine condK_split ?_ ?_ <;> intro hwq) | (refine two_split ?_ ?_) | (refine guardK_split ?_ ?_ <;> intro hwq) | (refine guardE_split ?_ ?_ <;> intro hwq) | (refine awp_drawW [] (by decide +kernel) ?_; have hwq := trivial) | fail))
      refine ⟨p.cs.length - (j + 1), _, st_of hjl, Weak.cutI 4 [2, 3, 4, 6, 7] ?_ ?_, j + 1, N ++ [y], _, rfl, hNx, hjl, rfl⟩
      · simp (maxSteps:=9999999)-implicitDefEqProofs only [simprocAttr,QH,Option.isSome,cond_true,cond_false,Option.bind,selB,V.rn,V.rns,Go.Ai.known,V.pz,V.pzs,T.toV,frz1,List.range,List.range.loop,ite_true,ite_false,if_true,if_false,ne_eq,implies_true,forall_const,eq_self,IntKind.bits,upd_tmsS,selT_cons,selT_nil,List.length_map,List.getElem?_map,Int.natCast_nonneg,List.length_append,List.map_append,List.length_cons,List.length_nil,List.map_cons,List.map_nil]
      · simp (maxSteps:=9999999)-implicitDefEqProofs only [simprocAttr,QH,Option.isSome,cond_true,cond_false,Option.bind,selB,V.rn,V.rns,Go.Ai.known,V.pz,V.pzs,T.toV,frz1,List.range,List.range.loop,ite_true,ite_false,if_true,if_false,ne_eq,implies_true,forall_const,eq_self,IntKind.bits,upd_tmsS,selT_cons,selT_nil,List.length_map,List.getElem?_map,Int.natCast_nonneg,List.length_append,List.map_append,List.length_cons,List.length_nil,List.map_cons,List.map_nil]
    | false =>
      have hNx : N = (p.cs.take (j + 1)).filter (fun y : Cr => !decide (y = m)) := by rw [fil_in hgj, hN, if_neg (by rw [hq]; simp), List.append_nil]
      (have hwq := trivial; repeat' (first | simp (maxSteps:=9999999)-implicitDefEqProofs only [go_sem,simprocAttr,hwq,FT3,FT5,FT23,FT24,FT25,FT26,FT27,FT29,FT32,FT34,FT35,FT37,FT46,FT59,List.length_map,List.getElem?_map,Int.natCast_nonneg,List.length_append,List.map_append,hjl',hgj,wj,hee,hq] | (refine condK_split ?_ ?_ <;> intro hwq) | (refine two_split ?_ ?_) | (refine guardK_split ?_ ?_ <;> intro hwq) | (refine guardE_split ?_ ?_ <;> intro hwq) | (refine awp_drawW [] (by decide +kernel) ?_; have hwq := trivial) | fail))
      refine ⟨p.cs.length - (j + 1), _, st_of hjl, Weak.cutI 4 [2, 3, 4, 6, 7] ?_ ?_, j + 1, N, _, rfl, hNx, hjl, rfl⟩
      · simp (maxSteps:=9999999)-implicitDefEqProofs only [simprocAttr,QH,Option.isSome,cond_true,cond_false,Option.bind,selB,V.rn,V.rns,Go.Ai.known,V.pz,V.pzs,T.toV,frz1,List.range,List.range.loop,ite_true,ite_false,if_true,if_false,ne_eq,implies_true,forall_const,eq_self,IntKind.bits,upd_tmsS,selT_cons,selT_nil,List.length_map,List.getElem?_map,Int.natCast_nonneg,List.length_append,List.map_append]
      · simp (maxSteps:=9999999)-implicitDefEqProofs only [simprocAttr,QH,Option.isSome,cond_true,cond_false,Option.bind,selB,V.rn,V.rns,Go.Ai.known,V.pz,V.pzs,T.toV,frz1,List.range,List.range.loop,ite_true,ite_false,if_true,if_false,ne_eq,implies_true,forall_const,eq_self,IntKind.bits,upd_tmsS,selT_cons,selT_nil,List.length_map,List.getElem?_map,Int.natCast_nonneg,List.length_append,List.map_append]
  · have hjl' : ¬ (j : Int) < (p.cs.length : Int) := fun h => hjl (Int.ofNat_lt.1 h)
    rw [List.take_of_length_le (Nat.le_of_not_lt hjl), hFL] at hN
    rw [← hN] at dd ⊢
    have tk : List.take N.length (List.map crT N) = List.map crT N := List.take_of_length_le (by simp)
    by_cases h1 : N.length = p.cs.length
    · have h1' : ((N.length : Int) == (p.cs.length : Int)) = true := by simp [h1]
      rw [if_pos h1] at dd
      rw [dd, if_neg (by decide)]
      (have hwq := trivial; repeat' (first | simp (maxSteps:=9999999)-implicitDefEqProofs only [go_sem,simprocAttr,hwq,FT3,FT5,FT23,FT24,FT25,FT26,FT27,FT29,FT32,FT34,FT35,FT37,FT46,FT59,List.length_map,List.getElem?_map,Int.natCast_nonneg,List.length_append,List.map_append,hjl',h1'] | (refine condK_split ?_ ?_ <;> intro hwq) | (refine two_split ?_ ?_) | (refine guardK_split ?_ ?_ <;> intro hwq) | (refine guardE_split ?_ ?_ <;> intro hwq) | (refine awp_drawW [] (by decide +kernel) ?_; have hwq := trivial) | fail))
    · have h1' : ((N.length : Int) == (p.cs.length : Int)) = false := by simp; omega
      rw [if_neg h1] at dd
      by_cases h2 : A.length = 0
      · have h2' : ¬ (0 : Int) < (A.length : Int) := by rw [h2]; decide
        rw [if_pos h2] at dd
        rw [dd, if_pos rfl]
        (have hwq := trivial; repeat' (first | simp (maxSteps:=9999999)-implicitDefEqProofs only [go_sem,simprocAttr,hwq,FT3,FT5,FT23,FT24,FT25,FT26,FT27,FT29,FT32,FT34,FT35,FT37,FT46,FT59,List.length_map,List.getElem?_map,Int.natCast_nonneg,List.length_append,List.map_append,hjl',h1',h2',tk,Nat.le_refl] | (refine condK_split ?_ ?_ <;> intro hwq) | (refine two_split ?_ ?_) | (refine guardK_split ?_ ?_ <;> intro hwq) | (refine guardE_split ?_ ?_ <;> intro hwq) | (refine awp_drawW [] (by decide +kernel) ?_; have hwq := trivial) | (refine call_plain nu rfl rfl ?_; have hwq := trivial) | fail))
      · have h2' : (0 : Int) < (A.length : Int) := by omega
        rw [if_neg h2] at dd
        rw [dd, if_neg (by decide)]
        (have hwq := trivial; repeat' (first | simp (maxSteps:=9999999)-implicitDefEqProofs only [go_sem,simprocAttr,hwq,FT3,FT5,FT23,FT24,FT25,FT26,FT27,FT29,FT32,FT34,FT35,FT37,FT46,FT59,List.length_map,List.getElem?_map,Int.natCast_nonneg,List.length_append,List.map_append,hjl',h1',h2'] | (refine condK_split ?_ ?_ <;> intro hwq) | (refine two_split ?_ ?_) | (refine guardK_split ?_ ?_ <;> intro hwq) | (refine guardE_split ?_ ?_ <;> intro hwq) | (refine awp_drawW [] (by decide +kernel) ?_; have hwq := trivial) | (refine call_plain nu rfl rfl ?_; have hwq := trivial) | fail))
def delE55 (p : Pv) (m : Int) : Int := if (p.bs.filter (fun y : Mb => y.v != m)).length = p.bs.length then 182 else if ((p.cs.filter (fun x => x.v == m)).map (·.s)).length = 0 then 0 else 183
def De55 (p : Pv) (m : Int) (n : Nat) (S : St) : Prop :=
  ∃ (j : Nat) (N : List Mb) (mv : List Nat), S = ⟨tms [(1, vI m), (2, .ptr 0 0 0), (4, .ptr 1 0 0), (6, .own 2 0 N.length), (7, vI j)], [bxP p, .box [.s (.int .u8 0), .s (.int .u8 0), .s (.int .u8 0), .s (.int .u8 0), .s (.int .u8 0), .s (.int .u8 0), .s (.slice none 0 0), .s (.slice none 0 0), .s (.slice none 0 0), .s (.slice none 0 0)] false, .rows 2 (N.map mbT) false], mv⟩ ∧ N = (p.bs.take j).filter (fun y : Mb => y.v != m) ∧ j ≤ p.bs.length ∧ n = p.bs.length - j
theorem pc55 (p : Pv) (hp : okL p) (m : Int) : AC Tryz.prog 55 [pvV p, vI m] [] (eqR (.tuple [pvV (if delE55 p m = 0 then { p with bs := p.bs.filter (fun y : Mb => y.v != m) } else p), vI (delE55 p m)])) := by
  have nu := pq30 p hp m
  obtain ⟨A, hA⟩ : ∃ A, (p.cs.filter (fun x => x.v == m)).map (·.s) = A := ⟨_, rfl⟩
  obtain ⟨l1, l2, l3, l4, l5⟩ := hp
  have dd : delE55 p m = if (p.bs.filter (fun y : Mb => y.v != m)).length = p.bs.length then 182 else if ((p.cs.filter (fun x => x.v == m)).map (·.s)).length = 0 then 0 else 183 := rfl
  rw [hA] at nu dd
  obtain ⟨FL, hFL⟩ : ∃ FL, p.bs.filter (fun y : Mb => y.v != m) = FL := ⟨_, rfl⟩
  obtain ⟨e, he⟩ : ∃ e, delE55 p m = e := ⟨_, rfl⟩
  rw [hFL, he] at dd
  rw [hFL, he]
  refine AC_frozen orders Tryz.func55 rfl (by kernel_rfl) (by kernel_rfl) Tryz.ntmps55 (by simp) ?_
  unfold Tryz.f55
  (have hwq := trivial; repeat' (first | simp (maxSteps:=9999999)-implicitDefEqProofs only [go_sem,simprocAttr,hwq,FT3,FT5,FT23,FT24,FT25,FT26,FT27,FT29,FT32,FT34,FT35,FT37,FT46,FT59] | (refine condK_split ?_ ?_ <;> intro hwq) | (refine two_split ?_ ?_) | (refine guardK_split ?_ ?_ <;> intro hwq) | (refine guardE_split ?_ ?_ <;> intro hwq) | (refine awp_drawW [] (by decide +kernel) ?_; have hwq := trivial) | fail))
  refine awp_loopK (De55 p m) p.bs.length _ (Weak.trans (Weak.virt 6 2 (.inl rfl)) (Weak.cutI 3 [1, 2, 4, 6, 7] ?_ ?_)) ⟨0, [], _, rfl, by simp, by omega, rfl⟩ ?_
  · simp (maxSteps:=9999999)-implicitDefEqProofs only [simprocAttr,QH,Option.isSome,cond_true,cond_false,Option.bind,selB,V.rn,V.rns,Go.Ai.known,V.pz,V.pzs,T.toV,frz1,List.range,List.range.loop,ite_true,ite_false,if_true,if_false,ne_eq,implies_true,forall_const,eq_self,IntKind.bits,upd_tmsS,selT_cons,selT_nil,List.length_map,List.getElem?_map,Int.natCast_nonneg,List.length_append,List.map_append]
  · simp (maxSteps:=9999999)-implicitDefEqProofs only [simprocAttr,QH,Option.isSome,cond_true,cond_false,Option.bind,selB,V.rn,V.rns,Go.Ai.known,V.pz,V.pzs,T.toV,frz1,List.range,List.range.loop,ite_true,ite_false,if_true,if_false,ne_eq,implies_true,forall_const,eq_self,IntKind.bits,upd_tmsS,selT_cons,selT_nil]
  rintro kk S ⟨j, N, mv, rfl, hN, hj, rfl⟩
  have hNl : N.length ≤ p.bs.length := by rw [hN]; exact fil_le
  have zs : (N.length + 1) * 32 ≤ 140737488355328 := zz_of hNl l4 (by decide)
  have wj := wj_of hj l4
  by_cases hjl : j < p.bs.length
  · have hjl' : (j : Int) < (p.bs.length : Int) := Int.ofNat_lt.2 hjl
    have hgj : p.bs[j]? = some p.bs[j] := List.getElem?_eq_getElem hjl
    obtain ⟨y, hy⟩ : ∃ y, p.bs[j] = y := ⟨_, rfl⟩
    rw [hy] at hgj
    have hee := trivial
    cases hq : (y.v != m) with
    | true =>
      have hNx : N ++ [y] = (p.bs.take (j + 1)).filter (fun y : Mb => y.v != m) := by rw [fil_in hgj, hN, if_pos hq]
      (have hwq := trivial; repeat' (first | simp (maxSteps:=9999999)-implicitDefEqProofs only [go_sem,simprocAttr,hwq,FT3,FT5,FT23,FT24,FT25,FT26,FT27,FT29,FT32,FT34,FT35,FT37,FT46,FT59,List.length_map,List.getElem?_map,Int.natCast_nonneg,List.length_append,List.map_append,hjl',hgj,wj,zs,hee,hq] | (refine condK_split ?_ ?_ <;> intro hwq) | (refine two_split ?_ ?_) | (refine guardK_split ?_ ?_ <;> intro hwq) | (refine guardE_split ?_ ?_ <;> intro hwq) | (refine awp_drawW [] (by decide +kernel) ?_; have hwq := trivial) | fail))
      refine ⟨p.bs.length - (j + 1), _, st_of hjl, Weak.cutI 3 [1, 2, 4, 6, 7] ?_ ?_, j + 1, N ++ [y], _, rfl, hNx, hjl, rfl⟩
      · simp (maxSteps:=9999999)-implicitDefEqProofs only [simprocAttr,QH,Option.isSome,cond_true,cond_false,Option.bind,selB,V.rn,V.rns,Go.Ai.known,V.pz,V.pzs,T.toV,frz1,List.range,List.range.loop,ite_true,ite_false,if_true,if_false,ne_eq,implies_true,forall_const,eq_self,IntKind.bits,upd_tmsS,selT_cons,selT_nil,List.length_map,List.getElem?_map,Int.natCast_nonneg,List.length_append,List.map_append,List.length_cons,List.length_nil,List.map_cons,List.map_nil]
      · simp (maxSteps:=9999999)-implicitDefEqProofs only [simprocAttr,QH,Option.isSome,cond_true,cond_false,Option.bind,selB,V.rn,V.rns,Go.Ai.known,V.pz,V.pzs,T.toV,frz1,List.range,List.range.loop,ite_true,ite_false,if_true,if_false,ne_eq,implies_true,forall_const,eq_self,IntKind.bits,upd_tmsS,selT_cons,selT_nil,List.length_map,List.getElem?_map,Int.natCast_nonneg,List.length_append,List.map_append,List.length_cons,List.length_nil,List.map_cons,List.map_nil]
    | false =>
      have hNx : N = (p.bs.take (j + 1)).filter (fun y : Mb => y.v != m) := by rw [fil_in hgj, hN, if_neg (by rw [hq]; simp), List.append_nil]
      (have hwq := trivial; repeat' (first | simp (maxSteps:=9999999)-implicitDefEqProofs only [go_sem,simprocAttr,hwq,FT3,FT5,FT23,FT24,FT25,FT26,FT27,FT29,FT32,FT34,FT35,FT37,FT46,FT59,List.length_map,List.getElem?_map,Int.natCast_nonneg,List.length_append,List.map_append,hjl',hgj,wj,hee,hq] | (refine condK_split ?_ ?_ <;> intro hwq) | (refine two_split ?_ ?_) | (refine guardK_split ?_ ?_ <;> intro hwq) | (refine guardE_split ?_ ?_ <;> intro hwq) | (refine awp_drawW [] (by decide +kernel) ?_; have hwq := trivial) | fail))
      refine ⟨p.bs.length - (j + 1), _, st_of hjl, Weak.cutI 3 [1, 2, 4, 6, 7] ?_ ?_, j + 1, N, _, rfl, hNx, hjl, rfl⟩
      · simp (maxSteps:=9999999)-implicitDefEqProofs only [simprocAttr,QH,Option.isSome,cond_true,cond_false,Option.bind,selB,V.rn,V.rns,Go.Ai.known,V.pz,V.pzs,T.toV,frz1,List.range,List.range.loop,ite_true,ite_false,if_true,if_false,ne_eq,implies_true,forall_const,eq_self,IntKind.bits,upd_tmsS,selT_cons,selT_nil,List.length_map,List.getElem?_map,Int.natCast_nonneg,List.length_append,List.map_append]
      · simp (maxSteps:=9999999)-implicitDefEqProofs only [simprocAttr,QH,Option.isSome,cond_true,cond_false,Option.bind,selB,V.rn,V.rns,Go.Ai.known,V.pz,V.pzs,T.toV,frz1,List.range,List.range.loop,ite_true,ite_false,if_true,if_false,ne_eq,implies_true,forall_const,eq_self,IntKind.bits,upd_tmsS,selT_cons,selT_nil,List.length_map,List.getElem?_map,Int.natCast_nonneg,List.length_append,List.map_append]
  · have hjl' : ¬ (j : Int) < (p.bs.length : Int) := fun h => hjl (Int.ofNat_lt.1 h)
    rw [List.take_of_length_le (Nat.le_of_not_lt hjl), hFL] at hN
    rw [← hN] at dd ⊢
    have tk : List.take N.length (List.map mbT N) = List.map mbT N := List.take_of_length_le (by simp)
    by_cases h1 : N.length = p.bs.length
    · have h1' : ((N.length : Int) == (p.bs.length : Int)) = true := by simp [h1]
      rw [if_pos h1] at dd
      rw [dd, if_neg (by decide)]
      (have hwq := trivial; repeat' (first | simp (maxSteps:=9999999)-implicitDefEqProofs only [go_sem,simprocAttr,hwq,FT3,FT5,FT23,FT24,FT25,FT26,FT27,FT29,FT32,FT34,FT35,FT37,FT46,FT59,List.length_map,List.getElem?_map,Int.natCast_nonneg,List.length_append,List.map_append,hjl',h1'] | (refine condK_split ?_ ?_ <;> intro hwq) | (refine two_split ?_ ?_) | (refine guardK_split ?_ ?_ <;> intro hwq) | (refine guardE_split ?_ ?_ <;> intro hwq) | (refine awp_drawW [] (by decide +kernel) ?_; have hwq := trivial) | fail))
    · have h1' : ((N.length : Int) == (p.bs.length : Int)) = false := by simp; omega
      rw [if_neg h1] at dd
      by_cases h2 : A.length = 0
      · have h2' : ¬ (0 : Int) < (A.length : Int) := by rw [h2]; decide
        rw [if_pos h2] at dd
        rw [dd, if_pos rfl]
        (have hwq := trivial; repeat' (first | simp (maxSteps:=9999999)-implicitDefEqProofs only [go_sem,simprocAttr,hwq,FT3,FT5,FT23,FT24,FT25,FT26,FT27,FT29,FT32,FT34,FT35,FT37,FT46,FT59,List.length_map,List.getElem?_map,Int.natCast_nonneg,List.length_append,List.map_append,hjl',h1',h2',tk,Nat.le_refl] | (refine condK_split ?_ ?_ <;> intro hwq) | (refine two_split ?_ ?_) | (refine guardK_split ?_ ?_ <;> intro hwq) | (refine guardE_split ?_ ?_ <;> intro hwq) | (refine awp_drawW [] (by decide +kernel) ?_; have hwq := trivial) | (refine call_plain nu rfl rfl ?_; have hwq := trivial) | fail))
      · have h2' : (0 : Int) < (A.length : Int) := by omega
        rw [if_neg h2] at dd
        rw [dd, if_neg (by decide)]
        (have hwq := trivial; repeat' (first | simp (maxSteps:=9999999)-implicitDefEqProofs only [go_sem,simprocAttr,hwq,FT3,FT5,FT23,FT24,FT25,FT26,FT27,FT29,FT32,FT34,FT35,FT37,FT46,FT59,List.length_map,List.getElem?_map,Int.natCast_nonneg,List.length_append,List.map_append,hjl',h1',h2'] | (refine condK_split ?_ ?_ <;> intro hwq) | (refine two_split ?_ ?_) | (refine guardK_split ?_ ?_ <;> intro hwq) | (refine guardE_split ?_ ?_ <;> intro hwq) | (refine awp_drawW [] (by decide +kernel) ?_; have hwq := trivial) | (refine call_plain nu rfl rfl ?_; have hwq := trivial) | fail))
end Go.Ai

set_option linter.unusedVariables false
set_option linter.unusedSimpArgs false
set_option maxHeartbeats 8000000
set_option maxRecDepth 100000
namespace Go.Ai
open Go.Proofs
attribute [local go_sem] QH QR V.noimm V.noimms frzZs frzZ frzA frzV frzVs frzBox boxLen Option.isSome cond_true cond_false aopD calW flatV stepX amap stepY alookup afind aupdate adelete amlen arange ameq mapOf akeq pl V.mapT V.mapTs Option.bind stepK runK guardD stepE runD callD compact selB callK evS ofVal ofVals scalar aop ares mkRes V.rn V.rns V.cells? cellsAt Go.Ai.part aload astore setL V.atom abin aun intBin shiftBin aconv fieldOf aindexAddr aindex bound? aslice aarr abuild afill alen nilP nilS nilF aeq eqCells eqCell Go.Ai.known strBin abuiltin aappend abuildSlice arowsFill amakeSlice acopy aclear minmax rowsOf numsT notStr isIntD isByte V.pz V.pzs T.toV frz1 frz scalT scalTs chunkT List.range List.range.loop ite_true ite_false if_true if_false ne_eq implies_true forall_const eq_self IntKind.bits kPostKF_ret kPostKF_normal kPostX_ret kPostX_normal bsl nil2K nil2 kPostFW_ret kPostFW_normal kPostKM_ret kPostKM_normal kPostXK_ret kPostXK_normal
/-- One step of the loop that lays a member. -/
def stepM (m : Mb) (s : List Mb × Bool) (y : Mb) : List Mb × Bool :=
  if s.2 = false ∧ m.v ≤ y.v then (if m.v = y.v then s.1 ++ [m] else s.1 ++ [m] ++ [y], true) else (if m.v = y.v then s.1 else s.1 ++ [y], s.2)
def setF (m : Mb) (L : List Mb) : List Mb × Bool := L.foldl (stepM m) ([], false)
def setMbL (m : Mb) (L : List Mb) : List Mb := if (setF m L).2 = true then (setF m L).1 else (setF m L).1 ++ [m]
theorem setF_in {m : Mb} {L : List Mb} {j : Nat} {y : Mb} (h : L[j]? = some y) : setF m (L.take (j + 1)) = stepM m (setF m (L.take j)) y := by
  unfold setF
  rw [take_in h, List.foldl_append]
  rfl
theorem stepM_len (m : Mb) (s : List Mb × Bool) (y : Mb) : (stepM m s y).1.length ≤ s.1.length + 2 := by
  unfold stepM
  split <;> dsimp only <;> split <;> simp
theorem setF_len (m : Mb) : ∀ (L : List Mb) (s : List Mb × Bool), (L.foldl (stepM m) s).1.length ≤ s.1.length + 2 * L.length
  | [], s => by simp
  | y :: l, s => by
    rw [List.foldl_cons]
    have h1 := setF_len m l (stepM m s y)
    have h2 := stepM_len m s y
    simp only [List.length_cons]
    omega
def rMem (b1 b2 b3 b4 : Bool) (n : Int) : Int := if b1 = false ∨ b2 = false then 1 else if b3 = true then 5 else if b4 = false then 184 else if 64 < n then 3 else 0
def outK (ks : List Int) (x : Int) : Bool := !decide (0 ≤ x ∧ x < (ks.length : Int))
def refMemE (p : Pv) (m : Mb) : Int := rMem (decide (vidOk m.v)) (risB ltI m.l) (m.l.any (outK p.ks)) (!m.l.any fun x => kindP p.ks x != 2) (setMbL m p.bs).length
def Sa54 (p : Pv) (m : Mb) (n : Nat) (S : St) : Prop :=
  ∃ (j : Nat) (mv : List Nat), S = ⟨tms [(2, .ptr 0 0 0), (3, .ptr 1 0 0), (4, .ptr 2 0 0), (6, vI j)], [bxP p, .box [vI m.v, isV m.l] false, .box [.s (.int .u8 0), .s (.int .u8 0), .s (.int .u8 0), .s (.int .u8 0), .s (.int .u8 0), .s (.int .u8 0), .s (.slice none 0 0), .s (.slice none 0 0), .s (.slice none 0 0), .s (.slice none 0 0)] false], mv⟩ ∧ j ≤ m.l.length ∧ n = m.l.length - j ∧ ∀ x ∈ m.l.take j, outK p.ks x = false
def Sb54 (p : Pv) (m : Mb) (n : Nat) (S : St) : Prop :=
  ∃ (j : Nat) (N : List Mb) (b : Bool) (mv : List Nat), S = ⟨tms [(2, .ptr 0 0 0), (3, .ptr 1 0 0), (4, .ptr 2 0 0), (7, .own 4 0 N.length), (8, vB b), (9, vI j)], [bxP p, .box [vI m.v, .own 3 0 m.l.length] false, .box [.s (.int .u8 0), .s (.int .u8 0), .s (.int .u8 0), .s (.int .u8 0), .s (.int .u8 0), .s (.int .u8 0), .s (.slice none 0 0), .s (.slice none 0 0), .s (.slice none 0 0), .s (.slice none 0 0)] false, .rows 1 (m.l.map inT) b, .rows 2 (N.map mbT) false], mv⟩ ∧ setF m (p.bs.take j) = (N, b) ∧ j ≤ p.bs.length ∧ n = p.bs.length - j
theorem zm_of {n l k : Nat} (h : n ≤ 2 * l) (h2 : l ≤ 1000) (h3 : k ≤ 5) : (n + k) * 32 ≤ 140737488355328 :=
  Nat.le_trans (Nat.mul_le_mul_right 32 (by omega : n + k ≤ 2005)) (by omega)
theorem zi_of {l : Nat} (h : l ≤ 1000) : l * 8 ≤ 140737488355328 := by omega
theorem pc54 (p : Pv) (hp : okL p) (m : Mb) (hml : m.l.length ≤ 1000) : AC Tryz.prog 54 [pvV p, mbV m] [] (eqR (.tuple [pvV (if refMemE p m = 0 then { p with bs := setMbL m p.bs } else p), vI (refMemE p m)])) := by
  have n116 := pc116 m.v
  have n119 := pc119 m.l (Nat.le_trans hml (by decide))
  have n120 := pc120 p hp m.l hml 2 (by decide)
  obtain ⟨l1, l2, l3, l4, l5⟩ := hp
  have hd : refMemE p m = rMem (decide (vidOk m.v)) (risB ltI m.l) (m.l.any (outK p.ks)) (!m.l.any fun x => kindP p.ks x != 2) (setMbL m p.bs).length := rfl
  generalize decide (vidOk m.v) = m1 at n116 hd
  generalize risB ltI m.l = m2 at n119 hd
  generalize (!m.l.any fun x => kindP p.ks x != 2) = m4 at n120 hd
  obtain ⟨R, hR⟩ : ∃ R, V.tuple [pvV (if refMemE p m = 0 then { p with bs := setMbL m p.bs } else p), vI (refMemE p m)] = R := ⟨_, rfl⟩
  have fin : ∀ c : Int, refMemE p m = c → c ≠ 0 → V.tuple [pvV p, vI c] = R := fun c h hc => by rw [← hR, h, if_neg hc]
  have good : refMemE p m = 0 → V.tuple [pvV { p with bs := setMbL m p.bs }, vI 0] = R := fun h => by rw [← hR, h, if_pos rfl]
  rw [hR]
  refine AC_frozen orders Tryz.func54 rfl (by kernel_rfl) (by kernel_rfl) Tryz.ntmps54 (by simp) ?_
  unfold Tryz.f54
  cases m1 with
  | false =>
    have h1 := fin 1 (by rw [hd]; rfl) (by decide)
    rw [← h1]
    (have hwq := trivial; repeat' (first | simp (maxSteps:=9999999)-implicitDefEqProofs only [go_sem,simprocAttr,hwq,FT3,FT4,FT5,FT23,FT24,FT25,FT26,FT27,FT29,FT32,FT34,FT35,FT37,FT46,FT59,List.length_map,List.getElem?_map,Int.natCast_nonneg,List.length_append,List.map_append] | (refine condK_split ?_ ?_ <;> intro hwq) | (refine two_split ?_ ?_) | (refine guardK_split ?_ ?_ <;> intro hwq) | (refine guardE_split ?_ ?_ <;> intro hwq) | (refine awp_drawI 6 [] (List.range 17) [0, 1, 0, 7, 15, 31, 63, 127, 255, 127, 1023, 2047, 127, 4223, 12415, 32767, 65535] (by decide +kernel) ?_; have hwq := trivial) | (refine awp_drawW [] (by decide +kernel) ?_; have hwq := trivial) | (refine call_plain n116 rfl rfl ?_; have hwq := trivial) | (refine call_plain n119 rfl rfl ?_; have hwq := trivial) | fail))
  | true =>
  cases m2 with
  | false =>
    have h1 := fin 1 (by rw [hd]; rfl) (by decide)
    rw [← h1]
    (have hwq := trivial; repeat' (first | simp (maxSteps:=9999999)-implicitDefEqProofs only [go_sem,simprocAttr,hwq,FT3,FT4,FT5,FT23,FT24,FT25,FT26,FT27,FT29,FT32,FT34,FT35,FT37,FT46,FT59,List.length_map,List.getElem?_map,Int.natCast_nonneg,List.length_append,List.map_append] | (refine condK_split ?_ ?_ <;> intro hwq) | (refine two_split ?_ ?_) | (refine guardK_split ?_ ?_ <;> intro hwq) | (refine guardE_split ?_ ?_ <;> intro hwq) | (refine awp_drawI 6 [] (List.range 17) [0, 1, 0, 7, 15, 31, 63, 127, 255, 127, 1023, 2047, 127, 4223, 12415, 32767, 65535] (by decide +kernel) ?_; have hwq := trivial) | (refine awp_drawW [] (by decide +kernel) ?_; have hwq := trivial) | (refine call_plain n116 rfl rfl ?_; have hwq := trivial) | (refine call_plain n119 rfl rfl ?_; have hwq := trivial) | fail))
  | true =>
  (have hwq := trivial; repeat' (first | simp (maxSteps:=9999999)-implicitDefEqProofs only [go_sem,simprocAttr,hwq,FT3,FT4,FT5,FT23,FT24,FT25,FT26,FT27,FT29,FT32,FT34,FT35,FT37,FT46,FT59,List.length_map,List.getElem?_map,Int.natCast_nonneg,List.length_append,List.map_append] | (refine condK_split ?_ ?_ <;> intro hwq) | (refine two_split ?_ ?_) | (refine guardK_split ?_ ?_ <;> intro hwq) | (refine guardE_split ?_ ?_ <;> intro hwq) | (refine awp_drawI 6 [] (List.range 17) [0, 1, 0, 7, 15, 31, 63, 127, 255, 127, 1023, 2047, 127, 4223, 12415, 32767, 65535] (by decide +kernel) ?_; have hwq := trivial) | (refine awp_drawW [] (by decide +kernel) ?_; have hwq := trivial) | (refine call_plain n116 rfl rfl ?_; have hwq := trivial) | (refine call_plain n119 rfl rfl ?_; have hwq := trivial) | fail))
  refine awp_loopK (Sa54 p m) m.l.length _ (Weak.cutI 3 [2, 3, 4, 6] ?_ ?_) ⟨0, _, rfl, Nat.zero_le _, rfl, by simp⟩ ?_
  · simp (maxSteps:=9999999)-implicitDefEqProofs only [simprocAttr,QH,Option.isSome,cond_true,cond_false,Option.bind,selB,V.rn,V.rns,Go.Ai.known,V.pz,V.pzs,T.toV,frz1,List.range,List.range.loop,ite_true,ite_false,if_true,if_false,ne_eq,implies_true,forall_const,eq_self,IntKind.bits,upd_tmsS,selT_cons,selT_nil,List.length_map,List.getElem?_map,Int.natCast_nonneg,List.length_append,List.map_append]
  · simp (maxSteps:=9999999)-implicitDefEqProofs only [simprocAttr,QH,Option.isSome,cond_true,cond_false,Option.bind,selB,V.rn,V.rns,Go.Ai.known,V.pz,V.pzs,T.toV,frz1,List.range,List.range.loop,ite_true,ite_false,if_true,if_false,ne_eq,implies_true,forall_const,eq_self,IntKind.bits,upd_tmsS,selT_cons,selT_nil]
  rintro kk S ⟨j, mv, rfl, hj, rfl, hno⟩
  have wj := wj_of hj hml
  by_cases hjl : j < m.l.length
  · have hjl' : (j : Int) < (m.l.length : Int) := Int.ofNat_lt.2 hjl
    have hgj : m.l[j]? = some m.l[j] := List.getElem?_eq_getElem hjl
    obtain ⟨x, hx⟩ : ∃ x, m.l[j] = x := ⟨_, rfl⟩
    rw [hx] at hgj
    have bad : outK p.ks x = true → V.tuple [pvV p, vI 5] = R := fun h => fin 5 (by rw [hd, any_some hgj h]; rfl) (by decide)
    by_cases h1 : x < 0
    · rw [← bad (by unfold outK; rw [decide_eq_false (fun h => Int.not_le.2 h1 h.1)]; rfl)]
      (have hwq := trivial; repeat' (first | simp (maxSteps:=9999999)-implicitDefEqProofs only [go_sem,simprocAttr,hwq,FT3,FT4,FT5,FT23,FT24,FT25,FT26,FT27,FT29,FT32,FT34,FT35,FT37,FT46,FT59,List.length_map,List.getElem?_map,Int.natCast_nonneg,List.length_append,List.map_append,hjl',hgj,wj,h1] | (refine condK_split ?_ ?_ <;> intro hwq) | (refine two_split ?_ ?_) | (refine guardK_split ?_ ?_ <;> intro hwq) | (refine guardE_split ?_ ?_ <;> intro hwq) | (refine awp_drawI 6 [] (List.range 17) [0, 1, 0, 7, 15, 31, 63, 127, 255, 127, 1023, 2047, 127, 4223, 12415, 32767, 65535] (by decide +kernel) ?_; have hwq := trivial) | (refine awp_drawW [] (by decide +kernel) ?_; have hwq := trivial) | fail))
    · by_cases h2 : (p.ks.length : Int) ≤ x
      · rw [← bad (by unfold outK; rw [decide_eq_false (fun h => Int.not_le.2 h.2 h2)]; rfl)]
        (have hwq := trivial; repeat' (first | simp (maxSteps:=9999999)-implicitDefEqProofs only [go_sem,simprocAttr,hwq,FT3,FT4,FT5,FT23,FT24,FT25,FT26,FT27,FT29,FT32,FT34,FT35,FT37,FT46,FT59,List.length_map,List.getElem?_map,Int.natCast_nonneg,List.length_append,List.map_append,hjl',hgj,wj,h1,h2] | (refine condK_split ?_ ?_ <;> intro hwq) | (refine two_split ?_ ?_) | (refine guardK_split ?_ ?_ <;> intro hwq) | (refine guardE_split ?_ ?_ <;> intro hwq) | (refine awp_drawI 6 [] (List.range 17) [0, 1, 0, 7, 15, 31, 63, 127, 255, 127, 1023, 2047, 127, 4223, 12415, 32767, 65535] (by decide +kernel) ?_; have hwq := trivial) | (refine awp_drawW [] (by decide +kernel) ?_; have hwq := trivial) | fail))
      · have ho : outK p.ks x = false := by unfold outK; rw [decide_eq_true ⟨Int.not_lt.1 h1, Int.not_le.1 h2⟩]; rfl
        (have hwq := trivial; repeat' (first | simp (maxSteps:=9999999)-implicitDefEqProofs only [go_sem,simprocAttr,hwq,FT3,FT4,FT5,FT23,FT24,FT25,FT26,FT27,FT29,FT32,FT34,FT35,FT37,FT46,FT59,List.length_map,List.getElem?_map,Int.natCast_nonneg,List.length_append,List.map_append,hjl',hgj,wj,h1,h2] | (refine condK_split ?_ ?_ <;> intro hwq) | (refine two_split ?_ ?_) | (refine guardK_split ?_ ?_ <;> intro hwq) | (refine guardE_split ?_ ?_ <;> intro hwq) | (refine awp_drawI 6 [] (List.range 17) [0, 1, 0, 7, 15, 31, 63, 127, 255, 127, 1023, 2047, 127, 4223, 12415, 32767, 65535] (by decide +kernel) ?_; have hwq := trivial) | (refine awp_drawW [] (by decide +kernel) ?_; have hwq := trivial) | fail))
        refine ⟨m.l.length - (j + 1), _, st_of hjl, Weak.cutI 3 [2, 3, 4, 6] ?_ ?_, j + 1, _, rfl, hjl, rfl, take_more hno hgj ho⟩
        · simp (maxSteps:=9999999)-implicitDefEqProofs only [simprocAttr,QH,Option.isSome,cond_true,cond_false,Option.bind,selB,V.rn,V.rns,Go.Ai.known,V.pz,V.pzs,T.toV,frz1,List.range,List.range.loop,ite_true,ite_false,if_true,if_false,ne_eq,implies_true,forall_const,eq_self,IntKind.bits,upd_tmsS,selT_cons,selT_nil,List.length_map,List.getElem?_map,Int.natCast_nonneg,List.length_append,List.map_append]
        · simp (maxSteps:=9999999)-implicitDefEqProofs only [simprocAttr,QH,Option.isSome,cond_true,cond_false,Option.bind,selB,V.rn,V.rns,Go.Ai.known,V.pz,V.pzs,T.toV,frz1,List.range,List.range.loop,ite_true,ite_false,if_true,if_false,ne_eq,implies_true,forall_const,eq_self,IntKind.bits,upd_tmsS,selT_cons,selT_nil,List.length_map,List.getElem?_map,Int.natCast_nonneg,List.length_append,List.map_append]
  · have hjl' : ¬ (j : Int) < (m.l.length : Int) := fun h => hjl (Int.ofNat_lt.1 h)
    rw [List.take_of_length_le (Nat.le_of_not_lt hjl)] at hno
    rw [any_none hno] at hd
    cases m4 with
    | false =>
      have h1 := fin 184 (by rw [hd]; rfl) (by decide)
      rw [← h1]
      (have hwq := trivial; repeat' (first | simp (maxSteps:=9999999)-implicitDefEqProofs only [go_sem,simprocAttr,hwq,FT3,FT4,FT5,FT23,FT24,FT25,FT26,FT27,FT29,FT32,FT34,FT35,FT37,FT46,FT59,List.length_map,List.getElem?_map,Int.natCast_nonneg,List.length_append,List.map_append,hjl'] | (refine condK_split ?_ ?_ <;> intro hwq) | (refine two_split ?_ ?_) | (refine guardK_split ?_ ?_ <;> intro hwq) | (refine guardE_split ?_ ?_ <;> intro hwq) | (refine awp_drawI 6 [] (List.range 17) [0, 1, 0, 7, 15, 31, 63, 127, 255, 127, 1023, 2047, 127, 4223, 12415, 32767, 65535] (by decide +kernel) ?_; have hwq := trivial) | (refine awp_drawW [] (by decide +kernel) ?_; have hwq := trivial) | (refine call_plain n120 rfl rfl ?_; have hwq := trivial) | fail))
    | true =>
    have zi := zi_of hml
    have tki : List.take m.l.length (List.map inT m.l) = List.map inT m.l := List.take_of_length_le (by simp)
    (have hwq := trivial; repeat' (first | simp (maxSteps:=9999999)-implicitDefEqProofs only [go_sem,simprocAttr,hwq,FT3,FT4,FT5,FT23,FT24,FT25,FT26,FT27,FT29,FT32,FT34,FT35,FT37,FT46,FT59,List.length_map,List.getElem?_map,Int.natCast_nonneg,List.length_append,List.map_append,hjl',zi,List.nil_append] | (refine condK_split ?_ ?_ <;> intro hwq) | (refine two_split ?_ ?_) | (refine guardK_split ?_ ?_ <;> intro hwq) | (refine guardE_split ?_ ?_ <;> intro hwq) | (refine awp_drawI 6 [] (List.range 17) [0, 1, 0, 7, 15, 31, 63, 127, 255, 127, 1023, 2047, 127, 4223, 12415, 32767, 65535] (by decide +kernel) ?_; have hwq := trivial) | (refine awp_drawW [] (by decide +kernel) ?_; have hwq := trivial) | (refine call_plain n120 rfl rfl ?_; have hwq := trivial) | fail))
    refine awp_loopK (Sb54 p m) p.bs.length _ (Weak.trans (Weak.virt 7 2 (.inl rfl)) (Weak.selI [0, 1, 2, 3, 4] [2, 3, 4, 7, 8, 9] (by decide) ?_ ?_)) ⟨0, [], false, _, rfl, rfl, Nat.zero_le _, rfl⟩ ?_
    · simp (maxSteps:=9999999)-implicitDefEqProofs only [simprocAttr,QH,Option.isSome,cond_true,cond_false,Option.bind,selB,V.rn,V.rns,Go.Ai.known,V.pz,V.pzs,T.toV,frz1,List.range,List.range.loop,ite_true,ite_false,if_true,if_false,ne_eq,implies_true,forall_const,eq_self,IntKind.bits,upd_tmsS,selT_cons,selT_nil,List.length_map,List.getElem?_map,Int.natCast_nonneg,List.length_append,List.map_append,selF_cons,selF_nil]
    · simp (maxSteps:=9999999)-implicitDefEqProofs only [simprocAttr,QH,Option.isSome,cond_true,cond_false,Option.bind,selB,V.rn,V.rns,Go.Ai.known,V.pz,V.pzs,T.toV,frz1,List.range,List.range.loop,ite_true,ite_false,if_true,if_false,ne_eq,implies_true,forall_const,eq_self,IntKind.bits,upd_tmsS,selT_cons,selT_nil,List.length_map,List.getElem?_map,Int.natCast_nonneg,List.length_append,List.map_append]
    rintro kk S ⟨j, N, b, mv, rfl, hI, hj, rfl⟩
    have hlen : N.length ≤ 2 * p.bs.length := by
      have h1 := setF_len m (p.bs.take j) ([], false)
      have h2 : N = ((p.bs.take j).foldl (stepM m) ([], false)).1 := by unfold setF at hI; rw [hI]
      rw [← h2, List.length_take] at h1
      simp only [List.length_nil] at h1
      omega
    have zs := zm_of hlen l4 (by decide : 1 ≤ 5)
    have zt := zm_of hlen l4 (by decide : 2 ≤ 5)
    have zt' : (N.length + 1 + 1) * 32 ≤ 140737488355328 := zt
    have wj := wj_of hj l4
    by_cases hjl : j < p.bs.length
    · have hjl' : (j : Int) < (p.bs.length : Int) := Int.ofNat_lt.2 hjl
      have hgj : p.bs[j]? = some p.bs[j] := List.getElem?_eq_getElem hjl
      obtain ⟨y, hy⟩ : ∃ y, p.bs[j] = y := ⟨_, rfl⟩
      rw [hy] at hgj
      have hz := trivial
      cases b with
      | true =>
        by_cases hv : m.v = y.v
        · have hq : (m.v != y.v) = false := by simp [hv]
          have hnx : setF m (p.bs.take (j + 1)) = (N, true) := by rw [setF_in hgj, hI]; unfold stepM; simp [hv]
          (have hwq := trivial; repeat' (first | simp (maxSteps:=9999999)-implicitDefEqProofs only [go_sem,simprocAttr,hwq,FT3,FT4,FT5,FT23,FT24,FT25,FT26,FT27,FT29,FT32,FT34,FT35,FT37,FT46,FT59,List.length_map,List.getElem?_map,Int.natCast_nonneg,List.length_append,List.map_append,hjl',hgj,wj,hq] | (refine condK_split ?_ ?_ <;> intro hwq) | (refine two_split ?_ ?_) | (refine guardK_split ?_ ?_ <;> intro hwq) | (refine guardE_split ?_ ?_ <;> intro hwq) | (refine awp_drawI 6 [] (List.range 17) [0, 1, 0, 7, 15, 31, 63, 127, 255, 127, 1023, 2047, 127, 4223, 12415, 32767, 65535] (by decide +kernel) ?_; have hwq := trivial) | (refine awp_drawW [] (by decide +kernel) ?_; have hwq := trivial) | fail))
          refine ⟨p.bs.length - (j + 1), _, st_of hjl, Weak.selI [0, 1, 2, 3, 4] [2, 3, 4, 7, 8, 9] (by decide) ?_ ?_, j + 1, N, true, _, rfl, hnx, hjl, rfl⟩
          · simp (maxSteps:=9999999)-implicitDefEqProofs only [simprocAttr,QH,Option.isSome,cond_true,cond_false,Option.bind,selB,V.rn,V.rns,Go.Ai.known,V.pz,V.pzs,T.toV,frz1,List.range,List.range.loop,ite_true,ite_false,if_true,if_false,ne_eq,implies_true,forall_const,eq_self,IntKind.bits,upd_tmsS,selT_cons,selT_nil,List.length_map,List.getElem?_map,Int.natCast_nonneg,List.length_append,List.map_append,selF_cons,selF_nil,tki,List.length_cons,List.length_nil,List.map_cons,List.map_nil]
          · simp (maxSteps:=9999999)-implicitDefEqProofs only [simprocAttr,QH,Option.isSome,cond_true,cond_false,Option.bind,selB,V.rn,V.rns,Go.Ai.known,V.pz,V.pzs,T.toV,frz1,List.range,List.range.loop,ite_true,ite_false,if_true,if_false,ne_eq,implies_true,forall_const,eq_self,IntKind.bits,upd_tmsS,selT_cons,selT_nil,List.length_map,List.getElem?_map,Int.natCast_nonneg,List.length_append,List.map_append,selF_cons,selF_nil,tki,List.length_cons,List.length_nil,List.map_cons,List.map_nil]
        · have hq : (m.v != y.v) = true := by simp [hv]
          have hnx : setF m (p.bs.take (j + 1)) = (N ++ [y], true) := by rw [setF_in hgj, hI]; unfold stepM; simp [hv]
          (have hwq := trivial; repeat' (first | simp (maxSteps:=9999999)-implicitDefEqProofs only [go_sem,simprocAttr,hwq,FT3,FT4,FT5,FT23,FT24,FT25,FT26,FT27,FT29,FT32,FT34,FT35,FT37,FT46,FT59,List.length_map,List.getElem?_map,Int.natCast_nonneg,List.length_append,List.map_append,hjl',hgj,wj,zs,hq] | (refine condK_split ?_ ?_ <;> intro hwq) | (refine two_split ?_ ?_) | (refine guardK_split ?_ ?_ <;> intro hwq) | (refine guardE_split ?_ ?_ <;> intro hwq) | (refine awp_drawI 6 [] (List.range 17) [0, 1, 0, 7, 15, 31, 63, 127, 255, 127, 1023, 2047, 127, 4223, 12415, 32767, 65535] (by decide +kernel) ?_; have hwq := trivial) | (refine awp_drawW [] (by decide +kernel) ?_; have hwq := trivial) | fail))
          refine ⟨p.bs.length - (j + 1), _, st_of hjl, Weak.selI [0, 1, 2, 3, 4] [2, 3, 4, 7, 8, 9] (by decide) ?_ ?_, j + 1, N ++ [y], true, _, rfl, hnx, hjl, rfl⟩
          · simp (maxSteps:=9999999)-implicitDefEqProofs only [simprocAttr,QH,Option.isSome,cond_true,cond_false,Option.bind,selB,V.rn,V.rns,Go.Ai.known,V.pz,V.pzs,T.toV,frz1,List.range,List.range.loop,ite_true,ite_false,if_true,if_false,ne_eq,implies_true,forall_const,eq_self,IntKind.bits,upd_tmsS,selT_cons,selT_nil,List.length_map,List.getElem?_map,Int.natCast_nonneg,List.length_append,List.map_append,selF_cons,selF_nil,tki,List.length_cons,List.length_nil,List.map_cons,List.map_nil]
          · simp (maxSteps:=9999999)-implicitDefEqProofs only [simprocAttr,QH,Option.isSome,cond_true,cond_false,Option.bind,selB,V.rn,V.rns,Go.Ai.known,V.pz,V.pzs,T.toV,frz1,List.range,List.range.loop,ite_true,ite_false,if_true,if_false,ne_eq,implies_true,forall_const,eq_self,IntKind.bits,upd_tmsS,selT_cons,selT_nil,List.length_map,List.getElem?_map,Int.natCast_nonneg,List.length_append,List.map_append,selF_cons,selF_nil,tki,List.length_cons,List.length_nil,List.map_cons,List.map_nil]
      | false =>
        by_cases hb : m.v ≤ y.v
        · by_cases hv : m.v = y.v
          · have hq : (m.v != y.v) = false := by simp [hv]
            have hnx : setF m (p.bs.take (j + 1)) = (N ++ [m], true) := by rw [setF_in hgj, hI]; unfold stepM; simp [hv]
            (have hwq := trivial; repeat' (first | simp (maxSteps:=9999999)-implicitDefEqProofs only [go_sem,simprocAttr,hwq,FT3,FT4,FT5,FT23,FT24,FT25,FT26,FT27,FT29,FT32,FT34,FT35,FT37,FT46,FT59,List.length_map,List.getElem?_map,Int.natCast_nonneg,List.length_append,List.map_append,hjl',hgj,wj,zs,hq,hb,List.length_cons,List.length_nil,List.map_cons,List.map_nil] | (refine condK_split ?_ ?_ <;> intro hwq) | (refine two_split ?_ ?_) | (refine guardK_split ?_ ?_ <;> intro hwq) | (refine guardE_split ?_ ?_ <;> intro hwq) | (refine awp_drawI 6 [] (List.range 17) [0, 1, 0, 7, 15, 31, 63, 127, 255, 127, 1023, 2047, 127, 4223, 12415, 32767, 65535] (by decide +kernel) ?_; have hwq := trivial) | (refine awp_drawW [] (by decide +kernel) ?_; have hwq := trivial) | fail))
            refine ⟨p.bs.length - (j + 1), _, st_of hjl, Weak.selI [0, 1, 2, 3, 4] [2, 3, 4, 7, 8, 9] (by decide) ?_ ?_, j + 1, N ++ [m], true, _, rfl, hnx, hjl, rfl⟩
            · simp (maxSteps:=9999999)-implicitDefEqProofs only [simprocAttr,QH,Option.isSome,cond_true,cond_false,Option.bind,selB,V.rn,V.rns,Go.Ai.known,V.pz,V.pzs,T.toV,frz1,List.range,List.range.loop,ite_true,ite_false,if_true,if_false,ne_eq,implies_true,forall_const,eq_self,IntKind.bits,upd_tmsS,selT_cons,selT_nil,List.length_map,List.getElem?_map,Int.natCast_nonneg,List.length_append,List.map_append,selF_cons,selF_nil,tki,List.length_cons,List.length_nil,List.map_cons,List.map_nil]
            · simp (maxSteps:=9999999)-implicitDefEqProofs only [simprocAttr,QH,Option.isSome,cond_true,cond_false,Option.bind,selB,V.rn,V.rns,Go.Ai.known,V.pz,V.pzs,T.toV,frz1,List.range,List.range.loop,ite_true,ite_false,if_true,if_false,ne_eq,implies_true,forall_const,eq_self,IntKind.bits,upd_tmsS,selT_cons,selT_nil,List.length_map,List.getElem?_map,Int.natCast_nonneg,List.length_append,List.map_append,selF_cons,selF_nil,tki,List.length_cons,List.length_nil,List.map_cons,List.map_nil]
          · have hq : (m.v != y.v) = true := by simp [hv]
            have hnx : setF m (p.bs.take (j + 1)) = (N ++ [m] ++ [y], true) := by rw [setF_in hgj, hI]; unfold stepM; simp [hv, hb]
            (have hwq := trivial; repeat' (first | simp (maxSteps:=9999999)-implicitDefEqProofs only [go_sem,simprocAttr,hwq,FT3,FT4,FT5,FT23,FT24,FT25,FT26,FT27,FT29,FT32,FT34,FT35,FT37,FT46,FT59,List.length_map,List.getElem?_map,Int.natCast_nonneg,List.length_append,List.map_append,hjl',hgj,wj,zs,zt,zt',hq,hb,List.length_cons,List.length_nil,List.map_cons,List.map_nil] | (refine condK_split ?_ ?_ <;> intro hwq) | (refine two_split ?_ ?_) | (refine guardK_split ?_ ?_ <;> intro hwq) | (refine guardE_split ?_ ?_ <;> intro hwq) | (refine awp_drawI 6 [] (List.range 17) [0, 1, 0, 7, 15, 31, 63, 127, 255, 127, 1023, 2047, 127, 4223, 12415, 32767, 65535] (by decide +kernel) ?_; have hwq := trivial) | (refine awp_drawW [] (by decide +kernel) ?_; have hwq := trivial) | fail))
            refine ⟨p.bs.length - (j + 1), _, st_of hjl, Weak.selI [0, 1, 2, 3, 4] [2, 3, 4, 7, 8, 9] (by decide) ?_ ?_, j + 1, N ++ [m] ++ [y], true, _, rfl, hnx, hjl, rfl⟩
            · simp (maxSteps:=9999999)-implicitDefEqProofs only [simprocAttr,QH,Option.isSome,cond_true,cond_false,Option.bind,selB,V.rn,V.rns,Go.Ai.known,V.pz,V.pzs,T.toV,frz1,List.range,List.range.loop,ite_true,ite_false,if_true,if_false,ne_eq,implies_true,forall_const,eq_self,IntKind.bits,upd_tmsS,selT_cons,selT_nil,List.length_map,List.getElem?_map,Int.natCast_nonneg,List.length_append,List.map_append,selF_cons,selF_nil,tki,List.length_cons,List.length_nil,List.map_cons,List.map_nil]
            · simp (maxSteps:=9999999)-implicitDefEqProofs only [simprocAttr,QH,Option.isSome,cond_true,cond_false,Option.bind,selB,V.rn,V.rns,Go.Ai.known,V.pz,V.pzs,T.toV,frz1,List.range,List.range.loop,ite_true,ite_false,if_true,if_false,ne_eq,implies_true,forall_const,eq_self,IntKind.bits,upd_tmsS,selT_cons,selT_nil,List.length_map,List.getElem?_map,Int.natCast_nonneg,List.length_append,List.map_append,selF_cons,selF_nil,tki,List.length_cons,List.length_nil,List.map_cons,List.map_nil]
        · have hv : ¬ m.v = y.v := fun h => hb (h ▸ Int.le_refl _)
          have hq : (m.v != y.v) = true := by simp [hv]
          have hnx : setF m (p.bs.take (j + 1)) = (N ++ [y], false) := by rw [setF_in hgj, hI]; unfold stepM; simp [hv, hb]
          (have hwq := trivial; repeat' (first | simp (maxSteps:=9999999)-implicitDefEqProofs only [go_sem,simprocAttr,hwq,FT3,FT4,FT5,FT23,FT24,FT25,FT26,FT27,FT29,FT32,FT34,FT35,FT37,FT46,FT59,List.length_map,List.getElem?_map,Int.natCast_nonneg,List.length_append,List.map_append,hjl',hgj,wj,zs,hq,hb] | (refine condK_split ?_ ?_ <;> intro hwq) | (refine two_split ?_ ?_) | (refine guardK_split ?_ ?_ <;> intro hwq) | (refine guardE_split ?_ ?_ <;> intro hwq) | (refine awp_drawI 6 [] (List.range 17) [0, 1, 0, 7, 15, 31, 63, 127, 255, 127, 1023, 2047, 127, 4223, 12415, 32767, 65535] (by decide +kernel) ?_; have hwq := trivial) | (refine awp_drawW [] (by decide +kernel) ?_; have hwq := trivial) | fail))
          refine ⟨p.bs.length - (j + 1), _, st_of hjl, Weak.selI [0, 1, 2, 3, 4] [2, 3, 4, 7, 8, 9] (by decide) ?_ ?_, j + 1, N ++ [y], false, _, rfl, hnx, hjl, rfl⟩
          · simp (maxSteps:=9999999)-implicitDefEqProofs only [simprocAttr,QH,Option.isSome,cond_true,cond_false,Option.bind,selB,V.rn,V.rns,Go.Ai.known,V.pz,V.pzs,T.toV,frz1,List.range,List.range.loop,ite_true,ite_false,if_true,if_false,ne_eq,implies_true,forall_const,eq_self,IntKind.bits,upd_tmsS,selT_cons,selT_nil,List.length_map,List.getElem?_map,Int.natCast_nonneg,List.length_append,List.map_append,selF_cons,selF_nil,tki,List.length_cons,List.length_nil,List.map_cons,List.map_nil]
          · simp (maxSteps:=9999999)-implicitDefEqProofs only [simprocAttr,QH,Option.isSome,cond_true,cond_false,Option.bind,selB,V.rn,V.rns,Go.Ai.known,V.pz,V.pzs,T.toV,frz1,List.range,List.range.loop,ite_true,ite_false,if_true,if_false,ne_eq,implies_true,forall_const,eq_self,IntKind.bits,upd_tmsS,selT_cons,selT_nil,List.length_map,List.getElem?_map,Int.natCast_nonneg,List.length_append,List.map_append,selF_cons,selF_nil,tki,List.length_cons,List.length_nil,List.map_cons,List.map_nil]
    · have hjl' : ¬ (j : Int) < (p.bs.length : Int) := fun h => hjl (Int.ofNat_lt.1 h)
      rw [List.take_of_length_le (Nat.le_of_not_lt hjl)] at hI
      have hset : setMbL m p.bs = if b = true then N else N ++ [m] := by unfold setMbL; rw [hI]
      have hd' : refMemE p m = if 64 < ((setMbL m p.bs).length : Int) then 3 else 0 := by rw [hd]; rfl
      cases b with
      | true =>
        rw [if_pos rfl] at hset
        rw [hset] at hd'
        have tk : List.take N.length (List.map mbT N) = List.map mbT N := List.take_of_length_le (by simp)
        by_cases hn : (64 : Int) < (N.length : Int)
        · rw [← fin 3 (by rw [hd', if_pos hn]) (by decide)]
          (have hwq := trivial; repeat' (first | simp (maxSteps:=9999999)-implicitDefEqProofs only [go_sem,simprocAttr,hwq,FT3,FT4,FT5,FT23,FT24,FT25,FT26,FT27,FT29,FT32,FT34,FT35,FT37,FT46,FT59,List.length_map,List.getElem?_map,Int.natCast_nonneg,List.length_append,List.map_append,hjl',hn] | (refine condK_split ?_ ?_ <;> intro hwq) | (refine two_split ?_ ?_) | (refine guardK_split ?_ ?_ <;> intro hwq) | (refine guardE_split ?_ ?_ <;> intro hwq) | (refine awp_drawI 6 [] (List.range 17) [0, 1, 0, 7, 15, 31, 63, 127, 255, 127, 1023, 2047, 127, 4223, 12415, 32767, 65535] (by decide +kernel) ?_; have hwq := trivial) | (refine awp_drawW [] (by decide +kernel) ?_; have hwq := trivial) | fail))
        · rw [← good (by rw [hd', if_neg hn]), hset]
          (have hwq := trivial; repeat' (first | simp (maxSteps:=9999999)-implicitDefEqProofs only [go_sem,simprocAttr,hwq,FT3,FT4,FT5,FT23,FT24,FT25,FT26,FT27,FT29,FT32,FT34,FT35,FT37,FT46,FT59,List.length_map,List.getElem?_map,Int.natCast_nonneg,List.length_append,List.map_append,hjl',hn,tk,Nat.le_refl] | (refine condK_split ?_ ?_ <;> intro hwq) | (refine two_split ?_ ?_) | (refine guardK_split ?_ ?_ <;> intro hwq) | (refine guardE_split ?_ ?_ <;> intro hwq) | (refine awp_drawI 6 [] (List.range 17) [0, 1, 0, 7, 15, 31, 63, 127, 255, 127, 1023, 2047, 127, 4223, 12415, 32767, 65535] (by decide +kernel) ?_; have hwq := trivial) | (refine awp_drawW [] (by decide +kernel) ?_; have hwq := trivial) | fail))
      | false =>
        rw [if_neg (by simp)] at hset
        rw [hset] at hd'
        have hNl : ((N ++ [m]).length : Int) = (N.length : Int) + 1 := by simp
        rw [hNl] at hd'
        obtain ⟨X, hX⟩ : ∃ X, List.map mbT N ++ [mbT m] = X := ⟨_, rfl⟩
        have hXk : List.map mbT N ++ [[T.s (.int .i64 m.v), T.sl 1 (List.take m.l.length (List.map inT m.l))]] = X := by rw [tki]; exact hX
        have hX2 : List.map mbT (N ++ [m]) = X := by rw [← hX, List.map_append]; rfl
        have hXl : X.length = N.length + 1 := by rw [← hX]; simp
        have tk : List.take (N.length + 1) X = X := List.take_of_length_le (le_of_sl hXl)
        by_cases hn : (64 : Int) < (N.length : Int) + 1
        · rw [← fin 3 (by rw [hd', if_pos hn]) (by decide)]
          (have hwq := trivial; repeat' (first | simp (maxSteps:=9999999)-implicitDefEqProofs only [go_sem,simprocAttr,hwq,FT3,FT4,FT5,FT23,FT24,FT25,FT26,FT27,FT29,FT32,FT34,FT35,FT37,FT46,FT59,List.length_map,List.getElem?_map,Int.natCast_nonneg,List.length_append,List.map_append,hjl',zs,hn] | (refine condK_split ?_ ?_ <;> intro hwq) | (refine two_split ?_ ?_) | (refine guardK_split ?_ ?_ <;> intro hwq) | (refine guardE_split ?_ ?_ <;> intro hwq) | (refine awp_drawI 6 [] (List.range 17) [0, 1, 0, 7, 15, 31, 63, 127, 255, 127, 1023, 2047, 127, 4223, 12415, 32767, 65535] (by decide +kernel) ?_; have hwq := trivial) | (refine awp_drawW [] (by decide +kernel) ?_; have hwq := trivial) | fail))
        · rw [← good (by rw [hd', if_neg hn]), hset]
          rw [show pvV { p with bs := N ++ [m] } = .agg [.s (.int .u8 p.own.a), .s (.int .u8 p.own.b), .s (.int .u8 p.own.c), .s (.int .u8 p.own.d), .s (.int .u8 p.own.e), .s (.int .u8 p.own.f), isV p.ks, msV p.ms, csV p.cs, .sl 2 X] from by rw [← hX2]]
          (have hwq := trivial; repeat' (first | simp (maxSteps:=9999999)-implicitDefEqProofs only [go_sem,simprocAttr,hwq,FT3,FT4,FT5,FT23,FT24,FT25,FT26,FT27,FT29,FT32,FT34,FT35,FT37,FT46,FT59,List.length_map,List.getElem?_map,Int.natCast_nonneg,List.length_append,List.map_append,hjl',zs,hn,hX,hXk,hXl,tk,Nat.le_refl] | (refine condK_split ?_ ?_ <;> intro hwq) | (refine two_split ?_ ?_) | (refine guardK_split ?_ ?_ <;> intro hwq) | (refine guardE_split ?_ ?_ <;> intro hwq) | (refine awp_drawI 6 [] (List.range 17) [0, 1, 0, 7, 15, 31, 63, 127, 255, 127, 1023, 2047, 127, 4223, 12415, 32767, 65535] (by decide +kernel) ?_; have hwq := trivial) | (refine awp_drawW [] (by decide +kernel) ?_; have hwq := trivial) | fail))
end Go.Ai

set_option linter.unusedVariables false
set_option linter.unusedSimpArgs false
set_option maxHeartbeats 8000000
set_option maxRecDepth 100000
namespace Go.Ai
open Go.Proofs
attribute [local go_sem] QH QR V.noimm V.noimms frzZs frzZ frzA frzV frzVs frzBox boxLen Option.isSome cond_true cond_false aopD calW flatV stepX amap stepY alookup afind aupdate adelete amlen arange ameq mapOf akeq pl V.mapT V.mapTs Option.bind stepK runK guardD stepE runD callD compact selB callK evS ofVal ofVals scalar aop ares mkRes V.rn V.rns V.cells? cellsAt Go.Ai.part aload astore setL V.atom abin aun intBin shiftBin aconv fieldOf aindexAddr aindex bound? aslice aarr abuild afill alen nilP nilS nilF aeq eqCells eqCell Go.Ai.known strBin abuiltin aappend abuildSlice arowsFill amakeSlice acopy aclear minmax rowsOf numsT notStr isIntD isByte V.pz V.pzs T.toV frz1 frz scalT scalTs chunkT List.range List.range.loop ite_true ite_false if_true if_false ne_eq implies_true forall_const eq_self IntKind.bits kPostKF_ret kPostKF_normal kPostX_ret kPostX_normal bsl nil2K nil2 kPostFW_ret kPostFW_normal kPostKM_ret kPostKM_normal kPostXK_ret kPostXK_normal
/-- May the map stand there, by the document? -/
def mpOk (p : Pv) (i : Nat) (m : Mp) : Bool := decide (vidOk m.v) && (hasC p.cs m.s && (kindP p.ks m.p == 1 && (!((p.ms.take i).any fun x => x.p == m.p && x.s == m.s) && (decide (i = 0) || beforeB (p.ms.getD (i - 1) default) m))))
def refMs (p : Pv) : Bool := !((List.range p.ms.length).any fun i => !mpOk p i (p.ms.getD i default)) && decide ((p.ms.length : Int) ≤ 64)
def Lp86 (p : Pv) (n : Nat) (S : St) : Prop :=
  ∃ (j : Nat) (mv : List Nat), S = ⟨tms [(1, .ptr 0 0 0), (3, vI j)], [bxP p], mv⟩ ∧ j ≤ p.ms.length ∧ n = p.ms.length - j ∧ ∀ i, i < j → mpOk p i (p.ms.getD i default) = true
def Lq86 (p : Pv) (m : Mp) (j : Nat) (n : Nat) (S : St) : Prop :=
  ∃ (i : Nat) (mv : List Nat), S = ⟨tms [(1, .ptr 0 0 0), (3, vI j), (4, .ptr 1 0 0), (7, vI i)], [bxP p, bxMp m], mv⟩ ∧ i ≤ j ∧ n = j - i ∧ ∀ x ∈ p.ms.take i, (fun x : Mp => x.p == m.p && x.s == m.s) x = false
theorem pc86 (p : Pv) (hp : okL p) : AC Tryz.prog 86 [pvV p] [] (eqR (vB (refMs p))) := by
  obtain ⟨l1, l2, l3, l4, l5⟩ := hp
  refine AC_plain orders Tryz.func86 rfl (by kernel_rfl) (by kernel_rfl) Tryz.ntmps86 (by simp) ?_
  unfold Tryz.f86
  (have hwq := trivial; repeat' (first | simp (maxSteps:=9999999)-implicitDefEqProofs only [go_sem,simprocAttr,hwq,FT3,FT4,FT5,FT23,FT24,FT25,FT26,FT27,FT29,FT32,FT34,FT35,FT37,FT59] | (refine condK_split ?_ ?_ <;> intro hwq) | (refine two_split ?_ ?_) | (refine guardK_split ?_ ?_ <;> intro hwq) | (refine guardE_split ?_ ?_ <;> intro hwq) | (refine awp_drawI 11 [] (List.range 20) [0, 1, 0, 7, 15, 31, 0, 64, 255, 511, 1023, 2047, 1023, 8191, 16383, 32767, 1023, 66559, 262143, 524287] (by decide +kernel) ?_; have hwq := trivial) | (refine awp_drawW [] (by decide +kernel) ?_; have hwq := trivial) | fail))
  refine awp_loopK (Lp86 p) p.ms.length _ (Weak.cutI 1 [1, 3] ?_ ?_) ⟨0, _, rfl, by omega, rfl, by simp⟩ ?_
  · simp (maxSteps:=9999999)-implicitDefEqProofs only [simprocAttr,QH,Option.isSome,cond_true,cond_false,Option.bind,selB,V.rn,V.rns,Go.Ai.known,V.pz,V.pzs,T.toV,frz1,List.range,List.range.loop,ite_true,ite_false,if_true,if_false,ne_eq,implies_true,forall_const,eq_self,IntKind.bits,upd_tmsS,selT_cons,selT_nil]
  · simp (maxSteps:=9999999)-implicitDefEqProofs only [simprocAttr,QH,Option.isSome,cond_true,cond_false,Option.bind,selB,V.rn,V.rns,Go.Ai.known,V.pz,V.pzs,T.toV,frz1,List.range,List.range.loop,ite_true,ite_false,if_true,if_false,ne_eq,implies_true,forall_const,eq_self,IntKind.bits,upd_tmsS,selT_cons,selT_nil]
  rintro kk S ⟨j, mv, rfl, hj, rfl, hno⟩
  have wj : IntKind.i64.wrap ((j : Int) + 1) = (j : Int) + 1 := wI64 _ (by omega) (by omega)
  by_cases hjl : j < p.ms.length
  · have hjl' : (j : Int) < (p.ms.length : Int) := by omega
    have hgj : p.ms[j]? = some p.ms[j] := List.getElem?_eq_getElem hjl
    obtain ⟨m, hm⟩ : ∃ m, p.ms[j] = m := ⟨_, rfl⟩
    rw [hm] at hgj
    have hd : p.ms.getD j default = m := by rw [List.getD_eq_getElem?_getD, hgj]; rfl
    have n116 := pc116 m.v
    have n25 := pq25 p ⟨l1, l2, l3, l4, l5⟩ m.s
    have n120 := pc120 p ⟨l1, l2, l3, l4, l5⟩ [m.p] (by simp) 1 (by decide)
    have dM : mpOk p j m = (decide (vidOk m.v) && (hasC p.cs m.s && (kindP p.ks m.p == 1 && (!((p.ms.take j).any fun x => x.p == m.p && x.s == m.s) && (decide (j = 0) || beforeB (p.ms.getD (j - 1) default) m))))) := rfl
    rw [hasC_find] at dM
    have e120 : (![m.p].any fun x => kindP p.ks x != 1) = (kindP p.ks m.p == 1) := by simp; rfl
    rw [e120] at n120
    generalize decide (vidOk m.v) = m1 at n116 dM
    generalize (kindP p.ks m.p == 1) = m3 at n120 dM
    unfold rf25 at n25
    have stop : mpOk p j m = false → refMs p = false := fun h => by
      unfold refMs
      rw [show ((List.range p.ms.length).any fun i => !mpOk p i (p.ms.getD i default)) = true from List.any_eq_true.2 ⟨j, List.mem_range.2 hjl, by rw [hd, h]; rfl⟩]
      rfl
    cases hf : p.cs.find? (fun x => x.s == m.s) with
    | none =>
      rw [hf] at n25 dM
      have ds : mpOk p j m = false := by rw [dM]; simp
      (have hwq := trivial; repeat' (first | simp (maxSteps:=9999999)-implicitDefEqProofs only [go_sem,simprocAttr,hwq,FT3,FT4,FT5,FT23,FT24,FT25,FT26,FT27,FT29,FT32,FT34,FT35,FT37,FT59,List.length_map,List.getElem?_map,Int.natCast_nonneg,List.length_append,List.map_append,hjl',hgj,wj] | (refine condK_split ?_ ?_ <;> intro hwq) | (refine two_split ?_ ?_) | (refine guardK_split ?_ ?_ <;> intro hwq) | (refine guardE_split ?_ ?_ <;> intro hwq) | (refine awp_drawI 11 [] (List.range 20) [0, 1, 0, 7, 15, 31, 0, 64, 255, 511, 1023, 2047, 1023, 8191, 16383, 32767, 1023, 66559, 262143, 524287] (by decide +kernel) ?_; have hwq := trivial) | (refine awp_drawW [] (by decide +kernel) ?_; have hwq := trivial) | (refine call_plain n116 rfl rfl ?_; have hwq := trivial) | (refine call_plain n25 rfl rfl ?_; have hwq := trivial) | (refine call_data n120 rfl (V.les_refl _) rfl ?_; have hwq := trivial) | fail))
      all_goals (rw [stop ds])
    | some c =>
      rw [hf] at n25 dM
      rw [show ((some c : Option Cr).isSome) = true from rfl, Bool.true_and] at dM
      cases h1 : m1 with
      | false =>
        rw [h1] at n116 dM
        (have hwq := trivial; repeat' (first | simp (maxSteps:=9999999)-implicitDefEqProofs only [go_sem,simprocAttr,hwq,FT3,FT4,FT5,FT23,FT24,FT25,FT26,FT27,FT29,FT32,FT34,FT35,FT37,FT59,List.length_map,List.getElem?_map,Int.natCast_nonneg,List.length_append,List.map_append,hjl',hgj,wj] | (refine condK_split ?_ ?_ <;> intro hwq) | (refine two_split ?_ ?_) | (refine guardK_split ?_ ?_ <;> intro hwq) | (refine guardE_split ?_ ?_ <;> intro hwq) | (refine awp_drawI 11 [] (List.range 20) [0, 1, 0, 7, 15, 31, 0, 64, 255, 511, 1023, 2047, 1023, 8191, 16383, 32767, 1023, 66559, 262143, 524287] (by decide +kernel) ?_; have hwq := trivial) | (refine awp_drawW [] (by decide +kernel) ?_; have hwq := trivial) | (refine call_plain n116 rfl rfl ?_; have hwq := trivial) | (refine call_plain n25 rfl rfl ?_; have hwq := trivial) | (refine call_data n120 rfl (V.les_refl _) rfl ?_; have hwq := trivial) | fail))
        all_goals (rw [stop dM])
      | true =>
      rw [h1] at n116 dM
      cases h3 : m3 with
      | false =>
        rw [h3] at n120 dM
        (have hwq := trivial; repeat' (first | simp (maxSteps:=9999999)-implicitDefEqProofs only [go_sem,simprocAttr,hwq,FT3,FT4,FT5,FT23,FT24,FT25,FT26,FT27,FT29,FT32,FT34,FT35,FT37,FT59,List.length_map,List.getElem?_map,Int.natCast_nonneg,List.length_append,List.map_append,hjl',hgj,wj] | (refine condK_split ?_ ?_ <;> intro hwq) | (refine two_split ?_ ?_) | (refine guardK_split ?_ ?_ <;> intro hwq) | (refine guardE_split ?_ ?_ <;> intro hwq) | (refine awp_drawI 11 [] (List.range 20) [0, 1, 0, 7, 15, 31, 0, 64, 255, 511, 1023, 2047, 1023, 8191, 16383, 32767, 1023, 66559, 262143, 524287] (by decide +kernel) ?_; have hwq := trivial) | (refine awp_drawW [] (by decide +kernel) ?_; have hwq := trivial) | (refine call_plain n116 rfl rfl ?_; have hwq := trivial) | (refine call_plain n25 rfl rfl ?_; have hwq := trivial) | (refine call_data n120 rfl (V.les_refl _) rfl ?_; have hwq := trivial) | fail))
        all_goals (rw [stop dM])
      | true =>
      rw [h3] at n120 dM
      (have hwq := trivial; repeat' (first | simp (maxSteps:=9999999)-implicitDefEqProofs only [go_sem,simprocAttr,hwq,FT3,FT4,FT5,FT23,FT24,FT25,FT26,FT27,FT29,FT32,FT34,FT35,FT37,FT59,List.length_map,List.getElem?_map,Int.natCast_nonneg,List.length_append,List.map_append,hjl',hgj,wj] | (refine condK_split ?_ ?_ <;> intro hwq) | (refine two_split ?_ ?_) | (refine guardK_split ?_ ?_ <;> intro hwq) | (refine guardE_split ?_ ?_ <;> intro hwq) | (refine awp_drawI 11 [] (List.range 20) [0, 1, 0, 7, 15, 31, 0, 64, 255, 511, 1023, 2047, 1023, 8191, 16383, 32767, 1023, 66559, 262143, 524287] (by decide +kernel) ?_; have hwq := trivial) | (refine awp_drawW [] (by decide +kernel) ?_; have hwq := trivial) | (refine call_plain n116 rfl rfl ?_; have hwq := trivial) | (refine call_plain n25 rfl rfl ?_; have hwq := trivial) | (refine call_data n120 rfl (V.les_refl _) rfl ?_; have hwq := trivial) | fail))
      refine awp_loopK (Lq86 p m j) j _ (Weak.cutI 2 [1, 3, 4, 7] ?_ ?_) ⟨0, _, rfl, by omega, rfl, by simp⟩ ?_
      · simp (maxSteps:=9999999)-implicitDefEqProofs only [simprocAttr,QH,Option.isSome,cond_true,cond_false,Option.bind,selB,V.rn,V.rns,Go.Ai.known,V.pz,V.pzs,T.toV,frz1,List.range,List.range.loop,ite_true,ite_false,if_true,if_false,ne_eq,implies_true,forall_const,eq_self,IntKind.bits,upd_tmsS,selT_cons,selT_nil,List.length_map,List.getElem?_map,Int.natCast_nonneg,List.length_append,List.map_append]
      · simp (maxSteps:=9999999)-implicitDefEqProofs only [simprocAttr,QH,Option.isSome,cond_true,cond_false,Option.bind,selB,V.rn,V.rns,Go.Ai.known,V.pz,V.pzs,T.toV,frz1,List.range,List.range.loop,ite_true,ite_false,if_true,if_false,ne_eq,implies_true,forall_const,eq_self,IntKind.bits,upd_tmsS,selT_cons,selT_nil]
      rintro kk S ⟨i, mv, rfl, hi, rfl, hno2⟩
      have wi : IntKind.i64.wrap ((i : Int) + 1) = (i : Int) + 1 := wI64 _ (by omega) (by omega)
      by_cases hij : i < j
      · have hij' : (i : Int) < (j : Int) := by omega
        have hil' : (i : Int) < (p.ms.length : Int) := by omega
        have hgi : p.ms[i]? = some (p.ms[i]'(by omega)) := List.getElem?_eq_getElem (by omega)
        obtain ⟨x, hx⟩ : ∃ x, p.ms[i]'(by omega) = x := ⟨_, rfl⟩
        rw [hx] at hgi
        have hgt : (p.ms.take j)[i]? = some x := by rw [List.getElem?_take_of_lt hij]; exact hgi
        have any1 : (x.p == m.p && x.s == m.s) = true → mpOk p j m = false := fun h => by
          rw [dM, any_some (q := fun x : Mp => x.p == m.p && x.s == m.s) hgt h]
          simp
        cases q1 : (x.p == m.p) with
        | false =>
          (have hwq := trivial; repeat' (first | simp (maxSteps:=9999999)-implicitDefEqProofs only [go_sem,simprocAttr,hwq,FT3,FT4,FT5,FT23,FT24,FT25,FT26,FT27,FT29,FT32,FT34,FT35,FT37,FT59,List.length_map,List.getElem?_map,Int.natCast_nonneg,List.length_append,List.map_append,hij',hil',hgi,wi,q1] | (refine condK_split ?_ ?_ <;> intro hwq) | (refine two_split ?_ ?_) | (refine guardK_split ?_ ?_ <;> intro hwq) | (refine guardE_split ?_ ?_ <;> intro hwq) | (refine awp_drawI 11 [] (List.range 20) [0, 1, 0, 7, 15, 31, 0, 64, 255, 511, 1023, 2047, 1023, 8191, 16383, 32767, 1023, 66559, 262143, 524287] (by decide +kernel) ?_; have hwq := trivial) | (refine awp_drawW [] (by decide +kernel) ?_; have hwq := trivial) | fail))
          refine ⟨j - (i + 1), _, by omega, Weak.cutI 2 [1, 3, 4, 7] ?_ ?_, i + 1, _, rfl, by omega, rfl, take_more (q := fun x : Mp => x.p == m.p && x.s == m.s) hno2 hgi (by simp [q1])⟩
          · simp (maxSteps:=9999999)-implicitDefEqProofs only [simprocAttr,QH,Option.isSome,cond_true,cond_false,Option.bind,selB,V.rn,V.rns,Go.Ai.known,V.pz,V.pzs,T.toV,frz1,List.range,List.range.loop,ite_true,ite_false,if_true,if_false,ne_eq,implies_true,forall_const,eq_self,IntKind.bits,upd_tmsS,selT_cons,selT_nil,List.length_map,List.getElem?_map,Int.natCast_nonneg,List.length_append,List.map_append]
          · simp (maxSteps:=9999999)-implicitDefEqProofs only [simprocAttr,QH,Option.isSome,cond_true,cond_false,Option.bind,selB,V.rn,V.rns,Go.Ai.known,V.pz,V.pzs,T.toV,frz1,List.range,List.range.loop,ite_true,ite_false,if_true,if_false,ne_eq,implies_true,forall_const,eq_self,IntKind.bits,upd_tmsS,selT_cons,selT_nil,List.length_map,List.getElem?_map,Int.natCast_nonneg,List.length_append,List.map_append]
        | true =>
          cases q2 : (x.s == m.s) with
          | false =>
            (have hwq := trivial; repeat' (first | simp (maxSteps:=9999999)-implicitDefEqProofs only [go_sem,simprocAttr,hwq,FT3,FT4,FT5,FT23,FT24,FT25,FT26,FT27,FT29,FT32,FT34,FT35,FT37,FT59,List.length_map,List.getElem?_map,Int.natCast_nonneg,List.length_append,List.map_append,hij',hil',hgi,wi,q1,q2] | (refine condK_split ?_ ?_ <;> intro hwq) | (refine two_split ?_ ?_) | (refine guardK_split ?_ ?_ <;> intro hwq) | (refine guardE_split ?_ ?_ <;> intro hwq) | (refine awp_drawI 11 [] (List.range 20) [0, 1, 0, 7, 15, 31, 0, 64, 255, 511, 1023, 2047, 1023, 8191, 16383, 32767, 1023, 66559, 262143, 524287] (by decide +kernel) ?_; have hwq := trivial) | (refine awp_drawW [] (by decide +kernel) ?_; have hwq := trivial) | fail))
            refine ⟨j - (i + 1), _, by omega, Weak.cutI 2 [1, 3, 4, 7] ?_ ?_, i + 1, _, rfl, by omega, rfl, take_more (q := fun x : Mp => x.p == m.p && x.s == m.s) hno2 hgi (by simp [q2])⟩
            · simp (maxSteps:=9999999)-implicitDefEqProofs only [simprocAttr,QH,Option.isSome,cond_true,cond_false,Option.bind,selB,V.rn,V.rns,Go.Ai.known,V.pz,V.pzs,T.toV,frz1,List.range,List.range.loop,ite_true,ite_false,if_true,if_false,ne_eq,implies_true,forall_const,eq_self,IntKind.bits,upd_tmsS,selT_cons,selT_nil,List.length_map,List.getElem?_map,Int.natCast_nonneg,List.length_append,List.map_append]
            · simp (maxSteps:=9999999)-implicitDefEqProofs only [simprocAttr,QH,Option.isSome,cond_true,cond_false,Option.bind,selB,V.rn,V.rns,Go.Ai.known,V.pz,V.pzs,T.toV,frz1,List.range,List.range.loop,ite_true,ite_false,if_true,if_false,ne_eq,implies_true,forall_const,eq_self,IntKind.bits,upd_tmsS,selT_cons,selT_nil,List.length_map,List.getElem?_map,Int.natCast_nonneg,List.length_append,List.map_append]
          | true =>
            have hs := stop (any1 (by rw [q1, q2]; rfl))
            (have hwq := trivial; repeat' (first | simp (maxSteps:=9999999)-implicitDefEqProofs only [go_sem,simprocAttr,hwq,FT3,FT4,FT5,FT23,FT24,FT25,FT26,FT27,FT29,FT32,FT34,FT35,FT37,FT59,List.length_map,List.getElem?_map,Int.natCast_nonneg,List.length_append,List.map_append,hij',hil',hgi,wi,q1,q2,hs] | (refine condK_split ?_ ?_ <;> intro hwq) | (refine two_split ?_ ?_) | (refine guardK_split ?_ ?_ <;> intro hwq) | (refine guardE_split ?_ ?_ <;> intro hwq) | (refine awp_drawI 11 [] (List.range 20) [0, 1, 0, 7, 15, 31, 0, 64, 255, 511, 1023, 2047, 1023, 8191, 16383, 32767, 1023, 66559, 262143, 524287] (by decide +kernel) ?_; have hwq := trivial) | (refine awp_drawW [] (by decide +kernel) ?_; have hwq := trivial) | fail))
      · have hij' : ¬ (i : Int) < (j : Int) := by omega
        obtain rfl : i = j := by omega
        rw [any_none (q := fun x : Mp => x.p == m.p && x.s == m.s) hno2] at dM
        have fin : mpOk p i m = true → ∀ k, k < i + 1 → mpOk p k (p.ms.getD k default) = true := fun h k hk => by
          by_cases hki : k < i
          · exact hno k hki
          · obtain rfl : k = i := by omega
            rw [hd]; exact h
        by_cases hz0 : i = 0
        · subst hz0
          have hz : ¬ (0 : Int) < ((0 : Nat) : Int) := by decide
          (have hwq := trivial; repeat' (first | simp (maxSteps:=9999999)-implicitDefEqProofs only [go_sem,simprocAttr,hwq,FT3,FT4,FT5,FT23,FT24,FT25,FT26,FT27,FT29,FT32,FT34,FT35,FT37,FT59,List.length_map,List.getElem?_map,Int.natCast_nonneg,List.length_append,List.map_append,hij',hjl',hgj,wj,hz] | (refine condK_split ?_ ?_ <;> intro hwq) | (refine two_split ?_ ?_) | (refine guardK_split ?_ ?_ <;> intro hwq) | (refine guardE_split ?_ ?_ <;> intro hwq) | (refine awp_drawI 11 [] (List.range 20) [0, 1, 0, 7, 15, 31, 0, 64, 255, 511, 1023, 2047, 1023, 8191, 16383, 32767, 1023, 66559, 262143, 524287] (by decide +kernel) ?_; have hwq := trivial) | (refine awp_drawW [] (by decide +kernel) ?_; have hwq := trivial) | fail))
          refine ⟨p.ms.length - (0 + 1), _, by omega, Weak.cutI 1 [1, 3] ?_ ?_, 0 + 1, _, rfl, by omega, rfl, fin (by rw [dM]; rfl)⟩
          · simp (maxSteps:=9999999)-implicitDefEqProofs only [simprocAttr,QH,Option.isSome,cond_true,cond_false,Option.bind,selB,V.rn,V.rns,Go.Ai.known,V.pz,V.pzs,T.toV,frz1,List.range,List.range.loop,ite_true,ite_false,if_true,if_false,ne_eq,implies_true,forall_const,eq_self,IntKind.bits,upd_tmsS,selT_cons,selT_nil,List.length_map,List.getElem?_map,Int.natCast_nonneg,List.length_append,List.map_append]
          · simp (maxSteps:=9999999)-implicitDefEqProofs only [simprocAttr,QH,Option.isSome,cond_true,cond_false,Option.bind,selB,V.rn,V.rns,Go.Ai.known,V.pz,V.pzs,T.toV,frz1,List.range,List.range.loop,ite_true,ite_false,if_true,if_false,ne_eq,implies_true,forall_const,eq_self,IntKind.bits,upd_tmsS,selT_cons,selT_nil,List.length_map,List.getElem?_map,Int.natCast_nonneg,List.length_append,List.map_append]
        · obtain ⟨j, hje⟩ : ∃ j, i = j + 1 := ⟨i - 1, by omega⟩
          have hz : (0 : Int) < (i : Int) := by omega
          have wp : IntKind.i64.wrap ((i : Int) - 1) = (j : Int) := by rw [wI64 _ (by omega) (by omega)]; omega
          have hpl' : (j : Int) < (p.ms.length : Int) := by omega
          have hgi : p.ms[j]? = some (p.ms[j]'(by omega)) := List.getElem?_eq_getElem (by omega)
          obtain ⟨x, hx⟩ : ∃ x, p.ms[j]'(by omega) = x := ⟨_, rfl⟩
          rw [hx] at hgi
          have hdi : p.ms.getD (i - 1) default = x := by rw [hje, Nat.add_sub_cancel, List.getD_eq_getElem?_getD, hgi]; rfl
          have hj0 : decide (i = 0) = false := by rw [hje]; rfl
          rw [hdi, hj0] at dM
          have n118 := pc118 x m
          cases hb : beforeB x m with
          | false =>
            rw [hb] at n118 dM
            have hs := stop (by rw [dM]; simp)
            (have hwq := trivial; repeat' (first | simp (maxSteps:=9999999)-implicitDefEqProofs only [go_sem,simprocAttr,hwq,FT3,FT4,FT5,FT23,FT24,FT25,FT26,FT27,FT29,FT32,FT34,FT35,FT37,FT59,List.length_map,List.getElem?_map,Int.natCast_nonneg,List.length_append,List.map_append,hij',hjl',hgj,wj,hz,wp,hpl',hgi,hs] | (refine condK_split ?_ ?_ <;> intro hwq) | (refine two_split ?_ ?_) | (refine guardK_split ?_ ?_ <;> intro hwq) | (refine guardE_split ?_ ?_ <;> intro hwq) | (refine awp_drawI 11 [] (List.range 20) [0, 1, 0, 7, 15, 31, 0, 64, 255, 511, 1023, 2047, 1023, 8191, 16383, 32767, 1023, 66559, 262143, 524287] (by decide +kernel) ?_; have hwq := trivial) | (refine awp_drawW [] (by decide +kernel) ?_; have hwq := trivial) | (refine draw_plain n118 rfl (fun _ => rfl) ?_; have hwq := trivial) | fail))
          | true =>
            rw [hb] at n118 dM
            (have hwq := trivial; repeat' (first | simp (maxSteps:=9999999)-implicitDefEqProofs only [go_sem,simprocAttr,hwq,FT3,FT4,FT5,FT23,FT24,FT25,FT26,FT27,FT29,FT32,FT34,FT35,FT37,FT59,List.length_map,List.getElem?_map,Int.natCast_nonneg,List.length_append,List.map_append,hij',hjl',hgj,wj,hz,wp,hpl',hgi] | (refine condK_split ?_ ?_ <;> intro hwq) | (refine two_split ?_ ?_) | (refine guardK_split ?_ ?_ <;> intro hwq) | (refine guardE_split ?_ ?_ <;> intro hwq) | (refine awp_drawI 11 [] (List.range 20) [0, 1, 0, 7, 15, 31, 0, 64, 255, 511, 1023, 2047, 1023, 8191, 16383, 32767, 1023, 66559, 262143, 524287] (by decide +kernel) ?_; have hwq := trivial) | (refine awp_drawW [] (by decide +kernel) ?_; have hwq := trivial) | (refine draw_plain n118 rfl (fun _ => rfl) ?_; have hwq := trivial) | fail))
            refine ⟨p.ms.length - (i + 1), _, by omega, Weak.cutI 1 [1, 3] ?_ ?_, i + 1, _, rfl, by omega, rfl, fin (by rw [dM]; rfl)⟩
            · simp (maxSteps:=9999999)-implicitDefEqProofs only [simprocAttr,QH,Option.isSome,cond_true,cond_false,Option.bind,selB,V.rn,V.rns,Go.Ai.known,V.pz,V.pzs,T.toV,frz1,List.range,List.range.loop,ite_true,ite_false,if_true,if_false,ne_eq,implies_true,forall_const,eq_self,IntKind.bits,upd_tmsS,selT_cons,selT_nil,List.length_map,List.getElem?_map,Int.natCast_nonneg,List.length_append,List.map_append]
            · simp (maxSteps:=9999999)-implicitDefEqProofs only [simprocAttr,QH,Option.isSome,cond_true,cond_false,Option.bind,selB,V.rn,V.rns,Go.Ai.known,V.pz,V.pzs,T.toV,frz1,List.range,List.range.loop,ite_true,ite_false,if_true,if_false,ne_eq,implies_true,forall_const,eq_self,IntKind.bits,upd_tmsS,selT_cons,selT_nil,List.length_map,List.getElem?_map,Int.natCast_nonneg,List.length_append,List.map_append]
  · have hjl' : ¬ (j : Int) < (p.ms.length : Int) := by omega
    have he : refMs p = decide ((p.ms.length : Int) ≤ 64) := by
      unfold refMs
      rw [show ((List.range p.ms.length).any fun i => !mpOk p i (p.ms.getD i default)) = false from any_none fun i hi => by rw [hno i (by have := List.mem_range.1 hi; omega)]; rfl]
      rfl
    rw [he]
    (have hwq := trivial; repeat' (first | simp (maxSteps:=9999999)-implicitDefEqProofs only [go_sem,simprocAttr,hwq,FT3,FT4,FT5,FT23,FT24,FT25,FT26,FT27,FT29,FT32,FT34,FT35,FT37,FT59,List.length_map,List.getElem?_map,Int.natCast_nonneg,List.length_append,List.map_append,hjl'] | (refine condK_split ?_ ?_ <;> intro hwq) | (refine two_split ?_ ?_) | (refine guardK_split ?_ ?_ <;> intro hwq) | (refine guardE_split ?_ ?_ <;> intro hwq) | (refine awp_drawI 11 [] (List.range 20) [0, 1, 0, 7, 15, 31, 0, 64, 255, 511, 1023, 2047, 1023, 8191, 16383, 32767, 1023, 66559, 262143, 524287] (by decide +kernel) ?_; have hwq := trivial) | (refine awp_drawW [] (by decide +kernel) ?_; have hwq := trivial) | fail))
end Go.Ai

set_option linter.unusedVariables false
set_option linter.unusedSimpArgs false
set_option maxHeartbeats 8000000
set_option maxRecDepth 100000
namespace Go.Ai
open Go.Proofs
attribute [local go_sem] QH QR V.noimm V.noimms frzZs frzZ frzA frzV frzVs frzBox boxLen Option.isSome cond_true cond_false aopD calW flatV stepX amap stepY alookup afind aupdate adelete amlen arange ameq mapOf akeq pl V.mapT V.mapTs Option.bind stepK runK guardD stepE runD callD compact selB callK evS ofVal ofVals scalar aop ares mkRes V.rn V.rns V.cells? cellsAt Go.Ai.part aload astore setL V.atom abin aun intBin shiftBin aconv fieldOf aindexAddr aindex bound? aslice aarr abuild afill alen nilP nilS nilF aeq eqCells eqCell Go.Ai.known strBin abuiltin aappend abuildSlice arowsFill amakeSlice acopy aclear minmax rowsOf numsT notStr isIntD isByte V.pz V.pzs T.toV frz1 frz scalT scalTs chunkT List.range List.range.loop ite_true ite_false if_true if_false ne_eq implies_true forall_const eq_self IntKind.bits kPostKF_ret kPostKF_normal kPostX_ret kPostX_normal bsl nil2K nil2 kPostFW_ret kPostFW_normal kPostKM_ret kPostKM_normal kPostXK_ret kPostXK_normal
theorem risB_map {α β : Type} (f : α → β) (lt : β → β → Bool) : ∀ L : List α, risB lt (L.map f) = risB (fun a b => lt (f a) (f b)) L
  | [] => rfl
  | [_] => rfl
  | a :: b :: l => by
    have := risB_map f lt (b :: l)
    simp only [List.map_cons, risB] at this ⊢
    rw [this]
theorem any_congr' {α : Type} {p q : α → Bool} : ∀ {L : List α}, (∀ x ∈ L, p x = q x) → L.any p = L.any q
  | [], _ => rfl
  | a :: l, h => by rw [List.any_cons, List.any_cons, h a (by simp), any_congr' fun x hx => h x (by simp [hx])]
theorem portsE_ok (ks l : List Int) : (portsE ks l != 0) = !(risB ltI l && !(l.any fun y => kindP ks y != 2)) := by
  unfold portsE
  cases risB ltI l with
  | false => rfl
  | true =>
    simp only [if_true, Bool.true_and, Bool.not_not]
    cases h2 : (l.any fun y => kindP ks y != 2) with
    | true => split <;> rfl
    | false =>
      have : (l.any fun x => kindP ks x == 0) = false := by
        rw [List.any_eq_false] at h2 ⊢
        intro x hx
        have := h2 x hx
        simp at this ⊢
        omega
      rw [this]
      rfl
def refOk (p : Pv) : Bool := kindZ p.own.a p.own.b p.own.c p.own.d p.own.e p.own.f == 1 && (decide (1 ≤ (p.ks.length : Int)) && (decide ((p.ks.length : Int) ≤ 8) && (!(p.ks.any fun x => x != 1 && x != 2) && (decide ((p.bs.length : Int) ≤ 64) && (decide ((p.cs.length : Int) ≤ 64) && (decide ((p.ms.length : Int) ≤ 64) && (refM p && (refC p && refMs p))))))))
theorem maps_eq (p : Pv) : (risB beforeB p.ms && okM p) = !((List.range p.ms.length).any fun i => !mpOk p i (p.ms.getD i default)) := by
  have gd : ∀ {i : Nat} (hi : i < p.ms.length), p.ms[i]? = some (p.ms.getD i default) := fun {i} hi => by
    rw [List.getD_eq_getElem?_getD, List.getElem?_eq_getElem hi]; rfl
  rw [Bool.eq_iff_iff, Bool.and_eq_true, risB_iff, Bool.not_eq_true', List.any_eq_false]
  unfold okM
  rw [List.all_eq_true]
  simp only [List.mem_range]
  constructor
  · rintro ⟨h1, h2⟩ i hi
    have h := h2 i hi
    unfold mOk at h
    unfold mpOk
    simp only [Bool.and_eq_true] at h
    obtain ⟨a1, a2, a3, a4⟩ := h
    rw [a1, a2, a3, a4]
    have : (decide (i = 0) || beforeB (p.ms.getD (i - 1) default) (p.ms.getD i default)) = true := by
      cases i with
      | zero => rfl
      | succ i =>
        rw [Nat.add_sub_cancel, h1 i _ _ (gd (by omega)) (gd hi)]
        simp
    rw [this]
    simp
  · intro h
    have hm : ∀ i, i < p.ms.length → mpOk p i (p.ms.getD i default) = true := fun i hi => by
      have := h i hi
      simpa using this
    refine ⟨fun i x y hx hy => ?_, fun i hi => ?_⟩
    · have hi1 : i + 1 < p.ms.length := (List.getElem?_eq_some_iff.1 hy).1
      have := hm (i + 1) hi1
      unfold mpOk at this
      simp only [Bool.and_eq_true] at this
      have h5 := this.2.2.2.2
      rw [Nat.add_sub_cancel] at h5
      rw [gd (by omega)] at hx
      rw [gd hi1] at hy
      cases hx
      cases hy
      simpa using h5
    · have := hm i hi
      unfold mpOk at this
      unfold mOk
      simp only [Bool.and_eq_true] at this
      obtain ⟨a1, a2, a3, a4, _⟩ := this
      rw [a1, a2, a3, a4]
      rfl
theorem ref_eq (p : Pv) : refOk p = okB p := by
  have hm := maps_eq p
  have hM : refM p = (!(p.bs.any fun x => !decide (vidOk x.v) || portsE p.ks x.l != 0) && (risB ltMb p.bs && decide ((p.bs.length : Int) ≤ 64))) := by
    unfold refM
    rw [any_congr' (q := fun x => !decide (vidOk x.v) || portsE p.ks x.l != 0) fun x _ => by
      rw [portsE_ok]
      unfold mbOk
      cases decide (vidOk x.v) <;> simp, risB_map]
    rfl
  have hC : refC p = (!(p.cs.any fun x => !decide (isidOk x.s) || !hasM p.bs x.v) && (risB ltCr p.cs && decide ((p.cs.length : Int) ≤ 64))) := by
    unfold refC
    rw [any_congr' (q := fun x => !decide (isidOk x.s) || !hasM p.bs x.v) fun x _ => by
      unfold crOk
      cases decide (isidOk x.s) <;> simp, risB_map]
    rfl
  have hd : decide (1 ≤ (p.ks.length : Int) ∧ (p.ks.length : Int) ≤ 8) = (decide (1 ≤ (p.ks.length : Int)) && decide ((p.ks.length : Int) ≤ 8)) := Bool.decide_and ..
  unfold refOk okB okA okR okQ refMs
  rw [hM, hC, ← hm, hd]
  generalize (kindZ p.own.a p.own.b p.own.c p.own.d p.own.e p.own.f == 1) = x1
  generalize decide (1 ≤ (p.ks.length : Int)) = x2
  generalize decide ((p.ks.length : Int) ≤ 8) = x3
  generalize decide ((p.bs.length : Int) ≤ 64) = x4
  generalize decide ((p.cs.length : Int) ≤ 64) = x5
  generalize decide ((p.ms.length : Int) ≤ 64) = x6
  generalize (p.ks.any fun x => x != 1 && x != 2) = x7
  generalize (p.bs.any fun x => !decide (vidOk x.v) || portsE p.ks x.l != 0) = x8
  generalize (p.cs.any fun x => !decide (isidOk x.s) || !hasM p.bs x.v) = x9
  generalize risB ltMb p.bs = y1
  generalize risB ltCr p.cs = y2
  generalize risB beforeB p.ms = y3
  generalize okM p = y4
  revert x1 x2 x3 x4 x5 x6 x7 x8 x9 y1 y2 y3 y4
  decide +kernel
def Lk31 (p : Pv) (n : Nat) (S : St) : Prop :=
  ∃ (j : Nat) (mv : List Nat), S = ⟨tms [(1, .ptr 0 0 0), (3, vI j)], [bxP p], mv⟩ ∧ j ≤ p.ks.length ∧ n = p.ks.length - j ∧ ∀ x ∈ p.ks.take j, (x != 1 && x != 2) = false
theorem pc31 (p : Pv) (hp : okL p) (ho : isB p.own.a) : AC Tryz.prog 31 [pvV p] [] (eqR (vI (checkE p))) := by
  have n83 := pc83 p.own.a p.own.b p.own.c p.own.d p.own.e p.own.f ho
  have n84 := pc84 p hp
  have n85 := pc85 p hp
  have n86 := pc86 p hp
  obtain ⟨l1, l2, l3, l4, l5⟩ := hp
  have dR : checkE p = if refOk p = true then 0 else 180 := by rw [ref_eq]; rfl
  have dO : refOk p = (kindZ p.own.a p.own.b p.own.c p.own.d p.own.e p.own.f == 1 && (decide (1 ≤ (p.ks.length : Int)) && (decide ((p.ks.length : Int) ≤ 8) && (!(p.ks.any fun x => x != 1 && x != 2) && (decide ((p.bs.length : Int) ≤ 64) && (decide ((p.cs.length : Int) ≤ 64) && (decide ((p.ms.length : Int) ≤ 64) && (refM p && (refC p && refMs p))))))))) := rfl
  have no : refOk p = false → checkE p = 180 := fun h => by rw [dR, h]; rfl
  generalize refM p = r1 at n84 dO
  generalize refC p = r2 at n85 dO
  generalize refMs p = r3 at n86 dO
  refine AC_plain orders Tryz.func31 rfl (by kernel_rfl) (by kernel_rfl) Tryz.ntmps31 (by simp) ?_
  unfold Tryz.f31
  cases hk : (kindZ p.own.a p.own.b p.own.c p.own.d p.own.e p.own.f == 1) with
  | false =>
    have hk' : (kindZ p.own.a p.own.b p.own.c p.own.d p.own.e p.own.f != 1) = true := by rw [bne, hk]; rfl
    rw [no (by rw [dO, hk]; rfl)]
    (have hwq := trivial; repeat' (first | simp (maxSteps:=9999999)-implicitDefEqProofs only [go_sem,simprocAttr,hwq,FT3,FT4,FT5,FT23,FT24,FT25,FT26,FT27,FT29,FT32,FT34,FT35,FT37,FT46,FT59,FT86,List.length_map,List.getElem?_map,Int.natCast_nonneg,List.length_append,List.map_append,hk'] | (refine condK_split ?_ ?_ <;> intro hwq) | (refine two_split ?_ ?_) | (refine guardK_split ?_ ?_ <;> intro hwq) | (refine guardE_split ?_ ?_ <;> intro hwq) | (refine awp_drawW [] (by decide +kernel) ?_; have hwq := trivial) | (refine call_plain n83 rfl rfl ?_; have hwq := trivial) | fail))
  | true =>
  have hk' : (kindZ p.own.a p.own.b p.own.c p.own.d p.own.e p.own.f != 1) = false := by rw [bne, hk]; rfl
  by_cases h1 : (p.ks.length : Int) < 1
  · rw [no (by rw [dO, hk, decide_eq_false (by omega : ¬ 1 ≤ (p.ks.length : Int))]; rfl)]
    (have hwq := trivial; repeat' (first | simp (maxSteps:=9999999)-implicitDefEqProofs only [go_sem,simprocAttr,hwq,FT3,FT4,FT5,FT23,FT24,FT25,FT26,FT27,FT29,FT32,FT34,FT35,FT37,FT46,FT59,FT86,List.length_map,List.getElem?_map,Int.natCast_nonneg,List.length_append,List.map_append,hk',h1] | (refine condK_split ?_ ?_ <;> intro hwq) | (refine two_split ?_ ?_) | (refine guardK_split ?_ ?_ <;> intro hwq) | (refine guardE_split ?_ ?_ <;> intro hwq) | (refine awp_drawW [] (by decide +kernel) ?_; have hwq := trivial) | (refine call_plain n83 rfl rfl ?_; have hwq := trivial) | fail))
  by_cases h2 : 8 < (p.ks.length : Int)
  · rw [no (by rw [dO, hk, decide_eq_true (by omega : 1 ≤ (p.ks.length : Int)), decide_eq_false (by omega : ¬ (p.ks.length : Int) ≤ 8)]; rfl)]
    (have hwq := trivial; repeat' (first | simp (maxSteps:=9999999)-implicitDefEqProofs only [go_sem,simprocAttr,hwq,FT3,FT4,FT5,FT23,FT24,FT25,FT26,FT27,FT29,FT32,FT34,FT35,FT37,FT46,FT59,FT86,List.length_map,List.getElem?_map,Int.natCast_nonneg,List.length_append,List.map_append,hk',h1,h2] | (refine condK_split ?_ ?_ <;> intro hwq) | (refine two_split ?_ ?_) | (refine guardK_split ?_ ?_ <;> intro hwq) | (refine guardE_split ?_ ?_ <;> intro hwq) | (refine awp_drawW [] (by decide +kernel) ?_; have hwq := trivial) | (refine call_plain n83 rfl rfl ?_; have hwq := trivial) | fail))
  rw [hk, decide_eq_true (by omega : 1 ≤ (p.ks.length : Int)), decide_eq_true (by omega : (p.ks.length : Int) ≤ 8)] at dO
  (have hwq := trivial; repeat' (first | simp (maxSteps:=9999999)-implicitDefEqProofs only [go_sem,simprocAttr,hwq,FT3,FT4,FT5,FT23,FT24,FT25,FT26,FT27,FT29,FT32,FT34,FT35,FT37,FT46,FT59,FT86,List.length_map,List.getElem?_map,Int.natCast_nonneg,List.length_append,List.map_append,hk',h1,h2] | (refine condK_split ?_ ?_ <;> intro hwq) | (refine two_split ?_ ?_) | (refine guardK_split ?_ ?_ <;> intro hwq) | (refine guardE_split ?_ ?_ <;> intro hwq) | (refine awp_drawW [] (by decide +kernel) ?_; have hwq := trivial) | (refine call_plain n83 rfl rfl ?_; have hwq := trivial) | fail))
  refine awp_loopK (Lk31 p) p.ks.length _ (Weak.cutI 1 [1, 3] ?_ ?_) ⟨0, _, rfl, by omega, rfl, by simp⟩ ?_
  · simp (maxSteps:=9999999)-implicitDefEqProofs only [simprocAttr,QH,Option.isSome,cond_true,cond_false,Option.bind,selB,V.rn,V.rns,Go.Ai.known,V.pz,V.pzs,T.toV,frz1,List.range,List.range.loop,ite_true,ite_false,if_true,if_false,ne_eq,implies_true,forall_const,eq_self,IntKind.bits,upd_tmsS,selT_cons,selT_nil]
  · simp (maxSteps:=9999999)-implicitDefEqProofs only [simprocAttr,QH,Option.isSome,cond_true,cond_false,Option.bind,selB,V.rn,V.rns,Go.Ai.known,V.pz,V.pzs,T.toV,frz1,List.range,List.range.loop,ite_true,ite_false,if_true,if_false,ne_eq,implies_true,forall_const,eq_self,IntKind.bits,upd_tmsS,selT_cons,selT_nil]
  rintro kk S ⟨j, mv, rfl, hj, rfl, hno⟩
  have wj : IntKind.i64.wrap ((j : Int) + 1) = (j : Int) + 1 := wI64 _ (by omega) (by omega)
  by_cases hjl : j < p.ks.length
  · have hjl' : (j : Int) < (p.ks.length : Int) := by omega
    have hgj : p.ks[j]? = some p.ks[j] := List.getElem?_eq_getElem hjl
    obtain ⟨x, hx⟩ : ∃ x, p.ks[j] = x := ⟨_, rfl⟩
    rw [hx] at hgj
    cases q1 : (x != 1) with
    | false =>
      (have hwq := trivial; repeat' (first | simp (maxSteps:=9999999)-implicitDefEqProofs only [go_sem,simprocAttr,hwq,FT3,FT4,FT5,FT23,FT24,FT25,FT26,FT27,FT29,FT32,FT34,FT35,FT37,FT46,FT59,FT86,List.length_map,List.getElem?_map,Int.natCast_nonneg,List.length_append,List.map_append,hjl',hgj,wj,q1] | (refine condK_split ?_ ?_ <;> intro hwq) | (refine two_split ?_ ?_) | (refine guardK_split ?_ ?_ <;> intro hwq) | (refine guardE_split ?_ ?_ <;> intro hwq) | (refine awp_drawW [] (by decide +kernel) ?_; have hwq := trivial) | fail))
      refine ⟨p.ks.length - (j + 1), _, by omega, Weak.cutI 1 [1, 3] ?_ ?_, j + 1, _, rfl, by omega, rfl, take_more (q := fun x : Int => x != 1 && x != 2) hno hgj (by simp only [q1, Bool.false_and])⟩
      · simp (maxSteps:=9999999)-implicitDefEqProofs only [simprocAttr,QH,Option.isSome,cond_true,cond_false,Option.bind,selB,V.rn,V.rns,Go.Ai.known,V.pz,V.pzs,T.toV,frz1,List.range,List.range.loop,ite_true,ite_false,if_true,if_false,ne_eq,implies_true,forall_const,eq_self,IntKind.bits,upd_tmsS,selT_cons,selT_nil,List.length_map,List.getElem?_map,Int.natCast_nonneg,List.length_append,List.map_append]
      · simp (maxSteps:=9999999)-implicitDefEqProofs only [simprocAttr,QH,Option.isSome,cond_true,cond_false,Option.bind,selB,V.rn,V.rns,Go.Ai.known,V.pz,V.pzs,T.toV,frz1,List.range,List.range.loop,ite_true,ite_false,if_true,if_false,ne_eq,implies_true,forall_const,eq_self,IntKind.bits,upd_tmsS,selT_cons,selT_nil,List.length_map,List.getElem?_map,Int.natCast_nonneg,List.length_append,List.map_append]
    | true =>
      cases q2 : (x != 2) with
      | false =>
        (have hwq := trivial; repeat' (first | simp (maxSteps:=9999999)-implicitDefEqProofs only [go_sem,simprocAttr,hwq,FT3,FT4,FT5,FT23,FT24,FT25,FT26,FT27,FT29,FT32,FT34,FT35,FT37,FT46,FT59,FT86,List.length_map,List.getElem?_map,Int.natCast_nonneg,List.length_append,List.map_append,hjl',hgj,wj,q1,q2] | (refine condK_split ?_ ?_ <;> intro hwq) | (refine two_split ?_ ?_) | (refine guardK_split ?_ ?_ <;> intro hwq) | (refine guardE_split ?_ ?_ <;> intro hwq) | (refine awp_drawW [] (by decide +kernel) ?_; have hwq := trivial) | fail))
        refine ⟨p.ks.length - (j + 1), _, by omega, Weak.cutI 1 [1, 3] ?_ ?_, j + 1, _, rfl, by omega, rfl, take_more (q := fun x : Int => x != 1 && x != 2) hno hgj (by simp only [q2, Bool.and_false])⟩
        · simp (maxSteps:=9999999)-implicitDefEqProofs only [simprocAttr,QH,Option.isSome,cond_true,cond_false,Option.bind,selB,V.rn,V.rns,Go.Ai.known,V.pz,V.pzs,T.toV,frz1,List.range,List.range.loop,ite_true,ite_false,if_true,if_false,ne_eq,implies_true,forall_const,eq_self,IntKind.bits,upd_tmsS,selT_cons,selT_nil,List.length_map,List.getElem?_map,Int.natCast_nonneg,List.length_append,List.map_append]
        · simp (maxSteps:=9999999)-implicitDefEqProofs only [simprocAttr,QH,Option.isSome,cond_true,cond_false,Option.bind,selB,V.rn,V.rns,Go.Ai.known,V.pz,V.pzs,T.toV,frz1,List.range,List.range.loop,ite_true,ite_false,if_true,if_false,ne_eq,implies_true,forall_const,eq_self,IntKind.bits,upd_tmsS,selT_cons,selT_nil,List.length_map,List.getElem?_map,Int.natCast_nonneg,List.length_append,List.map_append]
      | true =>
        rw [no (by rw [dO, any_some (q := fun x : Int => x != 1 && x != 2) hgj (by simp only [q1, q2, Bool.and_self])]; rfl)]
        (have hwq := trivial; repeat' (first | simp (maxSteps:=9999999)-implicitDefEqProofs only [go_sem,simprocAttr,hwq,FT3,FT4,FT5,FT23,FT24,FT25,FT26,FT27,FT29,FT32,FT34,FT35,FT37,FT46,FT59,FT86,List.length_map,List.getElem?_map,Int.natCast_nonneg,List.length_append,List.map_append,hjl',hgj,wj,q1,q2] | (refine condK_split ?_ ?_ <;> intro hwq) | (refine two_split ?_ ?_) | (refine guardK_split ?_ ?_ <;> intro hwq) | (refine guardE_split ?_ ?_ <;> intro hwq) | (refine awp_drawW [] (by decide +kernel) ?_; have hwq := trivial) | fail))
  · have hjl' : ¬ (j : Int) < (p.ks.length : Int) := by omega
    rw [List.take_of_length_le (by omega)] at hno
    rw [any_none (q := fun x : Int => x != 1 && x != 2) hno] at dO
    by_cases g1 : 64 < (p.bs.length : Int)
    · rw [no (by rw [dO, decide_eq_false (by omega : ¬ (p.bs.length : Int) ≤ 64)]; rfl)]
      (have hwq := trivial; repeat' (first | simp (maxSteps:=9999999)-implicitDefEqProofs only [go_sem,simprocAttr,hwq,FT3,FT4,FT5,FT23,FT24,FT25,FT26,FT27,FT29,FT32,FT34,FT35,FT37,FT46,FT59,FT86,List.length_map,List.getElem?_map,Int.natCast_nonneg,List.length_append,List.map_append,hjl',g1] | (refine condK_split ?_ ?_ <;> intro hwq) | (refine two_split ?_ ?_) | (refine guardK_split ?_ ?_ <;> intro hwq) | (refine guardE_split ?_ ?_ <;> intro hwq) | (refine awp_drawW [] (by decide +kernel) ?_; have hwq := trivial) | fail))
    by_cases g2 : 64 < (p.cs.length : Int)
    · rw [no (by rw [dO, decide_eq_true (by omega : (p.bs.length : Int) ≤ 64), decide_eq_false (by omega : ¬ (p.cs.length : Int) ≤ 64)]; rfl)]
      (have hwq := trivial; repeat' (first | simp (maxSteps:=9999999)-implicitDefEqProofs only [go_sem,simprocAttr,hwq,FT3,FT4,FT5,FT23,FT24,FT25,FT26,FT27,FT29,FT32,FT34,FT35,FT37,FT46,FT59,FT86,List.length_map,List.getElem?_map,Int.natCast_nonneg,List.length_append,List.map_append,hjl',g1,g2] | (refine condK_split ?_ ?_ <;> intro hwq) | (refine two_split ?_ ?_) | (refine guardK_split ?_ ?_ <;> intro hwq) | (refine guardE_split ?_ ?_ <;> intro hwq) | (refine awp_drawW [] (by decide +kernel) ?_; have hwq := trivial) | fail))
    by_cases g3 : 64 < (p.ms.length : Int)
    · rw [no (by rw [dO, decide_eq_true (by omega : (p.bs.length : Int) ≤ 64), decide_eq_true (by omega : (p.cs.length : Int) ≤ 64), decide_eq_false (by omega : ¬ (p.ms.length : Int) ≤ 64)]; rfl)]
      (have hwq := trivial; repeat' (first | simp (maxSteps:=9999999)-implicitDefEqProofs only [go_sem,simprocAttr,hwq,FT3,FT4,FT5,FT23,FT24,FT25,FT26,FT27,FT29,FT32,FT34,FT35,FT37,FT46,FT59,FT86,List.length_map,List.getElem?_map,Int.natCast_nonneg,List.length_append,List.map_append,hjl',g1,g2,g3] | (refine condK_split ?_ ?_ <;> intro hwq) | (refine two_split ?_ ?_) | (refine guardK_split ?_ ?_ <;> intro hwq) | (refine guardE_split ?_ ?_ <;> intro hwq) | (refine awp_drawW [] (by decide +kernel) ?_; have hwq := trivial) | fail))
    rw [decide_eq_true (by omega : (p.bs.length : Int) ≤ 64), decide_eq_true (by omega : (p.cs.length : Int) ≤ 64), decide_eq_true (by omega : (p.ms.length : Int) ≤ 64)] at dO
    cases r1 with
    | false =>
      rw [no (by rw [dO]; rfl)]
      (have hwq := trivial; repeat' (first | simp (maxSteps:=9999999)-implicitDefEqProofs only [go_sem,simprocAttr,hwq,FT3,FT4,FT5,FT23,FT24,FT25,FT26,FT27,FT29,FT32,FT34,FT35,FT37,FT46,FT59,FT86,List.length_map,List.getElem?_map,Int.natCast_nonneg,List.length_append,List.map_append,hjl',g1,g2,g3] | (refine condK_split ?_ ?_ <;> intro hwq) | (refine two_split ?_ ?_) | (refine guardK_split ?_ ?_ <;> intro hwq) | (refine guardE_split ?_ ?_ <;> intro hwq) | (refine awp_drawW [] (by decide +kernel) ?_; have hwq := trivial) | (refine call_plain n84 rfl rfl ?_; have hwq := trivial) | fail))
    | true =>
    cases r2 with
    | false =>
      rw [no (by rw [dO]; rfl)]
      (have hwq := trivial; repeat' (first | simp (maxSteps:=9999999)-implicitDefEqProofs only [go_sem,simprocAttr,hwq,FT3,FT4,FT5,FT23,FT24,FT25,FT26,FT27,FT29,FT32,FT34,FT35,FT37,FT46,FT59,FT86,List.length_map,List.getElem?_map,Int.natCast_nonneg,List.length_append,List.map_append,hjl',g1,g2,g3] | (refine condK_split ?_ ?_ <;> intro hwq) | (refine two_split ?_ ?_) | (refine guardK_split ?_ ?_ <;> intro hwq) | (refine guardE_split ?_ ?_ <;> intro hwq) | (refine awp_drawW [] (by decide +kernel) ?_; have hwq := trivial) | (refine call_plain n84 rfl rfl ?_; have hwq := trivial) | (refine call_plain n85 rfl rfl ?_; have hwq := trivial) | fail))
    | true =>
    cases r3 with
    | false =>
      rw [no (by rw [dO]; rfl)]
      (have hwq := trivial; repeat' (first | simp (maxSteps:=9999999)-implicitDefEqProofs only [go_sem,simprocAttr,hwq,FT3,FT4,FT5,FT23,FT24,FT25,FT26,FT27,FT29,FT32,FT34,FT35,FT37,FT46,FT59,FT86,List.length_map,List.getElem?_map,Int.natCast_nonneg,List.length_append,List.map_append,hjl',g1,g2,g3] | (refine condK_split ?_ ?_ <;> intro hwq) | (refine two_split ?_ ?_) | (refine guardK_split ?_ ?_ <;> intro hwq) | (refine guardE_split ?_ ?_ <;> intro hwq) | (refine awp_drawW [] (by decide +kernel) ?_; have hwq := trivial) | (refine call_plain n84 rfl rfl ?_; have hwq := trivial) | (refine call_plain n85 rfl rfl ?_; have hwq := trivial) | (refine call_plain n86 rfl rfl ?_; have hwq := trivial) | fail))
    | true =>
      have he : checkE p = 0 := by rw [dR, dO]; rfl
      rw [he]
      (have hwq := trivial; repeat' (first | simp (maxSteps:=9999999)-implicitDefEqProofs only [go_sem,simprocAttr,hwq,FT3,FT4,FT5,FT23,FT24,FT25,FT26,FT27,FT29,FT32,FT34,FT35,FT37,FT46,FT59,FT86,List.length_map,List.getElem?_map,Int.natCast_nonneg,List.length_append,List.map_append,hjl',g1,g2,g3] | (refine condK_split ?_ ?_ <;> intro hwq) | (refine two_split ?_ ?_) | (refine guardK_split ?_ ?_ <;> intro hwq) | (refine guardE_split ?_ ?_ <;> intro hwq) | (refine awp_drawW [] (by decide +kernel) ?_; have hwq := trivial) | (refine call_plain n84 rfl rfl ?_; have hwq := trivial) | (refine call_plain n85 rfl rfl ?_; have hwq := trivial) | (refine call_plain n86 rfl rfl ?_; have hwq := trivial) | fail))
end Go.Ai
