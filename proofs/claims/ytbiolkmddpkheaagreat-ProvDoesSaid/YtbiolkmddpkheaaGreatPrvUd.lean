/- Contracts of functions of the loaded program: called with data in the ranges that each names, it returns this value and writes to no old memory. -/
import Derived.Test.YtbiolkmddpkheaaGreatPrvUb
set_option linter.unusedVariables false
set_option linter.unusedSimpArgs false
set_option maxHeartbeats 8000000
set_option maxRecDepth 100000
namespace Go.Ai
open Go.Proofs
attribute [local go_sem] QH QR V.noimm V.noimms frzZs frzZ frzA frzV frzVs frzBox boxLen Option.isSome cond_true cond_false aopD calW flatV stepX amap stepY alookup afind aupdate adelete amlen arange ameq mapOf akeq pl V.mapT V.mapTs Option.bind stepK runK guardD stepE runD callD compact selB callK evS ofVal ofVals scalar aop ares mkRes V.rn V.rns V.cells? cellsAt Go.Ai.part aload astore setL V.atom abin aun intBin shiftBin aconv fieldOf aindexAddr aindex bound? aslice aarr abuild afill alen nilP nilS nilF aeq eqCells eqCell Go.Ai.known strBin abuiltin aappend abuildSlice arowsFill amakeSlice acopy aclear minmax rowsOf numsT notStr isIntD isByte V.pz V.pzs T.toV frz1 frz scalT scalTs chunkT List.range List.range.loop ite_true ite_false if_true if_false ne_eq implies_true forall_const eq_self IntKind.bits kPostKF_ret kPostKF_normal kPostX_ret kPostX_normal bsl nil2K nil2 kPostFW_ret kPostFW_normal kPostKM_ret kPostKM_normal kPostXK_ret kPostXK_normal
def At27 (p : Pv) (a : Int) (n : Nat) (S : St) : Prop :=
  ∃ (j : Nat) (N : List Int) (mv : List Nat), S = ⟨tms [(1, vI a), (2, .ptr 0 0 0), (5, .own 1 0 N.length), (9, msV p.ms), (10, vI p.ms.length), (11, vI j)], [bxP p, .rows 1 (N.map inT) false], mv⟩ ∧ N = ((p.ms.take j).filter (fun x => x.s == a)).map (·.p) ∧ j ≤ p.ms.length ∧ n = p.ms.length - j
theorem pq27 (p : Pv) (hp : okL p) (a : Int) : AC Tryz.prog 27 [pvV p, vI a] [] (eqR (isV ((p.ms.filter (fun x => x.s == a)).map (·.p)))) := by
  obtain ⟨l1, l2, l3, l4, l5⟩ := hp
  refine AC_frozen orders Tryz.func27 rfl (by kernel_rfl) (by kernel_rfl) Tryz.ntmps27 (by simp) ?_
  unfold Tryz.f27
  (have hwq := trivial; repeat' (first | simp (maxSteps:=9999999)-implicitDefEqProofs only [go_sem,simprocAttr,hwq,FT3,FT5,FT23,FT24,FT25,FT26,FT27,FT29,FT32,FT34,FT35,FT37,FT59] | (refine condK_split ?_ ?_ <;> intro hwq) | (refine two_split ?_ ?_) | (refine guardK_split ?_ ?_ <;> intro hwq) | (refine guardE_split ?_ ?_ <;> intro hwq) | (refine awp_drawW [] (by decide +kernel) ?_; have hwq := trivial) | fail))
  refine awp_loopK (At27 p a) p.ms.length _ (Weak.trans (Weak.virt 5 1 (.inl rfl)) (Weak.cutI 2 [1, 2, 5, 9, 10, 11] ?_ ?_)) ⟨0, [], _, rfl, by simp, by omega, rfl⟩ ?_
  · simp (maxSteps:=9999999)-implicitDefEqProofs only [simprocAttr,QH,Option.isSome,cond_true,cond_false,Option.bind,selB,V.rn,V.rns,Go.Ai.known,V.pz,V.pzs,T.toV,frz1,List.range,List.range.loop,ite_true,ite_false,if_true,if_false,ne_eq,implies_true,forall_const,eq_self,IntKind.bits,upd_tmsS,selT_cons,selT_nil,List.length_map,List.getElem?_map,Int.natCast_nonneg,List.length_append,List.map_append]
  · simp (maxSteps:=9999999)-implicitDefEqProofs only [simprocAttr,QH,Option.isSome,cond_true,cond_false,Option.bind,selB,V.rn,V.rns,Go.Ai.known,V.pz,V.pzs,T.toV,frz1,List.range,List.range.loop,ite_true,ite_false,if_true,if_false,ne_eq,implies_true,forall_const,eq_self,IntKind.bits,upd_tmsS,selT_cons,selT_nil]
  rintro kk S ⟨j, N, mv, rfl, hN, hj, rfl⟩
  have hNl : N.length ≤ 1000 := by
    rw [hN, List.length_map]
    have h1 := List.length_filter_le (fun x : Mp => x.s == a) (p.ms.take j)
    rw [List.length_take] at h1
    omega
  have zs : (N.length + 1) * 8 ≤ 140737488355328 := by omega
  have wj : IntKind.i64.wrap ((j : Int) + 1) = (j : Int) + 1 := wI64 _ (by omega) (by omega)
  by_cases hjl : j < p.ms.length
  · have hjl' : (j : Int) < (p.ms.length : Int) := by omega
    have hgj : p.ms[j]? = some p.ms[j] := List.getElem?_eq_getElem hjl
    obtain ⟨x, hx⟩ : ∃ x, p.ms[j] = x := ⟨_, rfl⟩
    rw [hx] at hgj
    cases hq : (x.s == a) with
    | true =>
      have hNx : N ++ [x.p] = ((p.ms.take (j + 1)).filter (fun x => x.s == a)).map (·.p) := by rw [take_in hgj, List.filter_append, List.map_append, hN]; simp [hq]
      (have hwq := trivial; repeat' (first | simp (maxSteps:=9999999)-implicitDefEqProofs only [go_sem,simprocAttr,hwq,FT3,FT5,FT23,FT24,FT25,FT26,FT27,FT29,FT32,FT34,FT35,FT37,FT59,List.length_map,List.getElem?_map,Int.natCast_nonneg,List.length_append,List.map_append,hjl',hgj,wj,zs,hq] | (refine condK_split ?_ ?_ <;> intro hwq) | (refine two_split ?_ ?_) | (refine guardK_split ?_ ?_ <;> intro hwq) | (refine guardE_split ?_ ?_ <;> intro hwq) | (refine awp_drawW [] (by decide +kernel) ?_; have hwq := trivial) | fail))
      refine ⟨p.ms.length - (j + 1), _, by omega, Weak.cutI 2 [1, 2, 5, 9, 10, 11] ?_ ?_, j + 1, N ++ [x.p], _, rfl, hNx, by omega, rfl⟩
      · simp (maxSteps:=9999999)-implicitDefEqProofs only [simprocAttr,QH,Option.isSome,cond_true,cond_false,Option.bind,selB,V.rn,V.rns,Go.Ai.known,V.pz,V.pzs,T.toV,frz1,List.range,List.range.loop,ite_true,ite_false,if_true,if_false,ne_eq,implies_true,forall_const,eq_self,IntKind.bits,upd_tmsS,selT_cons,selT_nil,List.length_map,List.getElem?_map,Int.natCast_nonneg,List.length_append,List.map_append,List.length_cons,List.length_nil,List.map_cons,List.map_nil]
      · simp (maxSteps:=9999999)-implicitDefEqProofs only [simprocAttr,QH,Option.isSome,cond_true,cond_false,Option.bind,selB,V.rn,V.rns,Go.Ai.known,V.pz,V.pzs,T.toV,frz1,List.range,List.range.loop,ite_true,ite_false,if_true,if_false,ne_eq,implies_true,forall_const,eq_self,IntKind.bits,upd_tmsS,selT_cons,selT_nil,List.length_map,List.getElem?_map,Int.natCast_nonneg,List.length_append,List.map_append,List.length_cons,List.length_nil,List.map_cons,List.map_nil]
    | false =>
      have hNx : N = ((p.ms.take (j + 1)).filter (fun x => x.s == a)).map (·.p) := by rw [take_in hgj, List.filter_append, List.map_append, hN]; simp [hq]
      (have hwq := trivial; repeat' (first | simp (maxSteps:=9999999)-implicitDefEqProofs only [go_sem,simprocAttr,hwq,FT3,FT5,FT23,FT24,FT25,FT26,FT27,FT29,FT32,FT34,FT35,FT37,FT59,List.length_map,List.getElem?_map,Int.natCast_nonneg,List.length_append,List.map_append,hjl',hgj,wj,hq] | (refine condK_split ?_ ?_ <;> intro hwq) | (refine two_split ?_ ?_) | (refine guardK_split ?_ ?_ <;> intro hwq) | (refine guardE_split ?_ ?_ <;> intro hwq) | (refine awp_drawW [] (by decide +kernel) ?_; have hwq := trivial) | fail))
      refine ⟨p.ms.length - (j + 1), _, by omega, Weak.cutI 2 [1, 2, 5, 9, 10, 11] ?_ ?_, j + 1, N, _, rfl, hNx, by omega, rfl⟩
      · simp (maxSteps:=9999999)-implicitDefEqProofs only [simprocAttr,QH,Option.isSome,cond_true,cond_false,Option.bind,selB,V.rn,V.rns,Go.Ai.known,V.pz,V.pzs,T.toV,frz1,List.range,List.range.loop,ite_true,ite_false,if_true,if_false,ne_eq,implies_true,forall_const,eq_self,IntKind.bits,upd_tmsS,selT_cons,selT_nil,List.length_map,List.getElem?_map,Int.natCast_nonneg,List.length_append,List.map_append]
      · simp (maxSteps:=9999999)-implicitDefEqProofs only [simprocAttr,QH,Option.isSome,cond_true,cond_false,Option.bind,selB,V.rn,V.rns,Go.Ai.known,V.pz,V.pzs,T.toV,frz1,List.range,List.range.loop,ite_true,ite_false,if_true,if_false,ne_eq,implies_true,forall_const,eq_self,IntKind.bits,upd_tmsS,selT_cons,selT_nil,List.length_map,List.getElem?_map,Int.natCast_nonneg,List.length_append,List.map_append]
  · have hjl' : ¬ (j : Int) < (p.ms.length : Int) := by omega
    rw [List.take_of_length_le (by omega)] at hN
    have tk : List.take N.length (List.map inT N) = List.map inT N := List.take_of_length_le (by simp)
    rw [← hN]
    (have hwq := trivial; repeat' (first | simp (maxSteps:=9999999)-implicitDefEqProofs only [go_sem,simprocAttr,hwq,FT3,FT5,FT23,FT24,FT25,FT26,FT27,FT29,FT32,FT34,FT35,FT37,FT59,List.length_map,List.getElem?_map,Int.natCast_nonneg,List.length_append,List.map_append,hjl',tk,Nat.le_refl] | (refine condK_split ?_ ?_ <;> intro hwq) | (refine two_split ?_ ?_) | (refine guardK_split ?_ ?_ <;> intro hwq) | (refine guardE_split ?_ ?_ <;> intro hwq) | (refine awp_drawW [] (by decide +kernel) ?_; have hwq := trivial) | fail))
def At29 (p : Pv) (a : Int) (n : Nat) (S : St) : Prop :=
  ∃ (j : Nat) (N : List Int) (mv : List Nat), S = ⟨tms [(1, vI a), (2, .ptr 0 0 0), (5, .own 1 0 N.length), (9, csV p.cs), (10, vI p.cs.length), (11, vI j)], [bxP p, .rows 1 (N.map inT) false], mv⟩ ∧ N = ((p.cs.take j).filter (fun x => x.v == a)).map (·.s) ∧ j ≤ p.cs.length ∧ n = p.cs.length - j
theorem pq29 (p : Pv) (hp : okL p) (a : Int) : AC Tryz.prog 29 [pvV p, vI a] [] (eqR (isV ((p.cs.filter (fun x => x.v == a)).map (·.s)))) := by
  obtain ⟨l1, l2, l3, l4, l5⟩ := hp
  refine AC_frozen orders Tryz.func29 rfl (by kernel_rfl) (by kernel_rfl) Tryz.ntmps29 (by simp) ?_
  unfold Tryz.f29
  (have hwq := trivial; repeat' (first | simp (maxSteps:=9999999)-implicitDefEqProofs only [go_sem,simprocAttr,hwq,FT3,FT5,FT23,FT24,FT25,FT26,FT27,FT29,FT32,FT34,FT35,FT37,FT59] | (refine condK_split ?_ ?_ <;> intro hwq) | (refine two_split ?_ ?_) | (refine guardK_split ?_ ?_ <;> intro hwq) | (refine guardE_split ?_ ?_ <;> intro hwq) | (refine awp_drawW [] (by decide +kernel) ?_; have hwq := trivial) | fail))
  refine awp_loopK (At29 p a) p.cs.length _ (Weak.trans (Weak.virt 5 1 (.inl rfl)) (Weak.cutI 2 [1, 2, 5, 9, 10, 11] ?_ ?_)) ⟨0, [], _, rfl, by simp, by omega, rfl⟩ ?_
  · simp (maxSteps:=9999999)-implicitDefEqProofs only [simprocAttr,QH,Option.isSome,cond_true,cond_false,Option.bind,selB,V.rn,V.rns,Go.Ai.known,V.pz,V.pzs,T.toV,frz1,List.range,List.range.loop,ite_true,ite_false,if_true,if_false,ne_eq,implies_true,forall_const,eq_self,IntKind.bits,upd_tmsS,selT_cons,selT_nil,List.length_map,List.getElem?_map,Int.natCast_nonneg,List.length_append,List.map_append]
  · simp (maxSteps:=9999999)-implicitDefEqProofs only [simprocAttr,QH,Option.isSome,cond_true,cond_false,Option.bind,selB,V.rn,V.rns,Go.Ai.known,V.pz,V.pzs,T.toV,frz1,List.range,List.range.loop,ite_true,ite_false,if_true,if_false,ne_eq,implies_true,forall_const,eq_self,IntKind.bits,upd_tmsS,selT_cons,selT_nil]
  rintro kk S ⟨j, N, mv, rfl, hN, hj, rfl⟩
  have hNl : N.length ≤ 1000 := by
    rw [hN, List.length_map]
    have h1 := List.length_filter_le (fun x : Cr => x.v == a) (p.cs.take j)
    rw [List.length_take] at h1
    omega
  have zs : (N.length + 1) * 8 ≤ 140737488355328 := by omega
  have wj : IntKind.i64.wrap ((j : Int) + 1) = (j : Int) + 1 := wI64 _ (by omega) (by omega)
  by_cases hjl : j < p.cs.length
  · have hjl' : (j : Int) < (p.cs.length : Int) := by omega
    have hgj : p.cs[j]? = some p.cs[j] := List.getElem?_eq_getElem hjl
    obtain ⟨x, hx⟩ : ∃ x, p.cs[j] = x := ⟨_, rfl⟩
    rw [hx] at hgj
    cases hq : (x.v == a) with
    | true =>
      have hNx : N ++ [x.s] = ((p.cs.take (j + 1)).filter (fun x => x.v == a)).map (·.s) := by rw [take_in hgj, List.filter_append, List.map_append, hN]; simp [hq]
      (have hwq := trivial; repeat' (first | simp (maxSteps:=9999999)-implicitDefEqProofs only [go_sem,simprocAttr,hwq,FT3,FT5,FT23,FT24,FT25,FT26,FT27,FT29,FT32,FT34,FT35,FT37,FT59,List.length_map,List.getElem?_map,Int.natCast_nonneg,List.length_append,List.map_append,hjl',hgj,wj,zs,hq] | (refine condK_split ?_ ?_ <;> intro hwq) | (refine two_split ?_ ?_) | (refine guardK_split ?_ ?_ <;> intro hwq) | (refine guardE_split ?_ ?_ <;> intro hwq) | (refine awp_drawW [] (by decide +kernel) ?_; have hwq := trivial) | fail))
      refine ⟨p.cs.length - (j + 1), _, by omega, Weak.cutI 2 [1, 2, 5, 9, 10, 11] ?_ ?_, j + 1, N ++ [x.s], _, rfl, hNx, by omega, rfl⟩
      · simp (maxSteps:=9999999)-implicitDefEqProofs only [simprocAttr,QH,Option.isSome,cond_true,cond_false,Option.bind,selB,V.rn,V.rns,Go.Ai.known,V.pz,V.pzs,T.toV,frz1,List.range,List.range.loop,ite_true,ite_false,if_true,if_false,ne_eq,implies_true,forall_const,eq_self,IntKind.bits,upd_tmsS,selT_cons,selT_nil,List.length_map,List.getElem?_map,Int.natCast_nonneg,List.length_append,List.map_append,List.length_cons,List.length_nil,List.map_cons,List.map_nil]
      · simp (maxSteps:=9999999)-implicitDefEqProofs only [simprocAttr,QH,Option.isSome,cond_true,cond_false,Option.bind,selB,V.rn,V.rns,Go.Ai.known,V.pz,V.pzs,T.toV,frz1,List.range,List.range.loop,ite_true,ite_false,if_true,if_false,ne_eq,implies_true,forall_const,eq_self,IntKind.bits,upd_tmsS,selT_cons,selT_nil,List.length_map,List.getElem?_map,Int.natCast_nonneg,List.length_append,List.map_append,List.length_cons,List.length_nil,List.map_cons,List.map_nil]
    | false =>
      have hNx : N = ((p.cs.take (j + 1)).filter (fun x => x.v == a)).map (·.s) := by rw [take_in hgj, List.filter_append, List.map_append, hN]; simp [hq]
      (have hwq := trivial; repeat' (first | simp (maxSteps:=9999999)-implicitDefEqProofs only [go_sem,simprocAttr,hwq,FT3,FT5,FT23,FT24,FT25,FT26,FT27,FT29,FT32,FT34,FT35,FT37,FT59,List.length_map,List.getElem?_map,Int.natCast_nonneg,List.length_append,List.map_append,hjl',hgj,wj,hq] | (refine condK_split ?_ ?_ <;> intro hwq) | (refine two_split ?_ ?_) | (refine guardK_split ?_ ?_ <;> intro hwq) | (refine guardE_split ?_ ?_ <;> intro hwq) | (refine awp_drawW [] (by decide +kernel) ?_; have hwq := trivial) | fail))
      refine ⟨p.cs.length - (j + 1), _, by omega, Weak.cutI 2 [1, 2, 5, 9, 10, 11] ?_ ?_, j + 1, N, _, rfl, hNx, by omega, rfl⟩
      · simp (maxSteps:=9999999)-implicitDefEqProofs only [simprocAttr,QH,Option.isSome,cond_true,cond_false,Option.bind,selB,V.rn,V.rns,Go.Ai.known,V.pz,V.pzs,T.toV,frz1,List.range,List.range.loop,ite_true,ite_false,if_true,if_false,ne_eq,implies_true,forall_const,eq_self,IntKind.bits,upd_tmsS,selT_cons,selT_nil,List.length_map,List.getElem?_map,Int.natCast_nonneg,List.length_append,List.map_append]
      · simp (maxSteps:=9999999)-implicitDefEqProofs only [simprocAttr,QH,Option.isSome,cond_true,cond_false,Option.bind,selB,V.rn,V.rns,Go.Ai.known,V.pz,V.pzs,T.toV,frz1,List.range,List.range.loop,ite_true,ite_false,if_true,if_false,ne_eq,implies_true,forall_const,eq_self,IntKind.bits,upd_tmsS,selT_cons,selT_nil,List.length_map,List.getElem?_map,Int.natCast_nonneg,List.length_append,List.map_append]
  · have hjl' : ¬ (j : Int) < (p.cs.length : Int) := by omega
    rw [List.take_of_length_le (by omega)] at hN
    have tk : List.take N.length (List.map inT N) = List.map inT N := List.take_of_length_le (by simp)
    rw [← hN]
    (have hwq := trivial; repeat' (first | simp (maxSteps:=9999999)-implicitDefEqProofs only [go_sem,simprocAttr,hwq,FT3,FT5,FT23,FT24,FT25,FT26,FT27,FT29,FT32,FT34,FT35,FT37,FT59,List.length_map,List.getElem?_map,Int.natCast_nonneg,List.length_append,List.map_append,hjl',tk,Nat.le_refl] | (refine condK_split ?_ ?_ <;> intro hwq) | (refine two_split ?_ ?_) | (refine guardK_split ?_ ?_ <;> intro hwq) | (refine guardE_split ?_ ?_ <;> intro hwq) | (refine awp_drawW [] (by decide +kernel) ?_; have hwq := trivial) | fail))
def At28 (p : Pv) (a : Int) (n : Nat) (S : St) : Prop :=
  ∃ (j : Nat) (N : List Int) (mv : List Nat), S = ⟨tms [(1, vI a), (2, .ptr 0 0 0), (5, .own 1 0 N.length), (6, vI j)], [bxP p, .rows 1 (N.map inT) false], mv⟩ ∧ N = ((p.ms.take j).filter (fun x => x.s == a)).map (·.p) ∧ j ≤ p.ms.length ∧ n = p.ms.length - j
theorem pq28 (p : Pv) (hp : okL p) (a : Int) : AC Tryz.prog 28 [pvV p, vI a] [] (eqR (isV ((p.ms.filter (fun x => x.s == a)).map (·.p)))) := by
  obtain ⟨l1, l2, l3, l4, l5⟩ := hp
  refine AC_frozen orders Tryz.func28 rfl (by kernel_rfl) (by kernel_rfl) Tryz.ntmps28 (by simp) ?_
  unfold Tryz.f28
  (have hwq := trivial; repeat' (first | simp (maxSteps:=9999999)-implicitDefEqProofs only [go_sem,simprocAttr,hwq,FT3,FT5,FT23,FT24,FT25,FT26,FT27,FT29,FT32,FT34,FT35,FT37,FT59] | (refine condK_split ?_ ?_ <;> intro hwq) | (refine two_split ?_ ?_) | (refine guardK_split ?_ ?_ <;> intro hwq) | (refine guardE_split ?_ ?_ <;> intro hwq) | (refine awp_drawW [] (by decide +kernel) ?_; have hwq := trivial) | fail))
  refine awp_loopK (At28 p a) p.ms.length _ (Weak.trans (Weak.virt 5 1 (.inl rfl)) (Weak.cutI 2 [1, 2, 5, 6] ?_ ?_)) ⟨0, [], _, rfl, by simp, by omega, rfl⟩ ?_
  · simp (maxSteps:=9999999)-implicitDefEqProofs only [simprocAttr,QH,Option.isSome,cond_true,cond_false,Option.bind,selB,V.rn,V.rns,Go.Ai.known,V.pz,V.pzs,T.toV,frz1,List.range,List.range.loop,ite_true,ite_false,if_true,if_false,ne_eq,implies_true,forall_const,eq_self,IntKind.bits,upd_tmsS,selT_cons,selT_nil,List.length_map,List.getElem?_map,Int.natCast_nonneg,List.length_append,List.map_append]
  · simp (maxSteps:=9999999)-implicitDefEqProofs only [simprocAttr,QH,Option.isSome,cond_true,cond_false,Option.bind,selB,V.rn,V.rns,Go.Ai.known,V.pz,V.pzs,T.toV,frz1,List.range,List.range.loop,ite_true,ite_false,if_true,if_false,ne_eq,implies_true,forall_const,eq_self,IntKind.bits,upd_tmsS,selT_cons,selT_nil]
  rintro kk S ⟨j, N, mv, rfl, hN, hj, rfl⟩
  have hNl : N.length ≤ 1000 := by
    rw [hN, List.length_map]
    have h1 := List.length_filter_le (fun x : Mp => x.s == a) (p.ms.take j)
    rw [List.length_take] at h1
    omega
  have zs : (N.length + 1) * 8 ≤ 140737488355328 := by omega
  have wj : IntKind.i64.wrap ((j : Int) + 1) = (j : Int) + 1 := wI64 _ (by omega) (by omega)
  by_cases hjl : j < p.ms.length
  · have hjl' : (j : Int) < (p.ms.length : Int) := by omega
    have hgj : p.ms[j]? = some p.ms[j] := List.getElem?_eq_getElem hjl
    obtain ⟨x, hx⟩ : ∃ x, p.ms[j] = x := ⟨_, rfl⟩
    rw [hx] at hgj
    cases hq : (x.s == a) with
    | true =>
      have hNx : N ++ [x.p] = ((p.ms.take (j + 1)).filter (fun x => x.s == a)).map (·.p) := by rw [take_in hgj, List.filter_append, List.map_append, hN]; simp [hq]
      (have hwq := trivial; repeat' (first | simp (maxSteps:=9999999)-implicitDefEqProofs only [go_sem,simprocAttr,hwq,FT3,FT5,FT23,FT24,FT25,FT26,FT27,FT29,FT32,FT34,FT35,FT37,FT59,List.length_map,List.getElem?_map,Int.natCast_nonneg,List.length_append,List.map_append,hjl',hgj,wj,zs,hq] | (refine condK_split ?_ ?_ <;> intro hwq) | (refine two_split ?_ ?_) | (refine guardK_split ?_ ?_ <;> intro hwq) | (refine guardE_split ?_ ?_ <;> intro hwq) | (refine awp_drawW [] (by decide +kernel) ?_; have hwq := trivial) | fail))
      refine ⟨p.ms.length - (j + 1), _, by omega, Weak.cutI 2 [1, 2, 5, 6] ?_ ?_, j + 1, N ++ [x.p], _, rfl, hNx, by omega, rfl⟩
      · simp (maxSteps:=9999999)-implicitDefEqProofs only [simprocAttr,QH,Option.isSome,cond_true,cond_false,Option.bind,selB,V.rn,V.rns,Go.Ai.known,V.pz,V.pzs,T.toV,frz1,List.range,List.range.loop,ite_true,ite_false,if_true,if_false,ne_eq,implies_true,forall_const,eq_self,IntKind.bits,upd_tmsS,selT_cons,selT_nil,List.length_map,List.getElem?_map,Int.natCast_nonneg,List.length_append,List.map_append,List.length_cons,List.length_nil,List.map_cons,List.map_nil]
      · simp (maxSteps:=9999999)-implicitDefEqProofs only [simprocAttr,QH,Option.isSome,cond_true,cond_false,Option.bind,selB,V.rn,V.rns,Go.Ai.known,V.pz,V.pzs,T.toV,frz1,List.range,List.range.loop,ite_true,ite_false,if_true,if_false,ne_eq,implies_true,forall_const,eq_self,IntKind.bits,upd_tmsS,selT_cons,selT_nil,List.length_map,List.getElem?_map,Int.natCast_nonneg,List.length_append,List.map_append,List.length_cons,List.length_nil,List.map_cons,List.map_nil]
    | false =>
      have hNx : N = ((p.ms.take (j + 1)).filter (fun x => x.s == a)).map (·.p) := by rw [take_in hgj, List.filter_append, List.map_append, hN]; simp [hq]
      (have hwq := trivial; repeat' (first | simp (maxSteps:=9999999)-implicitDefEqProofs only [go_sem,simprocAttr,hwq,FT3,FT5,FT23,FT24,FT25,FT26,FT27,FT29,FT32,FT34,FT35,FT37,FT59,List.length_map,List.getElem?_map,Int.natCast_nonneg,List.length_append,List.map_append,hjl',hgj,wj,hq] | (refine condK_split ?_ ?_ <;> intro hwq) | (refine two_split ?_ ?_) | (refine guardK_split ?_ ?_ <;> intro hwq) | (refine guardE_split ?_ ?_ <;> intro hwq) | (refine awp_drawW [] (by decide +kernel) ?_; have hwq := trivial) | fail))
      refine ⟨p.ms.length - (j + 1), _, by omega, Weak.cutI 2 [1, 2, 5, 6] ?_ ?_, j + 1, N, _, rfl, hNx, by omega, rfl⟩
      · simp (maxSteps:=9999999)-implicitDefEqProofs only [simprocAttr,QH,Option.isSome,cond_true,cond_false,Option.bind,selB,V.rn,V.rns,Go.Ai.known,V.pz,V.pzs,T.toV,frz1,List.range,List.range.loop,ite_true,ite_false,if_true,if_false,ne_eq,implies_true,forall_const,eq_self,IntKind.bits,upd_tmsS,selT_cons,selT_nil,List.length_map,List.getElem?_map,Int.natCast_nonneg,List.length_append,List.map_append]
      · simp (maxSteps:=9999999)-implicitDefEqProofs only [simprocAttr,QH,Option.isSome,cond_true,cond_false,Option.bind,selB,V.rn,V.rns,Go.Ai.known,V.pz,V.pzs,T.toV,frz1,List.range,List.range.loop,ite_true,ite_false,if_true,if_false,ne_eq,implies_true,forall_const,eq_self,IntKind.bits,upd_tmsS,selT_cons,selT_nil,List.length_map,List.getElem?_map,Int.natCast_nonneg,List.length_append,List.map_append]
  · have hjl' : ¬ (j : Int) < (p.ms.length : Int) := by omega
    rw [List.take_of_length_le (by omega)] at hN
    have tk : List.take N.length (List.map inT N) = List.map inT N := List.take_of_length_le (by simp)
    rw [← hN]
    (have hwq := trivial; repeat' (first | simp (maxSteps:=9999999)-implicitDefEqProofs only [go_sem,simprocAttr,hwq,FT3,FT5,FT23,FT24,FT25,FT26,FT27,FT29,FT32,FT34,FT35,FT37,FT59,List.length_map,List.getElem?_map,Int.natCast_nonneg,List.length_append,List.map_append,hjl',tk,Nat.le_refl] | (refine condK_split ?_ ?_ <;> intro hwq) | (refine two_split ?_ ?_) | (refine guardK_split ?_ ?_ <;> intro hwq) | (refine guardE_split ?_ ?_ <;> intro hwq) | (refine awp_drawW [] (by decide +kernel) ?_; have hwq := trivial) | fail))
def At30 (p : Pv) (a : Int) (n : Nat) (S : St) : Prop :=
  ∃ (j : Nat) (N : List Int) (mv : List Nat), S = ⟨tms [(1, vI a), (2, .ptr 0 0 0), (5, .own 1 0 N.length), (6, vI j)], [bxP p, .rows 1 (N.map inT) false], mv⟩ ∧ N = ((p.cs.take j).filter (fun x => x.v == a)).map (·.s) ∧ j ≤ p.cs.length ∧ n = p.cs.length - j
theorem pq30 (p : Pv) (hp : okL p) (a : Int) : AC Tryz.prog 30 [pvV p, vI a] [] (eqR (isV ((p.cs.filter (fun x => x.v == a)).map (·.s)))) := by
  obtain ⟨l1, l2, l3, l4, l5⟩ := hp
  refine AC_frozen orders Tryz.func30 rfl (by kernel_rfl) (by kernel_rfl) Tryz.ntmps30 (by simp) ?_
  unfold Tryz.f30
  (have hwq := trivial; repeat' (first | simp (maxSteps:=9999999)-implicitDefEqProofs only [go_sem,simprocAttr,hwq,FT3,FT5,FT23,FT24,FT25,FT26,FT27,FT29,FT32,FT34,FT35,FT37,FT59] | (refine condK_split ?_ ?_ <;> intro hwq) | (refine two_split ?_ ?_) | (refine guardK_split ?_ ?_ <;> intro hwq) | (refine guardE_split ?_ ?_ <;> intro hwq) | (refine awp_drawW [] (by decide +kernel) ?_; have hwq := trivial) | fail))
  refine awp_loopK (At30 p a) p.cs.length _ (Weak.trans (Weak.virt 5 1 (.inl rfl)) (Weak.cutI 2 [1, 2, 5, 6] ?_ ?_)) ⟨0, [], _, rfl, by simp, by omega, rfl⟩ ?_
  · simp (maxSteps:=9999999)-implicitDefEqProofs only [simprocAttr,QH,Option.isSome,cond_true,cond_false,Option.bind,selB,V.rn,V.rns,Go.Ai.known,V.pz,V.pzs,T.toV,frz1,List.range,List.range.loop,ite_true,ite_false,if_true,if_false,ne_eq,implies_true,forall_const,eq_self,IntKind.bits,upd_tmsS,selT_cons,selT_nil,List.length_map,List.getElem?_map,Int.natCast_nonneg,List.length_append,List.map_append]
  · simp (maxSteps:=9999999)-implicitDefEqProofs only [simprocAttr,QH,Option.isSome,cond_true,cond_false,Option.bind,selB,V.rn,V.rns,Go.Ai.known,V.pz,V.pzs,T.toV,frz1,List.range,List.range.loop,ite_true,ite_false,if_true,if_false,ne_eq,implies_true,forall_const,eq_self,IntKind.bits,upd_tmsS,selT_cons,selT_nil]
  rintro kk S ⟨j, N, mv, rfl, hN, hj, rfl⟩
  have hNl : N.length ≤ 1000 := by
    rw [hN, List.length_map]
    have h1 := List.length_filter_le (fun x : Cr => x.v == a) (p.cs.take j)
    rw [List.length_take] at h1
    omega
  have zs : (N.length + 1) * 8 ≤ 140737488355328 := by omega
  have wj : IntKind.i64.wrap ((j : Int) + 1) = (j : Int) + 1 := wI64 _ (by omega) (by omega)
  by_cases hjl : j < p.cs.length
  · have hjl' : (j : Int) < (p.cs.length : Int) := by omega
    have hgj : p.cs[j]? = some p.cs[j] := List.getElem?_eq_getElem hjl
    obtain ⟨x, hx⟩ : ∃ x, p.cs[j] = x := ⟨_, rfl⟩
    rw [hx] at hgj
    cases hq : (x.v == a) with
    | true =>
      have hNx : N ++ [x.s] = ((p.cs.take (j + 1)).filter (fun x => x.v == a)).map (·.s) := by rw [take_in hgj, List.filter_append, List.map_append, hN]; simp [hq]
      (have hwq := trivial; repeat' (first | simp (maxSteps:=9999999)-implicitDefEqProofs only [go_sem,simprocAttr,hwq,FT3,FT5,FT23,FT24,FT25,FT26,FT27,FT29,FT32,FT34,FT35,FT37,FT59,List.length_map,List.getElem?_map,Int.natCast_nonneg,List.length_append,List.map_append,hjl',hgj,wj,zs,hq] | (refine condK_split ?_ ?_ <;> intro hwq) | (refine two_split ?_ ?_) | (refine guardK_split ?_ ?_ <;> intro hwq) | (refine guardE_split ?_ ?_ <;> intro hwq) | (refine awp_drawW [] (by decide +kernel) ?_; have hwq := trivial) | fail))
      refine ⟨p.cs.length - (j + 1), _, by omega, Weak.cutI 2 [1, 2, 5, 6] ?_ ?_, j + 1, N ++ [x.s], _, rfl, hNx, by omega, rfl⟩
      · simp (maxSteps:=9999999)-implicitDefEqProofs only [simprocAttr,QH,Option.isSome,cond_true,cond_false,Option.bind,selB,V.rn,V.rns,Go.Ai.known,V.pz,V.pzs,T.toV,frz1,List.range,List.range.loop,ite_true,ite_false,if_true,if_false,ne_eq,implies_true,forall_const,eq_self,IntKind.bits,upd_tmsS,selT_cons,selT_nil,List.length_map,List.getElem?_map,Int.natCast_nonneg,List.length_append,List.map_append,List.length_cons,List.length_nil,List.map_cons,List.map_nil]
      · simp (maxSteps:=9999999)-implicitDefEqProofs only [simprocAttr,QH,Option.isSome,cond_true,cond_false,Option.bind,selB,V.rn,V.rns,Go.Ai.known,V.pz,V.pzs,T.toV,frz1,List.range,List.range.loop,ite_true,ite_false,if_true,if_false,ne_eq,implies_true,forall_const,eq_self,IntKind.bits,upd_tmsS,selT_cons,selT_nil,List.length_map,List.getElem?_map,Int.natCast_nonneg,List.length_append,List.map_append,List.length_cons,List.length_nil,List.map_cons,List.map_nil]
    | false =>
      have hNx : N = ((p.cs.take (j + 1)).filter (fun x => x.v == a)).map (·.s) := by rw [take_in hgj, List.filter_append, List.map_append, hN]; simp [hq]
      (have hwq := trivial; repeat' (first | simp (maxSteps:=9999999)-implicitDefEqProofs only [go_sem,simprocAttr,hwq,FT3,FT5,FT23,FT24,FT25,FT26,FT27,FT29,FT32,FT34,FT35,FT37,FT59,List.length_map,List.getElem?_map,Int.natCast_nonneg,List.length_append,List.map_append,hjl',hgj,wj,hq] | (refine condK_split ?_ ?_ <;> intro hwq) | (refine two_split ?_ ?_) | (refine guardK_split ?_ ?_ <;> intro hwq) | (refine guardE_split ?_ ?_ <;> intro hwq) | (refine awp_drawW [] (by decide +kernel) ?_; have hwq := trivial) | fail))
      refine ⟨p.cs.length - (j + 1), _, by omega, Weak.cutI 2 [1, 2, 5, 6] ?_ ?_, j + 1, N, _, rfl, hNx, by omega, rfl⟩
      · simp (maxSteps:=9999999)-implicitDefEqProofs only [simprocAttr,QH,Option.isSome,cond_true,cond_false,Option.bind,selB,V.rn,V.rns,Go.Ai.known,V.pz,V.pzs,T.toV,frz1,List.range,List.range.loop,ite_true,ite_false,if_true,if_false,ne_eq,implies_true,forall_const,eq_self,IntKind.bits,upd_tmsS,selT_cons,selT_nil,List.length_map,List.getElem?_map,Int.natCast_nonneg,List.length_append,List.map_append]
      · simp (maxSteps:=9999999)-implicitDefEqProofs only [simprocAttr,QH,Option.isSome,cond_true,cond_false,Option.bind,selB,V.rn,V.rns,Go.Ai.known,V.pz,V.pzs,T.toV,frz1,List.range,List.range.loop,ite_true,ite_false,if_true,if_false,ne_eq,implies_true,forall_const,eq_self,IntKind.bits,upd_tmsS,selT_cons,selT_nil,List.length_map,List.getElem?_map,Int.natCast_nonneg,List.length_append,List.map_append]
  · have hjl' : ¬ (j : Int) < (p.cs.length : Int) := by omega
    rw [List.take_of_length_le (by omega)] at hN
    have tk : List.take N.length (List.map inT N) = List.map inT N := List.take_of_length_le (by simp)
    rw [← hN]
    (have hwq := trivial; repeat' (first | simp (maxSteps:=9999999)-implicitDefEqProofs only [go_sem,simprocAttr,hwq,FT3,FT5,FT23,FT24,FT25,FT26,FT27,FT29,FT32,FT34,FT35,FT37,FT59,List.length_map,List.getElem?_map,Int.natCast_nonneg,List.length_append,List.map_append,hjl',tk,Nat.le_refl] | (refine condK_split ?_ ?_ <;> intro hwq) | (refine two_split ?_ ?_) | (refine guardK_split ?_ ?_ <;> intro hwq) | (refine guardE_split ?_ ?_ <;> intro hwq) | (refine awp_drawW [] (by decide +kernel) ?_; have hwq := trivial) | fail))
end Go.Ai

set_option linter.unusedVariables false
set_option linter.unusedSimpArgs false
set_option maxHeartbeats 8000000
set_option maxRecDepth 100000
namespace Go.Ai
open Go.Proofs
attribute [local go_sem] QH QR V.noimm V.noimms frzZs frzZ frzA frzV frzVs frzBox boxLen Option.isSome cond_true cond_false aopD calW flatV stepX amap stepY alookup afind aupdate adelete amlen arange ameq mapOf akeq pl V.mapT V.mapTs Option.bind stepK runK guardD stepE runD callD compact selB callK evS ofVal ofVals scalar aop ares mkRes V.rn V.rns V.cells? cellsAt Go.Ai.part aload astore setL V.atom abin aun intBin shiftBin aconv fieldOf aindexAddr aindex bound? aslice aarr abuild afill alen nilP nilS nilF aeq eqCells eqCell Go.Ai.known strBin abuiltin aappend abuildSlice arowsFill amakeSlice acopy aclear minmax rowsOf numsT notStr isIntD isByte V.pz V.pzs T.toV frz1 frz scalT scalTs chunkT List.range List.range.loop ite_true ite_false if_true if_false ne_eq implies_true forall_const eq_self IntKind.bits kPostKF_ret kPostKF_normal kPostX_ret kPostX_normal bsl nil2K nil2 kPostFW_ret kPostFW_normal kPostKM_ret kPostKM_normal kPostXK_ret kPostXK_normal
theorem zz_of {n l k : Nat} (h : n ≤ l) (h2 : l ≤ 1000) (h3 : k ≤ 100) : (n + 1) * k ≤ 140737488355328 :=
  Nat.le_trans (Nat.mul_le_mul (by omega : n + 1 ≤ 1001) h3) (by omega)
theorem fil_in {α : Type} {q : α → Bool} {L : List α} {j : Nat} {x : α} (h : L[j]? = some x) : (L.take (j + 1)).filter q = (L.take j).filter q ++ (if q x = true then [x] else []) := by
  rw [take_in h, List.filter_append]
  congr 1
  cases hq : q x <;> simp [hq]
theorem fil_le {α : Type} {q : α → Bool} {L : List α} {j : Nat} : ((L.take j).filter q).length ≤ L.length := by
  have h1 := List.length_filter_le q (L.take j)
  rw [List.length_take] at h1
  omega
def delE51 (p : Pv) (m : Mp) : Int := if (p.ms.filter (fun y : Mp => !decide (y = m))).length = p.ms.length then 182 else 0
def De51 (p : Pv) (m : Mp) (n : Nat) (S : St) : Prop :=
  ∃ (j : Nat) (N : List Mp) (mv : List Nat), S = ⟨tms [(2, .ptr 0 0 0), (3, .ptr 1 0 0), (4, .ptr 2 0 0), (6, .own 3 0 N.length), (7, vI j)], [bxP p, bxMp m, .box [.s (.int .u8 0), .s (.int .u8 0), .s (.int .u8 0), .s (.int .u8 0), .s (.int .u8 0), .s (.int .u8 0), .s (.slice none 0 0), .s (.slice none 0 0), .s (.slice none 0 0), .s (.slice none 0 0)] false, .rows 3 (N.map mpT) false], mv⟩ ∧ N = (p.ms.take j).filter (fun y : Mp => !decide (y = m)) ∧ j ≤ p.ms.length ∧ n = p.ms.length - j
theorem pc51 (p : Pv) (hp : okL p) (m : Mp) : AC Tryz.prog 51 [pvV p, mpV m] [] (eqR (.tuple [pvV (if delE51 p m = 0 then { p with ms := p.ms.filter (fun y : Mp => !decide (y = m)) } else p), vI (delE51 p m)])) := by
  obtain ⟨l1, l2, l3, l4, l5⟩ := hp
  have dd : delE51 p m = if (p.ms.filter (fun y : Mp => !decide (y = m))).length = p.ms.length then 182 else 0 := rfl
  obtain ⟨FL, hFL⟩ : ∃ FL, p.ms.filter (fun y : Mp => !decide (y = m)) = FL := ⟨_, rfl⟩
  obtain ⟨e, he⟩ : ∃ e, delE51 p m = e := ⟨_, rfl⟩
  rw [hFL, he] at dd
  rw [hFL, he]
  refine AC_frozen orders Tryz.func51 rfl (by kernel_rfl) (by kernel_rfl) Tryz.ntmps51 (by simp) ?_
  unfold Tryz.f51
  (have hwq := trivial; repeat' (first | simp (maxSteps:=9999999)-implicitDefEqProofs only [go_sem,simprocAttr,hwq,FT3,FT5,FT23,FT24,FT25,FT26,FT27,FT29,FT32,FT34,FT35,FT37,FT46,FT59] | (refine condK_split ?_ ?_ <;> intro hwq) | (refine two_split ?_ ?_) | (refine guardK_split ?_ ?_ <;> intro hwq) | (refine guardE_split ?_ ?_ <;> intro hwq) | (refine awp_drawW [] (by decide +kernel) ?_; have hwq := trivial) | fail))
  refine awp_loopK (De51 p m) p.ms.length _ (Weak.trans (Weak.virt 6 3 (.inl rfl)) (Weak.cutI 4 [2, 3, 4, 6, 7] ?_ ?_)) ⟨0, [], _, rfl, by simp, by omega, rfl⟩ ?_
  · simp (maxSteps:=9999999)-implicitDefEqProofs only [simprocAttr,QH,Option.isSome,cond_true,cond_false,Option.bind,selB,V.rn,V.rns,Go.Ai.known,V.pz,V.pzs,T.toV,frz1,List.range,List.range.loop,ite_true,ite_false,if_true,if_false,ne_eq,implies_true,forall_const,eq_self,IntKind.bits,upd_tmsS,selT_cons,selT_nil,List.length_map,List.getElem?_map,Int.natCast_nonneg,List.length_append,List.map_append]
  · simp (maxSteps:=9999999)-implicitDefEqProofs only [simprocAttr,QH,Option.isSome,cond_true,cond_false,Option.bind,selB,V.rn,V.rns,Go.Ai.known,V.pz,V.pzs,T.toV,frz1,List.range,List.range.loop,ite_true,ite_false,if_true,if_false,ne_eq,implies_true,forall_const,eq_self,IntKind.bits,upd_tmsS,selT_cons,selT_nil]
  rintro kk S ⟨j, N, mv, rfl, hN, hj, rfl⟩
  have hNl : N.length ≤ p.ms.length := by rw [hN]; exact fil_le
  have zs : (N.length + 1) * 24 ≤ 140737488355328 := zz_of hNl l2 (by decide)
  have wj := wj_of hj l2
  by_cases hjl : j < p.ms.length
  · have hjl' : (j : Int) < (p.ms.length : Int) := Int.ofNat_lt.2 hjl
    have hgj : p.ms[j]? = some p.ms[j] := List.getElem?_eq_getElem hjl
    obtain ⟨y, hy⟩ : ∃ y, p.ms[j] = y := ⟨_, rfl⟩
    rw [hy] at hgj
    have hee := mp_eq y m
    cases hq : (!decide (y = m)) with
    | true =>
      have hNx : N ++ [y] = (p.ms.take (j + 1)).filter (fun y : Mp => !decide (y = m)) := by rw [fil_in hgj, hN, if_pos hq]
      (have hwq := trivial; repeat' (first | simp (maxSteps:=9999999)-implicitDefEqProofs only [go_sem,simprocAttr,hwq,FT3,FT5,FT23,FT24,FT25,FT26,FT27,FT29,FT32,FT34,FT35,FT37,FT46,FT59,List.length_map,List.getElem?_map,Int.natCast_nonneg,List.length_append,List.map_append,hjl',hgj,wj,zs,hee,hq] | (refine condK_split ?_ ?_ <;> intro hwq) | (refine two_split ?_ ?_) | (refine guardK_split ?_ ?_ <;> intro hwq) | (refine guardE_split ?_ ?_ <;> intro hwq) | (refine awp_drawW [] (by decide +kernel) ?_; have hwq := trivial) | fail))
      refine ⟨p.ms.length - (j + 1), _, st_of hjl, Weak.cutI 4 [2, 3, 4, 6, 7] ?_ ?_, j + 1, N ++ [y], _, rfl, hNx, hjl, rfl⟩
      · simp (maxSteps:=9999999)-implicitDefEqProofs only [simprocAttr,QH,Option.isSome,cond_true,cond_false,Option.bind,selB,V.rn,V.rns,Go.Ai.known,V.pz,V.pzs,T.toV,frz1,List.range,List.range.loop,ite_true,ite_false,if_true,if_false,ne_eq,implies_true,forall_const,eq_self,IntKind.bits,upd_tmsS,selT_cons,selT_nil,List.length_map,List.getElem?_map,Int.natCast_nonneg,List.length_append,List.map_append,List.length_cons,List.length_nil,List.map_cons,List.map_nil]
      · simp (maxSteps:=9999999)-implicitDefEqProofs only [simprocAttr,QH,Option.isSome,cond_true,cond_false,Option.bind,selB,V.rn,V.rns,Go.Ai.known,V.pz,V.pzs,T.toV,frz1,List.range,List.range.loop,ite_true,ite_false,if_true,if_false,ne_eq,implies_true,forall_const,eq_self,IntKind.bits,upd_tmsS,selT_cons,selT_nil,List.length_map,List.getElem?_map,Int.natCast_nonneg,List.length_append,List.map_append,List.length_cons,List.length_nil,List.map_cons,List.map_nil]
    | false =>
      have hNx : N = (p.ms.take (j + 1)).filter (fun y : Mp => !decide (y = m)) := by rw [fil_in hgj, hN, if_neg (by rw [hq]; simp), List.append_nil]
      (have hwq := trivial; repeat' (first | simp (maxSteps:=9999999)-implicitDefEqProofs only [go_sem,simprocAttr,hwq,FT3,FT5,FT23,FT24,FT25,FT26,FT27,FT29,FT32,FT34,FT35,FT37,FT46,FT59,List.length_map,List.getElem?_map,Int.natCast_nonneg,List.length_append,List.map_append,hjl',hgj,wj,hee,hq] | (refine condK_split ?_ ?_ <;> intro hwq) | (refine two_split ?_ ?_) | (refine guardK_split ?_ ?_ <;> intro hwq) | (refine guardE_split ?_ ?_ <;> intro hwq) | (refine awp_drawW [] (by decide +kernel) ?_; have hwq := trivial) | fail))
      refine ⟨p.ms.length - (j + 1), _, st_of hjl, Weak.cutI 4 [2, 3, 4, 6, 7] ?_ ?_, j + 1, N, _, rfl, hNx, hjl, rfl⟩
      · simp (maxSteps:=9999999)-implicitDefEqProofs only [simprocAttr,QH,Option.isSome,cond_true,cond_false,Option.bind,selB,V.rn,V.rns,Go.Ai.known,V.pz,V.pzs,T.toV,frz1,List.range,List.range.loop,ite_true,ite_false,if_true,if_false,ne_eq,implies_true,forall_const,eq_self,IntKind.bits,upd_tmsS,selT_cons,selT_nil,List.length_map,List.getElem?_map,Int.natCast_nonneg,List.length_append,List.map_append]
      · simp (maxSteps:=9999999)-implicitDefEqProofs only [simprocAttr,QH,Option.isSome,cond_true,cond_false,Option.bind,selB,V.rn,V.rns,Go.Ai.known,V.pz,V.pzs,T.toV,frz1,List.range,List.range.loop,ite_true,ite_false,if_true,if_false,ne_eq,implies_true,forall_const,eq_self,IntKind.bits,upd_tmsS,selT_cons,selT_nil,List.length_map,List.getElem?_map,Int.natCast_nonneg,List.length_append,List.map_append]
  · have hjl' : ¬ (j : Int) < (p.ms.length : Int) := fun h => hjl (Int.ofNat_lt.1 h)
    rw [List.take_of_length_le (Nat.le_of_not_lt hjl), hFL] at hN
    rw [← hN] at dd ⊢
    have tk : List.take N.length (List.map mpT N) = List.map mpT N := List.take_of_length_le (by simp)
    by_cases h1 : N.length = p.ms.length
    · have h1' : ((N.length : Int) == (p.ms.length : Int)) = true := by simp [h1]
      rw [if_pos h1] at dd
      rw [dd, if_neg (by decide)]
      (have hwq := trivial; repeat' (first | simp (maxSteps:=9999999)-implicitDefEqProofs only [go_sem,simprocAttr,hwq,FT3,FT5,FT23,FT24,FT25,FT26,FT27,FT29,FT32,FT34,FT35,FT37,FT46,FT59,List.length_map,List.getElem?_map,Int.natCast_nonneg,List.length_append,List.map_append,hjl',h1'] | (refine condK_split ?_ ?_ <;> intro hwq) | (refine two_split ?_ ?_) | (refine guardK_split ?_ ?_ <;> intro hwq) | (refine guardE_split ?_ ?_ <;> intro hwq) | (refine awp_drawW [] (by decide +kernel) ?_; have hwq := trivial) | fail))
    · have h1' : ((N.length : Int) == (p.ms.length : Int)) = false := by simp; omega
      rw [if_neg h1] at dd
      rw [dd, if_pos rfl]
      (have hwq := trivial; repeat' (first | simp (maxSteps:=9999999)-implicitDefEqProofs only [go_sem,simprocAttr,hwq,FT3,FT5,FT23,FT24,FT25,FT26,FT27,FT29,FT32,FT34,FT35,FT37,FT46,FT59,List.length_map,List.getElem?_map,Int.natCast_nonneg,List.length_append,List.map_append,hjl',h1',tk,Nat.le_refl] | (refine condK_split ?_ ?_ <;> intro hwq) | (refine two_split ?_ ?_) | (refine guardK_split ?_ ?_ <;> intro hwq) | (refine guardE_split ?_ ?_ <;> intro hwq) | (refine awp_drawW [] (by decide +kernel) ?_; have hwq := trivial) | fail))
def delE53 (p : Pv) (m : Cr) : Int := if (p.cs.filter (fun y : Cr => !decide (y = m))).length = p.cs.length then 182 else if ((p.ms.filter (fun x => x.s == m.s)).map (·.p)).length = 0 then 0 else 183
def De53 (p : Pv) (m : Cr) (n : Nat) (S : St) : Prop :=
  ∃ (j : Nat) (N : List Cr) (mv : List Nat), S = ⟨tms [(2, .ptr 0 0 0), (3, .ptr 1 0 0), (4, .ptr 2 0 0), (6, .own 3 0 N.length), (7, vI j)], [bxP p, bxCr m, .box [.s (.int .u8 0), .s (.int .u8 0), .s (.int .u8 0), .s (.int .u8 0), .s (.int .u8 0), .s (.int .u8 0), .s (.slice none 0 0), .s (.slice none 0 0), .s (.slice none 0 0), .s (.slice none 0 0)] false, .rows 2 (N.map crT) false], mv⟩ ∧ N = (p.cs.take j).filter (fun y : Cr => !decide (y = m)) ∧ j ≤ p.cs.length ∧ n = p.cs.length - j
theorem pc53 (p : Pv) (hp : okL p) (m : Cr) : AC Tryz.prog 53 [pvV p, crV m] [] (eqR (.tuple [pvV (if delE53 p m = 0 then { p with cs := p.cs.filter (fun y : Cr => !decide (y = m)) } else p), vI (delE53 p m)])) := by
  have nu := pq28 p hp m.s
  obtain ⟨A, hA⟩ : ∃ A, (p.ms.filter (fun x => x.s == m.s)).map (·.p) = A := ⟨_, rfl⟩
  obtain ⟨l1, l2, l3, l4, l5⟩ := hp
  have dd : delE53 p m = if (p.cs.filter (fun y : Cr => !decide (y = m))).length = p.cs.length then 182 else if ((p.ms.filter (fun x => x.s == m.s)).map (·.p)).length = 0 then 0 else 183 := rfl
  rw [hA] at nu dd
  obtain ⟨FL, hFL⟩ : ∃ FL, p.cs.filter (fun y : Cr => !decide (y = m)) = FL := ⟨_, rfl⟩
  obtain ⟨e, he⟩ : ∃ e, delE53 p m = e := ⟨_, rfl⟩
  rw [hFL, he] at dd
  rw [hFL, he]
  refine AC_frozen orders Tryz.func53 rfl (by kernel_rfl) (by kernel_rfl) Tryz.ntmps53 (by simp) ?_
  unfold Tryz.f53
  (have hwq := trivial; repeat' (first | simp (maxSteps:=9999999)-implicitDefEqProofs only [go_sem,simprocAttr,hwq,FT3,FT5,FT23,FT24,FT25,FT26,FT27,FT29,FT32,FT34,FT35,FT37,FT46,FT59] | (refine condK_split ?_ ?_ <;> intro hwq) | (refine two_split ?_ ?_) | (refine guardK_split ?_ ?_ <;> intro hwq) | (refine guardE_split ?_ ?_ <;> intro hwq) | (refine awp_drawW [] (by decide +kernel) ?_; have hwq := trivial) | fail))
  refine awp_loopK (De53 p m) p.cs.length _ (Weak.trans (Weak.virt 6 2 (.inl rfl)) (Weak.cutI 4 [2, 3, 4, 6, 7] ?_ ?_)) ⟨0, [], _, rfl, by simp, by omega, rfl⟩ ?_
  · simp (maxSteps:=9999999)-implicitDefEqProofs only [simprocAttr,QH,Option.isSome,cond_true,cond_false,Option.bind,selB,V.rn,V.rns,Go.Ai.known,V.pz,V.pzs,T.toV,frz1,List.range,List.range.loop,ite_true,ite_false,if_true,if_false,ne_eq,implies_true,forall_const,eq_self,IntKind.bits,upd_tmsS,selT_cons,selT_nil,List.length_map,List.getElem?_map,Int.natCast_nonneg,List.length_append,List.map_append]
  · simp (maxSteps:=9999999)-implicitDefEqProofs only [simprocAttr,QH,Option.isSome,cond_true,cond_false,Option.bind,selB,V.rn,V.rns,Go.Ai.known,V.pz,V.pzs,T.toV,frz1,List.range,List.range.loop,ite_true,ite_false,if_true,if_false,ne_eq,implies_true,forall_const,eq_self,IntKind.bits,upd_tmsS,selT_cons,selT_nil]
  rintro kk S ⟨j, N, mv, rfl, hN, hj, rfl⟩
  have hNl : N.length ≤ p.cs.length := by rw [hN]; exact fil_le
  have zs : (N.length + 1) * 16 ≤ 140737488355328 := zz_of hNl l3 (by decide)
  have wj := wj_of hj l3
  by_cases hjl : j < p.cs.length
  · have hjl' : (j : Int) < (p.cs.length : Int) := Int.ofNat_lt.2 hjl
    have hgj : p.cs[j]? = some p.cs[j] := List.getElem?_eq_getElem hjl
    obtain ⟨y, hy⟩ : ∃ y, p.cs[j] = y := ⟨_, rfl⟩
    rw [hy] at hgj
    have hee := cr_eq y m
    cases hq : (!decide (y = m)) with
    | true =>
      have hNx : N ++ [y] = (p.cs.take (j + 1)).filter (fun y : Cr => !decide (y = m)) := by rw [fil_in hgj, hN, if_pos hq]
      (have hwq := trivial; repeat' (first | simp (maxSteps:=9999999)-implicitDefEqProofs only [go_sem,simprocAttr,hwq,FT3,FT5,FT23,FT24,FT25,FT26,FT27,FT29,FT32,FT34,FT35,FT37,FT46,FT59,List.length_map,List.getElem?_map,Int.natCast_nonneg,List.length_append,List.map_append,hjl',hgj,wj,zs,hee,hq] | (refine condK_split ?_ ?_ <;> intro hwq) | (refine two_split ?_ ?_) | (refine guardK_split ?_ ?_ <;> intro hwq) | (refine guardE_split ?_ ?_ <;> intro hwq) | (refine awp_drawW [] (by decide +kernel) ?_; have hwq := trivial) | fail))
      refine ⟨p.cs.length - (j + 1), _, st_of hjl, Weak.cutI 4 [2, 3, 4, 6, 7] ?_ ?_, j + 1, N ++ [y], _, rfl, hNx, hjl, rfl⟩
      · simp (maxSteps:=9999999)-implicitDefEqProofs only [simprocAttr,QH,Option.isSome,cond_true,cond_false,Option.bind,selB,V.rn,V.rns,Go.Ai.known,V.pz,V.pzs,T.toV,frz1,List.range,List.range.loop,ite_true,ite_false,if_true,if_false,ne_eq,implies_true,forall_const,eq_self,IntKind.bits,upd_tmsS,selT_cons,selT_nil,List.length_map,List.getElem?_map,Int.natCast_nonneg,List.length_append,List.map_append,List.length_cons,List.length_nil,List.map_cons,List.map_nil]
      · simp (maxSteps:=9999999)-implicitDefEqProofs only [simprocAttr,QH,Option.isSome,cond_true,cond_false,Option.bind,selB,V.rn,V.rns,Go.Ai.known,V.pz,V.pzs,T.toV,frz1,List.range,List.range.loop,ite_true,ite_false,if_true,if_false,ne_eq,implies_true,forall_const,eq_self,IntKind.bits,upd_tmsS,selT_cons,selT_nil,List.length_map,List.getElem?_map,Int.natCast_nonneg,List.length_append,List.map_append,List.length_cons,List.length_nil,List.map_cons,List.map_nil]
    | false =>
      have hNx : N = (p.cs.take (j + 1)).filter (fun y : Cr => !decide (y = m)) := by rw [fil_in hgj, hN, if_neg (by rw [hq]; simp), List.append_nil]
      (have hwq := trivial; repeat' (first | simp (maxSteps:=9999999)-implicitDefEqProofs only [go_sem,simprocAttr,hwq,FT3,FT5,FT23,FT24,FT25,FT26,FT27,FT29,FT32,FT34,FT35,FT37,FT46,FT59,List.length_map,List.getElem?_map,Int.natCast_nonneg,List.length_append,List.map_append,hjl',hgj,wj,hee,hq] | (refine condK_split ?_ ?_ <;> intro hwq) | (refine two_split ?_ ?_) | (refine guardK_split ?_ ?_ <;> intro hwq) | (refine guardE_split ?_ ?_ <;> intro hwq) | (refine awp_drawW [] (by decide +kernel) ?_; have hwq := trivial) | fail))
      refine ⟨p.cs.length - (j + 1), _, st_of hjl, Weak.cutI 4 [2, 3, 4, 6, 7] ?_ ?_, j + 1, N, _, rfl, hNx, hjl, rfl⟩
      · simp (maxSteps:=9999999)-implicitDefEqProofs only [simprocAttr,QH,Option.isSome,cond_true,cond_false,Option.bind,selB,V.rn,V.rns,Go.Ai.known,V.pz,V.pzs,T.toV,frz1,List.range,List.range.loop,ite_true,ite_false,if_true,if_false,ne_eq,implies_true,forall_const,eq_self,IntKind.bits,upd_tmsS,selT_cons,selT_nil,List.length_map,List.getElem?_map,Int.natCast_nonneg,List.length_append,List.map_append]
      · simp (maxSteps:=9999999)-implicitDefEqProofs only [simprocAttr,QH,Option.isSome,cond_true,cond_false,Option.bind,selB,V.rn,V.rns,Go.Ai.known,V.pz,V.pzs,T.toV,frz1,List.range,List.range.loop,ite_true,ite_false,if_true,if_false,ne_eq,implies_true,forall_const,eq_self,IntKind.bits,upd_tmsS,selT_cons,selT_nil,List.length_map,List.getElem?_map,Int.natCast_nonneg,List.length_append,List.map_append]
  · have hjl' : ¬ (j : Int) < (p.cs.length : Int) := fun h => hjl (Int.ofNat_lt.1 h)
    rw [List.take_of_length_le (Nat.le_of_not_lt hjl), hFL] at hN
    rw [← hN] at dd ⊢
    have tk : List.take N.length (List.map crT N) = List.map crT N := List.take_of_length_le (by simp)
    by_cases h1 : N.length = p.cs.length
    · have h1' : ((N.length : Int) == (p.cs.length : Int)) = true := by simp [h1]
      rw [if_pos h1] at dd
      rw [dd, if_neg (by decide)]
      (have hwq := trivial; repeat' (first | simp (maxSteps:=9999999)-implicitDefEqProofs only [go_sem,simprocAttr,hwq,FT3,FT5,FT23,FT24,FT25,FT26,FT27,FT29,FT32,FT34,FT35,FT37,FT46,FT59,List.length_map,List.getElem?_map,Int.natCast_nonneg,List.length_append,List.map_append,hjl',h1'] | (refine condK_split ?_ ?_ <;> intro hwq) | (refine two_split ?_ ?_) | (refine guardK_split ?_ ?_ <;> intro hwq) | (refine guardE_split ?_ ?_ <;> intro hwq) | (refine awp_drawW [] (by decide +kernel) ?_; have hwq := trivial) | fail))
    · have h1' : ((N.length : Int) == (p.cs.length : Int)) = false := by simp; omega
      rw [if_neg h1] at dd
      by_cases h2 : A.length = 0
      · have h2' : ¬ (0 : Int) < (A.length : Int) := by rw [h2]; decide
        rw [if_pos h2] at dd
        rw [dd, if_pos rfl]
        (have hwq := trivial; repeat' (first | simp (maxSteps:=9999999)-implicitDefEqProofs only [go_sem,simprocAttr,hwq,FT3,FT5,FT23,FT24,FT25,FT26,FT27,FT29,FT32,FT34,FT35,FT37,FT46,FT59,List.length_map,List.getElem?_map,Int.natCast_nonneg,List.length_append,List.map_append,hjl',h1',h2',tk,Nat.le_refl] | (refine condK_split ?_ ?_ <;> intro hwq) | (refine two_split ?_ ?_) | (refine guardK_split ?_ ?_ <;> intro hwq) | (refine guardE_split ?_ ?_ <;> intro hwq) | (refine awp_drawW [] (by decide +kernel) ?_; have hwq := trivial) | (refine call_plain nu rfl rfl ?_; have hwq := trivial) | fail))
      · have h2' : (0 : Int) < (A.length : Int) := by omega
        rw [if_neg h2] at dd
        rw [dd, if_neg (by decide)]
        (have hwq := trivial; repeat' (first | simp (maxSteps:=9999999)-implicitDefEqProofs only [go_sem,simprocAttr,hwq,FT3,FT5,FT23,FT24,FT25,FT26,FT27,FT29,FT32,FT34,FT35,FT37,FT46,FT59,List.length_map,List.getElem?_map,Int.natCast_nonneg,List.length_append,List.map_append,hjl',h1',h2'] | (refine condK_split ?_ ?_ <;> intro hwq) | (refine two_split ?_ ?_) | (refine guardK_split ?_ ?_ <;> intro hwq) | (refine guardE_split ?_ ?_ <;> intro hwq) | (refine awp_drawW [] (by decide +kernel) ?_; have hwq := trivial) | (refine call_plain nu rfl rfl ?_; have hwq := trivial) | fail))
def delE55 (p : Pv) (m : Int) : Int := if (p.bs.filter (fun y : Mb => y.v != m)).length = p.bs.length then 182 else if ((p.cs.filter (fun x => x.v == m)).map (·.s)).length = 0 then 0 else 183
def De55 (p : Pv) (m : Int) (n : Nat) (S : St) : Prop :=
  ∃ (j : Nat) (N : List Mb) (mv : List Nat), S = ⟨tms [(1, vI m), (2, .ptr 0 0 0), (4, .ptr 1 0 0), (6, .own 2 0 N.length), (7, vI j)], [bxP p, .box [.s (.int .u8 0), .s (.int .u8 0), .s (.int .u8 0), .s (.int .u8 0), .s (.int .u8 0), .s (.int .u8 0), .s (.slice none 0 0), .s (.slice none 0 0), .s (.slice none 0 0), .s (.slice none 0 0)] false, .rows 2 (N.map mbT) false], mv⟩ ∧ N = (p.bs.take j).filter (fun y : Mb => y.v != m) ∧ j ≤ p.bs.length ∧ n = p.bs.length - j
theorem pc55 (p : Pv) (hp : okL p) (m : Int) : AC Tryz.prog 55 [pvV p, vI m] [] (eqR (.tuple [pvV (if delE55 p m = 0 then { p with bs := p.bs.filter (fun y : Mb => y.v != m) } else p), vI (delE55 p m)])) := by
  have nu := pq30 p hp m
  obtain ⟨A, hA⟩ : ∃ A, (p.cs.filter (fun x => x.v == m)).map (·.s) = A := ⟨_, rfl⟩
  obtain ⟨l1, l2, l3, l4, l5⟩ := hp
  have dd : delE55 p m = if (p.bs.filter (fun y : Mb => y.v != m)).length = p.bs.length then 182 else if ((p.cs.filter (fun x => x.v == m)).map (·.s)).length = 0 then 0 else 183 := rfl
  rw [hA] at nu dd
  obtain ⟨FL, hFL⟩ : ∃ FL, p.bs.filter (fun y : Mb => y.v != m) = FL := ⟨_, rfl⟩
  obtain ⟨e, he⟩ : ∃ e, delE55 p m = e := ⟨_, rfl⟩
  rw [hFL, he] at dd
  rw [hFL, he]
  refine AC_frozen orders Tryz.func55 rfl (by kernel_rfl) (by kernel_rfl) Tryz.ntmps55 (by simp) ?_
  unfold Tryz.f55
  (have hwq := trivial; repeat' (first | simp (maxSteps:=9999999)-implicitDefEqProofs only [go_sem,simprocAttr,hwq,FT3,FT5,FT23,FT24,FT25,FT26,FT27,FT29,FT32,FT34,FT35,FT37,FT46,FT59] | (refine condK_split ?_ ?_ <;> intro hwq) | (refine two_split ?_ ?_) | (refine guardK_split ?_ ?_ <;> intro hwq) | (refine guardE_split ?_ ?_ <;> intro hwq) | (refine awp_drawW [] (by decide +kernel) ?_; have hwq := trivial) | fail))
  refine awp_loopK (De55 p m) p.bs.length _ (Weak.trans (Weak.virt 6 2 (.inl rfl)) (Weak.cutI 3 [1, 2, 4, 6, 7] ?_ ?_)) ⟨0, [], _, rfl, by simp, by omega, rfl⟩ ?_
  · simp (maxSteps:=9999999)-implicitDefEqProofs only [simprocAttr,QH,Option.isSome,cond_true,cond_false,Option.bind,selB,V.rn,V.rns,Go.Ai.known,V.pz,V.pzs,T.toV,frz1,List.range,List.range.loop,ite_true,ite_false,if_true,if_false,ne_eq,implies_true,forall_const,eq_self,IntKind.bits,upd_tmsS,selT_cons,selT_nil,List.length_map,List.getElem?_map,Int.natCast_nonneg,List.length_append,List.map_append]
  · simp (maxSteps:=9999999)-implicitDefEqProofs only [simprocAttr,QH,Option.isSome,cond_true,cond_false,Option.bind,selB,V.rn,V.rns,Go.Ai.known,V.pz,V.pzs,T.toV,frz1,List.range,List.range.loop,ite_true,ite_false,if_true,if_false,ne_eq,implies_true,forall_const,eq_self,IntKind.bits,upd_tmsS,selT_cons,selT_nil]
  rintro kk S ⟨j, N, mv, rfl, hN, hj, rfl⟩
  have hNl : N.length ≤ p.bs.length := by rw [hN]; exact fil_le
  have zs : (N.length + 1) * 32 ≤ 140737488355328 := zz_of hNl l4 (by decide)
  have wj := wj_of hj l4
  by_cases hjl : j < p.bs.length
  · have hjl' : (j : Int) < (p.bs.length : Int) := Int.ofNat_lt.2 hjl
    have hgj : p.bs[j]? = some p.bs[j] := List.getElem?_eq_getElem hjl
    obtain ⟨y, hy⟩ : ∃ y, p.bs[j] = y := ⟨_, rfl⟩
    rw [hy] at hgj
    have hee := trivial
    cases hq : (y.v != m) with
    | true =>
      have hNx : N ++ [y] = (p.bs.take (j + 1)).filter (fun y : Mb => y.v != m) := by rw [fil_in hgj, hN, if_pos hq]
      (have hwq := trivial; repeat' (first | simp (maxSteps:=9999999)-implicitDefEqProofs only [go_sem,simprocAttr,hwq,FT3,FT5,FT23,FT24,FT25,FT26,FT27,FT29,FT32,FT34,FT35,FT37,FT46,FT59,List.length_map,List.getElem?_map,Int.natCast_nonneg,List.length_append,List.map_append,hjl',hgj,wj,zs,hee,hq] | (refine condK_split ?_ ?_ <;> intro hwq) | (refine two_split ?_ ?_) | (refine guardK_split ?_ ?_ <;> intro hwq) | (refine guardE_split ?_ ?_ <;> intro hwq) | (refine awp_drawW [] (by decide +kernel) ?_; have hwq := trivial) | fail))
      refine ⟨p.bs.length - (j + 1), _, st_of hjl, Weak.cutI 3 [1, 2, 4, 6, 7] ?_ ?_, j + 1, N ++ [y], _, rfl, hNx, hjl, rfl⟩
      · simp (maxSteps:=9999999)-implicitDefEqProofs only [simprocAttr,QH,Option.isSome,cond_true,cond_false,Option.bind,selB,V.rn,V.rns,Go.Ai.known,V.pz,V.pzs,T.toV,frz1,List.range,List.range.loop,ite_true,ite_false,if_true,if_false,ne_eq,implies_true,forall_const,eq_self,IntKind.bits,upd_tmsS,selT_cons,selT_nil,List.length_map,List.getElem?_map,Int.natCast_nonneg,List.length_append,List.map_append,List.length_cons,List.length_nil,List.map_cons,List.map_nil]
      · simp (maxSteps:=9999999)-implicitDefEqProofs only [simprocAttr,QH,Option.isSome,cond_true,cond_false,Option.bind,selB,V.rn,V.rns,Go.Ai.known,V.pz,V.pzs,T.toV,frz1,List.range,List.range.loop,ite_true,ite_false,if_true,if_false,ne_eq,implies_true,forall_const,eq_self,IntKind.bits,upd_tmsS,selT_cons,selT_nil,List.length_map,List.getElem?_map,Int.natCast_nonneg,List.length_append,List.map_append,List.length_cons,List.length_nil,List.map_cons,List.map_nil]
    | false =>
      have hNx : N = (p.bs.take (j + 1)).filter (fun y : Mb => y.v != m) := by rw [fil_in hgj, hN, if_neg (by rw [hq]; simp), List.append_nil]
      (have hwq := trivial; repeat' (first | simp (maxSteps:=9999999)-implicitDefEqProofs only [go_sem,simprocAttr,hwq,FT3,FT5,FT23,FT24,FT25,FT26,FT27,FT29,FT32,FT34,FT35,FT37,FT46,FT59,List.length_map,List.getElem?_map,Int.natCast_nonneg,List.length_append,List.map_append,hjl',hgj,wj,hee,hq] | (refine condK_split ?_ ?_ <;> intro hwq) | (refine two_split ?_ ?_) | (refine guardK_split ?_ ?_ <;> intro hwq) | (refine guardE_split ?_ ?_ <;> intro hwq) | (refine awp_drawW [] (by decide +kernel) ?_; have hwq := trivial) | fail))
      refine ⟨p.bs.length - (j + 1), _, st_of hjl, Weak.cutI 3 [1, 2, 4, 6, 7] ?_ ?_, j + 1, N, _, rfl, hNx, hjl, rfl⟩
      · simp (maxSteps:=9999999)-implicitDefEqProofs only [simprocAttr,QH,Option.isSome,cond_true,cond_false,Option.bind,selB,V.rn,V.rns,Go.Ai.known,V.pz,V.pzs,T.toV,frz1,List.range,List.range.loop,ite_true,ite_false,if_true,if_false,ne_eq,implies_true,forall_const,eq_self,IntKind.bits,upd_tmsS,selT_cons,selT_nil,List.length_map,List.getElem?_map,Int.natCast_nonneg,List.length_append,List.map_append]
      · simp (maxSteps:=9999999)-implicitDefEqProofs only [simprocAttr,QH,Option.isSome,cond_true,cond_false,Option.bind,selB,V.rn,V.rns,Go.Ai.known,V.pz,V.pzs,T.toV,frz1,List.range,List.range.loop,ite_true,ite_false,if_true,if_false,ne_eq,implies_true,forall_const,eq_self,IntKind.bits,upd_tmsS,selT_cons,selT_nil,List.length_map,List.getElem?_map,Int.natCast_nonneg,List.length_append,List.map_append]
  · have hjl' : ¬ (j : Int) < (p.bs.length : Int) := fun h => hjl (Int.ofNat_lt.1 h)
    rw [List.take_of_length_le (Nat.le_of_not_lt hjl), hFL] at hN
    rw [← hN] at dd ⊢
    have tk : List.take N.length (List.map mbT N) = List.map mbT N := List.take_of_length_le (by simp)
    by_cases h1 : N.length = p.bs.length
    · have h1' : ((N.length : Int) == (p.bs.length : Int)) = true := by simp [h1]
      rw [if_pos h1] at dd
      rw [dd, if_neg (by decide)]
      (have hwq := trivial; repeat' (first | simp (maxSteps:=9999999)-implicitDefEqProofs only [go_sem,simprocAttr,hwq,FT3,FT5,FT23,FT24,FT25,FT26,FT27,FT29,FT32,FT34,FT35,FT37,FT46,FT59,List.length_map,List.getElem?_map,Int.natCast_nonneg,List.length_append,List.map_append,hjl',h1'] | (refine condK_split ?_ ?_ <;> intro hwq) | (refine two_split ?_ ?_) | (refine guardK_split ?_ ?_ <;> intro hwq) | (refine guardE_split ?_ ?_ <;> intro hwq) | (refine awp_drawW [] (by decide +kernel) ?_; have hwq := trivial) | fail))
    · have h1' : ((N.length : Int) == (p.bs.length : Int)) = false := by simp; omega
      rw [if_neg h1] at dd
      by_cases h2 : A.length = 0
      · have h2' : ¬ (0 : Int) < (A.length : Int) := by rw [h2]; decide
        rw [if_pos h2] at dd
        rw [dd, if_pos rfl]
        (have hwq := trivial; repeat' (first | simp (maxSteps:=9999999)-implicitDefEqProofs only [go_sem,simprocAttr,hwq,FT3,FT5,FT23,FT24,FT25,FT26,FT27,FT29,FT32,FT34,FT35,FT37,FT46,FT59,List.length_map,List.getElem?_map,Int.natCast_nonneg,List.length_append,List.map_append,hjl',h1',h2',tk,Nat.le_refl] | (refine condK_split ?_ ?_ <;> intro hwq) | (refine two_split ?_ ?_) | (refine guardK_split ?_ ?_ <;> intro hwq) | (refine guardE_split ?_ ?_ <;> intro hwq) | (refine awp_drawW [] (by decide +kernel) ?_; have hwq := trivial) | (refine call_plain nu rfl rfl ?_; have hwq := trivial) | fail))
      · have h2' : (0 : Int) < (A.length : Int) := by omega
        rw [if_neg h2] at dd
        rw [dd, if_neg (by decide)]
        (have hwq := trivial; repeat' (first | simp (maxSteps:=9999999)-implicitDefEqProofs only [go_sem,simprocAttr,hwq,FT3,FT5,FT23,FT24,FT25,FT26,FT27,FT29,FT32,FT34,FT35,FT37,FT46,FT59,List.length_map,List.getElem?_map,Int.natCast_nonneg,List.length_append,List.map_append,hjl',h1',h2'] | (refine condK_split ?_ ?_ <;> intro hwq) | (refine two_split ?_ ?_) | (refine guardK_split ?_ ?_ <;> intro hwq) | (refine guardE_split ?_ ?_ <;> intro hwq) | (refine awp_drawW [] (by decide +kernel) ?_; have hwq := trivial) | (refine call_plain nu rfl rfl ?_; have hwq := trivial) | fail))
end Go.Ai

set_option linter.unusedVariables false
set_option linter.unusedSimpArgs false
set_option maxHeartbeats 8000000
set_option maxRecDepth 100000
namespace Go.Ai
open Go.Proofs
attribute [local go_sem] QH QR V.noimm V.noimms frzZs frzZ frzA frzV frzVs frzBox boxLen Option.isSome cond_true cond_false aopD calW flatV stepX amap stepY alookup afind aupdate adelete amlen arange ameq mapOf akeq pl V.mapT V.mapTs Option.bind stepK runK guardD stepE runD callD compact selB callK evS ofVal ofVals scalar aop ares mkRes V.rn V.rns V.cells? cellsAt Go.Ai.part aload astore setL V.atom abin aun intBin shiftBin aconv fieldOf aindexAddr aindex bound? aslice aarr abuild afill alen nilP nilS nilF aeq eqCells eqCell Go.Ai.known strBin abuiltin aappend abuildSlice arowsFill amakeSlice acopy aclear minmax rowsOf numsT notStr isIntD isByte V.pz V.pzs T.toV frz1 frz scalT scalTs chunkT List.range List.range.loop ite_true ite_false if_true if_false ne_eq implies_true forall_const eq_self IntKind.bits kPostKF_ret kPostKF_normal kPostX_ret kPostX_normal bsl nil2K nil2 kPostFW_ret kPostFW_normal kPostKM_ret kPostKM_normal kPostXK_ret kPostXK_normal
/-- One step of the loop that lays a member. -/
def stepM (m : Mb) (s : List Mb × Bool) (y : Mb) : List Mb × Bool :=
  if s.2 = false ∧ m.v ≤ y.v then (if m.v = y.v then s.1 ++ [m] else s.1 ++ [m] ++ [y], true) else (if m.v = y.v then s.1 else s.1 ++ [y], s.2)
def setF (m : Mb) (L : List Mb) : List Mb × Bool := L.foldl (stepM m) ([], false)
def setMbL (m : Mb) (L : List Mb) : List Mb := if (setF m L).2 = true then (setF m L).1 else (setF m L).1 ++ [m]
theorem setF_in {m : Mb} {L : List Mb} {j : Nat} {y : Mb} (h : L[j]? = some y) : setF m (L.take (j + 1)) = stepM m (setF m (L.take j)) y := by
  unfold setF
  rw [take_in h, List.foldl_append]
  rfl
theorem stepM_len (m : Mb) (s : List Mb × Bool) (y : Mb) : (stepM m s y).1.length ≤ s.1.length + 2 := by
  unfold stepM
  split <;> dsimp only <;> split <;> simp
theorem setF_len (m : Mb) : ∀ (L : List Mb) (s : List Mb × Bool), (L.foldl (stepM m) s).1.length ≤ s.1.length + 2 * L.length
  | [], s => by simp
  | y :: l, s => by
    rw [List.foldl_cons]
    have h1 := setF_len m l (stepM m s y)
    have h2 := stepM_len m s y
    simp only [List.length_cons]
    omega
def rMem (b1 b2 b3 b4 : Bool) (n : Int) : Int := if b1 = false ∨ b2 = false then 1 else if b3 = true then 5 else if b4 = false then 184 else if 64 < n then 3 else 0
def outK (ks : List Int) (x : Int) : Bool := !decide (0 ≤ x ∧ x < (ks.length : Int))
def refMemE (p : Pv) (m : Mb) : Int := rMem (decide (vidOk m.v)) (risB ltI m.l) (m.l.any (outK p.ks)) (!m.l.any fun x => kindP p.ks x != 2) (setMbL m p.bs).length
def Sa54 (p : Pv) (m : Mb) (n : Nat) (S : St) : Prop :=
  ∃ (j : Nat) (mv : List Nat), S = ⟨tms [(2, .ptr 0 0 0), (3, .ptr 1 0 0), (4, .ptr 2 0 0), (6, vI j)], [bxP p, .box [vI m.v, isV m.l] false, .box [.s (.int .u8 0), .s (.int .u8 0), .s (.int .u8 0), .s (.int .u8 0), .s (.int .u8 0), .s (.int .u8 0), .s (.slice none 0 0), .s (.slice none 0 0), .s (.slice none 0 0), .s (.slice none 0 0)] false], mv⟩ ∧ j ≤ m.l.length ∧ n = m.l.length - j ∧ ∀ x ∈ m.l.take j, outK p.ks x = false
def Sb54 (p : Pv) (m : Mb) (n : Nat) (S : St) : Prop :=
  ∃ (j : Nat) (N : List Mb) (b : Bool) (mv : List Nat), S = ⟨tms [(2, .ptr 0 0 0), (3, .ptr 1 0 0), (4, .ptr 2 0 0), (7, .own 4 0 N.length), (8, vB b), (9, vI j)], [bxP p, .box [vI m.v, .own 3 0 m.l.length] false, .box [.s (.int .u8 0), .s (.int .u8 0), .s (.int .u8 0), .s (.int .u8 0), .s (.int .u8 0), .s (.int .u8 0), .s (.slice none 0 0), .s (.slice none 0 0), .s (.slice none 0 0), .s (.slice none 0 0)] false, .rows 1 (m.l.map inT) b, .rows 2 (N.map mbT) false], mv⟩ ∧ setF m (p.bs.take j) = (N, b) ∧ j ≤ p.bs.length ∧ n = p.bs.length - j
theorem zm_of {n l k : Nat} (h : n ≤ 2 * l) (h2 : l ≤ 1000) (h3 : k ≤ 5) : (n + k) * 32 ≤ 140737488355328 :=
  Nat.le_trans (Nat.mul_le_mul_right 32 (by omega : n + k ≤ 2005)) (by omega)
theorem zi_of {l : Nat} (h : l ≤ 1000) : l * 8 ≤ 140737488355328 := by omega
theorem pc54 (p : Pv) (hp : okL p) (m : Mb) (hml : m.l.length ≤ 1000) : AC Tryz.prog 54 [pvV p, mbV m] [] (eqR (.tuple [pvV (if refMemE p m = 0 then { p with bs := setMbL m p.bs } else p), vI (refMemE p m)])) := by
  have n116 := pc116 m.v
  have n119 := pc119 m.l (Nat.le_trans hml (by decide))
  have n120 := pc120 p hp m.l hml 2 (by decide)
  obtain ⟨l1, l2, l3, l4, l5⟩ := hp
  have hd : refMemE p m = rMem (decide (vidOk m.v)) (risB ltI m.l) (m.l.any (outK p.ks)) (!m.l.any fun x => kindP p.ks x != 2) (setMbL m p.bs).length := rfl
  generalize decide (vidOk m.v) = m1 at n116 hd
  generalize risB ltI m.l = m2 at n119 hd
  generalize (!m.l.any fun x => kindP p.ks x != 2) = m4 at n120 hd
  obtain ⟨R, hR⟩ : ∃ R, V.tuple [pvV (if refMemE p m = 0 then { p with bs := setMbL m p.bs } else p), vI (refMemE p m)] = R := ⟨_, rfl⟩
  have fin : ∀ c : Int, refMemE p m = c → c ≠ 0 → V.tuple [pvV p, vI c] = R := fun c h hc => by rw [← hR, h, if_neg hc]
  have good : refMemE p m = 0 → V.tuple [pvV { p with bs := setMbL m p.bs }, vI 0] = R := fun h => by rw [← hR, h, if_pos rfl]
  rw [hR]
  refine AC_frozen orders Tryz.func54 rfl (by kernel_rfl) (by kernel_rfl) Tryz.ntmps54 (by simp) ?_
  unfold Tryz.f54
  cases m1 with
  | false =>
    have h1 := fin 1 (by rw [hd]; rfl) (by decide)
    rw [← h1]
    (have hwq := trivial; repeat' (first | simp (maxSteps:=9999999)-implicitDefEqProofs only [go_sem,simprocAttr,hwq,FT3,FT4,FT5,FT23,FT24,FT25,FT26,FT27,FT29,FT32,FT34,FT35,FT37,FT46,FT59,List.length_map,List.getElem?_map,Int.natCast_nonneg,List.length_append,List.map_append] | (refine condK_split ?_ ?_ <;> intro hwq) | (refine two_split ?_ ?_) | (refine guardK_split ?_ ?_ <;> intro hwq) | (refine guardE_split ?_ ?_ <;> intro hwq) | (refine awp_drawI 6 [] (List.range 17) [0, 1, 0, 7, 15, 31, 63, 127, 255, 127, 1023, 2047, 127, 4223, 12415, 32767, 65535] (by decide +kernel) ?_; have hwq := trivial) | (refine awp_drawW [] (by decide +kernel) ?_; have hwq := trivial) | (refine call_plain n116 rfl rfl ?_; have hwq := trivial) | (refine call_plain n119 rfl rfl ?_; have hwq := trivial) | fail))
  | true =>
  cases m2 with
  | false =>
    have h1 := fin 1 (by rw [hd]; rfl) (by decide)
    rw [← h1]
    (have hwq := trivial; repeat' (first | simp (maxSteps:=9999999)-implicitDefEqProofs only [go_sem,simprocAttr,hwq,FT3,FT4,FT5,FT23,FT24,FT25,FT26,FT27,FT29,FT32,FT34,FT35,FT37,FT46,FT59,List.length_map,List.getElem?_map,Int.natCast_nonneg,List.length_append,List.map_append] | (refine condK_split ?_ ?_ <;> intro hwq) | (refine two_split ?_ ?_) | (refine guardK_split ?_ ?_ <;> intro hwq) | (refine guardE_split ?_ ?_ <;> intro hwq) | (refine awp_drawI 6 [] (List.range 17) [0, 1, 0, 7, 15, 31, 63, 127, 255, 127, 1023, 2047, 127, 4223, 12415, 32767, 65535] (by decide +kernel) ?_; have hwq := trivial) | (refine awp_drawW [] (by decide +kernel) ?_; have hwq := trivial) | (refine call_plain n116 rfl rfl ?_; have hwq := trivial) | (refine call_plain n119 rfl rfl ?_; have hwq := trivial) | fail))
  | true =>
  (have hwq := trivial; repeat' (first | simp (maxSteps:=9999999)-implicitDefEqProofs only [go_sem,simprocAttr,hwq,FT3,FT4,FT5,FT23,FT24,FT25,FT26,FT27,FT29,FT32,FT34,FT35,FT37,FT46,FT59,List.length_map,List.getElem?_map,Int.natCast_nonneg,List.length_append,List.map_append] | (refine condK_split ?_ ?_ <;> intro hwq) | (refine two_split ?_ ?_) | (refine guardK_split ?_ ?_ <;> intro hwq) | (refine guardE_split ?_ ?_ <;> intro hwq) | (refine awp_drawI 6 [] (List.range 17) [0, 1, 0, 7, 15, 31, 63, 127, 255, 127, 1023, 2047, 127, 4223, 12415, 32767, 65535] (by decide +kernel) ?_; have hwq := trivial) | (refine awp_drawW [] (by decide +kernel) ?_; have hwq := trivial) | (refine call_plain n116 rfl rfl ?_; have hwq := trivial) | (refine call_plain n119 rfl rfl ?_; have hwq := trivial) | fail))
  refine awp_loopK (Sa54 p m) m.l.length _ (Weak.cutI 3 [2, 3, 4, 6] ?_ ?_) ⟨0, _, rfl, Nat.zero_le _, rfl, by simp⟩ ?_
  · simp (maxSteps:=9999999)-implicitDefEqProofs only [simprocAttr,QH,Option.isSome,cond_true,cond_false,Option.bind,selB,V.rn,V.rns,Go.Ai.known,V.pz,V.pzs,T.toV,frz1,List.range,List.range.loop,ite_true,ite_false,if_true,if_false,ne_eq,implies_true,forall_const,eq_self,IntKind.bits,upd_tmsS,selT_cons,selT_nil,List.length_map,List.getElem?_map,Int.natCast_nonneg,List.length_append,List.map_append]
  · simp (maxSteps:=9999999)-implicitDefEqProofs only [simprocAttr,QH,Option.isSome,cond_true,cond_false,Option.bind,selB,V.rn,V.rns,Go.Ai.known,V.pz,V.pzs,T.toV,frz1,List.range,List.range.loop,ite_true,ite_false,if_true,if_false,ne_eq,implies_true,forall_const,eq_self,IntKind.bits,upd_tmsS,selT_cons,selT_nil]
  rintro kk S ⟨j, mv, rfl, hj, rfl, hno⟩
  have wj := wj_of hj hml
  by_cases hjl : j < m.l.length
  · have hjl' : (j : Int) < (m.l.length : Int) := Int.ofNat_lt.2 hjl
    have hgj : m.l[j]? = some m.l[j] := List.getElem?_eq_getElem hjl
    obtain ⟨x, hx⟩ : ∃ x, m.l[j] = x := ⟨_, rfl⟩
    rw [hx] at hgj
    have bad : outK p.ks x = true → V.tuple [pvV p, vI 5] = R := fun h => fin 5 (by rw [hd, any_some hgj h]; rfl) (by decide)
    by_cases h1 : x < 0
    · rw [← bad (by unfold outK; rw [decide_eq_false (fun h => Int.not_le.2 h1 h.1)]; rfl)]
      (have hwq := trivial; repeat' (first | simp (maxSteps:=9999999)-implicitDefEqProofs only [go_sem,simprocAttr,hwq,FT3,FT4,FT5,FT23,FT24,FT25,FT26,FT27,FT29,FT32,FT34,FT35,FT37,FT46,FT59,List.length_map,List.getElem?_map,Int.natCast_nonneg,List.length_append,List.map_append,hjl',hgj,wj,h1] | (refine condK_split ?_ ?_ <;> intro hwq) | (refine two_split ?_ ?_) | (refine guardK_split ?_ ?_ <;> intro hwq) | (refine guardE_split ?_ ?_ <;> intro hwq) | (refine awp_drawI 6 [] (List.range 17) [0, 1, 0, 7, 15, 31, 63, 127, 255, 127, 1023, 2047, 127, 4223, 12415, 32767, 65535] (by decide +kernel) ?_; have hwq := trivial) | (refine awp_drawW [] (by decide +kernel) ?_; have hwq := trivial) | fail))
    · by_cases h2 : (p.ks.length : Int) ≤ x
      · rw [← bad (by unfold outK; rw [decide_eq_false (fun h => Int.not_le.2 h.2 h2)]; rfl)]
        (have hwq := trivial; repeat' (first | simp (maxSteps:=9999999)-implicitDefEqProofs only [go_sem,simprocAttr,hwq,FT3,FT4,FT5,FT23,FT24,FT25,FT26,FT27,FT29,FT32,FT34,FT35,FT37,FT46,FT59,List.length_map,List.getElem?_map,Int.natCast_nonneg,List.length_append,List.map_append,hjl',hgj,wj,h1,h2] | (refine condK_split ?_ ?_ <;> intro hwq) | (refine two_split ?_ ?_) | (refine guardK_split ?_ ?_ <;> intro hwq) | (refine guardE_split ?_ ?_ <;> intro hwq) | (refine awp_drawI 6 [] (List.range 17) [0, 1, 0, 7, 15, 31, 63, 127, 255, 127, 1023, 2047, 127, 4223, 12415, 32767, 65535] (by decide +kernel) ?_; have hwq := trivial) | (refine awp_drawW [] (by decide +kernel) ?_; have hwq := trivial) | fail))
      · have ho : outK p.ks x = false := by unfold outK; rw [decide_eq_true ⟨Int.not_lt.1 h1, Int.not_le.1 h2⟩]; rfl
        (have hwq := trivial; repeat' (first | simp (maxSteps:=9999999)-implicitDefEqProofs only [go_sem,simprocAttr,hwq,FT3,FT4,FT5,FT23,FT24,FT25,FT26,FT27,FT29,FT32,FT34,FT35,FT37,FT46,FT59,List.length_map,List.getElem?_map,Int.natCast_nonneg,List.length_append,List.map_append,hjl',hgj,wj,h1,h2] | (refine condK_split ?_ ?_ <;> intro hwq) | (refine two_split ?_ ?_) | (refine guardK_split ?_ ?_ <;> intro hwq) | (refine guardE_split ?_ ?_ <;> intro hwq) | (refine awp_drawI 6 [] (List.range 17) [0, 1, 0, 7, 15, 31, 63, 127, 255, 127, 1023, 2047, 127, 4223, 12415, 32767, 65535] (by decide +kernel) ?_; have hwq := trivial) | (refine awp_drawW [] (by decide +kernel) ?_; have hwq := trivial) | fail))
        refine ⟨m.l.length - (j + 1), _, st_of hjl, Weak.cutI 3 [2, 3, 4, 6] ?_ ?_, j + 1, _, rfl, hjl, rfl, take_more hno hgj ho⟩
        · simp (maxSteps:=9999999)-implicitDefEqProofs only [simprocAttr,QH,Option.isSome,cond_true,cond_false,Option.bind,selB,V.rn,V.rns,Go.Ai.known,V.pz,V.pzs,T.toV,frz1,List.range,List.range.loop,ite_true,ite_false,if_true,if_false,ne_eq,implies_true,forall_const,eq_self,IntKind.bits,upd_tmsS,selT_cons,selT_nil,List.length_map,List.getElem?_map,Int.natCast_nonneg,List.length_append,List.map_append]
        · simp (maxSteps:=9999999)-implicitDefEqProofs only [simprocAttr,QH,Option.isSome,cond_true,cond_false,Option.bind,selB,V.rn,V.rns,Go.Ai.known,V.pz,V.pzs,T.toV,frz1,List.range,List.range.loop,ite_true,ite_false,if_true,if_false,ne_eq,implies_true,forall_const,eq_self,IntKind.bits,upd_tmsS,selT_cons,selT_nil,List.length_map,List.getElem?_map,Int.natCast_nonneg,List.length_append,List.map_append]
  · have hjl' : ¬ (j : Int) < (m.l.length : Int) := fun h => hjl (Int.ofNat_lt.1 h)
    rw [List.take_of_length_le (Nat.le_of_not_lt hjl)] at hno
    rw [any_none hno] at hd
    cases m4 with
    | false =>
      have h1 := fin 184 (by rw [hd]; rfl) (by decide)
      rw [← h1]
      (have hwq := trivial; repeat' (first | simp (maxSteps:=9999999)-implicitDefEqProofs only [go_sem,simprocAttr,hwq,FT3,FT4,FT5,FT23,FT24,FT25,FT26,FT27,FT29,FT32,FT34,FT35,FT37,FT46,FT59,List.length_map,List.getElem?_map,Int.natCast_nonneg,List.length_append,List.map_append,hjl'] | (refine condK_split ?_ ?_ <;> intro hwq) | (refine two_split ?_ ?_) | (refine guardK_split ?_ ?_ <;> intro hwq) | (refine guardE_split ?_ ?_ <;> intro hwq) | (refine awp_drawI 6 [] (List.range 17) [0, 1, 0, 7, 15, 31, 63, 127, 255, 127, 1023, 2047, 127, 4223, 12415, 32767, 65535] (by decide +kernel) ?_; have hwq := trivial) | (refine awp_drawW [] (by decide +kernel) ?_; have hwq := trivial) | (refine call_plain n120 rfl rfl ?_; have hwq := trivial) | fail))
    | true =>
    have zi := zi_of hml
    have tki : List.take m.l.length (List.map inT m.l) = List.map inT m.l := List.take_of_length_le (by simp)
    (have hwq := trivial; repeat' (first | simp (maxSteps:=9999999)-implicitDefEqProofs only [go_sem,simprocAttr,hwq,FT3,FT4,FT5,FT23,FT24,FT25,FT26,FT27,FT29,FT32,FT34,FT35,FT37,FT46,FT59,List.length_map,List.getElem?_map,Int.natCast_nonneg,List.length_append,List.map_append,hjl',zi,List.nil_append] | (refine condK_split ?_ ?_ <;> intro hwq) | (refine two_split ?_ ?_) | (refine guardK_split ?_ ?_ <;> intro hwq) | (refine guardE_split ?_ ?_ <;> intro hwq) | (refine awp_drawI 6 [] (List.range 17) [0, 1, 0, 7, 15, 31, 63, 127, 255, 127, 1023, 2047, 127, 4223, 12415, 32767, 65535] (by decide +kernel) ?_; have hwq := trivial) | (refine awp_drawW [] (by decide +kernel) ?_; have hwq := trivial) | (refine call_plain n120 rfl rfl ?_; have hwq := trivial) | fail))
    refine awp_loopK (Sb54 p m) p.bs.length _ (Weak.trans (Weak.virt 7 2 (.inl rfl)) (Weak.selI [0, 1, 2, 3, 4] [2, 3, 4, 7, 8, 9] (by decide) ?_ ?_)) ⟨0, [], false, _, rfl, rfl, Nat.zero_le _, rfl⟩ ?_
    · simp (maxSteps:=9999999)-implicitDefEqProofs only [simprocAttr,QH,Option.isSome,cond_true,cond_false,Option.bind,selB,V.rn,V.rns,Go.Ai.known,V.pz,V.pzs,T.toV,frz1,List.range,List.range.loop,ite_true,ite_false,if_true,if_false,ne_eq,implies_true,forall_const,eq_self,IntKind.bits,upd_tmsS,selT_cons,selT_nil,List.length_map,List.getElem?_map,Int.natCast_nonneg,List.length_append,List.map_append,selF_cons,selF_nil]
    · simp (maxSteps:=9999999)-implicitDefEqProofs only [simprocAttr,QH,Option.isSome,cond_true,cond_false,Option.bind,selB,V.rn,V.rns,Go.Ai.known,V.pz,V.pzs,T.toV,frz1,List.range,List.range.loop,ite_true,ite_false,if_true,if_false,ne_eq,implies_true,forall_const,eq_self,IntKind.bits,upd_tmsS,selT_cons,selT_nil,List.length_map,List.getElem?_map,Int.natCast_nonneg,List.length_append,List.map_append]
    rintro kk S ⟨j, N, b, mv, rfl, hI, hj, rfl⟩
    have hlen : N.length ≤ 2 * p.bs.length := by
      have h1 := setF_len m (p.bs.take j) ([], false)
      have h2 : N = ((p.bs.take j).foldl (stepM m) ([], false)).1 := by unfold setF at hI; rw [hI]
      rw [← h2, List.length_take] at h1
      simp only [List.length_nil] at h1
      omega
    have zs := zm_of hlen l4 (by decide : 1 ≤ 5)
    have zt := zm_of hlen l4 (by decide : 2 ≤ 5)
    have zt' : (N.length + 1 + 1) * 32 ≤ 140737488355328 := zt
    have wj := wj_of hj l4
    by_cases hjl : j < p.bs.length
    · have hjl' : (j : Int) < (p.bs.length : Int) := Int.ofNat_lt.2 hjl
      have hgj : p.bs[j]? = some p.bs[j] := List.getElem?_eq_getElem hjl
      obtain ⟨y, hy⟩ : ∃ y, p.bs[j] = y := ⟨_, rfl⟩
      rw [hy] at hgj
      have hz := trivial
      cases b with
      | true =>
        by_cases hv : m.v = y.v
        · have hq : (m.v != y.v) = false := by simp [hv]
          have hnx : setF m (p.bs.take (j + 1)) = (N, true) := by rw [setF_in hgj, hI]; unfold stepM; simp [hv]
          (have hwq := trivial; repeat' (first | simp (maxSteps:=9999999)-implicitDefEqProofs only [go_sem,simprocAttr,hwq,FT3,FT4,FT5,FT23,FT24,FT25,FT26,FT27,FT29,FT32,FT34,FT35,FT37,FT46,FT59,List.length_map,List.getElem?_map,Int.natCast_nonneg,List.length_append,List.map_append,hjl',hgj,wj,hq] | (refine condK_split ?_ ?_ <;> intro hwq) | (refine two_split ?_ ?_) | (refine guardK_split ?_ ?_ <;> intro hwq) | (refine guardE_split ?_ ?_ <;> intro hwq) | (refine awp_drawI 6 [] (List.range 17) [0, 1, 0, 7, 15, 31, 63, 127, 255, 127, 1023, 2047, 127, 4223, 12415, 32767, 65535] (by decide +kernel) ?_; have hwq := trivial) | (refine awp_drawW [] (by decide +kernel) ?_; have hwq := trivial) | fail))
          refine ⟨p.bs.length - (j + 1), _, st_of hjl, Weak.selI [0, 1, 2, 3, 4] [2, 3, 4, 7, 8, 9] (by decide) ?_ ?_, j + 1, N, true, _, rfl, hnx, hjl, rfl⟩
          · simp (maxSteps:=9999999)-implicitDefEqProofs only [simprocAttr,QH,Option.isSome,cond_true,cond_false,Option.bind,selB,V.rn,V.rns,Go.Ai.known,V.pz,V.pzs,T.toV,frz1,List.range,List.range.loop,ite_true,ite_false,if_true,if_false,ne_eq,implies_true,forall_const,eq_self,IntKind.bits,upd_tmsS,selT_cons,selT_nil,List.length_map,List.getElem?_map,Int.natCast_nonneg,List.length_append,List.map_append,selF_cons,selF_nil,tki,List.length_cons,List.length_nil,List.map_cons,List.map_nil]
          · simp (maxSteps:=9999999)-implicitDefEqProofs only [simprocAttr,QH,Option.isSome,cond_true,cond_false,Option.bind,selB,V.rn,V.rns,Go.Ai.known,V.pz,V.pzs,T.toV,frz1,List.range,List.range.loop,ite_true,ite_false,if_true,if_false,ne_eq,implies_true,forall_const,eq_self,IntKind.bits,upd_tmsS,selT_cons,selT_nil,List.length_map,List.getElem?_map,Int.natCast_nonneg,List.length_append,List.map_append,selF_cons,selF_nil,tki,List.length_cons,List.length_nil,List.map_cons,List.map_nil]
        · have hq : (m.v != y.v) = true := by simp [hv]
          have hnx : setF m (p.bs.take (j + 1)) = (N ++ [y], true) := by rw [setF_in hgj, hI]; unfold stepM; simp [hv]
          (have hwq := trivial; repeat' (first | simp (maxSteps:=9999999)-implicitDefEqProofs only [go_sem,simprocAttr,hwq,FT3,FT4,FT5,FT23,FT24,FT25,FT26,FT27,FT29,FT32,FT34,FT35,FT37,FT46,FT59,List.length_map,List.getElem?_map,Int.natCast_nonneg,List.length_append,List.map_append,hjl',hgj,wj,zs,hq] | (refine condK_split ?_ ?_ <;> intro hwq) | (refine two_split ?_ ?_) | (refine guardK_split ?_ ?_ <;> intro hwq) | (refine guardE_split ?_ ?_ <;> intro hwq) | (refine awp_drawI 6 [] (List.range 17) [0, 1, 0, 7, 15, 31, 63, 127, 255, 127, 1023, 2047, 127, 4223, 12415, 32767, 65535] (by decide +kernel) ?_; have hwq := trivial) | (refine awp_drawW [] (by decide +kernel) ?_; have hwq := trivial) | fail))
          refine ⟨p.bs.length - (j + 1), _, st_of hjl, Weak.selI [0, 1, 2, 3, 4] [2, 3, 4, 7, 8, 9] (by decide) ?_ ?_, j + 1, N ++ [y], true, _, rfl, hnx, hjl, rfl⟩
          · simp (maxSteps:=9999999)-implicitDefEqProofs only [simprocAttr,QH,Option.isSome,cond_true,cond_false,Option.bind,selB,V.rn,V.rns,Go.Ai.known,V.pz,V.pzs,T.toV,frz1,List.range,List.range.loop,ite_true,ite_false,if_true,if_false,ne_eq,implies_true,forall_const,eq_self,IntKind.bits,upd_tmsS,selT_cons,selT_nil,List.length_map,List.getElem?_map,Int.natCast_nonneg,List.length_append,List.map_append,selF_cons,selF_nil,tki,List.length_cons,List.length_nil,List.map_cons,List.map_nil]
          · simp (maxSteps:=9999999)-implicitDefEqProofs only [simprocAttr,QH,Option.isSome,cond_true,cond_false,Option.bind,selB,V.rn,V.rns,Go.Ai.known,V.pz,V.pzs,T.toV,frz1,List.range,List.range.loop,ite_true,ite_false,if_true,if_false,ne_eq,implies_true,forall_const,eq_self,IntKind.bits,upd_tmsS,selT_cons,selT_nil,List.length_map,List.getElem?_map,Int.natCast_nonneg,List.length_append,List.map_append,selF_cons,selF_nil,tki,List.length_cons,List.length_nil,List.map_cons,List.map_nil]
      | false =>
        by_cases hb : m.v ≤ y.v
        · by_cases hv : m.v = y.v
          · have hq : (m.v != y.v) = false := by simp [hv]
            have hnx : setF m (p.bs.take (j + 1)) = (N ++ [m], true) := by rw [setF_in hgj, hI]; unfold stepM; simp [hv]
            (have hwq := trivial; repeat' (first | simp (maxSteps:=9999999)-implicitDefEqProofs only [go_sem,simprocAttr,hwq,FT3,FT4,FT5,FT23,FT24,FT25,FT26,FT27,FT29,FT32,FT34,FT35,FT37,FT46,FT59,List.length_map,List.getElem?_map,Int.natCast_nonneg,List.length_append,List.map_append,hjl',hgj,wj,zs,hq,hb,List.length_cons,List.length_nil,List.map_cons,List.map_nil] | (refine condK_split ?_ ?_ <;> intro hwq) | (refine two_split ?_ ?_) | (refine guardK_split ?_ ?_ <;> intro hwq) | (refine guardE_split ?_ ?_ <;> intro hwq) | (refine awp_drawI 6 [] (List.range 17) [0, 1, 0, 7, 15, 31, 63, 127, 255, 127, 1023, 2047, 127, 4223, 12415, 32767, 65535] (by decide +kernel) ?_; have hwq := trivial) | (refine awp_drawW [] (by decide +kernel) ?_; have hwq := trivial) | fail))
            refine ⟨p.bs.length - (j + 1), _, st_of hjl, Weak.selI [0, 1, 2, 3, 4] [2, 3, 4, 7, 8, 9] (by decide) ?_ ?_, j + 1, N ++ [m], true, _, rfl, hnx, hjl, rfl⟩
            · simp (maxSteps:=9999999)-implicitDefEqProofs only [simprocAttr,QH,Option.isSome,cond_true,cond_false,Option.bind,selB,V.rn,V.rns,Go.Ai.known,V.pz,V.pzs,T.toV,frz1,List.range,List.range.loop,ite_true,ite_false,if_true,if_false,ne_eq,implies_true,forall_const,eq_self,IntKind.bits,upd_tmsS,selT_cons,selT_nil,List.length_map,List.getElem?_map,Int.natCast_nonneg,List.length_append,List.map_append,selF_cons,selF_nil,tki,List.length_cons,List.length_nil,List.map_cons,List.map_nil]
            · simp (maxSteps:=9999999)-implicitDefEqProofs only [simprocAttr,QH,Option.isSome,cond_true,cond_false,Option.bind,selB,V.rn,V.rns,Go.Ai.known,V.pz,V.pzs,T.toV,frz1,List.range,List.range.loop,ite_true,ite_false,if_true,if_false,ne_eq,implies_true,forall_const,eq_self,IntKind.bits,upd_tmsS,selT_cons,selT_nil,List.length_map,List.getElem?_map,Int.natCast_nonneg,List.length_append,List.map_append,selF_cons,selF_nil,tki,List.length_cons,List.length_nil,List.map_cons,List.map_nil]
          · have hq : (m.v != y.v) = true := by simp [hv]
            have hnx : setF m (p.bs.take (j + 1)) = (N ++ [m] ++ [y], true) := by rw [setF_in hgj, hI]; unfold stepM; simp [hv, hb]
            (have hwq := trivial; repeat' (first | simp (maxSteps:=9999999)-implicitDefEqProofs only [go_sem,simprocAttr,hwq,FT3,FT4,FT5,FT23,FT24,FT25,FT26,FT27,FT29,FT32,FT34,FT35,FT37,FT46,FT59,List.length_map,List.getElem?_map,Int.natCast_nonneg,List.length_append,List.map_append,hjl',hgj,wj,zs,zt,zt',hq,hb,List.length_cons,List.length_nil,List.map_cons,List.map_nil] | (refine condK_split ?_ ?_ <;> intro hwq) | (refine two_split ?_ ?_) | (refine guardK_split ?_ ?_ <;> intro hwq) | (refine guardE_split ?_ ?_ <;> intro hwq) | (refine awp_drawI 6 [] (List.range 17) [0, 1, 0, 7, 15, 31, 63, 127, 255, 127, 1023, 2047, 127, 4223, 12415, 32767, 65535] (by decide +kernel) ?_; have hwq := trivial) | (refine awp_drawW [] (by decide +kernel) ?_; have hwq := trivial) | fail))
            refine ⟨p.bs.length - (j + 1), _, st_of hjl, Weak.selI [0, 1, 2, 3, 4] [2, 3, 4, 7, 8, 9] (by decide) ?_ ?_, j + 1, N ++ [m] ++ [y], true, _, rfl, hnx, hjl, rfl⟩
            · simp (maxSteps:=9999999)-implicitDefEqProofs only [simprocAttr,QH,Option.isSome,cond_true,cond_false,Option.bind,selB,V.rn,V.rns,Go.Ai.known,V.pz,V.pzs,T.toV,frz1,List.range,List.range.loop,ite_true,ite_false,if_true,if_false,ne_eq,implies_true,forall_const,eq_self,IntKind.bits,upd_tmsS,selT_cons,selT_nil,List.length_map,List.getElem?_map,Int.natCast_nonneg,List.length_append,List.map_append,selF_cons,selF_nil,tki,List.length_cons,List.length_nil,List.map_cons,List.map_nil]
            · simp (maxSteps:=9999999)-implicitDefEqProofs only [simprocAttr,QH,Option.isSome,cond_true,cond_false,Option.bind,selB,V.rn,V.rns,Go.Ai.known,V.pz,V.pzs,T.toV,frz1,List.range,List.range.loop,ite_true,ite_false,if_true,if_false,ne_eq,implies_true,forall_const,eq_self,IntKind.bits,upd_tmsS,selT_cons,selT_nil,List.length_map,List.getElem?_map,Int.natCast_nonneg,List.length_append,List.map_append,selF_cons,selF_nil,tki,List.length_cons,List.length_nil,List.map_cons,List.map_nil]
        · have hv : ¬ m.v = y.v := fun h => hb (h ▸ Int.le_refl _)
          have hq : (m.v != y.v) = true := by simp [hv]
          have hnx : setF m (p.bs.take (j + 1)) = (N ++ [y], false) := by rw [setF_in hgj, hI]; unfold stepM; simp [hv, hb]
          (have hwq := trivial; repeat' (first | simp (maxSteps:=9999999)-implicitDefEqProofs only [go_sem,simprocAttr,hwq,FT3,FT4,FT5,FT23,FT24,FT25,FT26,FT27,FT29,FT32,FT34,FT35,FT37,FT46,FT59,List.length_map,List.getElem?_map,Int.natCast_nonneg,List.length_append,List.map_append,hjl',hgj,wj,zs,hq,hb] | (refine condK_split ?_ ?_ <;> intro hwq) | (refine two_split ?_ ?_) | (refine guardK_split ?_ ?_ <;> intro hwq) | (refine guardE_split ?_ ?_ <;> intro hwq) | (refine awp_drawI 6 [] (List.range 17) [0, 1, 0, 7, 15, 31, 63, 127, 255, 127, 1023, 2047, 127, 4223, 12415, 32767, 65535] (by decide +kernel) ?_; have hwq := trivial) | (refine awp_drawW [] (by decide +kernel) ?_; have hwq := trivial) | fail))
          refine ⟨p.bs.length - (j + 1), _, st_of hjl, Weak.selI [0, 1, 2, 3, 4] [2, 3, 4, 7, 8, 9] (by decide) ?_ ?_, j + 1, N ++ [y], false, _, rfl, hnx, hjl, rfl⟩
          · simp (maxSteps:=9999999)-implicitDefEqProofs only [simprocAttr,QH,Option.isSome,cond_true,cond_false,Option.bind,selB,V.rn,V.rns,Go.Ai.known,V.pz,V.pzs,T.toV,frz1,List.range,List.range.loop,ite_true,ite_false,if_true,if_false,ne_eq,implies_true,forall_const,eq_self,IntKind.bits,upd_tmsS,selT_cons,selT_nil,List.length_map,List.getElem?_map,Int.natCast_nonneg,List.length_append,List.map_append,selF_cons,selF_nil,tki,List.length_cons,List.length_nil,List.map_cons,List.map_nil]
          · simp (maxSteps:=9999999)-implicitDefEqProofs only [simprocAttr,QH,Option.isSome,cond_true,cond_false,Option.bind,selB,V.rn,V.rns,Go.Ai.known,V.pz,V.pzs,T.toV,frz1,List.range,List.range.loop,ite_true,ite_false,if_true,if_false,ne_eq,implies_true,forall_const,eq_self,IntKind.bits,upd_tmsS,selT_cons,selT_nil,List.length_map,List.getElem?_map,Int.natCast_nonneg,List.length_append,List.map_append,selF_cons,selF_nil,tki,List.length_cons,List.length_nil,List.map_cons,List.map_nil]
    · have hjl' : ¬ (j : Int) < (p.bs.length : Int) := fun h => hjl (Int.ofNat_lt.1 h)
      rw [List.take_of_length_le (Nat.le_of_not_lt hjl)] at hI
      have hset : setMbL m p.bs = if b = true then N else N ++ [m] := by unfold setMbL; rw [hI]
      have hd' : refMemE p m = if 64 < ((setMbL m p.bs).length : Int) then 3 else 0 := by rw [hd]; rfl
      cases b with
      | true =>
        rw [if_pos rfl] at hset
        rw [hset] at hd'
        have tk : List.take N.length (List.map mbT N) = List.map mbT N := List.take_of_length_le (by simp)
        by_cases hn : (64 : Int) < (N.length : Int)
        · rw [← fin 3 (by rw [hd', if_pos hn]) (by decide)]
          (have hwq := trivial; repeat' (first | simp (maxSteps:=9999999)-implicitDefEqProofs only [go_sem,simprocAttr,hwq,FT3,FT4,FT5,FT23,FT24,FT25,FT26,FT27,FT29,FT32,FT34,FT35,FT37,FT46,FT59,List.length_map,List.getElem?_map,Int.natCast_nonneg,List.length_append,List.map_append,hjl',hn] | (refine condK_split ?_ ?_ <;> intro hwq) | (refine two_split ?_ ?_) | (refine guardK_split ?_ ?_ <;> intro hwq) | (refine guardE_split ?_ ?_ <;> intro hwq) | (refine awp_drawI 6 [] (List.range 17) [0, 1, 0, 7, 15, 31, 63, 127, 255, 127, 1023, 2047, 127, 4223, 12415, 32767, 65535] (by decide +kernel) ?_; have hwq := trivial) | (refine awp_drawW [] (by decide +kernel) ?_; have hwq := trivial) | fail))
        · rw [← good (by rw [hd', if_neg hn]), hset]
          (have hwq := trivial; repeat' (first | simp (maxSteps:=9999999)-implicitDefEqProofs only [go_sem,simprocAttr,hwq,FT3,FT4,FT5,FT23,FT24,FT25,FT26,FT27,FT29,FT32,FT34,FT35,FT37,FT46,FT59,List.length_map,List.getElem?_map,Int.natCast_nonneg,List.length_append,List.map_append,hjl',hn,tk,Nat.le_refl] | (refine condK_split ?_ ?_ <;> intro hwq) | (refine two_split ?_ ?_) | (refine guardK_split ?_ ?_ <;> intro hwq) | (refine guardE_split ?_ ?_ <;> intro hwq) | (refine awp_drawI 6 [] (List.range 17) [0, 1, 0, 7, 15, 31, 63, 127, 255, 127, 1023, 2047, 127, 4223, 12415, 32767, 65535] (by decide +kernel) ?_; have hwq := trivial) | (refine awp_drawW [] (by decide +kernel) ?_; have hwq := trivial) | fail))
      | false =>
        rw [if_neg (by simp)] at hset
        rw [hset] at hd'
        have hNl : ((N ++ [m]).length : Int) = (N.length : Int) + 1 := by simp
        rw [hNl] at hd'
        obtain ⟨X, hX⟩ : ∃ X, List.map mbT N ++ [mbT m] = X := ⟨_, rfl⟩
        have hXk : List.map mbT N ++ [[T.s (.int .i64 m.v), T.sl 1 (List.take m.l.length (List.map inT m.l))]] = X := by rw [tki]; exact hX
        have hX2 : List.map mbT (N ++ [m]) = X := by rw [← hX, List.map_append]; rfl
        have hXl : X.length = N.length + 1 := by rw [← hX]; simp
        have tk : List.take (N.length + 1) X = X := List.take_of_length_le (le_of_sl hXl)
        by_cases hn : (64 : Int) < (N.length : Int) + 1
        · rw [← fin 3 (by rw [hd', if_pos hn]) (by decide)]
          (have hwq := trivial; repeat' (first | simp (maxSteps:=9999999)-implicitDefEqProofs only [go_sem,simprocAttr,hwq,FT3,FT4,FT5,FT23,FT24,FT25,FT26,FT27,FT29,FT32,FT34,FT35,FT37,FT46,FT59,List.length_map,List.getElem?_map,Int.natCast_nonneg,List.length_append,List.map_append,hjl',zs,hn] | (refine condK_split ?_ ?_ <;> intro hwq) | (refine two_split ?_ ?_) | (refine guardK_split ?_ ?_ <;> intro hwq) | (refine guardE_split ?_ ?_ <;> intro hwq) | (refine awp_drawI 6 [] (List.range 17) [0, 1, 0, 7, 15, 31, 63, 127, 255, 127, 1023, 2047, 127, 4223, 12415, 32767, 65535] (by decide +kernel) ?_; have hwq := trivial) | (refine awp_drawW [] (by decide +kernel) ?_; have hwq := trivial) | fail))
        · rw [← good (by rw [hd', if_neg hn]), hset]
          rw [show pvV { p with bs := N ++ [m] } = .agg [.s (.int .u8 p.own.a), .s (.int .u8 p.own.b), .s (.int .u8 p.own.c), .s (.int .u8 p.own.d), .s (.int .u8 p.own.e), .s (.int .u8 p.own.f), isV p.ks, msV p.ms, csV p.cs, .sl 2 X] from by rw [← hX2]]
          (have hwq := trivial; repeat' (first | simp (maxSteps:=9999999)-implicitDefEqProofs only [go_sem,simprocAttr,hwq,FT3,FT4,FT5,FT23,FT24,FT25,FT26,FT27,FT29,FT32,FT34,FT35,FT37,FT46,FT59,List.length_map,List.getElem?_map,Int.natCast_nonneg,List.length_append,List.map_append,hjl',zs,hn,hX,hXk,hXl,tk,Nat.le_refl] | (refine condK_split ?_ ?_ <;> intro hwq) | (refine two_split ?_ ?_) | (refine guardK_split ?_ ?_ <;> intro hwq) | (refine guardE_split ?_ ?_ <;> intro hwq) | (refine awp_drawI 6 [] (List.range 17) [0, 1, 0, 7, 15, 31, 63, 127, 255, 127, 1023, 2047, 127, 4223, 12415, 32767, 65535] (by decide +kernel) ?_; have hwq := trivial) | (refine awp_drawW [] (by decide +kernel) ?_; have hwq := trivial) | fail))
end Go.Ai
