/- Contracts of functions of the loaded program: called with data in the ranges that each names, it returns this value and writes to no old memory. -/
import Derived.Test.YtbiolkmddpkheaaGreatPrvH
set_option linter.unusedVariables false
set_option linter.unusedSimpArgs false
set_option maxHeartbeats 8000000
set_option maxRecDepth 100000
namespace Go.Ai
open Go.Proofs
attribute [local go_sem] QH QR V.noimm V.noimms frzZs frzZ frzA frzV frzVs frzBox boxLen Option.isSome cond_true cond_false aopD calW flatV stepX amap stepY alookup afind aupdate adelete amlen arange ameq mapOf akeq pl V.mapT V.mapTs Option.bind stepK runK guardD stepE runD callD compact selB callK evS ofVal ofVals scalar aop ares mkRes V.rn V.rns V.cells? cellsAt Go.Ai.part aload astore setL V.atom abin aun intBin shiftBin aconv fieldOf aindexAddr aindex bound? aslice aarr abuild afill alen nilP nilS nilF aeq eqCells eqCell Go.Ai.known strBin abuiltin aappend abuildSlice arowsFill amakeSlice acopy aclear minmax rowsOf numsT notStr isIntD isByte V.pz V.pzs T.toV frz1 frz scalT scalTs chunkT List.range List.range.loop ite_true ite_false if_true if_false ne_eq implies_true forall_const eq_self IntKind.bits kPostKF_ret kPostKF_normal kPostX_ret kPostX_normal bsl nil2K nil2 kPostFW_ret kPostFW_normal kPostKM_ret kPostKM_normal kPostXK_ret kPostXK_normal
def rf21 (p : Pv) (a b : Int) : V := match p.ms.find? (fun x => x.p == a && x.v == b) with
  | some x => .tuple [vI x.s, vB true]
  | none => .tuple [vI 0, vB false]
def Fi21 (p : Pv) (a b : Int) (n : Nat) (S : St) : Prop :=
  ∃ (j : Nat) (mv : List Nat), S = ⟨tms [(1, vI a), (2, vI b), (3, .ptr 0 0 0), (8, vI j)], [bxP p], mv⟩ ∧ j ≤ p.ms.length ∧ n = p.ms.length - j ∧ ∀ y ∈ p.ms.take j, (fun x : Mp => x.p == a && x.v == b) y = false
theorem pq21 (p : Pv) (hp : okL p) (a b : Int) : AC Tryz.prog 21 [pvV p, vI a, vI b] [] (eqR (rf21 p a b)) := by
  obtain ⟨l1, l2, l3, l4, l5⟩ := hp
  unfold rf21
  refine AC_plain orders Tryz.func21 rfl (by kernel_rfl) (by kernel_rfl) Tryz.ntmps21 (by simp) ?_
  unfold Tryz.f21
  (have hwq := trivial; repeat' (first | simp (maxSteps:=9999999)-implicitDefEqProofs only [go_sem,simprocAttr,hwq,FT3,FT4,FT5,FT23,FT24,FT25,FT26,FT27,FT29,FT32,FT34,FT35,FT37,FT59] | (refine condK_split ?_ ?_ <;> intro hwq) | (refine two_split ?_ ?_) | (refine guardK_split ?_ ?_ <;> intro hwq) | (refine guardE_split ?_ ?_ <;> intro hwq) | (refine awp_drawW [] (by decide +kernel) ?_; have hwq := trivial) | fail))
  refine awp_loopK (Fi21 p a b) p.ms.length _ (Weak.cutI 1 [1, 2, 3, 8] ?_ ?_) ⟨0, _, rfl, by omega, rfl, by simp⟩ ?_
  · simp (maxSteps:=9999999)-implicitDefEqProofs only [simprocAttr,QH,Option.isSome,cond_true,cond_false,Option.bind,selB,V.rn,V.rns,Go.Ai.known,V.pz,V.pzs,T.toV,frz1,List.range,List.range.loop,ite_true,ite_false,if_true,if_false,ne_eq,implies_true,forall_const,eq_self,IntKind.bits,upd_tmsS,selT_cons,selT_nil]
  · simp (maxSteps:=9999999)-implicitDefEqProofs only [simprocAttr,QH,Option.isSome,cond_true,cond_false,Option.bind,selB,V.rn,V.rns,Go.Ai.known,V.pz,V.pzs,T.toV,frz1,List.range,List.range.loop,ite_true,ite_false,if_true,if_false,ne_eq,implies_true,forall_const,eq_self,IntKind.bits,upd_tmsS,selT_cons,selT_nil]
  rintro kk S ⟨j, mv, rfl, hj, rfl, hno⟩
  have wj : IntKind.i64.wrap ((j : Int) + 1) = (j : Int) + 1 := wI64 _ (by omega) (by omega)
  by_cases hjl : j < p.ms.length
  · have hjl' : (j : Int) < (p.ms.length : Int) := by omega
    have hgj : p.ms[j]? = some p.ms[j] := List.getElem?_eq_getElem hjl
    obtain ⟨x, hx⟩ : ∃ x, p.ms[j] = x := ⟨_, rfl⟩
    rw [hx] at hgj
    by_cases hq : (fun x : Mp => x.p == a && x.v == b) x = true
    · rw [find_at hno hgj hq]
      have hq' : (x.p == a && x.v == b) = true := hq
      rw [Bool.and_eq_true] at hq'
      have q1 := hq'.1
      have q2 := hq'.2
      (have hwq := trivial; repeat' (first | simp (maxSteps:=9999999)-implicitDefEqProofs only [go_sem,simprocAttr,hwq,FT3,FT4,FT5,FT23,FT24,FT25,FT26,FT27,FT29,FT32,FT34,FT35,FT37,FT59,List.length_map,List.getElem?_map,Int.natCast_nonneg,List.length_append,List.map_append,hjl',hgj,wj,q1,q2] | (refine condK_split ?_ ?_ <;> intro hwq) | (refine two_split ?_ ?_) | (refine guardK_split ?_ ?_ <;> intro hwq) | (refine guardE_split ?_ ?_ <;> intro hwq) | (refine awp_drawW [] (by decide +kernel) ?_; have hwq := trivial) | fail))
    · have hq0 : (fun x : Mp => x.p == a && x.v == b) x = false := by simpa using hq
      have hq' : (x.p == a && x.v == b) = false := hq0
      have more := take_more hno hgj hq0
      cases q1 : (x.p == a) with
      | false =>
        (have hwq := trivial; repeat' (first | simp (maxSteps:=9999999)-implicitDefEqProofs only [go_sem,simprocAttr,hwq,FT3,FT4,FT5,FT23,FT24,FT25,FT26,FT27,FT29,FT32,FT34,FT35,FT37,FT59,List.length_map,List.getElem?_map,Int.natCast_nonneg,List.length_append,List.map_append,hjl',hgj,wj,q1] | (refine condK_split ?_ ?_ <;> intro hwq) | (refine two_split ?_ ?_) | (refine guardK_split ?_ ?_ <;> intro hwq) | (refine guardE_split ?_ ?_ <;> intro hwq) | (refine awp_drawW [] (by decide +kernel) ?_; have hwq := trivial) | fail))
        refine ⟨p.ms.length - (j + 1), _, by omega, Weak.cutI 1 [1, 2, 3, 8] ?_ ?_, j + 1, _, rfl, by omega, rfl, more⟩
        · simp (maxSteps:=9999999)-implicitDefEqProofs only [simprocAttr,QH,Option.isSome,cond_true,cond_false,Option.bind,selB,V.rn,V.rns,Go.Ai.known,V.pz,V.pzs,T.toV,frz1,List.range,List.range.loop,ite_true,ite_false,if_true,if_false,ne_eq,implies_true,forall_const,eq_self,IntKind.bits,upd_tmsS,selT_cons,selT_nil,List.length_map,List.getElem?_map,Int.natCast_nonneg,List.length_append,List.map_append]
        · simp (maxSteps:=9999999)-implicitDefEqProofs only [simprocAttr,QH,Option.isSome,cond_true,cond_false,Option.bind,selB,V.rn,V.rns,Go.Ai.known,V.pz,V.pzs,T.toV,frz1,List.range,List.range.loop,ite_true,ite_false,if_true,if_false,ne_eq,implies_true,forall_const,eq_self,IntKind.bits,upd_tmsS,selT_cons,selT_nil,List.length_map,List.getElem?_map,Int.natCast_nonneg,List.length_append,List.map_append]
      | true =>
        have q2 : (x.v == b) = false := by rw [q1] at hq'; simpa using hq'
        (have hwq := trivial; repeat' (first | simp (maxSteps:=9999999)-implicitDefEqProofs only [go_sem,simprocAttr,hwq,FT3,FT4,FT5,FT23,FT24,FT25,FT26,FT27,FT29,FT32,FT34,FT35,FT37,FT59,List.length_map,List.getElem?_map,Int.natCast_nonneg,List.length_append,List.map_append,hjl',hgj,wj,q1,q2] | (refine condK_split ?_ ?_ <;> intro hwq) | (refine two_split ?_ ?_) | (refine guardK_split ?_ ?_ <;> intro hwq) | (refine guardE_split ?_ ?_ <;> intro hwq) | (refine awp_drawW [] (by decide +kernel) ?_; have hwq := trivial) | fail))
        refine ⟨p.ms.length - (j + 1), _, by omega, Weak.cutI 1 [1, 2, 3, 8] ?_ ?_, j + 1, _, rfl, by omega, rfl, more⟩
        · simp (maxSteps:=9999999)-implicitDefEqProofs only [simprocAttr,QH,Option.isSome,cond_true,cond_false,Option.bind,selB,V.rn,V.rns,Go.Ai.known,V.pz,V.pzs,T.toV,frz1,List.range,List.range.loop,ite_true,ite_false,if_true,if_false,ne_eq,implies_true,forall_const,eq_self,IntKind.bits,upd_tmsS,selT_cons,selT_nil,List.length_map,List.getElem?_map,Int.natCast_nonneg,List.length_append,List.map_append]
        · simp (maxSteps:=9999999)-implicitDefEqProofs only [simprocAttr,QH,Option.isSome,cond_true,cond_false,Option.bind,selB,V.rn,V.rns,Go.Ai.known,V.pz,V.pzs,T.toV,frz1,List.range,List.range.loop,ite_true,ite_false,if_true,if_false,ne_eq,implies_true,forall_const,eq_self,IntKind.bits,upd_tmsS,selT_cons,selT_nil,List.length_map,List.getElem?_map,Int.natCast_nonneg,List.length_append,List.map_append]
  · have hjl' : ¬ (j : Int) < (p.ms.length : Int) := by omega
    rw [List.take_of_length_le (by omega)] at hno
    rw [find_no hno]
    (have hwq := trivial; repeat' (first | simp (maxSteps:=9999999)-implicitDefEqProofs only [go_sem,simprocAttr,hwq,FT3,FT4,FT5,FT23,FT24,FT25,FT26,FT27,FT29,FT32,FT34,FT35,FT37,FT59,List.length_map,List.getElem?_map,Int.natCast_nonneg,List.length_append,List.map_append,hjl'] | (refine condK_split ?_ ?_ <;> intro hwq) | (refine two_split ?_ ?_) | (refine guardK_split ?_ ?_ <;> intro hwq) | (refine guardE_split ?_ ?_ <;> intro hwq) | (refine awp_drawW [] (by decide +kernel) ?_; have hwq := trivial) | fail))
def rf23 (p : Pv) (a b : Int) : V := match p.ms.find? (fun x => x.p == a && x.s == b) with
  | some x => .tuple [vI x.v, vB true]
  | none => .tuple [vI 0, vB false]
def Fi23 (p : Pv) (a b : Int) (n : Nat) (S : St) : Prop :=
  ∃ (j : Nat) (mv : List Nat), S = ⟨tms [(1, vI a), (2, vI b), (3, .ptr 0 0 0), (8, vI j)], [bxP p], mv⟩ ∧ j ≤ p.ms.length ∧ n = p.ms.length - j ∧ ∀ y ∈ p.ms.take j, (fun x : Mp => x.p == a && x.s == b) y = false
theorem pq23 (p : Pv) (hp : okL p) (a b : Int) : AC Tryz.prog 23 [pvV p, vI a, vI b] [] (eqR (rf23 p a b)) := by
  obtain ⟨l1, l2, l3, l4, l5⟩ := hp
  unfold rf23
  refine AC_plain orders Tryz.func23 rfl (by kernel_rfl) (by kernel_rfl) Tryz.ntmps23 (by simp) ?_
  unfold Tryz.f23
  (have hwq := trivial; repeat' (first | simp (maxSteps:=9999999)-implicitDefEqProofs only [go_sem,simprocAttr,hwq,FT3,FT4,FT5,FT23,FT24,FT25,FT26,FT27,FT29,FT32,FT34,FT35,FT37,FT59] | (refine condK_split ?_ ?_ <;> intro hwq) | (refine two_split ?_ ?_) | (refine guardK_split ?_ ?_ <;> intro hwq) | (refine guardE_split ?_ ?_ <;> intro hwq) | (refine awp_drawW [] (by decide +kernel) ?_; have hwq := trivial) | fail))
  refine awp_loopK (Fi23 p a b) p.ms.length _ (Weak.cutI 1 [1, 2, 3, 8] ?_ ?_) ⟨0, _, rfl, by omega, rfl, by simp⟩ ?_
  · simp (maxSteps:=9999999)-implicitDefEqProofs only [simprocAttr,QH,Option.isSome,cond_true,cond_false,Option.bind,selB,V.rn,V.rns,Go.Ai.known,V.pz,V.pzs,T.toV,frz1,List.range,List.range.loop,ite_true,ite_false,if_true,if_false,ne_eq,implies_true,forall_const,eq_self,IntKind.bits,upd_tmsS,selT_cons,selT_nil]
  · simp (maxSteps:=9999999)-implicitDefEqProofs only [simprocAttr,QH,Option.isSome,cond_true,cond_false,Option.bind,selB,V.rn,V.rns,Go.Ai.known,V.pz,V.pzs,T.toV,frz1,List.range,List.range.loop,ite_true,ite_false,if_true,if_false,ne_eq,implies_true,forall_const,eq_self,IntKind.bits,upd_tmsS,selT_cons,selT_nil]
  rintro kk S ⟨j, mv, rfl, hj, rfl, hno⟩
  have wj : IntKind.i64.wrap ((j : Int) + 1) = (j : Int) + 1 := wI64 _ (by omega) (by omega)
  by_cases hjl : j < p.ms.length
  · have hjl' : (j : Int) < (p.ms.length : Int) := by omega
    have hgj : p.ms[j]? = some p.ms[j] := List.getElem?_eq_getElem hjl
    obtain ⟨x, hx⟩ : ∃ x, p.ms[j] = x := ⟨_, rfl⟩
    rw [hx] at hgj
    by_cases hq : (fun x : Mp => x.p == a && x.s == b) x = true
    · rw [find_at hno hgj hq]
      have hq' : (x.p == a && x.s == b) = true := hq
      rw [Bool.and_eq_true] at hq'
      have q1 := hq'.1
      have q2 := hq'.2
      (have hwq := trivial; repeat' (first | simp (maxSteps:=9999999)-implicitDefEqProofs only [go_sem,simprocAttr,hwq,FT3,FT4,FT5,FT23,FT24,FT25,FT26,FT27,FT29,FT32,FT34,FT35,FT37,FT59,List.length_map,List.getElem?_map,Int.natCast_nonneg,List.length_append,List.map_append,hjl',hgj,wj,q1,q2] | (refine condK_split ?_ ?_ <;> intro hwq) | (refine two_split ?_ ?_) | (refine guardK_split ?_ ?_ <;> intro hwq) | (refine guardE_split ?_ ?_ <;> intro hwq) | (refine awp_drawW [] (by decide +kernel) ?_; have hwq := trivial) | fail))
    · have hq0 : (fun x : Mp => x.p == a && x.s == b) x = false := by simpa using hq
      have hq' : (x.p == a && x.s == b) = false := hq0
      have more := take_more hno hgj hq0
      cases q1 : (x.p == a) with
      | false =>
        (have hwq := trivial; repeat' (first | simp (maxSteps:=9999999)-implicitDefEqProofs only [go_sem,simprocAttr,hwq,FT3,FT4,FT5,FT23,FT24,FT25,FT26,FT27,FT29,FT32,FT34,FT35,FT37,FT59,List.length_map,List.getElem?_map,Int.natCast_nonneg,List.length_append,List.map_append,hjl',hgj,wj,q1] | (refine condK_split ?_ ?_ <;> intro hwq) | (refine two_split ?_ ?_) | (refine guardK_split ?_ ?_ <;> intro hwq) | (refine guardE_split ?_ ?_ <;> intro hwq) | (refine awp_drawW [] (by decide +kernel) ?_; have hwq := trivial) | fail))
        refine ⟨p.ms.length - (j + 1), _, by omega, Weak.cutI 1 [1, 2, 3, 8] ?_ ?_, j + 1, _, rfl, by omega, rfl, more⟩
        · simp (maxSteps:=9999999)-implicitDefEqProofs only [simprocAttr,QH,Option.isSome,cond_true,cond_false,Option.bind,selB,V.rn,V.rns,Go.Ai.known,V.pz,V.pzs,T.toV,frz1,List.range,List.range.loop,ite_true,ite_false,if_true,if_false,ne_eq,implies_true,forall_const,eq_self,IntKind.bits,upd_tmsS,selT_cons,selT_nil,List.length_map,List.getElem?_map,Int.natCast_nonneg,List.length_append,List.map_append]
        · simp (maxSteps:=9999999)-implicitDefEqProofs only [simprocAttr,QH,Option.isSome,cond_true,cond_false,Option.bind,selB,V.rn,V.rns,Go.Ai.known,V.pz,V.pzs,T.toV,frz1,List.range,List.range.loop,ite_true,ite_false,if_true,if_false,ne_eq,implies_true,forall_const,eq_self,IntKind.bits,upd_tmsS,selT_cons,selT_nil,List.length_map,List.getElem?_map,Int.natCast_nonneg,List.length_append,List.map_append]
      | true =>
        have q2 : (x.s == b) = false := by rw [q1] at hq'; simpa using hq'
        (have hwq := trivial; repeat' (first | simp (maxSteps:=9999999)-implicitDefEqProofs only [go_sem,simprocAttr,hwq,FT3,FT4,FT5,FT23,FT24,FT25,FT26,FT27,FT29,FT32,FT34,FT35,FT37,FT59,List.length_map,List.getElem?_map,Int.natCast_nonneg,List.length_append,List.map_append,hjl',hgj,wj,q1,q2] | (refine condK_split ?_ ?_ <;> intro hwq) | (refine two_split ?_ ?_) | (refine guardK_split ?_ ?_ <;> intro hwq) | (refine guardE_split ?_ ?_ <;> intro hwq) | (refine awp_drawW [] (by decide +kernel) ?_; have hwq := trivial) | fail))
        refine ⟨p.ms.length - (j + 1), _, by omega, Weak.cutI 1 [1, 2, 3, 8] ?_ ?_, j + 1, _, rfl, by omega, rfl, more⟩
        · simp (maxSteps:=9999999)-implicitDefEqProofs only [simprocAttr,QH,Option.isSome,cond_true,cond_false,Option.bind,selB,V.rn,V.rns,Go.Ai.known,V.pz,V.pzs,T.toV,frz1,List.range,List.range.loop,ite_true,ite_false,if_true,if_false,ne_eq,implies_true,forall_const,eq_self,IntKind.bits,upd_tmsS,selT_cons,selT_nil,List.length_map,List.getElem?_map,Int.natCast_nonneg,List.length_append,List.map_append]
        · simp (maxSteps:=9999999)-implicitDefEqProofs only [simprocAttr,QH,Option.isSome,cond_true,cond_false,Option.bind,selB,V.rn,V.rns,Go.Ai.known,V.pz,V.pzs,T.toV,frz1,List.range,List.range.loop,ite_true,ite_false,if_true,if_false,ne_eq,implies_true,forall_const,eq_self,IntKind.bits,upd_tmsS,selT_cons,selT_nil,List.length_map,List.getElem?_map,Int.natCast_nonneg,List.length_append,List.map_append]
  · have hjl' : ¬ (j : Int) < (p.ms.length : Int) := by omega
    rw [List.take_of_length_le (by omega)] at hno
    rw [find_no hno]
    (have hwq := trivial; repeat' (first | simp (maxSteps:=9999999)-implicitDefEqProofs only [go_sem,simprocAttr,hwq,FT3,FT4,FT5,FT23,FT24,FT25,FT26,FT27,FT29,FT32,FT34,FT35,FT37,FT59,List.length_map,List.getElem?_map,Int.natCast_nonneg,List.length_append,List.map_append,hjl'] | (refine condK_split ?_ ?_ <;> intro hwq) | (refine two_split ?_ ?_) | (refine guardK_split ?_ ?_ <;> intro hwq) | (refine guardE_split ?_ ?_ <;> intro hwq) | (refine awp_drawW [] (by decide +kernel) ?_; have hwq := trivial) | fail))
end Go.Ai

set_option linter.unusedVariables false
set_option linter.unusedSimpArgs false
set_option maxHeartbeats 8000000
set_option maxRecDepth 100000
namespace Go.Ai
open Go.Proofs
attribute [local go_sem] QH QR V.noimm V.noimms frzZs frzZ frzA frzV frzVs frzBox boxLen Option.isSome cond_true cond_false aopD calW flatV stepX amap stepY alookup afind aupdate adelete amlen arange ameq mapOf akeq pl V.mapT V.mapTs Option.bind stepK runK guardD stepE runD callD compact selB callK evS ofVal ofVals scalar aop ares mkRes V.rn V.rns V.cells? cellsAt Go.Ai.part aload astore setL V.atom abin aun intBin shiftBin aconv fieldOf aindexAddr aindex bound? aslice aarr abuild afill alen nilP nilS nilF aeq eqCells eqCell Go.Ai.known strBin abuiltin aappend abuildSlice arowsFill amakeSlice acopy aclear minmax rowsOf numsT notStr isIntD isByte V.pz V.pzs T.toV frz1 frz scalT scalTs chunkT List.range List.range.loop ite_true ite_false if_true if_false ne_eq implies_true forall_const eq_self IntKind.bits kPostKF_ret kPostKF_normal kPostX_ret kPostX_normal bsl nil2K nil2 kPostFW_ret kPostFW_normal kPostKM_ret kPostKM_normal kPostXK_ret kPostXK_normal
def shortM (b : Mb) : Mb := ⟨b.v, b.l.take 10⟩
theorem pc11 (x : Mb) : AC Tryz.prog 11 [mbV x] [] (eqR (mbV (shortM x))) := by
  show AC Tryz.prog 11 [mbV x] [] (eqR (.agg [vI x.v, .sl 1 (List.map inT (x.l.take 10))]))
  rw [List.map_take]
  refine AC_plain orders Tryz.func11 rfl (by kernel_rfl) (by kernel_rfl) Tryz.ntmps11 (by simp) ?_
  unfold Tryz.f11
  by_cases h : 10 < (x.l.length : Int)
  · have h1 : 10 ≤ x.l.length := by omega
    (have hwq := trivial; repeat' (first | simp (maxSteps:=9999999)-implicitDefEqProofs only [go_sem,simprocAttr,hwq,FT3,FT35,FT37,List.length_map,List.getElem?_map,Int.natCast_nonneg,List.length_append,List.map_append,h,h1,Nat.zero_le,Nat.sub_zero] | (refine awpL_loop 18 ?_; have hwq := trivial) | (refine condK_split ?_ ?_ <;> intro hwq) | (refine two_split ?_ ?_) | (refine guardK_split ?_ ?_ <;> intro hwq) | (refine guardE_split ?_ ?_ <;> intro hwq) | (refine awp_drawW [] (by decide +kernel) ?_; have hwq := trivial) | fail))
  · have h1 : List.take 10 (List.map inT x.l) = List.map inT x.l := List.take_of_length_le (by simp; omega)
    rw [h1]
    (have hwq := trivial; repeat' (first | simp (maxSteps:=9999999)-implicitDefEqProofs only [go_sem,simprocAttr,hwq,FT3,FT35,FT37,List.length_map,List.getElem?_map,Int.natCast_nonneg,List.length_append,List.map_append,h] | (refine awpL_loop 18 ?_; have hwq := trivial) | (refine condK_split ?_ ?_ <;> intro hwq) | (refine two_split ?_ ?_) | (refine guardK_split ?_ ?_ <;> intro hwq) | (refine guardE_split ?_ ?_ <;> intro hwq) | (refine awp_drawW [] (by decide +kernel) ?_; have hwq := trivial) | fail))
theorem mp_eq (x y : Mp) : (x.p == y.p && (x.v == y.v && x.s == y.s)) = decide (x = y) := by
  obtain ⟨a, b, c⟩ := x
  obtain ⟨a2, b2, c2⟩ := y
  rw [Bool.eq_iff_iff]
  simp [and_assoc]
theorem cr_eq (x y : Cr) : (x.s == y.s && x.v == y.v) = decide (x = y) := by
  obtain ⟨a, b⟩ := x
  obtain ⟨a2, b2⟩ := y
  rw [Bool.eq_iff_iff]
  simp
def Eq26 (A B : List Int) (n : Nat) (S : St) : Prop :=
  ∃ (j : Nat) (mv : List Nat), S = ⟨tms [(0, isV A), (1, isV B), (5, vI j)], [], mv⟩ ∧ j ≤ A.length ∧ n = A.length - j ∧ A.take j = B.take j
theorem pe26 (A B : List Int) (hl : A.length ≤ 100000) : AC Tryz.prog 26 [isV A, isV B] [] (eqR (vB (decide (A = B)))) := by
  refine AC_plain orders Tryz.func26 rfl (by kernel_rfl) (by kernel_rfl) Tryz.ntmps26 (by simp) ?_
  unfold Tryz.f26
  by_cases hAB : A.length = B.length
  · have hAB' : ((A.length : Int) != (B.length : Int)) = false := by simp [hAB]
    (have hwq := trivial; repeat' (first | simp (maxSteps:=9999999)-implicitDefEqProofs only [go_sem,simprocAttr,hwq,FT3,FT4,FT35,List.length_map,List.getElem?_map,Int.natCast_nonneg,List.length_append,List.map_append,hAB'] | (refine condK_split ?_ ?_ <;> intro hwq) | (refine two_split ?_ ?_) | (refine guardK_split ?_ ?_ <;> intro hwq) | (refine guardE_split ?_ ?_ <;> intro hwq) | (refine awp_drawW [] (by decide +kernel) ?_; have hwq := trivial) | fail))
    refine awp_loopK (Eq26 A B) A.length _ (Weak.cutI 0 [0, 1, 5] ?_ ?_) ⟨0, _, rfl, by omega, rfl, by simp⟩ ?_
    · simp (maxSteps:=9999999)-implicitDefEqProofs only [simprocAttr,QH,Option.isSome,cond_true,cond_false,Option.bind,selB,V.rn,V.rns,Go.Ai.known,V.pz,V.pzs,T.toV,frz1,List.range,List.range.loop,ite_true,ite_false,if_true,if_false,ne_eq,implies_true,forall_const,eq_self,IntKind.bits,upd_tmsS,selT_cons,selT_nil,List.length_map,List.getElem?_map,Int.natCast_nonneg,List.length_append,List.map_append]
    · simp (maxSteps:=9999999)-implicitDefEqProofs only [simprocAttr,QH,Option.isSome,cond_true,cond_false,Option.bind,selB,V.rn,V.rns,Go.Ai.known,V.pz,V.pzs,T.toV,frz1,List.range,List.range.loop,ite_true,ite_false,if_true,if_false,ne_eq,implies_true,forall_const,eq_self,IntKind.bits,upd_tmsS,selT_cons,selT_nil]
    rintro kk S ⟨j, mv, rfl, hj, rfl, hts⟩
    have wj : IntKind.i64.wrap ((j : Int) + 1) = (j : Int) + 1 := wI64 _ (by omega) (by omega)
    by_cases hjl : j < A.length
    · have hjl' : (j : Int) < (A.length : Int) := by omega
      have hjb' : (j : Int) < (B.length : Int) := by omega
      have hgj : A[j]? = some A[j] := List.getElem?_eq_getElem hjl
      have hgb : B[j]? = some (B[j]'(by omega)) := List.getElem?_eq_getElem (by omega)
      obtain ⟨x, hx⟩ : ∃ x, A[j] = x := ⟨_, rfl⟩
      obtain ⟨y, hy⟩ : ∃ y, B[j]'(by omega) = y := ⟨_, rfl⟩
      rw [hx] at hgj
      rw [hy] at hgb
      have hee := trivial
      by_cases hxy : x = y
      · have hxy' : (x != y) = false := by simp [hxy]
        (have hwq := trivial; repeat' (first | simp (maxSteps:=9999999)-implicitDefEqProofs only [go_sem,simprocAttr,hwq,FT3,FT4,FT35,List.length_map,List.getElem?_map,Int.natCast_nonneg,List.length_append,List.map_append,hjl',hjb',hgj,hgb,wj,hee,hxy'] | (refine condK_split ?_ ?_ <;> intro hwq) | (refine two_split ?_ ?_) | (refine guardK_split ?_ ?_ <;> intro hwq) | (refine guardE_split ?_ ?_ <;> intro hwq) | (refine awp_drawW [] (by decide +kernel) ?_; have hwq := trivial) | fail))
        refine ⟨A.length - (j + 1), _, by omega, Weak.cutI 0 [0, 1, 5] ?_ ?_, j + 1, _, rfl, by omega, rfl, by rw [take_in hgj, take_in hgb, hts, hxy]⟩
        · simp (maxSteps:=9999999)-implicitDefEqProofs only [simprocAttr,QH,Option.isSome,cond_true,cond_false,Option.bind,selB,V.rn,V.rns,Go.Ai.known,V.pz,V.pzs,T.toV,frz1,List.range,List.range.loop,ite_true,ite_false,if_true,if_false,ne_eq,implies_true,forall_const,eq_self,IntKind.bits,upd_tmsS,selT_cons,selT_nil,List.length_map,List.getElem?_map,Int.natCast_nonneg,List.length_append,List.map_append]
        · simp (maxSteps:=9999999)-implicitDefEqProofs only [simprocAttr,QH,Option.isSome,cond_true,cond_false,Option.bind,selB,V.rn,V.rns,Go.Ai.known,V.pz,V.pzs,T.toV,frz1,List.range,List.range.loop,ite_true,ite_false,if_true,if_false,ne_eq,implies_true,forall_const,eq_self,IntKind.bits,upd_tmsS,selT_cons,selT_nil,List.length_map,List.getElem?_map,Int.natCast_nonneg,List.length_append,List.map_append]
      · have hxy' : (x != y) = true := by simp [hxy]
        have hne : decide (A = B) = false := by
          simp only [decide_eq_false_iff_not]
          intro h
          subst h
          rw [hgj] at hgb
          exact hxy (Option.some.inj hgb)
        (have hwq := trivial; repeat' (first | simp (maxSteps:=9999999)-implicitDefEqProofs only [go_sem,simprocAttr,hwq,FT3,FT4,FT35,List.length_map,List.getElem?_map,Int.natCast_nonneg,List.length_append,List.map_append,hjl',hjb',hgj,hgb,wj,hee,hxy',hne] | (refine condK_split ?_ ?_ <;> intro hwq) | (refine two_split ?_ ?_) | (refine guardK_split ?_ ?_ <;> intro hwq) | (refine guardE_split ?_ ?_ <;> intro hwq) | (refine awp_drawW [] (by decide +kernel) ?_; have hwq := trivial) | fail))
    · have hjl' : ¬ (j : Int) < (A.length : Int) := by omega
      have he : decide (A = B) = true := by
        rw [List.take_of_length_le (by omega), List.take_of_length_le (by omega)] at hts
        simpa using hts
      (have hwq := trivial; repeat' (first | simp (maxSteps:=9999999)-implicitDefEqProofs only [go_sem,simprocAttr,hwq,FT3,FT4,FT35,List.length_map,List.getElem?_map,Int.natCast_nonneg,List.length_append,List.map_append,hjl',he] | (refine condK_split ?_ ?_ <;> intro hwq) | (refine two_split ?_ ?_) | (refine guardK_split ?_ ?_ <;> intro hwq) | (refine guardE_split ?_ ?_ <;> intro hwq) | (refine awp_drawW [] (by decide +kernel) ?_; have hwq := trivial) | fail))
  · have hAB' : ((A.length : Int) != (B.length : Int)) = true := by simp; omega
    have hne : decide (A = B) = false := by
      simp only [decide_eq_false_iff_not]
      intro h
      exact hAB (by rw [h])
    (have hwq := trivial; repeat' (first | simp (maxSteps:=9999999)-implicitDefEqProofs only [go_sem,simprocAttr,hwq,FT3,FT4,FT35,List.length_map,List.getElem?_map,Int.natCast_nonneg,List.length_append,List.map_append,hAB',hne] | (refine condK_split ?_ ?_ <;> intro hwq) | (refine two_split ?_ ?_) | (refine guardK_split ?_ ?_ <;> intro hwq) | (refine guardE_split ?_ ?_ <;> intro hwq) | (refine awp_drawW [] (by decide +kernel) ?_; have hwq := trivial) | fail))
end Go.Ai

set_option linter.unusedVariables false
set_option linter.unusedSimpArgs false
set_option maxHeartbeats 8000000
set_option maxRecDepth 100000
namespace Go.Ai
open Go.Proofs
attribute [local go_sem] QH QR V.noimm V.noimms frzZs frzZ frzA frzV frzVs frzBox boxLen Option.isSome cond_true cond_false aopD calW flatV stepX amap stepY alookup afind aupdate adelete amlen arange ameq mapOf akeq pl V.mapT V.mapTs Option.bind stepK runK guardD stepE runD callD compact selB callK evS ofVal ofVals scalar aop ares mkRes V.rn V.rns V.cells? cellsAt Go.Ai.part aload astore setL V.atom abin aun intBin shiftBin aconv fieldOf aindexAddr aindex bound? aslice aarr abuild afill alen nilP nilS nilF aeq eqCells eqCell Go.Ai.known strBin abuiltin aappend abuildSlice arowsFill amakeSlice acopy aclear minmax rowsOf numsT notStr isIntD isByte V.pz V.pzs T.toV frz1 frz scalT scalTs chunkT List.range List.range.loop ite_true ite_false if_true if_false ne_eq implies_true forall_const eq_self IntKind.bits kPostKF_ret kPostKF_normal kPostX_ret kPostX_normal bsl nil2K nil2 kPostFW_ret kPostFW_normal kPostKM_ret kPostKM_normal kPostXK_ret kPostXK_normal
def mbOk (p : Pv) (x : Mb) : Bool := decide (vidOk x.v) && (risB ltI x.l && !(x.l.any fun y => kindP p.ks y != 2))
def refM (p : Pv) : Bool := !(p.bs.any fun x => !mbOk p x) && (risB ltI (p.bs.map (·.v)) && decide ((p.bs.length : Int) ≤ 64))
def crOk (p : Pv) (x : Cr) : Bool := decide (isidOk x.s) && hasM p.bs x.v
def refC (p : Pv) : Bool := !(p.cs.any fun x => !crOk p x) && (risB ltI (p.cs.map (·.s)) && decide ((p.cs.length : Int) ≤ 64))
theorem hasM_find (bs : List Mb) (n : Int) : hasM bs n = (bs.find? fun x => x.v == n).isSome := by
  unfold hasM
  rw [Bool.eq_iff_iff, List.any_eq_true, List.find?_isSome]
theorem hasC_find (cs : List Cr) (n : Int) : hasC cs n = (cs.find? fun x => x.s == n).isSome := by
  unfold hasC
  rw [Bool.eq_iff_iff, List.any_eq_true, List.find?_isSome]
theorem frz_ids (b : Blk) (N : List Int) : frzVs false [b, .rows 1 (N.map inT) false] [.own 1 0 N.length] = some ([isV N], [b, .rows 1 (N.map inT) true]) := by
  have : List.take N.length (N.map inT) = N.map inT := List.take_of_length_le (by simp)
  simp [frzVs, frzV, frz1, T.toV, this]
def Lo84 (p : Pv) (n : Nat) (S : St) : Prop :=
  ∃ (j : Nat) (N : List Int) (mv : List Nat), S = ⟨tms [(1, .ptr 0 0 0), (3, .own 1 0 N.length), (4, vI j)], [bxP p, .rows 1 (N.map inT) false], mv⟩ ∧ N = (p.bs.take j).map (·.v) ∧ j ≤ p.bs.length ∧ n = p.bs.length - j ∧ ∀ x ∈ p.bs.take j, (!mbOk p x) = false
theorem pc84 (p : Pv) (hp : okL p) : AC Tryz.prog 84 [pvV p] [] (eqR (vB (refM p))) := by
  obtain ⟨l1, l2, l3, l4, l5⟩ := hp
  refine AC_plain orders Tryz.func84 rfl (by kernel_rfl) (by kernel_rfl) Tryz.ntmps84 (by simp) ?_
  unfold Tryz.f84
  (have hwq := trivial; repeat' (first | simp (maxSteps:=9999999)-implicitDefEqProofs only [go_sem,simprocAttr,hwq,FT3,FT4,FT5,FT23,FT24,FT25,FT26,FT27,FT29,FT32,FT34,FT35,FT37,FT59] | (refine condK_split ?_ ?_ <;> intro hwq) | (refine two_split ?_ ?_) | (refine guardK_split ?_ ?_ <;> intro hwq) | (refine guardE_split ?_ ?_ <;> intro hwq) | (refine awp_drawW [] (by decide +kernel) ?_; have hwq := trivial) | fail))
  refine awp_loopK (Lo84 p) p.bs.length _ (Weak.trans (Weak.virt 3 1 (.inl rfl)) (Weak.cutI 2 [1, 3, 4] ?_ ?_)) ⟨0, [], _, rfl, by simp, by omega, rfl, by simp⟩ ?_
  · simp (maxSteps:=9999999)-implicitDefEqProofs only [simprocAttr,QH,Option.isSome,cond_true,cond_false,Option.bind,selB,V.rn,V.rns,Go.Ai.known,V.pz,V.pzs,T.toV,frz1,List.range,List.range.loop,ite_true,ite_false,if_true,if_false,ne_eq,implies_true,forall_const,eq_self,IntKind.bits,upd_tmsS,selT_cons,selT_nil]
  · simp (maxSteps:=9999999)-implicitDefEqProofs only [simprocAttr,QH,Option.isSome,cond_true,cond_false,Option.bind,selB,V.rn,V.rns,Go.Ai.known,V.pz,V.pzs,T.toV,frz1,List.range,List.range.loop,ite_true,ite_false,if_true,if_false,ne_eq,implies_true,forall_const,eq_self,IntKind.bits,upd_tmsS,selT_cons,selT_nil]
  rintro kk S ⟨j, N, mv, rfl, hN, hj, rfl, hno⟩
  have hNl : N.length = j := by rw [hN]; simp; omega
  have zs : (N.length + 1) * 8 ≤ 140737488355328 := by omega
  have wj : IntKind.i64.wrap ((j : Int) + 1) = (j : Int) + 1 := wI64 _ (by omega) (by omega)
  by_cases hjl : j < p.bs.length
  · have hjl' : (j : Int) < (p.bs.length : Int) := by omega
    have hgj : p.bs[j]? = some p.bs[j] := List.getElem?_eq_getElem hjl
    obtain ⟨x, hx⟩ : ∃ x, p.bs[j] = x := ⟨_, rfl⟩
    rw [hx] at hgj
    have hNx : N ++ [x.v] = (p.bs.take (j + 1)).map (·.v) := by rw [take_in hgj, List.map_append, hN]; rfl
    have n116 := pc116 x.v
    have n119 := pc119 x.l (by have := l5 x (mem_in hgj); omega)
    have n120 := pc120 p ⟨l1, l2, l3, l4, l5⟩ x.l (l5 x (mem_in hgj)) 2 (by decide)
    have dk : mbOk p x = (decide (vidOk x.v) && (risB ltI x.l && !(x.l.any fun y => kindP p.ks y != 2))) := rfl
    generalize decide (vidOk x.v) = m1 at n116 dk
    generalize risB ltI x.l = m2 at n119 dk
    generalize (!(x.l.any fun y => kindP p.ks y != 2)) = m3 at n120 dk
    have stop : mbOk p x = false → refM p = false := fun h => by
      unfold refM
      rw [any_some (q := fun x => !mbOk p x) hgj (by simp [h])]
      rfl
    (have hwq := trivial; repeat' (first | simp (maxSteps:=9999999)-implicitDefEqProofs only [go_sem,simprocAttr,hwq,FT3,FT4,FT5,FT23,FT24,FT25,FT26,FT27,FT29,FT32,FT34,FT35,FT37,FT59,List.length_map,List.getElem?_map,Int.natCast_nonneg,List.length_append,List.map_append,hjl',hgj,wj,zs] | (refine condK_split ?_ ?_ <;> intro hwq) | (refine two_split ?_ ?_) | (refine guardK_split ?_ ?_ <;> intro hwq) | (refine guardE_split ?_ ?_ <;> intro hwq) | (refine awp_drawW [] (by decide +kernel) ?_; have hwq := trivial) | (refine call_plain n116 rfl rfl ?_; have hwq := trivial) | (refine call_plain n119 rfl rfl ?_; have hwq := trivial) | (refine call_plain n120 rfl rfl ?_; have hwq := trivial) | fail))
    all_goals first
      | (rw [stop (by first | exact dk | (rw [dk]; simp_all))]; done)
      | skip
    refine ⟨p.bs.length - (j + 1), _, by omega, Weak.cutI 2 [1, 3, 4] ?_ ?_, j + 1, N ++ [x.v], _, rfl, hNx, by omega, rfl, take_more hno hgj (by rw [dk]; simp_all)⟩
    · simp (maxSteps:=9999999)-implicitDefEqProofs only [simprocAttr,QH,Option.isSome,cond_true,cond_false,Option.bind,selB,V.rn,V.rns,Go.Ai.known,V.pz,V.pzs,T.toV,frz1,List.range,List.range.loop,ite_true,ite_false,if_true,if_false,ne_eq,implies_true,forall_const,eq_self,IntKind.bits,upd_tmsS,selT_cons,selT_nil,List.length_map,List.getElem?_map,Int.natCast_nonneg,List.length_append,List.map_append,List.length_cons,List.length_nil,List.map_cons,List.map_nil]
    · simp (maxSteps:=9999999)-implicitDefEqProofs only [simprocAttr,QH,Option.isSome,cond_true,cond_false,Option.bind,selB,V.rn,V.rns,Go.Ai.known,V.pz,V.pzs,T.toV,frz1,List.range,List.range.loop,ite_true,ite_false,if_true,if_false,ne_eq,implies_true,forall_const,eq_self,IntKind.bits,upd_tmsS,selT_cons,selT_nil,List.length_map,List.getElem?_map,Int.natCast_nonneg,List.length_append,List.map_append,List.length_cons,List.length_nil,List.map_cons,List.map_nil]
  · have hjl' : ¬ (j : Int) < (p.bs.length : Int) := by omega
    have hje : j = p.bs.length := by omega
    rw [hje, List.take_length] at hN hno
    have hfz := frz_ids (bxP p) N
    have n119 := pc119 N (by omega)
    have hNl' : (N.length : Int) = (p.bs.length : Int) := by omega
    have he : refM p = (risB ltI N && decide ((p.bs.length : Int) ≤ 64)) := by
      unfold refM
      rw [any_none (q := fun x => !mbOk p x) hno, ← hN]
      rfl
    rw [he]
    generalize risB ltI N = r at n119
    (have hwq := trivial; repeat' (first | simp (maxSteps:=9999999)-implicitDefEqProofs only [go_sem,simprocAttr,hwq,FT3,FT4,FT5,FT23,FT24,FT25,FT26,FT27,FT29,FT32,FT34,FT35,FT37,FT59,List.length_map,List.getElem?_map,Int.natCast_nonneg,List.length_append,List.map_append,hjl',hNl'] | (refine condK_split ?_ ?_ <;> intro hwq) | (refine two_split ?_ ?_) | (refine guardK_split ?_ ?_ <;> intro hwq) | (refine guardE_split ?_ ?_ <;> intro hwq) | (refine awp_drawW [] (by decide +kernel) ?_; have hwq := trivial) | (refine call_data n119 hfz (V.les_refl _) rfl ?_; have hwq := trivial) | fail))
    all_goals (simp only [*]; try rfl)
def Lo85 (p : Pv) (n : Nat) (S : St) : Prop :=
  ∃ (j : Nat) (N : List Int) (mv : List Nat), S = ⟨tms [(1, .ptr 0 0 0), (3, .own 1 0 N.length), (4, vI j)], [bxP p, .rows 1 (N.map inT) false], mv⟩ ∧ N = (p.cs.take j).map (·.s) ∧ j ≤ p.cs.length ∧ n = p.cs.length - j ∧ ∀ x ∈ p.cs.take j, (!crOk p x) = false
theorem pc85 (p : Pv) (hp : okL p) : AC Tryz.prog 85 [pvV p] [] (eqR (vB (refC p))) := by
  obtain ⟨l1, l2, l3, l4, l5⟩ := hp
  refine AC_plain orders Tryz.func85 rfl (by kernel_rfl) (by kernel_rfl) Tryz.ntmps85 (by simp) ?_
  unfold Tryz.f85
  (have hwq := trivial; repeat' (first | simp (maxSteps:=9999999)-implicitDefEqProofs only [go_sem,simprocAttr,hwq,FT3,FT4,FT5,FT23,FT24,FT25,FT26,FT27,FT29,FT32,FT34,FT35,FT37,FT59] | (refine condK_split ?_ ?_ <;> intro hwq) | (refine two_split ?_ ?_) | (refine guardK_split ?_ ?_ <;> intro hwq) | (refine guardE_split ?_ ?_ <;> intro hwq) | (refine awp_drawW [] (by decide +kernel) ?_; have hwq := trivial) | fail))
  refine awp_loopK (Lo85 p) p.cs.length _ (Weak.trans (Weak.virt 3 1 (.inl rfl)) (Weak.cutI 2 [1, 3, 4] ?_ ?_)) ⟨0, [], _, rfl, by simp, by omega, rfl, by simp⟩ ?_
  · simp (maxSteps:=9999999)-implicitDefEqProofs only [simprocAttr,QH,Option.isSome,cond_true,cond_false,Option.bind,selB,V.rn,V.rns,Go.Ai.known,V.pz,V.pzs,T.toV,frz1,List.range,List.range.loop,ite_true,ite_false,if_true,if_false,ne_eq,implies_true,forall_const,eq_self,IntKind.bits,upd_tmsS,selT_cons,selT_nil]
  · simp (maxSteps:=9999999)-implicitDefEqProofs only [simprocAttr,QH,Option.isSome,cond_true,cond_false,Option.bind,selB,V.rn,V.rns,Go.Ai.known,V.pz,V.pzs,T.toV,frz1,List.range,List.range.loop,ite_true,ite_false,if_true,if_false,ne_eq,implies_true,forall_const,eq_self,IntKind.bits,upd_tmsS,selT_cons,selT_nil]
  rintro kk S ⟨j, N, mv, rfl, hN, hj, rfl, hno⟩
  have hNl : N.length = j := by rw [hN]; simp; omega
  have zs : (N.length + 1) * 8 ≤ 140737488355328 := by omega
  have wj : IntKind.i64.wrap ((j : Int) + 1) = (j : Int) + 1 := wI64 _ (by omega) (by omega)
  by_cases hjl : j < p.cs.length
  · have hjl' : (j : Int) < (p.cs.length : Int) := by omega
    have hgj : p.cs[j]? = some p.cs[j] := List.getElem?_eq_getElem hjl
    obtain ⟨x, hx⟩ : ∃ x, p.cs[j] = x := ⟨_, rfl⟩
    rw [hx] at hgj
    have hNx : N ++ [x.s] = (p.cs.take (j + 1)).map (·.s) := by rw [take_in hgj, List.map_append, hN]; rfl
    have n117 := pc117 x.s
    have n18 := pq18 p ⟨l1, l2, l3, l4, l5⟩ x.v
    have dk : crOk p x = (decide (isidOk x.s) && hasM p.bs x.v) := rfl
    rw [hasM_find] at dk
    generalize decide (isidOk x.s) = m1 at n117 dk
    unfold rf18 at n18
    have stop : crOk p x = false → refC p = false := fun h => by
      unfold refC
      rw [any_some (q := fun x => !crOk p x) hgj (by simp [h])]
      rfl
    cases hf : p.bs.find? (fun y => y.v == x.v) with
    | none =>
      rw [hf] at n18 dk
      rw [show ((none : Option Mb).isSome) = false from rfl, Bool.and_false] at dk
      (have hwq := trivial; repeat' (first | simp (maxSteps:=9999999)-implicitDefEqProofs only [go_sem,simprocAttr,hwq,FT3,FT4,FT5,FT23,FT24,FT25,FT26,FT27,FT29,FT32,FT34,FT35,FT37,FT59,List.length_map,List.getElem?_map,Int.natCast_nonneg,List.length_append,List.map_append,hjl',hgj,wj,zs] | (refine condK_split ?_ ?_ <;> intro hwq) | (refine two_split ?_ ?_) | (refine guardK_split ?_ ?_ <;> intro hwq) | (refine guardE_split ?_ ?_ <;> intro hwq) | (refine awp_drawW [] (by decide +kernel) ?_; have hwq := trivial) | (refine call_plain n117 rfl rfl ?_; have hwq := trivial) | (refine call_plain n18 rfl rfl ?_; have hwq := trivial) | fail))
      all_goals first
        | (rw [stop (by first | exact dk | (rw [dk]; simp_all))]; done)
        | skip
    | some y =>
      rw [hf] at n18 dk
      rw [show ((some y : Option Mb).isSome) = true from rfl, Bool.and_true] at dk
      (have hwq := trivial; repeat' (first | simp (maxSteps:=9999999)-implicitDefEqProofs only [go_sem,simprocAttr,hwq,FT3,FT4,FT5,FT23,FT24,FT25,FT26,FT27,FT29,FT32,FT34,FT35,FT37,FT59,List.length_map,List.getElem?_map,Int.natCast_nonneg,List.length_append,List.map_append,hjl',hgj,wj,zs] | (refine condK_split ?_ ?_ <;> intro hwq) | (refine two_split ?_ ?_) | (refine guardK_split ?_ ?_ <;> intro hwq) | (refine guardE_split ?_ ?_ <;> intro hwq) | (refine awp_drawW [] (by decide +kernel) ?_; have hwq := trivial) | (refine call_plain n117 rfl rfl ?_; have hwq := trivial) | (refine call_plain n18 rfl rfl ?_; have hwq := trivial) | fail))
      all_goals first
        | (rw [stop (by first | exact dk | (rw [dk]; simp_all))]; done)
        | skip
      refine ⟨p.cs.length - (j + 1), _, by omega, Weak.cutI 2 [1, 3, 4] ?_ ?_, j + 1, N ++ [x.s], _, rfl, hNx, by omega, rfl, take_more hno hgj (by rw [dk]; simp_all)⟩
      · simp (maxSteps:=9999999)-implicitDefEqProofs only [simprocAttr,QH,Option.isSome,cond_true,cond_false,Option.bind,selB,V.rn,V.rns,Go.Ai.known,V.pz,V.pzs,T.toV,frz1,List.range,List.range.loop,ite_true,ite_false,if_true,if_false,ne_eq,implies_true,forall_const,eq_self,IntKind.bits,upd_tmsS,selT_cons,selT_nil,List.length_map,List.getElem?_map,Int.natCast_nonneg,List.length_append,List.map_append,List.length_cons,List.length_nil,List.map_cons,List.map_nil]
      · simp (maxSteps:=9999999)-implicitDefEqProofs only [simprocAttr,QH,Option.isSome,cond_true,cond_false,Option.bind,selB,V.rn,V.rns,Go.Ai.known,V.pz,V.pzs,T.toV,frz1,List.range,List.range.loop,ite_true,ite_false,if_true,if_false,ne_eq,implies_true,forall_const,eq_self,IntKind.bits,upd_tmsS,selT_cons,selT_nil,List.length_map,List.getElem?_map,Int.natCast_nonneg,List.length_append,List.map_append,List.length_cons,List.length_nil,List.map_cons,List.map_nil]
  · have hjl' : ¬ (j : Int) < (p.cs.length : Int) := by omega
    have hje : j = p.cs.length := by omega
    rw [hje, List.take_length] at hN hno
    have hfz := frz_ids (bxP p) N
    have n119 := pc119 N (by omega)
    have hNl' : (N.length : Int) = (p.cs.length : Int) := by omega
    have he : refC p = (risB ltI N && decide ((p.cs.length : Int) ≤ 64)) := by
      unfold refC
      rw [any_none (q := fun x => !crOk p x) hno, ← hN]
      rfl
    rw [he]
    generalize risB ltI N = r at n119
    (have hwq := trivial; repeat' (first | simp (maxSteps:=9999999)-implicitDefEqProofs only [go_sem,simprocAttr,hwq,FT3,FT4,FT5,FT23,FT24,FT25,FT26,FT27,FT29,FT32,FT34,FT35,FT37,FT59,List.length_map,List.getElem?_map,Int.natCast_nonneg,List.length_append,List.map_append,hjl',hNl'] | (refine condK_split ?_ ?_ <;> intro hwq) | (refine two_split ?_ ?_) | (refine guardK_split ?_ ?_ <;> intro hwq) | (refine guardE_split ?_ ?_ <;> intro hwq) | (refine awp_drawW [] (by decide +kernel) ?_; have hwq := trivial) | (refine call_data n119 hfz (V.les_refl _) rfl ?_; have hwq := trivial) | fail))
    all_goals (simp only [*]; try rfl)
end Go.Ai

set_option linter.unusedVariables false
set_option linter.unusedSimpArgs false
set_option maxHeartbeats 8000000
set_option maxRecDepth 100000
namespace Go.Ai
open Go.Proofs
attribute [local go_sem] QH QR V.noimm V.noimms frzZs frzZ frzA frzV frzVs frzBox boxLen Option.isSome cond_true cond_false aopD calW flatV stepX amap stepY alookup afind aupdate adelete amlen arange ameq mapOf akeq pl V.mapT V.mapTs Option.bind stepK runK guardD stepE runD callD compact selB callK evS ofVal ofVals scalar aop ares mkRes V.rn V.rns V.cells? cellsAt Go.Ai.part aload astore setL V.atom abin aun intBin shiftBin aconv fieldOf aindexAddr aindex bound? aslice aarr abuild afill alen nilP nilS nilF aeq eqCells eqCell Go.Ai.known strBin abuiltin aappend abuildSlice arowsFill amakeSlice acopy aclear minmax rowsOf numsT notStr isIntD isByte V.pz V.pzs T.toV frz1 frz scalT scalTs chunkT List.range List.range.loop ite_true ite_false if_true if_false ne_eq implies_true forall_const eq_self IntKind.bits kPostKF_ret kPostKF_normal kPostX_ret kPostX_normal bsl nil2K nil2 kPostFW_ret kPostFW_normal kPostKM_ret kPostKM_normal kPostXK_ret kPostXK_normal
/-- With one more, ahead of the first that it is less than. -/
def insL {α : Type} (lt : α → α → Bool) (x : α) : List α → List α
  | [] => [x]
  | y :: l => if lt x y = true then x :: y :: l else y :: insL lt x l
theorem insL_none {α : Type} {lt : α → α → Bool} {x : α} : ∀ {L : List α}, (∀ y ∈ L, lt x y = false) → insL lt x L = L ++ [x]
  | [], _ => rfl
  | y :: l, h => by
    rw [insL, if_neg (by rw [h y (by simp)]; simp), insL_none fun z hz => h z (by simp [hz])]
    rfl
theorem insL_app {α : Type} {lt : α → α → Bool} {x : α} : ∀ {A B : List α}, (∃ y ∈ A, lt x y = true) → insL lt x (A ++ B) = insL lt x A ++ B
  | [], _, h => by obtain ⟨y, hy, _⟩ := h; simp at hy
  | y :: A, B, h => by
    rw [List.cons_append, insL, insL]
    by_cases hy : lt x y = true
    · rw [if_pos hy, if_pos hy]; rfl
    · rw [if_neg hy, if_neg hy, insL_app (by
        obtain ⟨z, hz, hl⟩ := h
        rcases List.mem_cons.1 hz with rfl | hz
        · exact (hy hl).elim
        · exact ⟨z, hz, hl⟩)]
      rfl
theorem insL_here {α : Type} {lt : α → α → Bool} {x y : α} : ∀ {A : List α}, (∀ z ∈ A, lt x z = false) → lt x y = true → insL lt x (A ++ [y]) = A ++ [x, y]
  | [], _, h => by simp [insL, h]
  | z :: A, h, hy => by
    rw [List.cons_append, insL, if_neg (by rw [h z (by simp)]; simp), insL_here (fun w hw => h w (by simp [hw])) hy]
    rfl
theorem insL_len {α : Type} {lt : α → α → Bool} {x : α} : ∀ {L : List α}, (insL lt x L).length = L.length + 1
  | [] => rfl
  | y :: l => by
    rw [insL]
    split
    · rfl
    · simp [insL_len]
/-- How far the loop of an insertion has come. -/
def InsS {α : Type} (lt : α → α → Bool) (x : α) (L : List α) (j : Nat) (N : List α) (b : Bool) : Prop :=
  (b = false ∧ N = L.take j ∧ ∀ y ∈ L.take j, lt x y = false) ∨ (b = true ∧ N = insL lt x (L.take j) ∧ ∃ y ∈ L.take j, lt x y = true)
theorem InsS.len {α : Type} {lt : α → α → Bool} {x : α} {L : List α} {j : Nat} {N : List α} {b : Bool} (h : InsS lt x L j N b) : N.length ≤ L.length + 1 := by
  rcases h with ⟨_, rfl, _⟩ | ⟨_, rfl, _⟩
  · rw [List.length_take]; omega
  · rw [insL_len, List.length_take]; omega
theorem InsS.later {α : Type} {lt : α → α → Bool} {x y : α} {L : List α} {j : Nat} {N : List α} (h : InsS lt x L j N true) (hg : L[j]? = some y) : InsS lt x L (j + 1) (N ++ [y]) true := by
  rcases h with ⟨h, _⟩ | ⟨_, rfl, z, hz, hl⟩
  · cases h
  · exact .inr ⟨rfl, by rw [take_in hg, insL_app ⟨z, hz, hl⟩], z, by rw [take_in hg]; simp [hz], hl⟩
theorem InsS.here {α : Type} {lt : α → α → Bool} {x y : α} {L : List α} {j : Nat} {N : List α} (h : InsS lt x L j N false) (hg : L[j]? = some y) (hl : lt x y = true) : InsS lt x L (j + 1) (N ++ [x] ++ [y]) true := by
  rcases h with ⟨_, rfl, hno⟩ | ⟨h, _⟩
  · refine .inr ⟨rfl, ?_, y, by rw [take_in hg]; simp, hl⟩
    rw [take_in hg, insL_here hno hl]
    simp
  · cases h
theorem InsS.past {α : Type} {lt : α → α → Bool} {x y : α} {L : List α} {j : Nat} {N : List α} (h : InsS lt x L j N false) (hg : L[j]? = some y) (hl : lt x y = false) : InsS lt x L (j + 1) (N ++ [y]) false := by
  rcases h with ⟨_, rfl, hno⟩ | ⟨h, _⟩
  · exact .inl ⟨rfl, (take_in hg).symm, take_more (q := fun z => lt x z) hno hg hl⟩
  · cases h
theorem InsS.done {α : Type} {lt : α → α → Bool} {x : α} {L : List α} {N : List α} {b : Bool} (h : InsS lt x L L.length N b) : insL lt x L = if b = true then N else N ++ [x] := by
  rw [InsS, List.take_length] at h
  rcases h with ⟨rfl, rfl, hno⟩ | ⟨rfl, rfl, _⟩
  · rw [insL_none hno]; rfl
  · rfl
theorem zs_of {n l : Nat} (h : n ≤ l + 1) (h2 : l ≤ 1000) : (n + 1) * 24 ≤ 140737488355328 := by omega
theorem zt_of {n l : Nat} (h : n ≤ l + 1) (h2 : l ≤ 1000) : (n + 1 + 1) * 24 ≤ 140737488355328 := by omega
theorem wj_of {j l : Nat} (h : j ≤ l) (h2 : l ≤ 1000) : IntKind.i64.wrap ((j : Int) + 1) = (j : Int) + 1 := wI64 _ (by omega) (by omega)
theorem st_of {j l : Nat} (h : j < l) : l - (j + 1) < l - j := by omega
theorem nl_of {j l : Nat} (h : ¬ j < l) (h2 : j ≤ l) : j = l := by omega
theorem le_of_sl {a b : Nat} (h : a = b) : a ≤ b := by omega
def rMap (b1 b2 b0 : Bool) (k : Int) (a1 a2 : Bool) (b4 : Bool) (n : Int) : Int := if b1 = false ∨ b2 = false then 1 else if b0 = false then 5 else if k ≠ 1 then 184 else if a1 = true ∨ a2 = true then 181 else if b4 = false then 182 else if 64 ≤ n then 3 else 0
def inK (ks : List Int) (x : Int) : Bool := decide (0 ≤ x ∧ x < (ks.length : Int))
def refMapE (p : Pv) (m : Mp) : Int := rMap (decide (vidOk m.v)) (decide (isidOk m.s)) (inK p.ks m.p) (kindP p.ks m.p) (p.ms.find? fun x => x.p == m.p && x.v == m.v).isSome (p.ms.find? fun x => x.p == m.p && x.s == m.s).isSome (p.cs.find? fun x => x.s == m.s).isSome p.ms.length
def Im50 (p : Pv) (m : Mp) (n : Nat) (S : St) : Prop :=
  ∃ (j : Nat) (N : List Mp) (b : Bool) (mv : List Nat), S = ⟨tms [(2, .ptr 0 0 0), (3, .ptr 1 0 0), (4, .ptr 2 0 0), (12, .own 3 0 N.length), (13, vB b), (14, vI j)], [bxP p, bxMp m, .box [.s (.int .u8 0), .s (.int .u8 0), .s (.int .u8 0), .s (.int .u8 0), .s (.int .u8 0), .s (.int .u8 0), .s (.slice none 0 0), .s (.slice none 0 0), .s (.slice none 0 0), .s (.slice none 0 0)] false, .rows 3 (N.map mpT) false], mv⟩ ∧ InsS beforeB m p.ms j N b ∧ j ≤ p.ms.length ∧ n = p.ms.length - j
theorem pc50 (p : Pv) (hp : okL p) (m : Mp) : AC Tryz.prog 50 [pvV p, mpV m] [] (eqR (.tuple [pvV (if refMapE p m = 0 then { p with ms := insL beforeB m p.ms } else p), vI (refMapE p m)])) := by
  have n21 := pq21 p hp m.p m.v
  have n23 := pq23 p hp m.p m.s
  have n25 := pq25 p hp m.s
  have n116 := pc116 m.v
  have n117 := pc117 m.s
  obtain ⟨l1, l2, l3, l4, l5⟩ := hp
  obtain ⟨e, he⟩ : ∃ e, refMapE p m = e := ⟨_, rfl⟩
  have hd : refMapE p m = rMap (decide (vidOk m.v)) (decide (isidOk m.s)) (inK p.ks m.p) (kindP p.ks m.p) (p.ms.find? fun x => x.p == m.p && x.v == m.v).isSome (p.ms.find? fun x => x.p == m.p && x.s == m.s).isSome (p.cs.find? fun x => x.s == m.s).isSome p.ms.length := rfl
  unfold rf21 at n21
  unfold rf23 at n23
  unfold rf25 at n25
  obtain ⟨s1, a1, h21, e21⟩ : ∃ (i : Int) (g : Bool), AC Tryz.prog 21 [pvV p, vI m.p, vI m.v] [] (eqR (.tuple [vI i, vB g])) ∧ (p.ms.find? fun x => x.p == m.p && x.v == m.v).isSome = g := by
    cases hf : p.ms.find? (fun x => x.p == m.p && x.v == m.v) with
    | none => rw [hf] at n21; exact ⟨_, _, n21, rfl⟩
    | some x => rw [hf] at n21; exact ⟨_, _, n21, rfl⟩
  obtain ⟨s2, a2, h23, e23⟩ : ∃ (i : Int) (g : Bool), AC Tryz.prog 23 [pvV p, vI m.p, vI m.s] [] (eqR (.tuple [vI i, vB g])) ∧ (p.ms.find? fun x => x.p == m.p && x.s == m.s).isSome = g := by
    cases hf : p.ms.find? (fun x => x.p == m.p && x.s == m.s) with
    | none => rw [hf] at n23; exact ⟨_, _, n23, rfl⟩
    | some x => rw [hf] at n23; exact ⟨_, _, n23, rfl⟩
  obtain ⟨s3, a3, h25, e25⟩ : ∃ (i : Int) (g : Bool), AC Tryz.prog 25 [pvV p, vI m.s] [] (eqR (.tuple [vI i, vB g])) ∧ (p.cs.find? fun x => x.s == m.s).isSome = g := by
    cases hf : p.cs.find? (fun x => x.s == m.s) with
    | none => rw [hf] at n25; exact ⟨_, _, n25, rfl⟩
    | some x => rw [hf] at n25; exact ⟨_, _, n25, rfl⟩
  rw [e21, e23, e25] at hd
  clear n21 n23 n25 e21 e23 e25
  generalize decide (vidOk m.v) = m1 at n116 hd
  generalize decide (isidOk m.s) = m2 at n117 hd
  refine AC_frozen orders Tryz.func50 rfl (by kernel_rfl) (by kernel_rfl) Tryz.ntmps50 (by simp) ?_
  unfold Tryz.f50
  obtain ⟨R, hR⟩ : ∃ R, V.tuple [pvV (if refMapE p m = 0 then { p with ms := insL beforeB m p.ms } else p), vI (refMapE p m)] = R := ⟨_, rfl⟩
  have fin : ∀ c : Int, refMapE p m = c → c ≠ 0 → V.tuple [pvV p, vI c] = R := fun c h hc => by rw [← hR, h, if_neg hc]
  have good : refMapE p m = 0 → V.tuple [pvV { p with ms := insL beforeB m p.ms }, vI 0] = R := fun h => by rw [← hR, h, if_pos rfl]
  rw [hR]
  by_cases hin : 0 ≤ m.p ∧ m.p < (p.ks.length : Int)
  · have hik : inK p.ks m.p = true := decide_eq_true hin
    rw [hik] at hd
    have hn1 : ¬ m.p < 0 := by omega
    have hn2 : ¬ (p.ks.length : Int) ≤ m.p := by omega
    obtain ⟨i, hi⟩ := Int.eq_ofNat_of_zero_le hin.1
    have hil : i < p.ks.length := by omega
    have hgi : p.ks[i]? = some p.ks[i] := List.getElem?_eq_getElem hil
    obtain ⟨k, hk⟩ : ∃ k, p.ks[i] = k := ⟨_, rfl⟩
    rw [hk] at hgi
    have hkk : kindP p.ks m.p = k := by rw [hi]; unfold kindP; rw [if_pos (by omega), Int.toNat_natCast, List.getD_eq_getElem?_getD, hgi]; rfl
    rw [hkk] at hd
    have hgm : p.ks[m.p.toNat]? = some k := by rw [hi, Int.toNat_natCast]; exact hgi
    have hin0 := hin.1
    have hin1 := hin.2
    (have hwq := trivial; repeat' (first | simp (maxSteps:=9999999)-implicitDefEqProofs only [go_sem,simprocAttr,hwq,FT3,FT4,FT5,FT23,FT24,FT25,FT26,FT27,FT29,FT32,FT34,FT35,FT37,FT46,FT59,List.length_map,List.getElem?_map,Int.natCast_nonneg,List.length_append,List.map_append,hn1,hn2,hin0,hin1,hgm] | (refine condK_split ?_ ?_ <;> intro hwq) | (refine two_split ?_ ?_) | (refine guardK_split ?_ ?_ <;> intro hwq) | (refine guardE_split ?_ ?_ <;> intro hwq) | (refine awp_drawW [] (by decide +kernel) ?_; have hwq := trivial) | (refine call_plain h21 rfl rfl ?_; have hwq := trivial) | (refine call_plain h23 rfl rfl ?_; have hwq := trivial) | (refine call_plain h25 rfl rfl ?_; have hwq := trivial) | (refine call_plain n116 rfl rfl ?_; have hwq := trivial) | (refine call_plain n117 rfl rfl ?_; have hwq := trivial) | fail))
    all_goals first
      | (refine fin 1 ?_ (by decide); rw [hd]; simp_all [rMap]; done)
      | (refine fin 184 ?_ (by decide); rw [hd]; simp_all [rMap]; done)
      | (refine fin 181 ?_ (by decide); rw [hd]; simp_all [rMap]; done)
      | (refine fin 182 ?_ (by decide); rw [hd]; simp_all [rMap]; done)
      | (refine fin 3 ?_ (by decide); rw [hd]; simp_all [rMap]; done)
      | skip
    have h0 : refMapE p m = 0 := by rw [hd]; simp_all [rMap]
    have g0 := good h0
    clear h0 he hd fin good h21 h23 h25 n116 n117 hin hin0 hin1 hi hk hkk hgm hgi hil hn1 hn2 hik
    refine awp_loopK (Im50 p m) p.ms.length _ (Weak.trans (Weak.virt 12 3 (.inl rfl)) (Weak.cutI 4 [2, 3, 4, 12, 13, 14] ?_ ?_)) ⟨0, [], false, _, rfl, .inl ⟨rfl, by simp, by simp⟩, by omega, rfl⟩ ?_
    · simp (maxSteps:=9999999)-implicitDefEqProofs only [simprocAttr,QH,Option.isSome,cond_true,cond_false,Option.bind,selB,V.rn,V.rns,Go.Ai.known,V.pz,V.pzs,T.toV,frz1,List.range,List.range.loop,ite_true,ite_false,if_true,if_false,ne_eq,implies_true,forall_const,eq_self,IntKind.bits,upd_tmsS,selT_cons,selT_nil,List.length_map,List.getElem?_map,Int.natCast_nonneg,List.length_append,List.map_append]
    · simp (maxSteps:=9999999)-implicitDefEqProofs only [simprocAttr,QH,Option.isSome,cond_true,cond_false,Option.bind,selB,V.rn,V.rns,Go.Ai.known,V.pz,V.pzs,T.toV,frz1,List.range,List.range.loop,ite_true,ite_false,if_true,if_false,ne_eq,implies_true,forall_const,eq_self,IntKind.bits,upd_tmsS,selT_cons,selT_nil]
    rintro kk S ⟨j, N, b, mv, rfl, hI, hj, rfl⟩
    have hlen := hI.len
    have zs := zs_of hlen l2
    have zt := zt_of hlen l2
    have wj := wj_of hj l2
    by_cases hjl : j < p.ms.length
    · have hjl' : (j : Int) < (p.ms.length : Int) := Int.ofNat_lt.2 hjl
      have hgj : p.ms[j]? = some p.ms[j] := List.getElem?_eq_getElem hjl
      obtain ⟨y, hy⟩ : ∃ y, p.ms[j] = y := ⟨_, rfl⟩
      rw [hy] at hgj
      have n118 := pc118 m y
      cases b with
      | true =>
        (have hwq := trivial; repeat' (first | simp (maxSteps:=9999999)-implicitDefEqProofs only [go_sem,simprocAttr,hwq,FT3,FT4,FT5,FT23,FT24,FT25,FT26,FT27,FT29,FT32,FT34,FT35,FT37,FT46,FT59,List.length_map,List.getElem?_map,Int.natCast_nonneg,List.length_append,List.map_append,hjl',hgj,wj,zs] | (refine condK_split ?_ ?_ <;> intro hwq) | (refine two_split ?_ ?_) | (refine guardK_split ?_ ?_ <;> intro hwq) | (refine guardE_split ?_ ?_ <;> intro hwq) | (refine awp_drawW [] (by decide +kernel) ?_; have hwq := trivial) | fail))
        refine ⟨p.ms.length - (j + 1), _, st_of hjl, Weak.cutI 4 [2, 3, 4, 12, 13, 14] ?_ ?_, j + 1, N ++ [y], true, _, rfl, hI.later hgj, hjl, rfl⟩
        · simp (maxSteps:=9999999)-implicitDefEqProofs only [simprocAttr,QH,Option.isSome,cond_true,cond_false,Option.bind,selB,V.rn,V.rns,Go.Ai.known,V.pz,V.pzs,T.toV,frz1,List.range,List.range.loop,ite_true,ite_false,if_true,if_false,ne_eq,implies_true,forall_const,eq_self,IntKind.bits,upd_tmsS,selT_cons,selT_nil,List.length_map,List.getElem?_map,Int.natCast_nonneg,List.length_append,List.map_append,List.length_cons,List.length_nil,List.map_cons,List.map_nil]
        · simp (maxSteps:=9999999)-implicitDefEqProofs only [simprocAttr,QH,Option.isSome,cond_true,cond_false,Option.bind,selB,V.rn,V.rns,Go.Ai.known,V.pz,V.pzs,T.toV,frz1,List.range,List.range.loop,ite_true,ite_false,if_true,if_false,ne_eq,implies_true,forall_const,eq_self,IntKind.bits,upd_tmsS,selT_cons,selT_nil,List.length_map,List.getElem?_map,Int.natCast_nonneg,List.length_append,List.map_append,List.length_cons,List.length_nil,List.map_cons,List.map_nil]
      | false =>
        cases hb : beforeB m y with
        | true =>
          rw [hb] at n118
          (have hwq := trivial; repeat' (first | simp (maxSteps:=9999999)-implicitDefEqProofs only [go_sem,simprocAttr,hwq,FT3,FT4,FT5,FT23,FT24,FT25,FT26,FT27,FT29,FT32,FT34,FT35,FT37,FT46,FT59,List.length_map,List.getElem?_map,Int.natCast_nonneg,List.length_append,List.map_append,hjl',hgj,wj,zs,zt,List.length_cons,List.length_nil] | (refine condK_split ?_ ?_ <;> intro hwq) | (refine two_split ?_ ?_) | (refine guardK_split ?_ ?_ <;> intro hwq) | (refine guardE_split ?_ ?_ <;> intro hwq) | (refine awp_drawW [] (by decide +kernel) ?_; have hwq := trivial) | (refine draw_plain n118 rfl (fun _ => rfl) ?_; have hwq := trivial) | fail))
          refine ⟨p.ms.length - (j + 1), _, st_of hjl, Weak.cutI 4 [2, 3, 4, 12, 13, 14] ?_ ?_, j + 1, N ++ [m] ++ [y], true, _, rfl, hI.here hgj hb, hjl, rfl⟩
          · simp (maxSteps:=9999999)-implicitDefEqProofs only [simprocAttr,QH,Option.isSome,cond_true,cond_false,Option.bind,selB,V.rn,V.rns,Go.Ai.known,V.pz,V.pzs,T.toV,frz1,List.range,List.range.loop,ite_true,ite_false,if_true,if_false,ne_eq,implies_true,forall_const,eq_self,IntKind.bits,upd_tmsS,selT_cons,selT_nil,List.length_map,List.getElem?_map,Int.natCast_nonneg,List.length_append,List.map_append,List.length_cons,List.length_nil,List.map_cons,List.map_nil]
          · simp (maxSteps:=9999999)-implicitDefEqProofs only [simprocAttr,QH,Option.isSome,cond_true,cond_false,Option.bind,selB,V.rn,V.rns,Go.Ai.known,V.pz,V.pzs,T.toV,frz1,List.range,List.range.loop,ite_true,ite_false,if_true,if_false,ne_eq,implies_true,forall_const,eq_self,IntKind.bits,upd_tmsS,selT_cons,selT_nil,List.length_map,List.getElem?_map,Int.natCast_nonneg,List.length_append,List.map_append,List.length_cons,List.length_nil,List.map_cons,List.map_nil]
        | false =>
          rw [hb] at n118
          (have hwq := trivial; repeat' (first | simp (maxSteps:=9999999)-implicitDefEqProofs only [go_sem,simprocAttr,hwq,FT3,FT4,FT5,FT23,FT24,FT25,FT26,FT27,FT29,FT32,FT34,FT35,FT37,FT46,FT59,List.length_map,List.getElem?_map,Int.natCast_nonneg,List.length_append,List.map_append,hjl',hgj,wj,zs] | (refine condK_split ?_ ?_ <;> intro hwq) | (refine two_split ?_ ?_) | (refine guardK_split ?_ ?_ <;> intro hwq) | (refine guardE_split ?_ ?_ <;> intro hwq) | (refine awp_drawW [] (by decide +kernel) ?_; have hwq := trivial) | (refine draw_plain n118 rfl (fun _ => rfl) ?_; have hwq := trivial) | fail))
          refine ⟨p.ms.length - (j + 1), _, st_of hjl, Weak.cutI 4 [2, 3, 4, 12, 13, 14] ?_ ?_, j + 1, N ++ [y], false, _, rfl, hI.past hgj hb, hjl, rfl⟩
          · simp (maxSteps:=9999999)-implicitDefEqProofs only [simprocAttr,QH,Option.isSome,cond_true,cond_false,Option.bind,selB,V.rn,V.rns,Go.Ai.known,V.pz,V.pzs,T.toV,frz1,List.range,List.range.loop,ite_true,ite_false,if_true,if_false,ne_eq,implies_true,forall_const,eq_self,IntKind.bits,upd_tmsS,selT_cons,selT_nil,List.length_map,List.getElem?_map,Int.natCast_nonneg,List.length_append,List.map_append,List.length_cons,List.length_nil,List.map_cons,List.map_nil]
          · simp (maxSteps:=9999999)-implicitDefEqProofs only [simprocAttr,QH,Option.isSome,cond_true,cond_false,Option.bind,selB,V.rn,V.rns,Go.Ai.known,V.pz,V.pzs,T.toV,frz1,List.range,List.range.loop,ite_true,ite_false,if_true,if_false,ne_eq,implies_true,forall_const,eq_self,IntKind.bits,upd_tmsS,selT_cons,selT_nil,List.length_map,List.getElem?_map,Int.natCast_nonneg,List.length_append,List.map_append,List.length_cons,List.length_nil,List.map_cons,List.map_nil]
    · have hjl' : ¬ (j : Int) < (p.ms.length : Int) := fun h => hjl (Int.ofNat_lt.1 h)
      obtain rfl : j = p.ms.length := nl_of hjl hj
      have hdone := hI.done
      rw [← g0, hdone]
      cases b with
      | true =>
        rw [if_pos rfl]
        have tk : List.take N.length (List.map mpT N) = List.map mpT N := List.take_of_length_le (by simp)
        (have hwq := trivial; repeat' (first | simp (maxSteps:=9999999)-implicitDefEqProofs only [go_sem,simprocAttr,hwq,FT3,FT4,FT5,FT23,FT24,FT25,FT26,FT27,FT29,FT32,FT34,FT35,FT37,FT46,FT59,List.length_map,List.getElem?_map,Int.natCast_nonneg,List.length_append,List.map_append,hjl',tk,Nat.le_refl] | (refine condK_split ?_ ?_ <;> intro hwq) | (refine two_split ?_ ?_) | (refine guardK_split ?_ ?_ <;> intro hwq) | (refine guardE_split ?_ ?_ <;> intro hwq) | (refine awp_drawW [] (by decide +kernel) ?_; have hwq := trivial) | fail))
      | false =>
        rw [if_neg (by simp)]
        obtain ⟨X, hX⟩ : ∃ X, List.map mpT N ++ [mpT m] = X := ⟨_, rfl⟩
        have hX2 : List.map mpT (N ++ [m]) = X := by rw [← hX, List.map_append]; rfl
        have hXl : X.length = N.length + 1 := by rw [← hX]; simp
        have tk : List.take (N.length + 1) X = X := List.take_of_length_le (le_of_sl hXl)
        rw [show pvV { p with ms := N ++ [m] } = .agg [.s (.int .u8 p.own.a), .s (.int .u8 p.own.b), .s (.int .u8 p.own.c), .s (.int .u8 p.own.d), .s (.int .u8 p.own.e), .s (.int .u8 p.own.f), isV p.ks, .sl 3 X, csV p.cs, bsV p.bs] from by rw [← hX2]]
        (have hwq := trivial; repeat' (first | simp (maxSteps:=9999999)-implicitDefEqProofs only [go_sem,simprocAttr,hwq,FT3,FT4,FT5,FT23,FT24,FT25,FT26,FT27,FT29,FT32,FT34,FT35,FT37,FT46,FT59,List.length_map,List.getElem?_map,Int.natCast_nonneg,List.length_append,List.map_append,hjl',zs,hX,hXl,tk,Nat.le_refl] | (refine condK_split ?_ ?_ <;> intro hwq) | (refine two_split ?_ ?_) | (refine guardK_split ?_ ?_ <;> intro hwq) | (refine guardE_split ?_ ?_ <;> intro hwq) | (refine awp_drawW [] (by decide +kernel) ?_; have hwq := trivial) | fail))
  · have hik : inK p.ks m.p = false := decide_eq_false hin
    rw [hik] at hd
    by_cases hn1 : m.p < 0
    · (have hwq := trivial; repeat' (first | simp (maxSteps:=9999999)-implicitDefEqProofs only [go_sem,simprocAttr,hwq,FT3,FT4,FT5,FT23,FT24,FT25,FT26,FT27,FT29,FT32,FT34,FT35,FT37,FT46,FT59,List.length_map,List.getElem?_map,Int.natCast_nonneg,List.length_append,List.map_append,hn1] | (refine condK_split ?_ ?_ <;> intro hwq) | (refine two_split ?_ ?_) | (refine guardK_split ?_ ?_ <;> intro hwq) | (refine guardE_split ?_ ?_ <;> intro hwq) | (refine awp_drawW [] (by decide +kernel) ?_; have hwq := trivial) | (refine call_plain h21 rfl rfl ?_; have hwq := trivial) | (refine call_plain h23 rfl rfl ?_; have hwq := trivial) | (refine call_plain h25 rfl rfl ?_; have hwq := trivial) | (refine call_plain n116 rfl rfl ?_; have hwq := trivial) | (refine call_plain n117 rfl rfl ?_; have hwq := trivial) | fail))
      all_goals first
        | (refine fin 1 ?_ (by decide); rw [hd]; simp_all [rMap]; done)
        | (refine fin 5 ?_ (by decide); rw [hd]; simp_all [rMap]; done)
    · have hn2 : (p.ks.length : Int) ≤ m.p := by omega
      (have hwq := trivial; repeat' (first | simp (maxSteps:=9999999)-implicitDefEqProofs only [go_sem,simprocAttr,hwq,FT3,FT4,FT5,FT23,FT24,FT25,FT26,FT27,FT29,FT32,FT34,FT35,FT37,FT46,FT59,List.length_map,List.getElem?_map,Int.natCast_nonneg,List.length_append,List.map_append,hn1,hn2] | (refine condK_split ?_ ?_ <;> intro hwq) | (refine two_split ?_ ?_) | (refine guardK_split ?_ ?_ <;> intro hwq) | (refine guardE_split ?_ ?_ <;> intro hwq) | (refine awp_drawW [] (by decide +kernel) ?_; have hwq := trivial) | (refine call_plain h21 rfl rfl ?_; have hwq := trivial) | (refine call_plain h23 rfl rfl ?_; have hwq := trivial) | (refine call_plain h25 rfl rfl ?_; have hwq := trivial) | (refine call_plain n116 rfl rfl ?_; have hwq := trivial) | (refine call_plain n117 rfl rfl ?_; have hwq := trivial) | fail))
      all_goals first
        | (refine fin 1 ?_ (by decide); rw [hd]; simp_all [rMap]; done)
        | (refine fin 5 ?_ (by decide); rw [hd]; simp_all [rMap]; done)
end Go.Ai

set_option linter.unusedVariables false
set_option linter.unusedSimpArgs false
set_option maxHeartbeats 8000000
set_option maxRecDepth 100000
namespace Go.Ai
open Go.Proofs
attribute [local go_sem] QH QR V.noimm V.noimms frzZs frzZ frzA frzV frzVs frzBox boxLen Option.isSome cond_true cond_false aopD calW flatV stepX amap stepY alookup afind aupdate adelete amlen arange ameq mapOf akeq pl V.mapT V.mapTs Option.bind stepK runK guardD stepE runD callD compact selB callK evS ofVal ofVals scalar aop ares mkRes V.rn V.rns V.cells? cellsAt Go.Ai.part aload astore setL V.atom abin aun intBin shiftBin aconv fieldOf aindexAddr aindex bound? aslice aarr abuild afill alen nilP nilS nilF aeq eqCells eqCell Go.Ai.known strBin abuiltin aappend abuildSlice arowsFill amakeSlice acopy aclear minmax rowsOf numsT notStr isIntD isByte V.pz V.pzs T.toV frz1 frz scalT scalTs chunkT List.range List.range.loop ite_true ite_false if_true if_false ne_eq implies_true forall_const eq_self IntKind.bits kPostKF_ret kPostKF_normal kPostX_ret kPostX_normal bsl nil2K nil2 kPostFW_ret kPostFW_normal kPostKM_ret kPostKM_normal kPostXK_ret kPostXK_normal
abbrev bxCr (x : Cr) : Blk := .box [vI x.s, vI x.v] false
def rCar (b1 b2 a1 b4 : Bool) (n : Int) : Int := if b1 = false ∨ b2 = false then 1 else if a1 = true then 181 else if b4 = false then 182 else if 64 ≤ n then 3 else 0
def refCarE (p : Pv) (c : Cr) : Int := rCar (decide (vidOk c.v)) (decide (isidOk c.s)) (p.cs.find? fun x => x.s == c.s).isSome (p.bs.find? fun x => x.v == c.v).isSome p.cs.length
theorem zs2_of {n l : Nat} (h : n ≤ l + 1) (h2 : l ≤ 1000) : (n + 1) * 16 ≤ 140737488355328 := by omega
theorem zt2_of {n l : Nat} (h : n ≤ l + 1) (h2 : l ≤ 1000) : (n + 1 + 1) * 16 ≤ 140737488355328 := by omega
def Im52 (p : Pv) (m : Cr) (n : Nat) (S : St) : Prop :=
  ∃ (j : Nat) (N : List Cr) (b : Bool) (mv : List Nat), S = ⟨tms [(2, .ptr 0 0 0), (3, .ptr 1 0 0), (4, .ptr 2 0 0), (10, .own 3 0 N.length), (11, vB b), (12, vI j)], [bxP p, bxCr m, .box [.s (.int .u8 0), .s (.int .u8 0), .s (.int .u8 0), .s (.int .u8 0), .s (.int .u8 0), .s (.int .u8 0), .s (.slice none 0 0), .s (.slice none 0 0), .s (.slice none 0 0), .s (.slice none 0 0)] false, .rows 2 (N.map crT) false], mv⟩ ∧ InsS ltCr m p.cs j N b ∧ j ≤ p.cs.length ∧ n = p.cs.length - j
theorem pc52 (p : Pv) (hp : okL p) (m : Cr) : AC Tryz.prog 52 [pvV p, crV m] [] (eqR (.tuple [pvV (if refCarE p m = 0 then { p with cs := insL ltCr m p.cs } else p), vI (refCarE p m)])) := by
  have n25 := pq25 p hp m.s
  have n18 := pq18 p hp m.v
  have n116 := pc116 m.v
  have n117 := pc117 m.s
  obtain ⟨l1, l2, l3, l4, l5⟩ := hp
  have hd : refCarE p m = rCar (decide (vidOk m.v)) (decide (isidOk m.s)) (p.cs.find? fun x => x.s == m.s).isSome (p.bs.find? fun x => x.v == m.v).isSome p.cs.length := rfl
  unfold rf25 at n25
  unfold rf18 at n18
  obtain ⟨s3, a3, h25, e25⟩ : ∃ (i : Int) (g : Bool), AC Tryz.prog 25 [pvV p, vI m.s] [] (eqR (.tuple [vI i, vB g])) ∧ (p.cs.find? fun x => x.s == m.s).isSome = g := by
    cases hf : p.cs.find? (fun x => x.s == m.s) with
    | none => rw [hf] at n25; exact ⟨_, _, n25, rfl⟩
    | some x => rw [hf] at n25; exact ⟨_, _, n25, rfl⟩
  obtain ⟨w, a4, hw, h18, e18⟩ : ∃ (w : V) (g : Bool), ((∃ l, w = isV l) ∨ w = .s (.slice none 0 0)) ∧ AC Tryz.prog 18 [pvV p, vI m.v] [] (eqR (.tuple [w, vB g])) ∧ (p.bs.find? fun x => x.v == m.v).isSome = g := by
    cases hf : p.bs.find? (fun x => x.v == m.v) with
    | none => rw [hf] at n18; exact ⟨_, _, .inr rfl, n18, rfl⟩
    | some x => rw [hf] at n18; exact ⟨_, _, .inl ⟨_, rfl⟩, n18, rfl⟩
  rw [e25, e18] at hd
  clear n25 n18 e25 e18
  generalize decide (vidOk m.v) = m1 at n116 hd
  generalize decide (isidOk m.s) = m2 at n117 hd
  refine AC_frozen orders Tryz.func52 rfl (by kernel_rfl) (by kernel_rfl) Tryz.ntmps52 (by simp) ?_
  unfold Tryz.f52
  obtain ⟨R, hR⟩ : ∃ R, V.tuple [pvV (if refCarE p m = 0 then { p with cs := insL ltCr m p.cs } else p), vI (refCarE p m)] = R := ⟨_, rfl⟩
  have fin : ∀ c : Int, refCarE p m = c → c ≠ 0 → V.tuple [pvV p, vI c] = R := fun c h hc => by rw [← hR, h, if_neg hc]
  have good : refCarE p m = 0 → V.tuple [pvV { p with cs := insL ltCr m p.cs }, vI 0] = R := fun h => by rw [← hR, h, if_pos rfl]
  rw [hR]
  rcases hw with ⟨l, rfl⟩ | rfl
  all_goals
    (have hwq := trivial; repeat' (first | simp (maxSteps:=9999999)-implicitDefEqProofs only [go_sem,simprocAttr,hwq,FT3,FT4,FT5,FT23,FT24,FT25,FT26,FT27,FT29,FT32,FT34,FT35,FT37,FT46,FT59,List.length_map,List.getElem?_map,Int.natCast_nonneg,List.length_append,List.map_append] | (refine condK_split ?_ ?_ <;> intro hwq) | (refine two_split ?_ ?_) | (refine guardK_split ?_ ?_ <;> intro hwq) | (refine guardE_split ?_ ?_ <;> intro hwq) | (refine awp_drawW [] (by decide +kernel) ?_; have hwq := trivial) | (refine call_plain h25 rfl rfl ?_; have hwq := trivial) | (refine call_plain h18 rfl rfl ?_; have hwq := trivial) | (refine call_plain n116 rfl rfl ?_; have hwq := trivial) | (refine call_plain n117 rfl rfl ?_; have hwq := trivial) | fail))
    all_goals first
      | (refine fin 1 ?_ (by decide); rw [hd]; simp_all [rCar]; done)
      | (refine fin 181 ?_ (by decide); rw [hd]; simp_all [rCar]; done)
      | (refine fin 182 ?_ (by decide); rw [hd]; simp_all [rCar]; done)
      | (refine fin 3 ?_ (by decide); rw [hd]; simp_all [rCar]; done)
      | skip
    have h0 : refCarE p m = 0 := by rw [hd]; simp_all [rCar]
    have g0 := good h0
    clear h0 hd fin good h25 h18 n116 n117
    refine awp_loopK (Im52 p m) p.cs.length _ (Weak.trans (Weak.virt 10 2 (.inl rfl)) (Weak.cutI 4 [2, 3, 4, 10, 11, 12] ?_ ?_)) ⟨0, [], false, _, rfl, .inl ⟨rfl, by simp, by simp⟩, by omega, rfl⟩ ?_
    · simp (maxSteps:=9999999)-implicitDefEqProofs only [simprocAttr,QH,Option.isSome,cond_true,cond_false,Option.bind,selB,V.rn,V.rns,Go.Ai.known,V.pz,V.pzs,T.toV,frz1,List.range,List.range.loop,ite_true,ite_false,if_true,if_false,ne_eq,implies_true,forall_const,eq_self,IntKind.bits,upd_tmsS,selT_cons,selT_nil,List.length_map,List.getElem?_map,Int.natCast_nonneg,List.length_append,List.map_append]
    · simp (maxSteps:=9999999)-implicitDefEqProofs only [simprocAttr,QH,Option.isSome,cond_true,cond_false,Option.bind,selB,V.rn,V.rns,Go.Ai.known,V.pz,V.pzs,T.toV,frz1,List.range,List.range.loop,ite_true,ite_false,if_true,if_false,ne_eq,implies_true,forall_const,eq_self,IntKind.bits,upd_tmsS,selT_cons,selT_nil]
    rintro kk S ⟨j, N, b, mv, rfl, hI, hj, rfl⟩
    have hlen := hI.len
    have zs := zs2_of hlen l3
    have zt := zt2_of hlen l3
    have wj := wj_of hj l3
    by_cases hjl : j < p.cs.length
    · have hjl' : (j : Int) < (p.cs.length : Int) := Int.ofNat_lt.2 hjl
      have hgj : p.cs[j]? = some p.cs[j] := List.getElem?_eq_getElem hjl
      obtain ⟨y, hy⟩ : ∃ y, p.cs[j] = y := ⟨_, rfl⟩
      rw [hy] at hgj
      have hz := trivial
      cases b with
      | true =>
        (have hwq := trivial; repeat' (first | simp (maxSteps:=9999999)-implicitDefEqProofs only [go_sem,simprocAttr,hwq,FT3,FT4,FT5,FT23,FT24,FT25,FT26,FT27,FT29,FT32,FT34,FT35,FT37,FT46,FT59,List.length_map,List.getElem?_map,Int.natCast_nonneg,List.length_append,List.map_append,hjl',hgj,wj,zs] | (refine condK_split ?_ ?_ <;> intro hwq) | (refine two_split ?_ ?_) | (refine guardK_split ?_ ?_ <;> intro hwq) | (refine guardE_split ?_ ?_ <;> intro hwq) | (refine awp_drawW [] (by decide +kernel) ?_; have hwq := trivial) | fail))
        refine ⟨p.cs.length - (j + 1), _, st_of hjl, Weak.cutI 4 [2, 3, 4, 10, 11, 12] ?_ ?_, j + 1, N ++ [y], true, _, rfl, hI.later hgj, hjl, rfl⟩
        · simp (maxSteps:=9999999)-implicitDefEqProofs only [simprocAttr,QH,Option.isSome,cond_true,cond_false,Option.bind,selB,V.rn,V.rns,Go.Ai.known,V.pz,V.pzs,T.toV,frz1,List.range,List.range.loop,ite_true,ite_false,if_true,if_false,ne_eq,implies_true,forall_const,eq_self,IntKind.bits,upd_tmsS,selT_cons,selT_nil,List.length_map,List.getElem?_map,Int.natCast_nonneg,List.length_append,List.map_append,List.length_cons,List.length_nil,List.map_cons,List.map_nil]
        · simp (maxSteps:=9999999)-implicitDefEqProofs only [simprocAttr,QH,Option.isSome,cond_true,cond_false,Option.bind,selB,V.rn,V.rns,Go.Ai.known,V.pz,V.pzs,T.toV,frz1,List.range,List.range.loop,ite_true,ite_false,if_true,if_false,ne_eq,implies_true,forall_const,eq_self,IntKind.bits,upd_tmsS,selT_cons,selT_nil,List.length_map,List.getElem?_map,Int.natCast_nonneg,List.length_append,List.map_append,List.length_cons,List.length_nil,List.map_cons,List.map_nil]
      | false =>
        by_cases hb : m.s < y.s
        · have hbb : ltCr m y = true := by unfold ltCr; simp [hb]
          (have hwq := trivial; repeat' (first | simp (maxSteps:=9999999)-implicitDefEqProofs only [go_sem,simprocAttr,hwq,FT3,FT4,FT5,FT23,FT24,FT25,FT26,FT27,FT29,FT32,FT34,FT35,FT37,FT46,FT59,List.length_map,List.getElem?_map,Int.natCast_nonneg,List.length_append,List.map_append,hjl',hgj,wj,zs,zt,hb,List.length_cons,List.length_nil] | (refine condK_split ?_ ?_ <;> intro hwq) | (refine two_split ?_ ?_) | (refine guardK_split ?_ ?_ <;> intro hwq) | (refine guardE_split ?_ ?_ <;> intro hwq) | (refine awp_drawW [] (by decide +kernel) ?_; have hwq := trivial) | fail))
          refine ⟨p.cs.length - (j + 1), _, st_of hjl, Weak.cutI 4 [2, 3, 4, 10, 11, 12] ?_ ?_, j + 1, N ++ [m] ++ [y], true, _, rfl, hI.here hgj hbb, hjl, rfl⟩
          · simp (maxSteps:=9999999)-implicitDefEqProofs only [simprocAttr,QH,Option.isSome,cond_true,cond_false,Option.bind,selB,V.rn,V.rns,Go.Ai.known,V.pz,V.pzs,T.toV,frz1,List.range,List.range.loop,ite_true,ite_false,if_true,if_false,ne_eq,implies_true,forall_const,eq_self,IntKind.bits,upd_tmsS,selT_cons,selT_nil,List.length_map,List.getElem?_map,Int.natCast_nonneg,List.length_append,List.map_append,List.length_cons,List.length_nil,List.map_cons,List.map_nil]
          · simp (maxSteps:=9999999)-implicitDefEqProofs only [simprocAttr,QH,Option.isSome,cond_true,cond_false,Option.bind,selB,V.rn,V.rns,Go.Ai.known,V.pz,V.pzs,T.toV,frz1,List.range,List.range.loop,ite_true,ite_false,if_true,if_false,ne_eq,implies_true,forall_const,eq_self,IntKind.bits,upd_tmsS,selT_cons,selT_nil,List.length_map,List.getElem?_map,Int.natCast_nonneg,List.length_append,List.map_append,List.length_cons,List.length_nil,List.map_cons,List.map_nil]
        · have hbb : ltCr m y = false := by unfold ltCr; simp [hb]
          (have hwq := trivial; repeat' (first | simp (maxSteps:=9999999)-implicitDefEqProofs only [go_sem,simprocAttr,hwq,FT3,FT4,FT5,FT23,FT24,FT25,FT26,FT27,FT29,FT32,FT34,FT35,FT37,FT46,FT59,List.length_map,List.getElem?_map,Int.natCast_nonneg,List.length_append,List.map_append,hjl',hgj,wj,zs,hb] | (refine condK_split ?_ ?_ <;> intro hwq) | (refine two_split ?_ ?_) | (refine guardK_split ?_ ?_ <;> intro hwq) | (refine guardE_split ?_ ?_ <;> intro hwq) | (refine awp_drawW [] (by decide +kernel) ?_; have hwq := trivial) | fail))
          refine ⟨p.cs.length - (j + 1), _, st_of hjl, Weak.cutI 4 [2, 3, 4, 10, 11, 12] ?_ ?_, j + 1, N ++ [y], false, _, rfl, hI.past hgj hbb, hjl, rfl⟩
          · simp (maxSteps:=9999999)-implicitDefEqProofs only [simprocAttr,QH,Option.isSome,cond_true,cond_false,Option.bind,selB,V.rn,V.rns,Go.Ai.known,V.pz,V.pzs,T.toV,frz1,List.range,List.range.loop,ite_true,ite_false,if_true,if_false,ne_eq,implies_true,forall_const,eq_self,IntKind.bits,upd_tmsS,selT_cons,selT_nil,List.length_map,List.getElem?_map,Int.natCast_nonneg,List.length_append,List.map_append,List.length_cons,List.length_nil,List.map_cons,List.map_nil]
          · simp (maxSteps:=9999999)-implicitDefEqProofs only [simprocAttr,QH,Option.isSome,cond_true,cond_false,Option.bind,selB,V.rn,V.rns,Go.Ai.known,V.pz,V.pzs,T.toV,frz1,List.range,List.range.loop,ite_true,ite_false,if_true,if_false,ne_eq,implies_true,forall_const,eq_self,IntKind.bits,upd_tmsS,selT_cons,selT_nil,List.length_map,List.getElem?_map,Int.natCast_nonneg,List.length_append,List.map_append,List.length_cons,List.length_nil,List.map_cons,List.map_nil]
    · have hjl' : ¬ (j : Int) < (p.cs.length : Int) := fun h => hjl (Int.ofNat_lt.1 h)
      obtain rfl : j = p.cs.length := nl_of hjl hj
      have hdone := hI.done
      rw [← g0, hdone]
      cases b with
      | true =>
        rw [if_pos rfl]
        have tk : List.take N.length (List.map crT N) = List.map crT N := List.take_of_length_le (by simp)
        (have hwq := trivial; repeat' (first | simp (maxSteps:=9999999)-implicitDefEqProofs only [go_sem,simprocAttr,hwq,FT3,FT4,FT5,FT23,FT24,FT25,FT26,FT27,FT29,FT32,FT34,FT35,FT37,FT46,FT59,List.length_map,List.getElem?_map,Int.natCast_nonneg,List.length_append,List.map_append,hjl',tk,Nat.le_refl] | (refine condK_split ?_ ?_ <;> intro hwq) | (refine two_split ?_ ?_) | (refine guardK_split ?_ ?_ <;> intro hwq) | (refine guardE_split ?_ ?_ <;> intro hwq) | (refine awp_drawW [] (by decide +kernel) ?_; have hwq := trivial) | fail))
      | false =>
        rw [if_neg (by simp)]
        obtain ⟨X, hX⟩ : ∃ X, List.map crT N ++ [crT m] = X := ⟨_, rfl⟩
        have hX2 : List.map crT (N ++ [m]) = X := by rw [← hX, List.map_append]; rfl
        have hXl : X.length = N.length + 1 := by rw [← hX]; simp
        have tk : List.take (N.length + 1) X = X := List.take_of_length_le (le_of_sl hXl)
        rw [show pvV { p with cs := N ++ [m] } = .agg [.s (.int .u8 p.own.a), .s (.int .u8 p.own.b), .s (.int .u8 p.own.c), .s (.int .u8 p.own.d), .s (.int .u8 p.own.e), .s (.int .u8 p.own.f), isV p.ks, msV p.ms, .sl 2 X, bsV p.bs] from by rw [← hX2]]
        (have hwq := trivial; repeat' (first | simp (maxSteps:=9999999)-implicitDefEqProofs only [go_sem,simprocAttr,hwq,FT3,FT4,FT5,FT23,FT24,FT25,FT26,FT27,FT29,FT32,FT34,FT35,FT37,FT46,FT59,List.length_map,List.getElem?_map,Int.natCast_nonneg,List.length_append,List.map_append,hjl',zs,hX,hXl,tk,Nat.le_refl] | (refine condK_split ?_ ?_ <;> intro hwq) | (refine two_split ?_ ?_) | (refine guardK_split ?_ ?_ <;> intro hwq) | (refine guardE_split ?_ ?_ <;> intro hwq) | (refine awp_drawW [] (by decide +kernel) ?_; have hwq := trivial) | fail))
end Go.Ai

set_option linter.unusedVariables false
set_option linter.unusedSimpArgs false
set_option maxHeartbeats 8000000
set_option maxRecDepth 100000
namespace Go.Ai
open Go.Proofs
attribute [local go_sem] QH QR V.noimm V.noimms frzZs frzZ frzA frzV frzVs frzBox boxLen Option.isSome cond_true cond_false aopD calW flatV stepX amap stepY alookup afind aupdate adelete amlen arange ameq mapOf akeq pl V.mapT V.mapTs Option.bind stepK runK guardD stepE runD callD compact selB callK evS ofVal ofVals scalar aop ares mkRes V.rn V.rns V.cells? cellsAt Go.Ai.part aload astore setL V.atom abin aun intBin shiftBin aconv fieldOf aindexAddr aindex bound? aslice aarr abuild afill alen nilP nilS nilF aeq eqCells eqCell Go.Ai.known strBin abuiltin aappend abuildSlice arowsFill amakeSlice acopy aclear minmax rowsOf numsT notStr isIntD isByte V.pz V.pzs T.toV frz1 frz scalT scalTs chunkT List.range List.range.loop ite_true ite_false if_true if_false ne_eq implies_true forall_const eq_self IntKind.bits kPostKF_ret kPostKF_normal kPostX_ret kPostX_normal bsl nil2K nil2 kPostFW_ret kPostFW_normal kPostKM_ret kPostKM_normal kPostXK_ret kPostXK_normal
def At27 (p : Pv) (a : Int) (n : Nat) (S : St) : Prop :=
  ∃ (j : Nat) (N : List Int) (mv : List Nat), S = ⟨tms [(1, vI a), (2, .ptr 0 0 0), (5, .own 1 0 N.length), (9, msV p.ms), (10, vI p.ms.length), (11, vI j)], [bxP p, .rows 1 (N.map inT) false], mv⟩ ∧ N = ((p.ms.take j).filter (fun x => x.s == a)).map (·.p) ∧ j ≤ p.ms.length ∧ n = p.ms.length - j
theorem pq27 (p : Pv) (hp : okL p) (a : Int) : AC Tryz.prog 27 [pvV p, vI a] [] (eqR (isV ((p.ms.filter (fun x => x.s == a)).map (·.p)))) := by
  obtain ⟨l1, l2, l3, l4, l5⟩ := hp
  refine AC_frozen orders Tryz.func27 rfl (by kernel_rfl) (by kernel_rfl) Tryz.ntmps27 (by simp) ?_
  unfold Tryz.f27
  (have hwq := trivial; repeat' (first | simp (maxSteps:=9999999)-implicitDefEqProofs only [go_sem,simprocAttr,hwq,FT3,FT5,FT23,FT24,FT25,FT26,FT27,FT29,FT32,FT34,FT35,FT37,FT59] | (refine condK_split ?_ ?_ <;> intro hwq) | (refine two_split ?_ ?_) | (refine guardK_split ?_ ?_ <;> intro hwq) | (refine guardE_split ?_ ?_ <;> intro hwq) | (refine awp_drawW [] (by decide +kernel) ?_; have hwq := trivial) | fail))
  refine awp_loopK (At27 p a) p.ms.length _ (Weak.trans (Weak.virt 5 1 (.inl rfl)) (Weak.cutI 2 [1, 2, 5, 9, 10, 11] ?_ ?_)) ⟨0, [], _, rfl, by simp, by omega, rfl⟩ ?_
  · simp (maxSteps:=9999999)-implicitDefEqProofs only [simprocAttr,QH,Option.isSome,cond_true,cond_false,Option.bind,selB,V.rn,V.rns,Go.Ai.known,V.pz,V.pzs,T.toV,frz1,List.range,List.range.loop,ite_true,ite_false,if_true,if_false,ne_eq,implies_true,forall_const,eq_self,IntKind.bits,upd_tmsS,selT_cons,selT_nil,List.length_map,List.getElem?_map,Int.natCast_nonneg,List.length_append,List.map_append]
  · simp (maxSteps:=9999999)-implicitDefEqProofs only [simprocAttr,QH,Option.isSome,cond_true,cond_false,Option.bind,selB,V.rn,V.rns,Go.Ai.known,V.pz,V.pzs,T.toV,frz1,List.range,List.range.loop,ite_true,ite_false,if_true,if_false,ne_eq,implies_true,forall_const,eq_self,IntKind.bits,upd_tmsS,selT_cons,selT_nil]
  rintro kk S ⟨j, N, mv, rfl, hN, hj, rfl⟩
  have hNl : N.length ≤ 1000 := by
    rw [hN, List.length_map]
    have h1 := List.length_filter_le (fun x : Mp => x.s == a) (p.ms.take j)
    rw [List.length_take] at h1
    omega
  have zs : (N.length + 1) * 8 ≤ 140737488355328 := by omega
  have wj : IntKind.i64.wrap ((j : Int) + 1) = (j : Int) + 1 := wI64 _ (by omega) (by omega)
  by_cases hjl : j < p.ms.length
  · have hjl' : (j : Int) < (p.ms.length : Int) := by omega
    have hgj : p.ms[j]? = some p.ms[j] := List.getElem?_eq_getElem hjl
    obtain ⟨x, hx⟩ : ∃ x, p.ms[j] = x := ⟨_, rfl⟩
    rw [hx] at hgj
    cases hq : (x.s == a) with
    | true =>
      have hNx : N ++ [x.p] = ((p.ms.take (j + 1)).filter (fun x => x.s == a)).map (·.p) := by rw [take_in hgj, List.filter_append, List.map_append, hN]; simp [hq]
      (have hwq := trivial; repeat' (first | simp (maxSteps:=9999999)-implicitDefEqProofs only [go_sem,simprocAttr,hwq,FT3,FT5,FT23,FT24,FT25,FT26,FT27,FT29,FT32,FT34,FT35,FT37,FT59,List.length_map,List.getElem?_map,Int.natCast_nonneg,List.length_append,List.map_append,hjl',hgj,wj,zs,hq] | (refine condK_split ?_ ?_ <;> intro hwq) | (refine two_split ?_ ?_) | (refine guardK_split ?_ ?_ <;> intro hwq) | (refine guardE_split ?_ ?_ <;> intro hwq) | (refine awp_drawW [] (by decide +kernel) ?_; have hwq := trivial) | fail))
      refine ⟨p.ms.length - (j + 1), _, by omega, Weak.cutI 2 [1, 2, 5, 9, 10, 11] ?_ ?_, j + 1, N ++ [x.p], _, rfl, hNx, by omega, rfl⟩
      · simp (maxSteps:=9999999)-implicitDefEqProofs only [simprocAttr,QH,Option.isSome,cond_true,cond_false,Option.bind,selB,V.rn,V.rns,Go.Ai.known,V.pz,V.pzs,T.toV,frz1,List.range,List.range.loop,ite_true,ite_false,if_true,if_false,ne_eq,implies_true,forall_const,eq_self,IntKind.bits,upd_tmsS,selT_cons,selT_nil,List.length_map,List.getElem?_map,Int.natCast_nonneg,List.length_append,List.map_append,List.length_cons,List.length_nil,List.map_cons,List.map_nil]
      · simp (maxSteps:=9999999)-implicitDefEqProofs only [simprocAttr,QH,Option.isSome,cond_true,cond_false,Option.bind,selB,V.rn,V.rns,Go.Ai.known,V.pz,V.pzs,T.toV,frz1,List.range,List.range.loop,ite_true,ite_false,if_true,if_false,ne_eq,implies_true,forall_const,eq_self,IntKind.bits,upd_tmsS,selT_cons,selT_nil,List.length_map,List.getElem?_map,Int.natCast_nonneg,List.length_append,List.map_append,List.length_cons,List.length_nil,List.map_cons,List.map_nil]
    | false =>
      have hNx : N = ((p.ms.take (j + 1)).filter (fun x => x.s == a)).map (·.p) := by rw [take_in hgj, List.filter_append, List.map_append, hN]; simp [hq]
      (have hwq := trivial; repeat' (first | simp (maxSteps:=9999999)-implicitDefEqProofs only [go_sem,simprocAttr,hwq,FT3,FT5,FT23,FT24,FT25,FT26,FT27,FT29,FT32,FT34,FT35,FT37,FT59,List.length_map,List.getElem?_map,Int.natCast_nonneg,List.length_append,List.map_append,hjl',hgj,wj,hq] | (refine condK_split ?_ ?_ <;> intro hwq) | (refine two_split ?_ ?_) | (refine guardK_split ?_ ?_ <;> intro hwq) | (refine guardE_split ?_ ?_ <;> intro hwq) | (refine awp_drawW [] (by decide +kernel) ?_; have hwq := trivial) | fail))
      refine ⟨p.ms.length - (j + 1), _, by omega, Weak.cutI 2 [1, 2, 5, 9, 10, 11] ?_ ?_, j + 1, N, _, rfl, hNx, by omega, rfl⟩
      · simp (maxSteps:=9999999)-implicitDefEqProofs only [simprocAttr,QH,Option.isSome,cond_true,cond_false,Option.bind,selB,V.rn,V.rns,Go.Ai.known,V.pz,V.pzs,T.toV,frz1,List.range,List.range.loop,ite_true,ite_false,if_true,if_false,ne_eq,implies_true,forall_const,eq_self,IntKind.bits,upd_tmsS,selT_cons,selT_nil,List.length_map,List.getElem?_map,Int.natCast_nonneg,List.length_append,List.map_append]
      · simp (maxSteps:=9999999)-implicitDefEqProofs only [simprocAttr,QH,Option.isSome,cond_true,cond_false,Option.bind,selB,V.rn,V.rns,Go.Ai.known,V.pz,V.pzs,T.toV,frz1,List.range,List.range.loop,ite_true,ite_false,if_true,if_false,ne_eq,implies_true,forall_const,eq_self,IntKind.bits,upd_tmsS,selT_cons,selT_nil,List.length_map,List.getElem?_map,Int.natCast_nonneg,List.length_append,List.map_append]
  · have hjl' : ¬ (j : Int) < (p.ms.length : Int) := by omega
    rw [List.take_of_length_le (by omega)] at hN
    have tk : List.take N.length (List.map inT N) = List.map inT N := List.take_of_length_le (by simp)
    rw [← hN]
    (have hwq := trivial; repeat' (first | simp (maxSteps:=9999999)-implicitDefEqProofs only [go_sem,simprocAttr,hwq,FT3,FT5,FT23,FT24,FT25,FT26,FT27,FT29,FT32,FT34,FT35,FT37,FT59,List.length_map,List.getElem?_map,Int.natCast_nonneg,List.length_append,List.map_append,hjl',tk,Nat.le_refl] | (refine condK_split ?_ ?_ <;> intro hwq) | (refine two_split ?_ ?_) | (refine guardK_split ?_ ?_ <;> intro hwq) | (refine guardE_split ?_ ?_ <;> intro hwq) | (refine awp_drawW [] (by decide +kernel) ?_; have hwq := trivial) | fail))
def At29 (p : Pv) (a : Int) (n : Nat) (S : St) : Prop :=
  ∃ (j : Nat) (N : List Int) (mv : List Nat), S = ⟨tms [(1, vI a), (2, .ptr 0 0 0), (5, .own 1 0 N.length), (9, csV p.cs), (10, vI p.cs.length), (11, vI j)], [bxP p, .rows 1 (N.map inT) false], mv⟩ ∧ N = ((p.cs.take j).filter (fun x => x.v == a)).map (·.s) ∧ j ≤ p.cs.length ∧ n = p.cs.length - j
theorem pq29 (p : Pv) (hp : okL p) (a : Int) : AC Tryz.prog 29 [pvV p, vI a] [] (eqR (isV ((p.cs.filter (fun x => x.v == a)).map (·.s)))) := by
  obtain ⟨l1, l2, l3, l4, l5⟩ := hp
  refine AC_frozen orders Tryz.func29 rfl (by kernel_rfl) (by kernel_rfl) Tryz.ntmps29 (by simp) ?_
  unfold Tryz.f29
  (have hwq := trivial; repeat' (first | simp (maxSteps:=9999999)-implicitDefEqProofs only [go_sem,simprocAttr,hwq,FT3,FT5,FT23,FT24,FT25,FT26,FT27,FT29,FT32,FT34,FT35,FT37,FT59] | (refine condK_split ?_ ?_ <;> intro hwq) | (refine two_split ?_ ?_) | (refine guardK_split ?_ ?_ <;> intro hwq) | (refine guardE_split ?_ ?_ <;> intro hwq) | (refine awp_drawW [] (by decide +kernel) ?_; have hwq := trivial) | fail))
  refine awp_loopK (At29 p a) p.cs.length _ (Weak.trans (Weak.virt 5 1 (.inl rfl)) (Weak.cutI 2 [1, 2, 5, 9, 10, 11] ?_ ?_)) ⟨0, [], _, rfl, by simp, by omega, rfl⟩ ?_
  · simp (maxSteps:=9999999)-implicitDefEqProofs only [simprocAttr,QH,Option.isSome,cond_true,cond_false,Option.bind,selB,V.rn,V.rns,Go.Ai.known,V.pz,V.pzs,T.toV,frz1,List.range,List.range.loop,ite_true,ite_false,if_true,if_false,ne_eq,implies_true,forall_const,eq_self,IntKind.bits,upd_tmsS,selT_cons,selT_nil,List.length_map,List.getElem?_map,Int.natCast_nonneg,List.length_append,List.map_append]
  · simp (maxSteps:=9999999)-implicitDefEqProofs only [simprocAttr,QH,Option.isSome,cond_true,cond_false,Option.bind,selB,V.rn,V.rns,Go.Ai.known,V.pz,V.pzs,T.toV,frz1,List.range,List.range.loop,ite_true,ite_false,if_true,if_false,ne_eq,implies_true,forall_const,eq_self,IntKind.bits,upd_tmsS,selT_cons,selT_nil]
  rintro kk S ⟨j, N, mv, rfl, hN, hj, rfl⟩
  have hNl : N.length ≤ 1000 := by
    rw [hN, List.length_map]
    have h1 := List.length_filter_le (fun x : Cr => x.v == a) (p.cs.take j)
    rw [List.length_take] at h1
    omega
  have zs : (N.length + 1) * 8 ≤ 140737488355328 := by omega
  have wj : IntKind.i64.wrap ((j : Int) + 1) = (j : Int) + 1 := wI64 _ (by omega) (by omega)
  by_cases hjl : j < p.cs.length
  · have hjl' : (j : Int) < (p.cs.length : Int) := by omega
    have hgj : p.cs[j]? = some p.cs[j] := List.getElem?_eq_getElem hjl
    obtain ⟨x, hx⟩ : ∃ x, p.cs[j] = x := ⟨_, rfl⟩
    rw [hx] at hgj
    cases hq : (x.v == a) with
    | true =>
      have hNx : N ++ [x.s] = ((p.cs.take (j + 1)).filter (fun x => x.v == a)).map (·.s) := by rw [take_in hgj, List.filter_append, List.map_append, hN]; simp [hq]
      (have hwq := trivial; repeat' (first | simp (maxSteps:=9999999)-implicitDefEqProofs only [go_sem,simprocAttr,hwq,FT3,FT5,FT23,FT24,FT25,FT26,FT27,FT29,FT32,FT34,FT35,FT37,FT59,List.length_map,List.getElem?_map,Int.natCast_nonneg,List.length_append,List.map_append,hjl',hgj,wj,zs,hq] | (refine condK_split ?_ ?_ <;> intro hwq) | (refine two_split ?_ ?_) | (refine guardK_split ?_ ?_ <;> intro hwq) | (refine guardE_split ?_ ?_ <;> intro hwq) | (refine awp_drawW [] (by decide +kernel) ?_; have hwq := trivial) | fail))
      refine ⟨p.cs.length - (j + 1), _, by omega, Weak.cutI 2 [1, 2, 5, 9, 10, 11] ?_ ?_, j + 1, N ++ [x.s], _, rfl, hNx, by omega, rfl⟩
      · simp (maxSteps:=9999999)-implicitDefEqProofs only [simprocAttr,QH,Option.isSome,cond_true,cond_false,Option.bind,selB,V.rn,V.rns,Go.Ai.known,V.pz,V.pzs,T.toV,frz1,List.range,List.range.loop,ite_true,ite_false,if_true,if_false,ne_eq,implies_true,forall_const,eq_self,IntKind.bits,upd_tmsS,selT_cons,selT_nil,List.length_map,List.getElem?_map,Int.natCast_nonneg,List.length_append,List.map_append,List.length_cons,List.length_nil,List.map_cons,List.map_nil]
      · simp (maxSteps:=9999999)-implicitDefEqProofs only [simprocAttr,QH,Option.isSome,cond_true,cond_false,Option.bind,selB,V.rn,V.rns,Go.Ai.known,V.pz,V.pzs,T.toV,frz1,List.range,List.range.loop,ite_true,ite_false,if_true,if_false,ne_eq,implies_true,forall_const,eq_self,IntKind.bits,upd_tmsS,selT_cons,selT_nil,List.length_map,List.getElem?_map,Int.natCast_nonneg,List.length_append,List.map_append,List.length_cons,List.length_nil,List.map_cons,List.map_nil]
    | false =>
      have hNx : N = ((p.cs.take (j + 1)).filter (fun x => x.v == a)).map (·.s) := by rw [take_in hgj, List.filter_append, List.map_append, hN]; simp [hq]
      (have hwq := trivial; repeat' (first | simp (maxSteps:=9999999)-implicitDefEqProofs only [go_sem,simprocAttr,hwq,FT3,FT5,FT23,FT24,FT25,FT26,FT27,FT29,FT32,FT34,FT35,FT37,FT59,List.length_map,List.getElem?_map,Int.natCast_nonneg,List.length_append,List.map_append,hjl',hgj,wj,hq] | (refine condK_split ?_ ?_ <;> intro hwq) | (refine two_split ?_ ?_) | (refine guardK_split ?_ ?_ <;> intro hwq) | (refine guardE_split ?_ ?_ <;> intro hwq) | (refine awp_drawW [] (by decide +kernel) ?_; have hwq := trivial) | fail))
      refine ⟨p.cs.length - (j + 1), _, by omega, Weak.cutI 2 [1, 2, 5, 9, 10, 11] ?_ ?_, j + 1, N, _, rfl, hNx, by omega, rfl⟩
      · simp (maxSteps:=9999999)-implicitDefEqProofs only [simprocAttr,QH,Option.isSome,cond_true,cond_false,Option.bind,selB,V.rn,V.rns,Go.Ai.known,V.pz,V.pzs,T.toV,frz1,List.range,List.range.loop,ite_true,ite_false,if_true,if_false,ne_eq,implies_true,forall_const,eq_self,IntKind.bits,upd_tmsS,selT_cons,selT_nil,List.length_map,List.getElem?_map,Int.natCast_nonneg,List.length_append,List.map_append]
      · simp (maxSteps:=9999999)-implicitDefEqProofs only [simprocAttr,QH,Option.isSome,cond_true,cond_false,Option.bind,selB,V.rn,V.rns,Go.Ai.known,V.pz,V.pzs,T.toV,frz1,List.range,List.range.loop,ite_true,ite_false,if_true,if_false,ne_eq,implies_true,forall_const,eq_self,IntKind.bits,upd_tmsS,selT_cons,selT_nil,List.length_map,List.getElem?_map,Int.natCast_nonneg,List.length_append,List.map_append]
  · have hjl' : ¬ (j : Int) < (p.cs.length : Int) := by omega
    rw [List.take_of_length_le (by omega)] at hN
    have tk : List.take N.length (List.map inT N) = List.map inT N := List.take_of_length_le (by simp)
    rw [← hN]
    (have hwq := trivial; repeat' (first | simp (maxSteps:=9999999)-implicitDefEqProofs only [go_sem,simprocAttr,hwq,FT3,FT5,FT23,FT24,FT25,FT26,FT27,FT29,FT32,FT34,FT35,FT37,FT59,List.length_map,List.getElem?_map,Int.natCast_nonneg,List.length_append,List.map_append,hjl',tk,Nat.le_refl] | (refine condK_split ?_ ?_ <;> intro hwq) | (refine two_split ?_ ?_) | (refine guardK_split ?_ ?_ <;> intro hwq) | (refine guardE_split ?_ ?_ <;> intro hwq) | (refine awp_drawW [] (by decide +kernel) ?_; have hwq := trivial) | fail))
def At28 (p : Pv) (a : Int) (n : Nat) (S : St) : Prop :=
  ∃ (j : Nat) (N : List Int) (mv : List Nat), S = ⟨tms [(1, vI a), (2, .ptr 0 0 0), (5, .own 1 0 N.length), (6, vI j)], [bxP p, .rows 1 (N.map inT) false], mv⟩ ∧ N = ((p.ms.take j).filter (fun x => x.s == a)).map (·.p) ∧ j ≤ p.ms.length ∧ n = p.ms.length - j
theorem pq28 (p : Pv) (hp : okL p) (a : Int) : AC Tryz.prog 28 [pvV p, vI a] [] (eqR (isV ((p.ms.filter (fun x => x.s == a)).map (·.p)))) := by
  obtain ⟨l1, l2, l3, l4, l5⟩ := hp
  refine AC_frozen orders Tryz.func28 rfl (by kernel_rfl) (by kernel_rfl) Tryz.ntmps28 (by simp) ?_
  unfold Tryz.f28
  (have hwq := trivial; repeat' (first | simp (maxSteps:=9999999)-implicitDefEqProofs only [go_sem,simprocAttr,hwq,FT3,FT5,FT23,FT24,FT25,FT26,FT27,FT29,FT32,FT34,FT35,FT37,FT59] | (refine condK_split ?_ ?_ <;> intro hwq) | (refine two_split ?_ ?_) | (refine guardK_split ?_ ?_ <;> intro hwq) | (refine guardE_split ?_ ?_ <;> intro hwq) | (refine awp_drawW [] (by decide +kernel) ?_; have hwq := trivial) | fail))
  refine awp_loopK (At28 p a) p.ms.length _ (Weak.trans (Weak.virt 5 1 (.inl rfl)) (Weak.cutI 2 [1, 2, 5, 6] ?_ ?_)) ⟨0, [], _, rfl, by simp, by omega, rfl⟩ ?_
  · simp (maxSteps:=9999999)-implicitDefEqProofs only [simprocAttr,QH,Option.isSome,cond_true,cond_false,Option.bind,selB,V.rn,V.rns,Go.Ai.known,V.pz,V.pzs,T.toV,frz1,List.range,List.range.loop,ite_true,ite_false,if_true,if_false,ne_eq,implies_true,forall_const,eq_self,IntKind.bits,upd_tmsS,selT_cons,selT_nil,List.length_map,List.getElem?_map,Int.natCast_nonneg,List.length_append,List.map_append]
  · simp (maxSteps:=9999999)-implicitDefEqProofs only [simprocAttr,QH,Option.isSome,cond_true,cond_false,Option.bind,selB,V.rn,V.rns,Go.Ai.known,V.pz,V.pzs,T.toV,frz1,List.range,List.range.loop,ite_true,ite_false,if_true,if_false,ne_eq,implies_true,forall_const,eq_self,IntKind.bits,upd_tmsS,selT_cons,selT_nil]
  rintro kk S ⟨j, N, mv, rfl, hN, hj, rfl⟩
  have hNl : N.length ≤ 1000 := by
    rw [hN, List.length_map]
    have h1 := List.length_filter_le (fun x : Mp => x.s == a) (p.ms.take j)
    rw [List.length_take] at h1
    omega
  have zs : (N.length + 1) * 8 ≤ 140737488355328 := by omega
  have wj : IntKind.i64.wrap ((j : Int) + 1) = (j : Int) + 1 := wI64 _ (by omega) (by omega)
  by_cases hjl : j < p.ms.length
  · have hjl' : (j : Int) < (p.ms.length : Int) := by omega
    have hgj : p.ms[j]? = some p.ms[j] := List.getElem?_eq_getElem hjl
    obtain ⟨x, hx⟩ : ∃ x, p.ms[j] = x := ⟨_, rfl⟩
    rw [hx] at hgj
    cases hq : (x.s == a) with
    | true =>
      have hNx : N ++ [x.p] = ((p.ms.take (j + 1)).filter (fun x => x.s == a)).map (·.p) := by rw [take_in hgj, List.filter_append, List.map_append, hN]; simp [hq]
      (have hwq := trivial; repeat' (first | simp (maxSteps:=9999999)-implicitDefEqProofs only [go_sem,simprocAttr,hwq,FT3,FT5,FT23,FT24,FT25,FT26,FT27,FT29,FT32,FT34,FT35,FT37,FT59,List.length_map,List.getElem?_map,Int.natCast_nonneg,List.length_append,List.map_append,hjl',hgj,wj,zs,hq] | (refine condK_split ?_ ?_ <;> intro hwq) | (refine two_split ?_ ?_) | (refine guardK_split ?_ ?_ <;> intro hwq) | (refine guardE_split ?_ ?_ <;> intro hwq) | (refine awp_drawW [] (by decide +kernel) ?_; have hwq := trivial) | fail))
      refine ⟨p.ms.length - (j + 1), _, by omega, Weak.cutI 2 [1, 2, 5, 6] ?_ ?_, j + 1, N ++ [x.p], _, rfl, hNx, by omega, rfl⟩
      · simp (maxSteps:=9999999)-implicitDefEqProofs only [simprocAttr,QH,Option.isSome,cond_true,cond_false,Option.bind,selB,V.rn,V.rns,Go.Ai.known,V.pz,V.pzs,T.toV,frz1,List.range,List.range.loop,ite_true,ite_false,if_true,if_false,ne_eq,implies_true,forall_const,eq_self,IntKind.bits,upd_tmsS,selT_cons,selT_nil,List.length_map,List.getElem?_map,Int.natCast_nonneg,List.length_append,List.map_append,List.length_cons,List.length_nil,List.map_cons,List.map_nil]
      · simp (maxSteps:=9999999)-implicitDefEqProofs only [simprocAttr,QH,Option.isSome,cond_true,cond_false,Option.bind,selB,V.rn,V.rns,Go.Ai.known,V.pz,V.pzs,T.toV,frz1,List.range,List.range.loop,ite_true,ite_false,if_true,if_false,ne_eq,implies_true,forall_const,eq_self,IntKind.bits,upd_tmsS,selT_cons,selT_nil,List.length_map,List.getElem?_map,Int.natCast_nonneg,List.length_append,List.map_append,List.length_cons,List.length_nil,List.map_cons,List.map_nil]
    | false =>
      have hNx : N = ((p.ms.take (j + 1)).filter (fun x => x.s == a)).map (·.p) := by rw [take_in hgj, List.filter_append, List.map_append, hN]; simp [hq]
      (have hwq := trivial; repeat' (first | simp (maxSteps:=9999999)-implicitDefEqProofs only [go_sem,simprocAttr,hwq,FT3,FT5,FT23,FT24,FT25,FT26,FT27,FT29,FT32,FT34,FT35,FT37,FT59,List.length_map,List.getElem?_map,Int.natCast_nonneg,List.length_append,List.map_append,hjl',hgj,wj,hq] | (refine condK_split ?_ ?_ <;> intro hwq) | (refine two_split ?_ ?_) | (refine guardK_split ?_ ?_ <;> intro hwq) | (refine guardE_split ?_ ?_ <;> intro hwq) | (refine awp_drawW [] (by decide +kernel) ?_; have hwq := trivial) | fail))
      refine ⟨p.ms.length - (j + 1), _, by omega, Weak.cutI 2 [1, 2, 5, 6] ?_ ?_, j + 1, N, _, rfl, hNx, by omega, rfl⟩
      · simp (maxSteps:=9999999)-implicitDefEqProofs only [simprocAttr,QH,Option.isSome,cond_true,cond_false,Option.bind,selB,V.rn,V.rns,Go.Ai.known,V.pz,V.pzs,T.toV,frz1,List.range,List.range.loop,ite_true,ite_false,if_true,if_false,ne_eq,implies_true,forall_const,eq_self,IntKind.bits,upd_tmsS,selT_cons,selT_nil,List.length_map,List.getElem?_map,Int.natCast_nonneg,List.length_append,List.map_append]
      · simp (maxSteps:=9999999)-implicitDefEqProofs only [simprocAttr,QH,Option.isSome,cond_true,cond_false,Option.bind,selB,V.rn,V.rns,Go.Ai.known,V.pz,V.pzs,T.toV,frz1,List.range,List.range.loop,ite_true,ite_false,if_true,if_false,ne_eq,implies_true,forall_const,eq_self,IntKind.bits,upd_tmsS,selT_cons,selT_nil,List.length_map,List.getElem?_map,Int.natCast_nonneg,List.length_append,List.map_append]
  · have hjl' : ¬ (j : Int) < (p.ms.length : Int) := by omega
    rw [List.take_of_length_le (by omega)] at hN
    have tk : List.take N.length (List.map inT N) = List.map inT N := List.take_of_length_le (by simp)
    rw [← hN]
    (have hwq := trivial; repeat' (first | simp (maxSteps:=9999999)-implicitDefEqProofs only [go_sem,simprocAttr,hwq,FT3,FT5,FT23,FT24,FT25,FT26,FT27,FT29,FT32,FT34,FT35,FT37,FT59,List.length_map,List.getElem?_map,Int.natCast_nonneg,List.length_append,List.map_append,hjl',tk,Nat.le_refl] | (refine condK_split ?_ ?_ <;> intro hwq) | (refine two_split ?_ ?_) | (refine guardK_split ?_ ?_ <;> intro hwq) | (refine guardE_split ?_ ?_ <;> intro hwq) | (refine awp_drawW [] (by decide +kernel) ?_; have hwq := trivial) | fail))
def At30 (p : Pv) (a : Int) (n : Nat) (S : St) : Prop :=
  ∃ (j : Nat) (N : List Int) (mv : List Nat), S = ⟨tms [(1, vI a), (2, .ptr 0 0 0), (5, .own 1 0 N.length), (6, vI j)], [bxP p, .rows 1 (N.map inT) false], mv⟩ ∧ N = ((p.cs.take j).filter (fun x => x.v == a)).map (·.s) ∧ j ≤ p.cs.length ∧ n = p.cs.length - j
theorem pq30 (p : Pv) (hp : okL p) (a : Int) : AC Tryz.prog 30 [pvV p, vI a] [] (eqR (isV ((p.cs.filter (fun x => x.v == a)).map (·.s)))) := by
  obtain ⟨l1, l2, l3, l4, l5⟩ := hp
  refine AC_frozen orders Tryz.func30 rfl (by kernel_rfl) (by kernel_rfl) Tryz.ntmps30 (by simp) ?_
  unfold Tryz.f30
  (have hwq := trivial; repeat' (first | simp (maxSteps:=9999999)-implicitDefEqProofs only [go_sem,simprocAttr,hwq,FT3,FT5,FT23,FT24,FT25,FT26,FT27,FT29,FT32,FT34,FT35,FT37,FT59] | (refine condK_split ?_ ?_ <;> intro hwq) | (refine two_split ?_ ?_) | (refine guardK_split ?_ ?_ <;> intro hwq) | (refine guardE_split ?_ ?_ <;> intro hwq) | (refine awp_drawW [] (by decide +kernel) ?_; have hwq := trivial) | fail))
  refine awp_loopK (At30 p a) p.cs.length _ (Weak.trans (Weak.virt 5 1 (.inl rfl)) (Weak.cutI 2 [1, 2, 5, 6] ?_ ?_)) ⟨0, [], _, rfl, by simp, by omega, rfl⟩ ?_
  · simp (maxSteps:=9999999)-implicitDefEqProofs only [simprocAttr,QH,Option.isSome,cond_true,cond_false,Option.bind,selB,V.rn,V.rns,Go.Ai.known,V.pz,V.pzs,T.toV,frz1,List.range,List.range.loop,ite_true,ite_false,if_true,if_false,ne_eq,implies_true,forall_const,eq_self,IntKind.bits,upd_tmsS,selT_cons,selT_nil,List.length_map,List.getElem?_map,Int.natCast_nonneg,List.length_append,List.map_append]
  · simp (maxSteps:=9999999)-implicitDefEqProofs only [simprocAttr,QH,Option.isSome,cond_true,cond_false,Option.bind,selB,V.rn,V.rns,Go.Ai.known,V.pz,V.pzs,T.toV,frz1,List.range,List.range.loop,ite_true,ite_false,if_true,if_false,ne_eq,implies_true,forall_const,eq_self,IntKind.bits,upd_tmsS,selT_cons,selT_nil]
  rintro kk S ⟨j, N, mv, rfl, hN, hj, rfl⟩
  have hNl : N.length ≤ 1000 := by
    rw [hN, List.length_map]
    have h1 := List.length_filter_le (fun x : Cr => x.v == a) (p.cs.take j)
    rw [List.length_take] at h1
    omega
  have zs : (N.length + 1) * 8 ≤ 140737488355328 := by omega
  have wj : IntKind.i64.wrap ((j : Int) + 1) = (j : Int) + 1 := wI64 _ (by omega) (by omega)
  by_cases hjl : j < p.cs.length
  · have hjl' : (j : Int) < (p.cs.length : Int) := by omega
    have hgj : p.cs[j]? = some p.cs[j] := List.getElem?_eq_getElem hjl
    obtain ⟨x, hx⟩ : ∃ x, p.cs[j] = x := ⟨_, rfl⟩
    rw [hx] at hgj
    cases hq : (x.v == a) with
    | true =>
      have hNx : N ++ [x.s] = ((p.cs.take (j + 1)).filter (fun x => x.v == a)).map (·.s) := by rw [take_in hgj, List.filter_append, List.map_append, hN]; simp [hq]
      (have hwq := trivial; repeat' (first | simp (maxSteps:=9999999)-implicitDefEqProofs only [go_sem,simprocAttr,hwq,FT3,FT5,FT23,FT24,FT25,FT26,FT27,FT29,FT32,FT34,FT35,FT37,FT59,List.length_map,List.getElem?_map,Int.natCast_nonneg,List.length_append,List.map_append,hjl',hgj,wj,zs,hq] | (refine condK_split ?_ ?_ <;> intro hwq) | (refine two_split ?_ ?_) | (refine guardK_split ?_ ?_ <;> intro hwq) | (refine guardE_split ?_ ?_ <;> intro hwq) | (refine awp_drawW [] (by decide +kernel) ?_; have hwq := trivial) | fail))
      refine ⟨p.cs.length - (j + 1), _, by omega, Weak.cutI 2 [1, 2, 5, 6] ?_ ?_, j + 1, N ++ [x.s], _, rfl, hNx, by omega, rfl⟩
      · simp (maxSteps:=9999999)-implicitDefEqProofs only [simprocAttr,QH,Option.isSome,cond_true,cond_false,Option.bind,selB,V.rn,V.rns,Go.Ai.known,V.pz,V.pzs,T.toV,frz1,List.range,List.range.loop,ite_true,ite_false,if_true,if_false,ne_eq,implies_true,forall_const,eq_self,IntKind.bits,upd_tmsS,selT_cons,selT_nil,List.length_map,List.getElem?_map,Int.natCast_nonneg,List.length_append,List.map_append,List.length_cons,List.length_nil,List.map_cons,List.map_nil]
      · simp (maxSteps:=9999999)-implicitDefEqProofs only [simprocAttr,QH,Option.isSome,cond_true,cond_false,Option.bind,selB,V.rn,V.rns,Go.Ai.known,V.pz,V.pzs,T.toV,frz1,List.range,List.range.loop,ite_true,ite_false,if_true,if_false,ne_eq,implies_true,forall_const,eq_self,IntKind.bits,upd_tmsS,selT_cons,selT_nil,List.length_map,List.getElem?_map,Int.natCast_nonneg,List.length_append,List.map_append,List.length_cons,List.length_nil,List.map_cons,List.map_nil]
    | false =>
      have hNx : N = ((p.cs.take (j + 1)).filter (fun x => x.v == a)).map (·.s) := by rw [take_in hgj, List.filter_append, List.map_append, hN]; simp [hq]
      (have hwq := trivial; repeat' (first | simp (maxSteps:=9999999)-implicitDefEqProofs only [go_sem,simprocAttr,hwq,FT3,FT5,FT23,FT24,FT25,FT26,FT27,FT29,FT32,FT34,FT35,FT37,FT59,List.length_map,List.getElem?_map,Int.natCast_nonneg,List.length_append,List.map_append,hjl',hgj,wj,hq] | (refine condK_split ?_ ?_ <;> intro hwq) | (refine two_split ?_ ?_) | (refine guardK_split ?_ ?_ <;> intro hwq) | (refine guardE_split ?_ ?_ <;> intro hwq) | (refine awp_drawW [] (by decide +kernel) ?_; have hwq := trivial) | fail))
      refine ⟨p.cs.length - (j + 1), _, by omega, Weak.cutI 2 [1, 2, 5, 6] ?_ ?_, j + 1, N, _, rfl, hNx, by omega, rfl⟩
      · simp (maxSteps:=9999999)-implicitDefEqProofs only [simprocAttr,QH,Option.isSome,cond_true,cond_false,Option.bind,selB,V.rn,V.rns,Go.Ai.known,V.pz,V.pzs,T.toV,frz1,List.range,List.range.loop,ite_true,ite_false,if_true,if_false,ne_eq,implies_true,forall_const,eq_self,IntKind.bits,upd_tmsS,selT_cons,selT_nil,List.length_map,List.getElem?_map,Int.natCast_nonneg,List.length_append,List.map_append]
      · simp (maxSteps:=9999999)-implicitDefEqProofs only [simprocAttr,QH,Option.isSome,cond_true,cond_false,Option.bind,selB,V.rn,V.rns,Go.Ai.known,V.pz,V.pzs,T.toV,frz1,List.range,List.range.loop,ite_true,ite_false,if_true,if_false,ne_eq,implies_true,forall_const,eq_self,IntKind.bits,upd_tmsS,selT_cons,selT_nil,List.length_map,List.getElem?_map,Int.natCast_nonneg,List.length_append,List.map_append]
  · have hjl' : ¬ (j : Int) < (p.cs.length : Int) := by omega
    rw [List.take_of_length_le (by omega)] at hN
    have tk : List.take N.length (List.map inT N) = List.map inT N := List.take_of_length_le (by simp)
    rw [← hN]
    (have hwq := trivial; repeat' (first | simp (maxSteps:=9999999)-implicitDefEqProofs only [go_sem,simprocAttr,hwq,FT3,FT5,FT23,FT24,FT25,FT26,FT27,FT29,FT32,FT34,FT35,FT37,FT59,List.length_map,List.getElem?_map,Int.natCast_nonneg,List.length_append,List.map_append,hjl',tk,Nat.le_refl] | (refine condK_split ?_ ?_ <;> intro hwq) | (refine two_split ?_ ?_) | (refine guardK_split ?_ ?_ <;> intro hwq) | (refine guardE_split ?_ ?_ <;> intro hwq) | (refine awp_drawW [] (by decide +kernel) ?_; have hwq := trivial) | fail))
end Go.Ai
