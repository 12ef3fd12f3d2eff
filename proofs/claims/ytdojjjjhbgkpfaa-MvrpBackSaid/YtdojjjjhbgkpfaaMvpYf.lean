/- Contracts of functions of the loaded program: called with data in the ranges that each names, it returns this value and writes to no old memory. -/
import Derived.Test.YtdojjjjhbgkpfaaMvpYb
set_option linter.unusedVariables false
set_option linter.unusedSimpArgs false
set_option maxHeartbeats 4000000
set_option maxRecDepth 100000
namespace Go.Ai
open Go.Proofs
attribute [local go_sem] QH QR V.noimm V.noimms frzZs frzZ frzA frzV frzVs frzBox boxLen Option.isSome cond_true cond_false aopD calW flatV stepX amap stepY alookup afind aupdate adelete amlen arange ameq mapOf akeq pl V.mapT V.mapTs Option.bind stepK runK guardD stepE runD callD compact selB callK evS ofVal ofVals scalar aop ares mkRes V.rn V.rns V.cells? cellsAt Go.Ai.part aload astore setL V.atom abin aun intBin shiftBin aconv fieldOf aindexAddr aindex bound? aslice aarr abuild afill alen nilP nilS nilF aeq eqCells eqCell Go.Ai.known strBin abuiltin aappend abuildSlice arowsFill amakeSlice acopy aclear minmax rowsOf numsT notStr isIntD isByte V.pz V.pzs T.toV frz1 frz scalT scalTs chunkT List.range List.range.loop ite_true ite_false if_true if_false ne_eq implies_true forall_const eq_self IntKind.bits kPostKF_ret kPostKF_normal kPostX_ret kPostX_normal bsl nil2K nil2 kPostFW_ret kPostFW_normal kPostKM_ret kPostKM_normal kPostXK_ret kPostXK_normal
def trimV (x : Vc) : Vc := ⟨x.al, x.fi, x.l.take 70⟩
def fewL (L : List Vc) : List Vc := (L.take 70).map trimV
def Fw9 (L : List Vc) (n : Nat) (S : St) : Prop :=
  ∃ (j : Nat) (M : List Vc) (mv : List Nat), S = ⟨tms [(0, vcsV L), (3, .own 0 0 M.length), (4, vI j)], [.rows 3 (M.map vcT) false], mv⟩ ∧ j ≤ L.length ∧ j ≤ 70 ∧ n = 70 - j ∧ M = (L.take j).map trimV
theorem mq9 (L : List Vc) : AC Try.prog 9 [vcsV L] [] (eqR (vcsV (fewL L))) := by
  refine AC_frozenW orders Try.func9 rfl (by kernel_rfl) (by kernel_rfl) Try.ntmps9 (by simp) ?_
  unfold Try.f9
  (have hwq := trivial; repeat' (first | simp (maxSteps:=9999999)-implicitDefEqProofs only [go_sem,simprocAttr,hwq,FT3,FT4,FT22,FT82,FT84,FT91,List.length_map,List.getElem?_map,Int.natCast_nonneg,List.length_append,List.map_append] | (refine condK_split ?_ ?_ <;> intro hwq) | (refine two_split ?_ ?_) | (refine guardK_split ?_ ?_ <;> intro hwq) | (refine guardE_split ?_ ?_ <;> intro hwq) | (refine awp_drawW [] (by decide +kernel) ?_; have hwq := trivial) | fail))
  refine awp_loopK (Fw9 L) 70 _ (Weak.trans (Weak.virt 3 3 (.inl rfl)) (Weak.cutI 1 [0, 3, 4] ?_ ?_)) ⟨0, [], _, rfl, by omega, by omega, rfl, rfl⟩ ?_
  · simp (maxSteps:=9999999)-implicitDefEqProofs only [simprocAttr,QH,Option.isSome,cond_true,cond_false,Option.bind,selB,V.rn,V.rns,Go.Ai.known,V.pz,V.pzs,T.toV,frz1,List.range,List.range.loop,ite_true,ite_false,if_true,if_false,ne_eq,implies_true,forall_const,eq_self,IntKind.bits,upd_tmsS,selT_cons,selT_nil,List.length_map,List.getElem?_map,Int.natCast_nonneg,List.length_append,List.map_append]
  · simp (maxSteps:=9999999)-implicitDefEqProofs only [simprocAttr,QH,Option.isSome,cond_true,cond_false,Option.bind,selB,V.rn,V.rns,Go.Ai.known,V.pz,V.pzs,T.toV,frz1,List.range,List.range.loop,ite_true,ite_false,if_true,if_false,ne_eq,implies_true,forall_const,eq_self,IntKind.bits,upd_tmsS,selT_cons,selT_nil,List.length_map,List.getElem?_map,Int.natCast_nonneg,List.length_append,List.map_append,List.map_nil]
  rintro kk S ⟨j, M, mv, rfl, hj, hj7, rfl, hM⟩
  have wj : IntKind.i64.wrap ((j : Int) + 1) = (j : Int) + 1 := wI64 _ (by omega) (by omega)
  by_cases hjl : j < L.length
  · have hjl' : (j : Int) < (L.length : Int) := by omega
    by_cases hj70 : j < 70
    · have hj70' : (j : Int) < 70 := by omega
      have hgj : L[j]? = some L[j] := List.getElem?_eq_getElem hjl
      obtain ⟨x, hx⟩ : ∃ x, L[j] = x := ⟨_, rfl⟩
      rw [hx] at hgj
      obtain ⟨m, hm0⟩ : ∃ m, min 70 x.l.length = m := ⟨_, rfl⟩
      have hm : (if (70 : Int) < (x.l.length : Int) then (70 : Int) else (x.l.length : Int)) = (m : Int) := by split <;> omega
      have hle : m ≤ x.l.length := by omega
      have ht : ((x.l.map inT).take m) = (x.l.take 70).map inT := by
        rw [List.map_take, ← hm0]
        rw [List.take_eq_take_iff]
        simp
      have hMl : M.length = j := by rw [hM]; simp; omega
      have gm : (M.length + 1) * 40 ≤ 140737488355328 := by omega
      (have hwq := trivial; repeat' (first | simp (maxSteps:=9999999)-implicitDefEqProofs only [go_sem,simprocAttr,hwq,FT3,FT4,FT22,FT82,FT84,FT91,List.length_map,List.getElem?_map,Int.natCast_nonneg,List.length_append,List.map_append,hjl',hj70',hgj,hm,hle,ht,gm,List.drop_zero,Nat.sub_zero,Nat.zero_le,wj] | (refine condK_split ?_ ?_ <;> intro hwq) | (refine two_split ?_ ?_) | (refine guardK_split ?_ ?_ <;> intro hwq) | (refine guardE_split ?_ ?_ <;> intro hwq) | (refine awp_drawW [] (by decide +kernel) ?_; have hwq := trivial) | fail))
      refine ⟨70 - (j + 1), _, by omega, Weak.cutI 1 [0, 3, 4] ?_ ?_, j + 1, M ++ [trimV x], _, rfl, by omega, by omega, rfl, by rw [take_in hgj, List.map_append, hM]; rfl⟩
      · simp (maxSteps:=9999999)-implicitDefEqProofs only [simprocAttr,QH,Option.isSome,cond_true,cond_false,Option.bind,selB,V.rn,V.rns,Go.Ai.known,V.pz,V.pzs,T.toV,frz1,List.range,List.range.loop,ite_true,ite_false,if_true,if_false,ne_eq,implies_true,forall_const,eq_self,IntKind.bits,upd_tmsS,selT_cons,selT_nil,List.length_map,List.getElem?_map,Int.natCast_nonneg,List.length_append,List.map_append,List.length_cons,List.length_nil]
      · simp (maxSteps:=9999999)-implicitDefEqProofs only [simprocAttr,QH,Option.isSome,cond_true,cond_false,Option.bind,selB,V.rn,V.rns,Go.Ai.known,V.pz,V.pzs,T.toV,frz1,List.range,List.range.loop,ite_true,ite_false,if_true,if_false,ne_eq,implies_true,forall_const,eq_self,IntKind.bits,upd_tmsS,selT_cons,selT_nil,List.length_map,List.getElem?_map,Int.natCast_nonneg,List.length_append,List.map_append,List.map_cons,List.map_nil,trimV]
    · have hj70' : ¬ (j : Int) < 70 := by omega
      have e : fewL L = M := by rw [hM]; unfold fewL; rw [show j = 70 by omega]
      rw [e]
      (have hwq := trivial; repeat' (first | simp (maxSteps:=9999999)-implicitDefEqProofs only [go_sem,simprocAttr,hwq,FT3,FT4,FT22,FT82,FT84,FT91,List.length_map,List.getElem?_map,Int.natCast_nonneg,List.length_append,List.map_append,hjl',hj70'] | (refine condK_split ?_ ?_ <;> intro hwq) | (refine two_split ?_ ?_) | (refine guardK_split ?_ ?_ <;> intro hwq) | (refine guardE_split ?_ ?_ <;> intro hwq) | (refine awp_drawW [] (by decide +kernel) ?_; have hwq := trivial) | fail))
      exact ⟨_, rfl, by simp [V.leT, V.le, V.les]; exact .inl (List.take_of_length_le (by simp))⟩
  · have hjl' : ¬ (j : Int) < (L.length : Int) := by omega
    have e : fewL L = M := by
      rw [hM]; unfold fewL
      rw [List.take_of_length_le (by omega), List.take_of_length_le (by omega)]
    rw [e]
    (have hwq := trivial; repeat' (first | simp (maxSteps:=9999999)-implicitDefEqProofs only [go_sem,simprocAttr,hwq,FT3,FT4,FT22,FT82,FT84,FT91,List.length_map,List.getElem?_map,Int.natCast_nonneg,List.length_append,List.map_append,hjl'] | (refine condK_split ?_ ?_ <;> intro hwq) | (refine two_split ?_ ?_) | (refine guardK_split ?_ ?_ <;> intro hwq) | (refine guardE_split ?_ ?_ <;> intro hwq) | (refine awp_drawW [] (by decide +kernel) ?_; have hwq := trivial) | fail))
    exact ⟨_, rfl, by simp [V.leT, V.le, V.les]; exact .inl (List.take_of_length_le (by simp))⟩
def Sv15 (L : List Vc) (n : Nat) (S : St) : Prop :=
  ∃ (j : Nat) (mv : List Nat), S = ⟨tms [(0, vcsV L), (1, vcsV L), (5, vI j)], [], mv⟩ ∧ j ≤ L.length ∧ n = L.length - j
def Sw15 (L : List Vc) (j : Nat) (x : Vc) (n : Nat) (S : St) : Prop :=
  ∃ (i : Nat) (mv : List Nat), S = ⟨tms [(0, vcsV L), (1, vcsV L), (5, vI j), (6, vI i)], [], mv⟩ ∧ i ≤ x.l.length ∧ n = x.l.length - i
theorem mr15 (L : List Vc) (hL : L.length ≤ 100000) (hx : ∀ x ∈ L, x.l.length ≤ 100000) : AC Try.prog 15 [vcsV L, vcsV L] [] (eqR (vB true)) := by
  refine AC_plain orders Try.func15 rfl (by kernel_rfl) (by kernel_rfl) Try.ntmps15 (by simp) ?_
  unfold Try.f15
  have hll : ((L.length : Int) != (L.length : Int)) = false := by simp
  (have hwq := trivial; repeat' (first | simp (maxSteps:=9999999)-implicitDefEqProofs only [go_sem,simprocAttr,hwq,FT3,FT4,FT22,FT82,FT84,FT91,List.length_map,List.getElem?_map,Int.natCast_nonneg,List.length_append,List.map_append,hll] | (refine condK_split ?_ ?_ <;> intro hwq) | (refine two_split ?_ ?_) | (refine guardK_split ?_ ?_ <;> intro hwq) | (refine guardE_split ?_ ?_ <;> intro hwq) | (refine awp_drawI 6 [] (List.range 39) [0, 0, 3, 7, 15, 0, 0, 96, 224, 480, 1023, 2047, 4095, 4095, 16383, 32767, 65535, 4095, 4095, 397311, 921599, 1970175, 4194303, 8388607, 16777215, 33554431, 33554431, 134217727, 268435455, 536870911, 1073741823, 33554431, 33554431, 6476005375, 15065939967, 32245809151, 66605547519, 137438953471, 274877906943] (by decide +kernel) ?_; have hwq := trivial) | (refine awp_drawI 11 [] (List.range 17) [0, 0, 3, 7, 15, 0, 63, 127, 0, 0, 768, 1792, 3840, 0, 16128, 32512, 65535] (by decide +kernel) ?_; have hwq := trivial) | (refine awp_drawW [] (by decide +kernel) ?_; have hwq := trivial) | fail))
  refine awp_loopK (Sv15 L) L.length _ (Weak.cutI 0 [0, 1, 5] ?_ ?_) ⟨0, _, rfl, by omega, rfl⟩ ?_
  · simp (maxSteps:=9999999)-implicitDefEqProofs only [simprocAttr,QH,Option.isSome,cond_true,cond_false,Option.bind,selB,V.rn,V.rns,Go.Ai.known,V.pz,V.pzs,T.toV,frz1,List.range,List.range.loop,ite_true,ite_false,if_true,if_false,ne_eq,implies_true,forall_const,eq_self,IntKind.bits,upd_tmsS,selT_cons,selT_nil,List.length_map,List.getElem?_map,Int.natCast_nonneg,List.length_append,List.map_append]
  · simp (maxSteps:=9999999)-implicitDefEqProofs only [simprocAttr,QH,Option.isSome,cond_true,cond_false,Option.bind,selB,V.rn,V.rns,Go.Ai.known,V.pz,V.pzs,T.toV,frz1,List.range,List.range.loop,ite_true,ite_false,if_true,if_false,ne_eq,implies_true,forall_const,eq_self,IntKind.bits,upd_tmsS,selT_cons,selT_nil]
  rintro kk S ⟨j, mv, rfl, hj, rfl⟩
  have wj : IntKind.i64.wrap ((j : Int) + 1) = (j : Int) + 1 := wI64 _ (by omega) (by omega)
  by_cases hjl : j < L.length
  · have hjl' : (j : Int) < (L.length : Int) := by omega
    have hgj : L[j]? = some L[j] := List.getElem?_eq_getElem hjl
    obtain ⟨x, hx0⟩ : ∃ x, L[j] = x := ⟨_, rfl⟩
    rw [hx0] at hgj
    have hxl := hx x (mem_in hgj)
    have q1 : (x.al != x.al) = false := by simp
    have q2 : (x.fi != x.fi) = false := by simp
    have q3 : ((x.l.length : Int) != (x.l.length : Int)) = false := by simp
    (have hwq := trivial; repeat' (first | simp (maxSteps:=9999999)-implicitDefEqProofs only [go_sem,simprocAttr,hwq,FT3,FT4,FT22,FT82,FT84,FT91,List.length_map,List.getElem?_map,Int.natCast_nonneg,List.length_append,List.map_append,hjl',hgj,q1,q2,q3] | (refine condK_split ?_ ?_ <;> intro hwq) | (refine two_split ?_ ?_) | (refine guardK_split ?_ ?_ <;> intro hwq) | (refine guardE_split ?_ ?_ <;> intro hwq) | (refine awp_drawI 6 [] (List.range 39) [0, 0, 3, 7, 15, 0, 0, 96, 224, 480, 1023, 2047, 4095, 4095, 16383, 32767, 65535, 4095, 4095, 397311, 921599, 1970175, 4194303, 8388607, 16777215, 33554431, 33554431, 134217727, 268435455, 536870911, 1073741823, 33554431, 33554431, 6476005375, 15065939967, 32245809151, 66605547519, 137438953471, 274877906943] (by decide +kernel) ?_; have hwq := trivial) | (refine awp_drawI 11 [] (List.range 17) [0, 0, 3, 7, 15, 0, 63, 127, 0, 0, 768, 1792, 3840, 0, 16128, 32512, 65535] (by decide +kernel) ?_; have hwq := trivial) | (refine awp_drawW [] (by decide +kernel) ?_; have hwq := trivial) | fail))
    refine awp_loopK (Sw15 L j x) x.l.length _ (Weak.cutI 0 [0, 1, 5, 6] ?_ ?_) ⟨0, _, rfl, by omega, rfl⟩ ?_
    · simp (maxSteps:=9999999)-implicitDefEqProofs only [simprocAttr,QH,Option.isSome,cond_true,cond_false,Option.bind,selB,V.rn,V.rns,Go.Ai.known,V.pz,V.pzs,T.toV,frz1,List.range,List.range.loop,ite_true,ite_false,if_true,if_false,ne_eq,implies_true,forall_const,eq_self,IntKind.bits,upd_tmsS,selT_cons,selT_nil,List.length_map,List.getElem?_map,Int.natCast_nonneg,List.length_append,List.map_append]
    · simp (maxSteps:=9999999)-implicitDefEqProofs only [simprocAttr,QH,Option.isSome,cond_true,cond_false,Option.bind,selB,V.rn,V.rns,Go.Ai.known,V.pz,V.pzs,T.toV,frz1,List.range,List.range.loop,ite_true,ite_false,if_true,if_false,ne_eq,implies_true,forall_const,eq_self,IntKind.bits,upd_tmsS,selT_cons,selT_nil]
    rintro k2 S2 ⟨i, mv2, rfl, hi, rfl⟩
    have wi : IntKind.i64.wrap ((i : Int) + 1) = (i : Int) + 1 := wI64 _ (by omega) (by omega)
    by_cases hil : i < x.l.length
    · have hil' : (i : Int) < (x.l.length : Int) := by omega
      have hgi : x.l[i]? = some x.l[i] := List.getElem?_eq_getElem hil
      obtain ⟨a, ha⟩ : ∃ a, x.l[i] = a := ⟨_, rfl⟩
      rw [ha] at hgi
      have q4 : (a != a) = false := by simp
      (have hwq := trivial; repeat' (first | simp (maxSteps:=9999999)-implicitDefEqProofs only [go_sem,simprocAttr,hwq,FT3,FT4,FT22,FT82,FT84,FT91,List.length_map,List.getElem?_map,Int.natCast_nonneg,List.length_append,List.map_append,hjl',hgj,hil',hgi,q4,wi] | (refine condK_split ?_ ?_ <;> intro hwq) | (refine two_split ?_ ?_) | (refine guardK_split ?_ ?_ <;> intro hwq) | (refine guardE_split ?_ ?_ <;> intro hwq) | (refine awp_drawI 6 [] (List.range 39) [0, 0, 3, 7, 15, 0, 0, 96, 224, 480, 1023, 2047, 4095, 4095, 16383, 32767, 65535, 4095, 4095, 397311, 921599, 1970175, 4194303, 8388607, 16777215, 33554431, 33554431, 134217727, 268435455, 536870911, 1073741823, 33554431, 33554431, 6476005375, 15065939967, 32245809151, 66605547519, 137438953471, 274877906943] (by decide +kernel) ?_; have hwq := trivial) | (refine awp_drawI 11 [] (List.range 17) [0, 0, 3, 7, 15, 0, 63, 127, 0, 0, 768, 1792, 3840, 0, 16128, 32512, 65535] (by decide +kernel) ?_; have hwq := trivial) | (refine awp_drawW [] (by decide +kernel) ?_; have hwq := trivial) | fail))
      refine ⟨x.l.length - (i + 1), _, by omega, Weak.cutI 0 [0, 1, 5, 6] ?_ ?_, i + 1, _, rfl, by omega, rfl⟩
      · simp (maxSteps:=9999999)-implicitDefEqProofs only [simprocAttr,QH,Option.isSome,cond_true,cond_false,Option.bind,selB,V.rn,V.rns,Go.Ai.known,V.pz,V.pzs,T.toV,frz1,List.range,List.range.loop,ite_true,ite_false,if_true,if_false,ne_eq,implies_true,forall_const,eq_self,IntKind.bits,upd_tmsS,selT_cons,selT_nil,List.length_map,List.getElem?_map,Int.natCast_nonneg,List.length_append,List.map_append]
      · simp (maxSteps:=9999999)-implicitDefEqProofs only [simprocAttr,QH,Option.isSome,cond_true,cond_false,Option.bind,selB,V.rn,V.rns,Go.Ai.known,V.pz,V.pzs,T.toV,frz1,List.range,List.range.loop,ite_true,ite_false,if_true,if_false,ne_eq,implies_true,forall_const,eq_self,IntKind.bits,upd_tmsS,selT_cons,selT_nil,List.length_map,List.getElem?_map,Int.natCast_nonneg,List.length_append,List.map_append]
    · have hil' : ¬ (i : Int) < (x.l.length : Int) := by omega
      (have hwq := trivial; repeat' (first | simp (maxSteps:=9999999)-implicitDefEqProofs only [go_sem,simprocAttr,hwq,FT3,FT4,FT22,FT82,FT84,FT91,List.length_map,List.getElem?_map,Int.natCast_nonneg,List.length_append,List.map_append,hjl',hgj,hil',wj] | (refine condK_split ?_ ?_ <;> intro hwq) | (refine two_split ?_ ?_) | (refine guardK_split ?_ ?_ <;> intro hwq) | (refine guardE_split ?_ ?_ <;> intro hwq) | (refine awp_drawI 6 [] (List.range 39) [0, 0, 3, 7, 15, 0, 0, 96, 224, 480, 1023, 2047, 4095, 4095, 16383, 32767, 65535, 4095, 4095, 397311, 921599, 1970175, 4194303, 8388607, 16777215, 33554431, 33554431, 134217727, 268435455, 536870911, 1073741823, 33554431, 33554431, 6476005375, 15065939967, 32245809151, 66605547519, 137438953471, 274877906943] (by decide +kernel) ?_; have hwq := trivial) | (refine awp_drawI 11 [] (List.range 17) [0, 0, 3, 7, 15, 0, 63, 127, 0, 0, 768, 1792, 3840, 0, 16128, 32512, 65535] (by decide +kernel) ?_; have hwq := trivial) | (refine awp_drawW [] (by decide +kernel) ?_; have hwq := trivial) | fail))
      refine ⟨L.length - (j + 1), _, by omega, Weak.cutI 0 [0, 1, 5] ?_ ?_, j + 1, _, rfl, by omega, rfl⟩
      · simp (maxSteps:=9999999)-implicitDefEqProofs only [simprocAttr,QH,Option.isSome,cond_true,cond_false,Option.bind,selB,V.rn,V.rns,Go.Ai.known,V.pz,V.pzs,T.toV,frz1,List.range,List.range.loop,ite_true,ite_false,if_true,if_false,ne_eq,implies_true,forall_const,eq_self,IntKind.bits,upd_tmsS,selT_cons,selT_nil,List.length_map,List.getElem?_map,Int.natCast_nonneg,List.length_append,List.map_append]
      · simp (maxSteps:=9999999)-implicitDefEqProofs only [simprocAttr,QH,Option.isSome,cond_true,cond_false,Option.bind,selB,V.rn,V.rns,Go.Ai.known,V.pz,V.pzs,T.toV,frz1,List.range,List.range.loop,ite_true,ite_false,if_true,if_false,ne_eq,implies_true,forall_const,eq_self,IntKind.bits,upd_tmsS,selT_cons,selT_nil,List.length_map,List.getElem?_map,Int.natCast_nonneg,List.length_append,List.map_append]
  · have hjl' : ¬ (j : Int) < (L.length : Int) := by omega
    (have hwq := trivial; repeat' (first | simp (maxSteps:=9999999)-implicitDefEqProofs only [go_sem,simprocAttr,hwq,FT3,FT4,FT22,FT82,FT84,FT91,List.length_map,List.getElem?_map,Int.natCast_nonneg,List.length_append,List.map_append,hjl'] | (refine condK_split ?_ ?_ <;> intro hwq) | (refine two_split ?_ ?_) | (refine guardK_split ?_ ?_ <;> intro hwq) | (refine guardE_split ?_ ?_ <;> intro hwq) | (refine awp_drawI 6 [] (List.range 39) [0, 0, 3, 7, 15, 0, 0, 96, 224, 480, 1023, 2047, 4095, 4095, 16383, 32767, 65535, 4095, 4095, 397311, 921599, 1970175, 4194303, 8388607, 16777215, 33554431, 33554431, 134217727, 268435455, 536870911, 1073741823, 33554431, 33554431, 6476005375, 15065939967, 32245809151, 66605547519, 137438953471, 274877906943] (by decide +kernel) ?_; have hwq := trivial) | (refine awp_drawI 11 [] (List.range 17) [0, 0, 3, 7, 15, 0, 63, 127, 0, 0, 768, 1792, 3840, 0, 16128, 32512, 65535] (by decide +kernel) ?_; have hwq := trivial) | (refine awp_drawW [] (by decide +kernel) ?_; have hwq := trivial) | fail))
end Go.Ai

set_option linter.unusedVariables false
set_option linter.unusedSimpArgs false
set_option maxHeartbeats 4000000
set_option maxRecDepth 100000
namespace Go.Ai
open Go.Proofs
attribute [local go_sem] QH QR V.noimm V.noimms frzZs frzZ frzA frzV frzVs frzBox boxLen Option.isSome cond_true cond_false aopD calW flatV stepX amap stepY alookup afind aupdate adelete amlen arange ameq mapOf akeq pl V.mapT V.mapTs Option.bind stepK runK guardD stepE runD callD compact selB callK evS ofVal ofVals scalar aop ares mkRes V.rn V.rns V.cells? cellsAt Go.Ai.part aload astore setL V.atom abin aun intBin shiftBin aconv fieldOf aindexAddr aindex bound? aslice aarr abuild afill alen nilP nilS nilF aeq eqCells eqCell Go.Ai.known strBin abuiltin aappend abuildSlice arowsFill amakeSlice acopy aclear minmax rowsOf numsT notStr isIntD isByte V.pz V.pzs T.toV frz1 frz scalT scalTs chunkT List.range List.range.loop ite_true ite_false if_true if_false ne_eq implies_true forall_const eq_self IntKind.bits kPostKF_ret kPostKF_normal kPostX_ret kPostX_normal bsl nil2K nil2 kPostFW_ret kPostFW_normal kPostKM_ret kPostKM_normal kPostXK_ret kPostXK_normal
theorem numsT_by : ∀ l : List Int, numsT (l.map byT) = some l
  | [] => rfl
  | x :: l => by
    show (match numsT (l.map byT) with | some ns => some (x :: ns) | none => none) = _
    rw [numsT_by l]
theorem pk3_range {l : List Int} (h : ∀ a ∈ l, 0 ≤ a ∧ a ≤ 5) (k : Nat) : 0 ≤ pk3 (chk l k) ∧ pk3 (chk l k) ≤ 255 := by
  rcases chk_cases l h k with hc | ⟨a, hc, ha⟩ | ⟨a, b, hc, ha, hb⟩ | ⟨a, b, d, hc, ha, hb, hd⟩ <;> rw [hc] <;> simp [pk3] <;> omega
theorem encR_range {L : List Vc} {b : List Int} (h : encR L = (b, 0)) : ∀ x ∈ b, 0 ≤ x ∧ x ≤ 255 := by
  obtain ⟨h1, h2, h3, rfl⟩ := encR_ok h
  intro x hx
  simp only [List.mem_append, List.mem_flatMap, List.mem_cons, List.not_mem_nil, or_false] at hx
  rcases hx with (rfl | rfl | rfl) | ⟨v, hv, hx⟩ | (rfl | rfl | rfl | rfl)
  all_goals try (constructor <;> decide)
  obtain ⟨b1, b2, b3, b6⟩ := mayB_of (h3 v hv)
  rw [vcB_eq] at hx
  have hd : 0 ≤ hdN v ∧ hdN v ≤ 8256 := by unfold hdN; split <;> omega
  simp only [List.mem_cons] at hx
  rcases hx with rfl | rfl | rfl | rfl | hx
  · omega
  · omega
  · omega
  · omega
  · unfold pkL at hx
    obtain ⟨k, _, rfl⟩ := List.mem_map.1 hx
    exact pk3_range b6 k
theorem TRl.last {I : Imm} {t t' : T} (h : ∀ c, TR I t c → TR I t' c) : ∀ {P : List T} {cs : List Value}, TRl I (P ++ [t]) cs → TRl I (P ++ [t']) cs
  | [], [], hx => by simp [TRl] at hx
  | [], [c], hx => by
    simp only [List.nil_append, TRl] at hx ⊢
    exact ⟨h c hx.1, trivial⟩
  | [], _ :: _ :: _, hx => by simp [TRl] at hx
  | p :: P, [], hx => by simp [TRl] at hx
  | p :: P, c :: cs, hx => by
    simp only [List.cons_append, TRl] at hx ⊢
    exact ⟨hx.1, TRl.last h hx.2⟩
/-- A block's rows, less told. -/
theorem Weak.rows (t : Nat) {tm : Nat → V} {σ : List Blk} {mv : List Nat} {z : Nat} {xs xs' : List (List T)} (hσ : σ[t]? = some (.rows z xs false)) (hl : xs'.length = xs.length) (hn : (∀ r ∈ xs, r.length = z) → ∀ r ∈ xs', r.length = z)
    (hr : ∀ I cs, TRl I xs.flatten cs → TRl I xs'.flatten cs) : Weak ⟨tm, σ, mv⟩ ⟨tm, σ.set t (.rows z xs' false), mv⟩ := by
  refine ⟨fun _ h => h, fun β I w hi => ⟨β, I, ?_, Step.refl _ _ _, fun _ _ h => h, fun _ _ hx _ => hx⟩⟩
  refine ⟨hi.imm, fun t' k hk => ?_, fun t' x hx => ?_, hi.inj⟩
  · by_cases h : t' = t
    · subst h
      have hlt := (List.getElem?_eq_some_iff.1 hσ).1
      rw [List.getElem?_set_self hlt] at hk
      simp at hk
      subst hk
      have := hi.blk t' _ hσ
      simp only [BlkR] at this ⊢
      rcases this with ⟨h1, rfl⟩ | ⟨b, cap, cs, e, h1, h2, h3, h4, h5, h6, h7, h8⟩
      · exact .inl ⟨h1, List.length_eq_zero_iff.1 hl⟩
      · refine .inr ⟨b, cap, cs, e, h1, h2, h3, by rw [hl]; exact h4, h5, hn h6, by rw [hl]; exact hr _ _ h7, fun o ho => h8 o (.inl trivial)⟩
    · rw [List.getElem?_set_ne (Ne.symm h)] at hk
      exact hi.blk t' k hk
  · obtain ⟨k, h1, h2⟩ := hi.live t' x hx
    by_cases h : t' = t
    · subst h
      have hlt := (List.getElem?_eq_some_iff.1 hσ).1
      exact ⟨_, List.getElem?_set_self hlt, h2⟩
    · exact ⟨k, by rw [List.getElem?_set_ne (Ne.symm h)]; exact h1, h2⟩
end Go.Ai

set_option linter.unusedVariables false
set_option linter.unusedSimpArgs false
set_option maxHeartbeats 4000000
set_option maxRecDepth 100000
namespace Go.Ai
open Go.Proofs
attribute [local go_sem] QH QR V.noimm V.noimms frzZs frzZ frzA frzV frzVs frzBox boxLen Option.isSome cond_true cond_false aopD calW flatV stepX amap stepY alookup afind aupdate adelete amlen arange ameq mapOf akeq pl V.mapT V.mapTs Option.bind stepK runK guardD stepE runD callD compact selB callK evS ofVal ofVals scalar aop ares mkRes V.rn V.rns V.cells? cellsAt Go.Ai.part aload astore setL V.atom abin aun intBin shiftBin aconv fieldOf aindexAddr aindex bound? aslice aarr abuild afill alen nilP nilS nilF aeq eqCells eqCell Go.Ai.known strBin abuiltin aappend abuildSlice arowsFill amakeSlice acopy aclear minmax rowsOf numsT notStr isIntD isByte V.pz V.pzs T.toV frz1 frz scalT scalTs chunkT List.range List.range.loop ite_true ite_false if_true if_false ne_eq implies_true forall_const eq_self IntKind.bits kPostKF_ret kPostKF_normal kPostX_ret kPostX_normal bsl nil2K nil2 kPostFW_ret kPostFW_normal kPostKM_ret kPostKM_normal kPostXK_ret kPostXK_normal
/-- A party, and one VLAN that is known. -/
abbrev hP (lv al ck : Int) (es : List (V × V × Nat)) (c : Nat) : List Blk := [.box [vI lv, vI al, .mref 1, vI ck] false, .mp es c]
abbrev eV (v a r t : Int) (b : Nat) : V × V × Nat := (vI v, .agg [vI a, vI r, vI t], b)
theorem lk3 : leafK Try.prog 20 3 = some [.i] := by simp [leafK, leafKs, tiles, List.replicate, u3, c3, h3]
theorem mn55 (lv al ck : Int) (es : List (V × V × Nat)) (c : Nat) (he : flatE es = true) : AC Try.prog 55 [.ptr 0 0 0] (hP lv al ck es c) (eqS (vB false) (hP lv al ck es c)) := by
  have hr := rn_mp he
  refine AC_heap orders [0, 1] Try.func55 rfl (by kernel_rfl) (by kernel_rfl) Try.ntmps55 (by simp) ?_
  unfold Try.f55
  (have hwq := trivial; repeat' (first | simp (maxSteps:=9999999)-implicitDefEqProofs only [go_sem,simprocAttr,hwq,u3,a3,c3,b3,z3,k3,u4,a4,c4,b4,z4,k4,u39,a39,c39,b39,z39,k39,l39,u41,a41,c41,b41,z41,k41,u77,a77,c77,b77,z77,k77,u79,a79,c79,b79,z79,k79,u96,a96,c96,b96,z96,k96,u100,a100,c100,b100,z100,k100,u105,a105,c105,b105,z105,k105,l105,hr] | (refine awpL_loop 18 ?_; have hwq := trivial) | (refine condK_split ?_ ?_ <;> intro hwq) | (refine two_split ?_ ?_) | (refine guardK_split ?_ ?_ <;> intro hwq) | (refine guardE_split ?_ ?_ <;> intro hwq) | (refine awp_drawW [] (by decide +kernel) ?_; have hwq := trivial) | fail))
theorem mn17 (lv al : Int) (h1 : 1 ≤ lv) (h2 : lv ≤ 100) (h3 : 2 ≤ al) (h4 : al ≤ 1000) : AC Try.prog 17 [.agg [vI lv, vI al]] [] (eqS (.tuple [.ptr 0 0 0, vI 0]) (hP lv al al [] 0)) := by
  have g1 : ¬ lv < 1 := by omega
  have g2 : ¬ 100 < lv := by omega
  have g3 : ¬ al < 2 := by omega
  have g4 : ¬ 1000 < al := by omega
  refine AC_heap orders [2, 1] Try.func17 rfl (by kernel_rfl) (by kernel_rfl) Try.ntmps17 (by simp) ?_
  unfold Try.f17
  (have hwq := trivial; repeat' (first | simp (maxSteps:=9999999)-implicitDefEqProofs only [go_sem,simprocAttr,hwq,u3,a3,c3,b3,z3,k3,u26,a26,c26,b26,z26,k26,u39,a39,c39,b39,z39,k39,l39,u41,a41,c41,b41,z41,k41,u77,a77,c77,b77,z77,k77,u79,a79,c79,b79,z79,k79,u96,a96,c96,b96,z96,k96,u100,a100,c100,b100,z100,k100,u105,a105,c105,b105,z105,k105,l105,rn_mp,flatE,g1,g2,g3,g4] | (refine awpL_loop 18 ?_; have hwq := trivial) | (refine condK_split ?_ ?_ <;> intro hwq) | (refine two_split ?_ ?_) | (refine guardK_split ?_ ?_ <;> intro hwq) | (refine guardE_split ?_ ?_ <;> intro hwq) | (refine awp_drawW [] (by decide +kernel) ?_; have hwq := trivial) | fail))
  all_goals trace_state
theorem mn51 (lv al ck : Int) (es : List (V × V × Nat)) (c : Nat) (he : flatE es = true) (v : Int) (hv : 1 ≤ v) (hv2 : v ≤ 4094) : AC Try.prog 51 [.ptr 0 0 0, vI v] (hP lv al ck es c) (eqS (vI 0) (hP lv al ck es c)) := by
  have hr := rn_mp he
  have hm := mapT_mp he
  have g1 : ¬ v < 1 := by omega
  have g2 : ¬ 4094 < v := by omega
  have h := mn55 lv al ck es c he
  refine AC_heap orders [0, 1] Try.func51 rfl (by kernel_rfl) (by kernel_rfl) Try.ntmps51 (by simp) ?_
  unfold Try.f51
  (have hwq := trivial; repeat' (first | simp (maxSteps:=9999999)-implicitDefEqProofs only [go_sem,simprocAttr,hwq,u3,a3,c3,b3,z3,k3,u26,a26,c26,b26,z26,k26,u39,a39,c39,b39,z39,k39,l39,u41,a41,c41,b41,z41,k41,u77,a77,c77,b77,z77,k77,u79,a79,c79,b79,z79,k79,u96,a96,c96,b96,z96,k96,u100,a100,c100,b100,z100,k100,u105,a105,c105,b105,z105,k105,l105,hr,hm,g1,g2] | (refine awpL_loop 18 ?_; have hwq := trivial) | (refine condK_split ?_ ?_ <;> intro hwq) | (refine two_split ?_ ?_) | (refine guardK_split ?_ ?_ <;> intro hwq) | (refine guardE_split ?_ ?_ <;> intro hwq) | (refine awp_drawW [] (by decide +kernel) ?_; have hwq := trivial) | (refine call_at [0, 1] h (by simp) (by decide) rfl rfl ?_ (V.les_refl _) ?_; (· simp [mapT_mp, hm, mapT_box, V.mapTs, V.mapT, pl]; done); have hwq := trivial) | fail))
  all_goals trace_state
theorem mn52a (lv al ck v : Int) (c : Nat) : AC Try.prog 52 [.ptr 0 0 0, vI v] (hP lv al ck [] c) (eqS (vB true) (hP lv al ck [eV v 0 0 0 c] (c + 1))) := by
  refine AC_heap orders [0, 1] Try.func52 rfl (by kernel_rfl) (by kernel_rfl) Try.ntmps52 (by simp) ?_
  unfold Try.f52
  (have hwq := trivial; repeat' (first | simp (maxSteps:=9999999)-implicitDefEqProofs only [go_sem,simprocAttr,hwq,u3,a3,c3,b3,z3,k3,u4,a4,c4,b4,z4,k4,u39,a39,c39,b39,z39,k39,l39,u41,a41,c41,b41,z41,k41,u77,a77,c77,b77,z77,k77,u79,a79,c79,b79,z79,k79,u96,a96,c96,b96,z96,k96,u100,a100,c100,b100,z100,k100,u105,a105,c105,b105,z105,k105,l105,rn_mp,mapT_mp,pz_mp,flatE,flatS,lk3] | (refine awpL_loop 18 ?_; have hwq := trivial) | (refine condK_split ?_ ?_ <;> intro hwq) | (refine two_split ?_ ?_) | (refine guardK_split ?_ ?_ <;> intro hwq) | (refine guardE_split ?_ ?_ <;> intro hwq) | (refine awp_drawW [] (by decide +kernel) ?_; have hwq := trivial) | fail))
  all_goals trace_state
theorem mn53 (lv al ck v a r t e a' s r' : Int) (n c : Nat) (h49 : AC Try.prog 49 [vI a, vI e, vI r] [] (eqR (.tuple [vI a', vI s]))) (h50 : AC Try.prog 50 [vI r, vI e] [] (eqR (vI r'))) :
    AC Try.prog 53 [.ptr 0 0 0, vI v, vI e] (hP lv al ck [eV v a r t n] c) (eqS (vI s) (hP lv al ck [eV v a' r' (if r' == 1 && r != 1 then lv else t) n] c)) := by
  refine AC_heap orders [0, 1] Try.func53 rfl (by kernel_rfl) (by kernel_rfl) Try.ntmps53 (by simp) ?_
  unfold Try.f53
  (have hwq := trivial; repeat' (first | simp (maxSteps:=9999999)-implicitDefEqProofs only [go_sem,simprocAttr,hwq,u3,a3,c3,b3,z3,k3,u39,a39,c39,b39,z39,k39,l39,u41,a41,c41,b41,z41,k41,u77,a77,c77,b77,z77,k77,u79,a79,c79,b79,z79,k79,u91,a91,c91,b91,z91,k91,u96,a96,c96,b96,z96,k96,u99,a99,c99,b99,z99,k99,u100,a100,c100,b100,z100,k100,u105,a105,c105,b105,z105,k105,l105,rn_mp,mapT_mp,pz_mp,flatE,flatS,lk3] | (refine awpL_loop 18 ?_; have hwq := trivial) | (refine condK_split ?_ ?_ <;> intro hwq) | (refine two_split ?_ ?_) | (refine guardK_split ?_ ?_ <;> intro hwq) | (refine guardE_split ?_ ?_ <;> intro hwq) | (refine awp_drawW [] (by decide +kernel) ?_; have hwq := trivial) | (refine call_plain h49 rfl rfl ?_; have hwq := trivial) | (refine call_plain h50 rfl rfl ?_; have hwq := trivial) | fail))
  all_goals trace_state
end Go.Ai

set_option linter.unusedVariables false
set_option linter.unusedSimpArgs false
set_option maxHeartbeats 4000000
set_option maxRecDepth 100000
namespace Go.Ai
open Go.Proofs
attribute [local go_sem] QH QR V.noimm V.noimms frzZs frzZ frzA frzV frzVs frzBox boxLen Option.isSome cond_true cond_false aopD calW flatV stepX amap stepY alookup afind aupdate adelete amlen arange ameq mapOf akeq pl V.mapT V.mapTs Option.bind stepK runK guardD stepE runD callD compact selB callK evS ofVal ofVals scalar aop ares mkRes V.rn V.rns V.cells? cellsAt Go.Ai.part aload astore setL V.atom abin aun intBin shiftBin aconv fieldOf aindexAddr aindex bound? aslice aarr abuild afill alen nilP nilS nilF aeq eqCells eqCell Go.Ai.known strBin abuiltin aappend abuildSlice arowsFill amakeSlice acopy aclear minmax rowsOf numsT notStr isIntD isByte V.pz V.pzs T.toV frz1 frz scalT scalTs chunkT List.range List.range.loop ite_true ite_false if_true if_false ne_eq implies_true forall_const eq_self IntKind.bits kPostKF_ret kPostKF_normal kPostX_ret kPostX_normal bsl nil2K nil2 kPostFW_ret kPostFW_normal kPostKM_ret kPostKM_normal kPostXK_ret kPostXK_normal
theorem mh71 : AC Try.prog 71 [vI 0, vI 2] [] (eqR (vI 1)) := by
  refine AC_plain orders Try.func71 rfl (by kernel_rfl) (by kernel_rfl) Try.ntmps71 (by simp) ?_
  unfold Try.f71
  (have hwq := trivial; repeat' (first | simp (maxSteps:=9999999)-implicitDefEqProofs only [go_sem,simprocAttr,hwq,u96,a96,c96,b96,z96,k96,u99,a99,c99,b99,z99,k99] | (refine awpL_loop 18 ?_; have hwq := trivial) | (refine condK_split ?_ ?_ <;> intro hwq) | (refine two_split ?_ ?_) | (refine guardK_split ?_ ?_ <;> intro hwq) | (refine guardE_split ?_ ?_ <;> intro hwq) | (refine awp_drawW [] (by decide +kernel) ?_; have hwq := trivial) | fail))
theorem mh80 : AC Try.prog 80 [vI 0] [] (eqR (vI 3)) := by
  refine AC_plain orders Try.func80 rfl (by kernel_rfl) (by kernel_rfl) Try.ntmps80 (by simp) ?_
  unfold Try.f80
  (have hwq := trivial; repeat' (first | simp (maxSteps:=9999999)-implicitDefEqProofs only [go_sem,simprocAttr,hwq,u91,a91,c91,b91,z91,k91,u100,a100,c100,b100,z100,k100] | (refine awpL_loop 18 ?_; have hwq := trivial) | (refine condK_split ?_ ?_ <;> intro hwq) | (refine two_split ?_ ?_) | (refine guardK_split ?_ ?_ <;> intro hwq) | (refine guardE_split ?_ ?_ <;> intro hwq) | (refine awp_drawW [] (by decide +kernel) ?_; have hwq := trivial) | fail))
theorem mh72 : AC Try.prog 72 [vI 1, vI 0] [] (eqR (.tuple [vI 4, vI 3])) := by
  refine AC_plain orders Try.func72 rfl (by kernel_rfl) (by kernel_rfl) Try.ntmps72 (by simp) ?_
  unfold Try.f72
  (have hwq := trivial; repeat' (first | simp (maxSteps:=9999999)-implicitDefEqProofs only [go_sem,simprocAttr,hwq,u91,a91,c91,b91,z91,k91,u96,a96,c96,b96,z96,k96,u100,a100,c100,b100,z100,k100] | (refine awpL_loop 18 ?_; have hwq := trivial) | (refine condK_split ?_ ?_ <;> intro hwq) | (refine two_split ?_ ?_) | (refine guardK_split ?_ ?_ <;> intro hwq) | (refine guardE_split ?_ ?_ <;> intro hwq) | (refine awp_drawW [] (by decide +kernel) ?_; have hwq := trivial) | (refine call_plain mh80 rfl rfl ?_; have hwq := trivial) | fail))
theorem mh83 : AC Try.prog 83 [vI 0] [] (eqR (vI 0)) := by
  refine AC_plain orders Try.func83 rfl (by kernel_rfl) (by kernel_rfl) Try.ntmps83 (by simp) ?_
  unfold Try.f83
  (have hwq := trivial; repeat' (first | simp (maxSteps:=9999999)-implicitDefEqProofs only [go_sem,simprocAttr,hwq,u96,a96,c96,b96,z96,k96] | (refine awpL_loop 18 ?_; have hwq := trivial) | (refine condK_split ?_ ?_ <;> intro hwq) | (refine two_split ?_ ?_) | (refine guardK_split ?_ ?_ <;> intro hwq) | (refine guardE_split ?_ ?_ <;> intro hwq) | (refine awp_drawW [] (by decide +kernel) ?_; have hwq := trivial) | fail))
theorem mh74 : AC Try.prog 74 [vI 0, vI 7] [] (eqR (vI 0)) := by
  refine AC_plain orders Try.func74 rfl (by kernel_rfl) (by kernel_rfl) Try.ntmps74 (by simp) ?_
  unfold Try.f74
  (have hwq := trivial; repeat' (first | simp (maxSteps:=9999999)-implicitDefEqProofs only [go_sem,simprocAttr,hwq,u96,a96,c96,b96,z96,k96,u99,a99,c99,b99,z99,k99] | (refine awpL_loop 18 ?_; have hwq := trivial) | (refine condK_split ?_ ?_ <;> intro hwq) | (refine two_split ?_ ?_) | (refine guardK_split ?_ ?_ <;> intro hwq) | (refine guardE_split ?_ ?_ <;> intro hwq) | (refine awp_drawW [] (by decide +kernel) ?_; have hwq := trivial) | (refine call_plain mh83 rfl rfl ?_; have hwq := trivial) | fail))
theorem mh49a : AC Try.prog 49 [vI 0, vI 2, vI 0] [] (eqR (.tuple [vI 1, vI 6])) := by
  refine AC_plain orders Try.func49 rfl (by kernel_rfl) (by kernel_rfl) Try.ntmps49 (by simp) ?_
  unfold Try.f49
  (have hwq := trivial; repeat' (first | simp (maxSteps:=9999999)-implicitDefEqProofs only [go_sem,simprocAttr,hwq,u91,a91,c91,b91,z91,k91,u96,a96,c96,b96,z96,k96,u99,a99,c99,b99,z99,k99,u100,a100,c100,b100,z100,k100] | (refine awpL_loop 18 ?_; have hwq := trivial) | (refine condK_split ?_ ?_ <;> intro hwq) | (refine two_split ?_ ?_) | (refine guardK_split ?_ ?_ <;> intro hwq) | (refine guardE_split ?_ ?_ <;> intro hwq) | (refine awp_drawW [] (by decide +kernel) ?_; have hwq := trivial) | (refine call_plain mh71 rfl rfl ?_; have hwq := trivial) | fail))
theorem mh49b : AC Try.prog 49 [vI 1, vI 12, vI 0] [] (eqR (.tuple [vI 4, vI 3])) := by
  refine AC_plain orders Try.func49 rfl (by kernel_rfl) (by kernel_rfl) Try.ntmps49 (by simp) ?_
  unfold Try.f49
  (have hwq := trivial; repeat' (first | simp (maxSteps:=9999999)-implicitDefEqProofs only [go_sem,simprocAttr,hwq,u91,a91,c91,b91,z91,k91,u96,a96,c96,b96,z96,k96,u99,a99,c99,b99,z99,k99,u100,a100,c100,b100,z100,k100] | (refine awpL_loop 18 ?_; have hwq := trivial) | (refine condK_split ?_ ?_ <;> intro hwq) | (refine two_split ?_ ?_) | (refine guardK_split ?_ ?_ <;> intro hwq) | (refine guardE_split ?_ ?_ <;> intro hwq) | (refine awp_drawW [] (by decide +kernel) ?_; have hwq := trivial) | (refine call_plain mh72 rfl rfl ?_; have hwq := trivial) | fail))
theorem mh49c : AC Try.prog 49 [vI 0, vI 7, vI 0] [] (eqR (.tuple [vI 0, vI 6])) := by
  refine AC_plain orders Try.func49 rfl (by kernel_rfl) (by kernel_rfl) Try.ntmps49 (by simp) ?_
  unfold Try.f49
  (have hwq := trivial; repeat' (first | simp (maxSteps:=9999999)-implicitDefEqProofs only [go_sem,simprocAttr,hwq,u91,a91,c91,b91,z91,k91,u96,a96,c96,b96,z96,k96,u99,a99,c99,b99,z99,k99,u100,a100,c100,b100,z100,k100] | (refine awpL_loop 18 ?_; have hwq := trivial) | (refine condK_split ?_ ?_ <;> intro hwq) | (refine two_split ?_ ?_) | (refine guardK_split ?_ ?_ <;> intro hwq) | (refine guardE_split ?_ ?_ <;> intro hwq) | (refine awp_drawW [] (by decide +kernel) ?_; have hwq := trivial) | (refine call_plain mh74 rfl rfl ?_; have hwq := trivial) | fail))
theorem mh50a : AC Try.prog 50 [vI 0, vI 2] [] (eqR (vI 0)) := by
  refine AC_plain orders Try.func50 rfl (by kernel_rfl) (by kernel_rfl) Try.ntmps50 (by simp) ?_
  unfold Try.f50
  (have hwq := trivial; repeat' (first | simp (maxSteps:=9999999)-implicitDefEqProofs only [go_sem,simprocAttr,hwq,u99,a99,c99,b99,z99,k99,u100,a100,c100,b100,z100,k100] | (refine awpL_loop 18 ?_; have hwq := trivial) | (refine condK_split ?_ ?_ <;> intro hwq) | (refine two_split ?_ ?_) | (refine guardK_split ?_ ?_ <;> intro hwq) | (refine guardE_split ?_ ?_ <;> intro hwq) | (refine awp_drawW [] (by decide +kernel) ?_; have hwq := trivial) | fail))
theorem mh50b : AC Try.prog 50 [vI 0, vI 12] [] (eqR (vI 0)) := by
  refine AC_plain orders Try.func50 rfl (by kernel_rfl) (by kernel_rfl) Try.ntmps50 (by simp) ?_
  unfold Try.f50
  (have hwq := trivial; repeat' (first | simp (maxSteps:=9999999)-implicitDefEqProofs only [go_sem,simprocAttr,hwq,u99,a99,c99,b99,z99,k99,u100,a100,c100,b100,z100,k100] | (refine awpL_loop 18 ?_; have hwq := trivial) | (refine condK_split ?_ ?_ <;> intro hwq) | (refine two_split ?_ ?_) | (refine guardK_split ?_ ?_ <;> intro hwq) | (refine guardE_split ?_ ?_ <;> intro hwq) | (refine awp_drawW [] (by decide +kernel) ?_; have hwq := trivial) | fail))
theorem mh50c : AC Try.prog 50 [vI 0, vI 7] [] (eqR (vI 2)) := by
  refine AC_plain orders Try.func50 rfl (by kernel_rfl) (by kernel_rfl) Try.ntmps50 (by simp) ?_
  unfold Try.f50
  (have hwq := trivial; repeat' (first | simp (maxSteps:=9999999)-implicitDefEqProofs only [go_sem,simprocAttr,hwq,u99,a99,c99,b99,z99,k99,u100,a100,c100,b100,z100,k100] | (refine awpL_loop 18 ?_; have hwq := trivial) | (refine condK_split ?_ ?_ <;> intro hwq) | (refine two_split ?_ ?_) | (refine guardK_split ?_ ?_ <;> intro hwq) | (refine guardE_split ?_ ?_ <;> intro hwq) | (refine awp_drawW [] (by decide +kernel) ?_; have hwq := trivial) | fail))
theorem mh50d : AC Try.prog 50 [vI 2, vI 9] [] (eqR (vI 1)) := by
  refine AC_plain orders Try.func50 rfl (by kernel_rfl) (by kernel_rfl) Try.ntmps50 (by simp) ?_
  unfold Try.f50
  (have hwq := trivial; repeat' (first | simp (maxSteps:=9999999)-implicitDefEqProofs only [go_sem,simprocAttr,hwq,u99,a99,c99,b99,z99,k99,u100,a100,c100,b100,z100,k100] | (refine awpL_loop 18 ?_; have hwq := trivial) | (refine condK_split ?_ ?_ <;> intro hwq) | (refine two_split ?_ ?_) | (refine guardK_split ?_ ?_ <;> intro hwq) | (refine guardE_split ?_ ?_ <;> intro hwq) | (refine awp_drawW [] (by decide +kernel) ?_; have hwq := trivial) | fail))
theorem mh64 : AC Try.prog 64 [vI 3] [] (eqR (vI 7)) := by
  refine AC_plain orders Try.func64 rfl (by kernel_rfl) (by kernel_rfl) Try.ntmps64 (by simp) ?_
  unfold Try.f64
  (have hwq := trivial; repeat' (first | simp (maxSteps:=9999999)-implicitDefEqProofs only [go_sem,simprocAttr,hwq,u91,a91,c91,b91,z91,k91,u99,a99,c99,b99,z99,k99,u131,a131,c131,b131,z131,k131,l131] | (refine awpL_loop 18 ?_; have hwq := trivial) | (refine condK_split ?_ ?_ <;> intro hwq) | (refine two_split ?_ ?_) | (refine guardK_split ?_ ?_ <;> intro hwq) | (refine guardE_split ?_ ?_ <;> intro hwq) | (refine awp_drawW [] (by decide +kernel) ?_; have hwq := trivial) | fail))
abbrev Mg : List Int := [0, 1, 2, 0, 1, 0, 10, 108, 0, 0, 0, 0]
theorem mh48 : AC Try.prog 48 [bysV Mg, bysV Mg] [] (eqR (vB true)) := by
  refine AC_plain orders Try.func48 rfl (by kernel_rfl) (by kernel_rfl) Try.ntmps48 (by simp) ?_
  unfold Try.f48
  (have hwq := trivial; repeat' (first | simp (maxSteps:=9999999)-implicitDefEqProofs only [go_sem,simprocAttr,hwq,u3,a3,c3,b3,z3,k3,u4,a4,c4,b4,z4,k4,u5,a5,c5,b5,z5,k5,u23,a23,c23,b23,z23,k23,List.map_cons,List.map_nil] | (refine awpL_loop 18 ?_; have hwq := trivial) | (refine condK_split ?_ ?_ <;> intro hwq) | (refine two_split ?_ ?_) | (refine guardK_split ?_ ?_ <;> intro hwq) | (refine guardE_split ?_ ?_ <;> intro hwq) | (refine awp_drawW [] (by decide +kernel) ?_; have hwq := trivial) | fail))
  all_goals trace_state
theorem encM : encR [⟨false, 10, [3]⟩] = (Mg, 0) := by decide
theorem mh11 : AC Try.prog 11 [vcsV [⟨false, 10, [3]⟩]] [] (eqR (.tuple [bysV Mg, vI 0])) := by
  have h := mc11 [⟨false, 10, [3]⟩] (by simp)
  rwa [encM] at h
theorem mh42a : AC Try.prog 42 [vcV ⟨false, 10, [3]⟩] [] (eqR (vB true)) := mc42 _ (by simp)
theorem mh42b : AC Try.prog 42 [vcV ⟨false, 0, []⟩] [] (eqR (vB false)) := mc42 _ (by simp)
end Go.Ai

set_option linter.unusedVariables false
set_option linter.unusedSimpArgs false
set_option maxHeartbeats 4000000
set_option maxRecDepth 100000
namespace Go.Ai
open Go.Proofs
attribute [local go_sem] QH QR V.noimm V.noimms frzZs frzZ frzA frzV frzVs frzBox boxLen Option.isSome cond_true cond_false aopD calW flatV stepX amap stepY alookup afind aupdate adelete amlen arange ameq mapOf akeq pl V.mapT V.mapTs Option.bind stepK runK guardD stepE runD callD compact selB callK evS ofVal ofVals scalar aop ares mkRes V.rn V.rns V.cells? cellsAt Go.Ai.part aload astore setL V.atom abin aun intBin shiftBin aconv fieldOf aindexAddr aindex bound? aslice aarr abuild afill alen nilP nilS nilF aeq eqCells eqCell Go.Ai.known strBin abuiltin aappend abuildSlice arowsFill amakeSlice acopy aclear minmax rowsOf numsT notStr isIntD isByte V.pz V.pzs T.toV frz1 frz scalT scalTs chunkT List.range List.range.loop ite_true ite_false if_true if_false ne_eq implies_true forall_const eq_self IntKind.bits kPostKF_ret kPostKF_normal kPostX_ret kPostX_normal bsl nil2K nil2 kPostFW_ret kPostFW_normal kPostKM_ret kPostKM_normal kPostXK_ret kPostXK_normal
theorem mh47a : AC Try.prog 47 [bysV [0, 1, 0, 10, 108, 0, 0, 0, 0]] [] (eqR (.tuple [vcV ⟨false, 10, [3]⟩, bysV [0, 0, 0, 0], vB true])) := by
  have v1 : bOr .i64 0 1 = 1 := by decide
  have v2 : bAndNot .i64 1 8192 = 1 := by decide
  have v3 : bAnd .i64 1 8192 = 0 := by decide
  have v4 : bOr .i64 0 10 = 10 := by decide
  have v5 : bOr .i64 0 0 = 0 := by decide
  have v6 : bAnd .i64 0 8192 = 0 := by decide
  have v7 : bAndNot .i64 0 8192 = 0 := by decide
  have v8 : (3 : Int).tdiv 3 = 1 := by decide
  have v9 : (2 : Int).tdiv 3 = 0 := by decide
  have v10 : (108 : Int).tdiv 36 = 3 := by decide
  have v11 : (108 : Int).tdiv 6 = 18 := by decide
  have v12 : (18 : Int).tmod 6 = 0 := by decide
  have v13 : (108 : Int).tmod 6 = 0 := by decide
  have v14 : IntKind.i64.wrap 3 = 3 := by decide
  have v15 : IntKind.i64.wrap 2 = 2 := by decide
  have v16 : IntKind.i64.wrap 5 = 5 := by decide
  have v17 : IntKind.i64.wrap 1 = 1 := by decide
  have v18 : IntKind.i64.wrap 4 = 4 := by decide
  refine AC_frozenW orders Try.func47 rfl (by kernel_rfl) (by kernel_rfl) Try.ntmps47 (by simp) ?_
  unfold Try.f47
  (have hwq := trivial; repeat' (first | simp (maxSteps:=9999999)-implicitDefEqProofs only [go_sem,simprocAttr,hwq,u3,a3,c3,b3,z3,k3,u4,a4,c4,b4,z4,k4,u5,a5,c5,b5,z5,k5,u23,a23,c23,b23,z23,k23,u82,a82,c82,b82,z82,k82,u84,a84,c84,b84,z84,k84,u91,a91,c91,b91,z91,k91,u126,a126,c126,b126,z126,k126,l126,List.map_cons,List.map_nil,v1,v2,v3,v4,v5,v6,v7,v8,v9,v10,v11,v12,v13,v14,v15,v16,v17,v18,List.drop_succ_cons,List.drop_zero,List.drop_nil,List.take_succ_cons,List.take_zero,List.take_nil,List.length_cons,List.length_nil] | (refine awpL_loop 18 ?_; have hwq := trivial) | (refine condK_split ?_ ?_ <;> intro hwq) | (refine two_split ?_ ?_) | (refine guardK_split ?_ ?_ <;> intro hwq) | (refine guardE_split ?_ ?_ <;> intro hwq) | (refine awp_drawI 3 [] (List.range 22) [0, 1, 3, 7, 15, 0, 32, 96, 224, 511, 0, 1024, 3072, 7168, 15360, 0, 32768, 98304, 229376, 523264, 1023, 2097151] (by decide +kernel) ?_; have hwq := trivial) | (refine awp_drawW [] (by decide +kernel) ?_; have hwq := trivial) | fail))
  all_goals
    refine awp_drawT [] [0, 1, 2, 3] 4 5 [6, 7] [6, 7] [0, 0, 0, 4, 14, 1, 63, 127] [0, 0, 0, 4, 14, 1, 63, 127] (by decide +kernel) ?_
    (have hwq := trivial; repeat' (first | simp (maxSteps:=9999999)-implicitDefEqProofs only [go_sem,simprocAttr,hwq,u3,a3,c3,b3,z3,k3,u4,a4,c4,b4,z4,k4,u5,a5,c5,b5,z5,k5,u23,a23,c23,b23,z23,k23,u82,a82,c82,b82,z82,k82,u84,a84,c84,b84,z84,k84,u91,a91,c91,b91,z91,k91,u126,a126,c126,b126,z126,k126,l126,List.map_cons,List.map_nil,v1,v2,v3,v4,v5,v6,v7,v8,v9,v10,v11,v12,v13,v14,v15,v16,v17,v18,List.drop_succ_cons,List.drop_zero,List.drop_nil,List.take_succ_cons,List.take_zero,List.take_nil,List.length_cons,List.length_nil] | (refine awpL_loop 18 ?_; have hwq := trivial) | (refine condK_split ?_ ?_ <;> intro hwq) | (refine two_split ?_ ?_) | (refine guardK_split ?_ ?_ <;> intro hwq) | (refine guardE_split ?_ ?_ <;> intro hwq) | (refine awp_drawI 3 [] (List.range 22) [0, 1, 3, 7, 15, 0, 32, 96, 224, 511, 0, 1024, 3072, 7168, 15360, 0, 32768, 98304, 229376, 523264, 1023, 2097151] (by decide +kernel) ?_; have hwq := trivial) | (refine awp_drawW [] (by decide +kernel) ?_; have hwq := trivial) | fail))
    refine two_mk ⟨tms [(2, .ptr 0 0 0), (3, bysV [0, 0, 0, 0]), (4, vB true)], [.box [vB false, vI 10, .own 3 0 1] false, .box [vB false, vI 10, .own 3 0 1] false, .rows 1 [inT 3] false, .rows 1 [inT 3] false], [] ++ List.range' 4 0⟩ ?_ ?_ ?_
    · (have hwq := trivial; repeat' (first | simp (maxSteps:=9999999)-implicitDefEqProofs only [go_sem,simprocAttr,hwq,u3,a3,c3,b3,z3,k3,u4,a4,c4,b4,z4,k4,u5,a5,c5,b5,z5,k5,u23,a23,c23,b23,z23,k23,u82,a82,c82,b82,z82,k82,u84,a84,c84,b84,z84,k84,u91,a91,c91,b91,z91,k91,u126,a126,c126,b126,z126,k126,l126,List.map_cons,List.map_nil,v1,v2,v3,v4,v5,v6,v7,v8,v9,v10,v11,v12,v13,v14,v15,v16,v17,v18,List.drop_succ_cons,List.drop_zero,List.drop_nil,List.take_succ_cons,List.take_zero,List.take_nil,List.length_cons,List.length_nil] | (refine awpL_loop 18 ?_; have hwq := trivial) | (refine condK_split ?_ ?_ <;> intro hwq) | (refine two_split ?_ ?_) | (refine guardK_split ?_ ?_ <;> intro hwq) | (refine guardE_split ?_ ?_ <;> intro hwq) | (refine awp_drawI 3 [] (List.range 22) [0, 1, 3, 7, 15, 0, 32, 96, 224, 511, 0, 1024, 3072, 7168, 15360, 0, 32768, 98304, 229376, 523264, 1023, 2097151] (by decide +kernel) ?_; have hwq := trivial) | (refine awp_drawW [] (by decide +kernel) ?_; have hwq := trivial) | fail))
      refine weak_mk (Weak.cutI 4 [2, 3, 4] ?_ ?_)
      · simp (maxSteps:=9999999)-implicitDefEqProofs only [simprocAttr,QH,Option.isSome,cond_true,cond_false,Option.bind,selB,V.rn,V.rns,Go.Ai.known,V.pz,V.pzs,T.toV,frz1,List.range,List.range.loop,ite_true,ite_false,if_true,if_false,ne_eq,implies_true,forall_const,eq_self,IntKind.bits,upd_tmsS,selT_cons,selT_nil,List.map_cons,List.map_nil,v1,v2,v3,v4,v5,v6,v7,v8,v9,v10,v11,v12,v13,v14,v15,v16,v17,v18,List.drop_succ_cons,List.drop_zero,List.drop_nil,List.take_succ_cons,List.take_zero,List.take_nil,List.length_cons,List.length_nil]
        rfl
      · simp (maxSteps:=9999999)-implicitDefEqProofs only [simprocAttr,QH,Option.isSome,cond_true,cond_false,Option.bind,selB,V.rn,V.rns,Go.Ai.known,V.pz,V.pzs,T.toV,frz1,List.range,List.range.loop,ite_true,ite_false,if_true,if_false,ne_eq,implies_true,forall_const,eq_self,IntKind.bits,upd_tmsS,selT_cons,selT_nil,List.map_cons,List.map_nil,v1,v2,v3,v4,v5,v6,v7,v8,v9,v10,v11,v12,v13,v14,v15,v16,v17,v18,List.drop_succ_cons,List.drop_zero,List.drop_nil,List.take_succ_cons,List.take_zero,List.take_nil,List.length_cons,List.length_nil]
    · (have hwq := trivial; repeat' (first | simp (maxSteps:=9999999)-implicitDefEqProofs only [go_sem,simprocAttr,hwq,u3,a3,c3,b3,z3,k3,u4,a4,c4,b4,z4,k4,u5,a5,c5,b5,z5,k5,u23,a23,c23,b23,z23,k23,u82,a82,c82,b82,z82,k82,u84,a84,c84,b84,z84,k84,u91,a91,c91,b91,z91,k91,u126,a126,c126,b126,z126,k126,l126,List.map_cons,List.map_nil,v1,v2,v3,v4,v5,v6,v7,v8,v9,v10,v11,v12,v13,v14,v15,v16,v17,v18,List.drop_succ_cons,List.drop_zero,List.drop_nil,List.take_succ_cons,List.take_zero,List.take_nil,List.length_cons,List.length_nil] | (refine awpL_loop 18 ?_; have hwq := trivial) | (refine condK_split ?_ ?_ <;> intro hwq) | (refine two_split ?_ ?_) | (refine guardK_split ?_ ?_ <;> intro hwq) | (refine guardE_split ?_ ?_ <;> intro hwq) | (refine awp_drawI 3 [] (List.range 22) [0, 1, 3, 7, 15, 0, 32, 96, 224, 511, 0, 1024, 3072, 7168, 15360, 0, 32768, 98304, 229376, 523264, 1023, 2097151] (by decide +kernel) ?_; have hwq := trivial) | (refine awp_drawW [] (by decide +kernel) ?_; have hwq := trivial) | fail))
      refine weak_mk (Weak.cutI 4 [2, 3, 4] ?_ ?_)
      · simp (maxSteps:=9999999)-implicitDefEqProofs only [simprocAttr,QH,Option.isSome,cond_true,cond_false,Option.bind,selB,V.rn,V.rns,Go.Ai.known,V.pz,V.pzs,T.toV,frz1,List.range,List.range.loop,ite_true,ite_false,if_true,if_false,ne_eq,implies_true,forall_const,eq_self,IntKind.bits,upd_tmsS,selT_cons,selT_nil,List.map_cons,List.map_nil,v1,v2,v3,v4,v5,v6,v7,v8,v9,v10,v11,v12,v13,v14,v15,v16,v17,v18,List.drop_succ_cons,List.drop_zero,List.drop_nil,List.take_succ_cons,List.take_zero,List.take_nil,List.length_cons,List.length_nil]
        rfl
      · simp (maxSteps:=9999999)-implicitDefEqProofs only [simprocAttr,QH,Option.isSome,cond_true,cond_false,Option.bind,selB,V.rn,V.rns,Go.Ai.known,V.pz,V.pzs,T.toV,frz1,List.range,List.range.loop,ite_true,ite_false,if_true,if_false,ne_eq,implies_true,forall_const,eq_self,IntKind.bits,upd_tmsS,selT_cons,selT_nil,List.map_cons,List.map_nil,v1,v2,v3,v4,v5,v6,v7,v8,v9,v10,v11,v12,v13,v14,v15,v16,v17,v18,List.drop_succ_cons,List.drop_zero,List.drop_nil,List.take_succ_cons,List.take_zero,List.take_nil,List.length_cons,List.length_nil]
    (have hwq := trivial; repeat' (first | simp (maxSteps:=9999999)-implicitDefEqProofs only [go_sem,simprocAttr,hwq,u3,a3,c3,b3,z3,k3,u4,a4,c4,b4,z4,k4,u5,a5,c5,b5,z5,k5,u23,a23,c23,b23,z23,k23,u82,a82,c82,b82,z82,k82,u84,a84,c84,b84,z84,k84,u91,a91,c91,b91,z91,k91,u126,a126,c126,b126,z126,k126,l126,List.map_cons,List.map_nil,v1,v2,v3,v4,v5,v6,v7,v8,v9,v10,v11,v12,v13,v14,v15,v16,v17,v18,List.drop_succ_cons,List.drop_zero,List.drop_nil,List.take_succ_cons,List.take_zero,List.take_nil,List.length_cons,List.length_nil] | (refine awpL_loop 18 ?_; have hwq := trivial) | (refine condK_split ?_ ?_ <;> intro hwq) | (refine two_split ?_ ?_) | (refine guardK_split ?_ ?_ <;> intro hwq) | (refine guardE_split ?_ ?_ <;> intro hwq) | (refine awp_drawI 3 [] (List.range 22) [0, 1, 3, 7, 15, 0, 32, 96, 224, 511, 0, 1024, 3072, 7168, 15360, 0, 32768, 98304, 229376, 523264, 1023, 2097151] (by decide +kernel) ?_; have hwq := trivial) | (refine awp_drawW [] (by decide +kernel) ?_; have hwq := trivial) | fail))
    exact ⟨_, rfl, by simp [V.leT, V.le, V.les]⟩
theorem mh47b : AC Try.prog 47 [bysV [0, 0, 0, 0]] [] (eqR (.tuple [vcV ⟨false, 0, []⟩, bysV [], vB true])) := by
  have v1 : bOr .i64 0 1 = 1 := by decide
  have v2 : bAndNot .i64 1 8192 = 1 := by decide
  have v3 : bAnd .i64 1 8192 = 0 := by decide
  have v4 : bOr .i64 0 10 = 10 := by decide
  have v5 : bOr .i64 0 0 = 0 := by decide
  have v6 : bAnd .i64 0 8192 = 0 := by decide
  have v7 : bAndNot .i64 0 8192 = 0 := by decide
  have v8 : (3 : Int).tdiv 3 = 1 := by decide
  have v9 : (2 : Int).tdiv 3 = 0 := by decide
  have v10 : (108 : Int).tdiv 36 = 3 := by decide
  have v11 : (108 : Int).tdiv 6 = 18 := by decide
  have v12 : (18 : Int).tmod 6 = 0 := by decide
  have v13 : (108 : Int).tmod 6 = 0 := by decide
  have v14 : IntKind.i64.wrap 3 = 3 := by decide
  have v15 : IntKind.i64.wrap 2 = 2 := by decide
  have v16 : IntKind.i64.wrap 5 = 5 := by decide
  have v17 : IntKind.i64.wrap 1 = 1 := by decide
  have v18 : IntKind.i64.wrap 4 = 4 := by decide
  refine AC_frozenW orders Try.func47 rfl (by kernel_rfl) (by kernel_rfl) Try.ntmps47 (by simp) ?_
  unfold Try.f47
  (have hwq := trivial; repeat' (first | simp (maxSteps:=9999999)-implicitDefEqProofs only [go_sem,simprocAttr,hwq,u3,a3,c3,b3,z3,k3,u4,a4,c4,b4,z4,k4,u5,a5,c5,b5,z5,k5,u23,a23,c23,b23,z23,k23,u82,a82,c82,b82,z82,k82,u84,a84,c84,b84,z84,k84,u91,a91,c91,b91,z91,k91,u126,a126,c126,b126,z126,k126,l126,List.map_cons,List.map_nil,v1,v2,v3,v4,v5,v6,v7,v8,v9,v10,v11,v12,v13,v14,v15,v16,v17,v18,List.drop_succ_cons,List.drop_zero,List.drop_nil,List.take_succ_cons,List.take_zero,List.take_nil,List.length_cons,List.length_nil] | (refine awpL_loop 18 ?_; have hwq := trivial) | (refine condK_split ?_ ?_ <;> intro hwq) | (refine two_split ?_ ?_) | (refine guardK_split ?_ ?_ <;> intro hwq) | (refine guardE_split ?_ ?_ <;> intro hwq) | (refine awp_drawI 3 [] (List.range 22) [0, 1, 3, 7, 15, 0, 32, 96, 224, 511, 0, 1024, 3072, 7168, 15360, 0, 32768, 98304, 229376, 523264, 1023, 2097151] (by decide +kernel) ?_; have hwq := trivial) | (refine awp_drawW [] (by decide +kernel) ?_; have hwq := trivial) | fail))
  all_goals
    refine awp_drawT [] [0, 1, 2, 3] 4 5 [6, 7] [6, 7] [0, 0, 0, 4, 14, 1, 63, 127] [0, 0, 0, 4, 14, 1, 63, 127] (by decide +kernel) ?_
    (have hwq := trivial; repeat' (first | simp (maxSteps:=9999999)-implicitDefEqProofs only [go_sem,simprocAttr,hwq,u3,a3,c3,b3,z3,k3,u4,a4,c4,b4,z4,k4,u5,a5,c5,b5,z5,k5,u23,a23,c23,b23,z23,k23,u82,a82,c82,b82,z82,k82,u84,a84,c84,b84,z84,k84,u91,a91,c91,b91,z91,k91,u126,a126,c126,b126,z126,k126,l126,List.map_cons,List.map_nil,v1,v2,v3,v4,v5,v6,v7,v8,v9,v10,v11,v12,v13,v14,v15,v16,v17,v18,List.drop_succ_cons,List.drop_zero,List.drop_nil,List.take_succ_cons,List.take_zero,List.take_nil,List.length_cons,List.length_nil] | (refine awpL_loop 18 ?_; have hwq := trivial) | (refine condK_split ?_ ?_ <;> intro hwq) | (refine two_split ?_ ?_) | (refine guardK_split ?_ ?_ <;> intro hwq) | (refine guardE_split ?_ ?_ <;> intro hwq) | (refine awp_drawI 3 [] (List.range 22) [0, 1, 3, 7, 15, 0, 32, 96, 224, 511, 0, 1024, 3072, 7168, 15360, 0, 32768, 98304, 229376, 523264, 1023, 2097151] (by decide +kernel) ?_; have hwq := trivial) | (refine awp_drawW [] (by decide +kernel) ?_; have hwq := trivial) | fail))
    refine two_mk ⟨tms [(2, .ptr 0 0 0), (3, bysV []), (4, vB true)], [.box [vB false, vI 0, .s (.slice none 0 0)] false, .box [vB false, vI 0, .s (.slice none 0 0)] false], [] ++ List.range' 2 0⟩ ?_ ?_ ?_
    · (have hwq := trivial; repeat' (first | simp (maxSteps:=9999999)-implicitDefEqProofs only [go_sem,simprocAttr,hwq,u3,a3,c3,b3,z3,k3,u4,a4,c4,b4,z4,k4,u5,a5,c5,b5,z5,k5,u23,a23,c23,b23,z23,k23,u82,a82,c82,b82,z82,k82,u84,a84,c84,b84,z84,k84,u91,a91,c91,b91,z91,k91,u126,a126,c126,b126,z126,k126,l126,List.map_cons,List.map_nil,v1,v2,v3,v4,v5,v6,v7,v8,v9,v10,v11,v12,v13,v14,v15,v16,v17,v18,List.drop_succ_cons,List.drop_zero,List.drop_nil,List.take_succ_cons,List.take_zero,List.take_nil,List.length_cons,List.length_nil] | (refine awpL_loop 18 ?_; have hwq := trivial) | (refine condK_split ?_ ?_ <;> intro hwq) | (refine two_split ?_ ?_) | (refine guardK_split ?_ ?_ <;> intro hwq) | (refine guardE_split ?_ ?_ <;> intro hwq) | (refine awp_drawI 3 [] (List.range 22) [0, 1, 3, 7, 15, 0, 32, 96, 224, 511, 0, 1024, 3072, 7168, 15360, 0, 32768, 98304, 229376, 523264, 1023, 2097151] (by decide +kernel) ?_; have hwq := trivial) | (refine awp_drawW [] (by decide +kernel) ?_; have hwq := trivial) | fail))
      refine weak_mk (Weak.cutI 2 [2, 3, 4] ?_ ?_)
      · simp (maxSteps:=9999999)-implicitDefEqProofs only [simprocAttr,QH,Option.isSome,cond_true,cond_false,Option.bind,selB,V.rn,V.rns,Go.Ai.known,V.pz,V.pzs,T.toV,frz1,List.range,List.range.loop,ite_true,ite_false,if_true,if_false,ne_eq,implies_true,forall_const,eq_self,IntKind.bits,upd_tmsS,selT_cons,selT_nil,List.map_cons,List.map_nil,v1,v2,v3,v4,v5,v6,v7,v8,v9,v10,v11,v12,v13,v14,v15,v16,v17,v18,List.drop_succ_cons,List.drop_zero,List.drop_nil,List.take_succ_cons,List.take_zero,List.take_nil,List.length_cons,List.length_nil]
        rfl
      · simp (maxSteps:=9999999)-implicitDefEqProofs only [simprocAttr,QH,Option.isSome,cond_true,cond_false,Option.bind,selB,V.rn,V.rns,Go.Ai.known,V.pz,V.pzs,T.toV,frz1,List.range,List.range.loop,ite_true,ite_false,if_true,if_false,ne_eq,implies_true,forall_const,eq_self,IntKind.bits,upd_tmsS,selT_cons,selT_nil,List.map_cons,List.map_nil,v1,v2,v3,v4,v5,v6,v7,v8,v9,v10,v11,v12,v13,v14,v15,v16,v17,v18,List.drop_succ_cons,List.drop_zero,List.drop_nil,List.take_succ_cons,List.take_zero,List.take_nil,List.length_cons,List.length_nil]
    · (have hwq := trivial; repeat' (first | simp (maxSteps:=9999999)-implicitDefEqProofs only [go_sem,simprocAttr,hwq,u3,a3,c3,b3,z3,k3,u4,a4,c4,b4,z4,k4,u5,a5,c5,b5,z5,k5,u23,a23,c23,b23,z23,k23,u82,a82,c82,b82,z82,k82,u84,a84,c84,b84,z84,k84,u91,a91,c91,b91,z91,k91,u126,a126,c126,b126,z126,k126,l126,List.map_cons,List.map_nil,v1,v2,v3,v4,v5,v6,v7,v8,v9,v10,v11,v12,v13,v14,v15,v16,v17,v18,List.drop_succ_cons,List.drop_zero,List.drop_nil,List.take_succ_cons,List.take_zero,List.take_nil,List.length_cons,List.length_nil] | (refine awpL_loop 18 ?_; have hwq := trivial) | (refine condK_split ?_ ?_ <;> intro hwq) | (refine two_split ?_ ?_) | (refine guardK_split ?_ ?_ <;> intro hwq) | (refine guardE_split ?_ ?_ <;> intro hwq) | (refine awp_drawI 3 [] (List.range 22) [0, 1, 3, 7, 15, 0, 32, 96, 224, 511, 0, 1024, 3072, 7168, 15360, 0, 32768, 98304, 229376, 523264, 1023, 2097151] (by decide +kernel) ?_; have hwq := trivial) | (refine awp_drawW [] (by decide +kernel) ?_; have hwq := trivial) | fail))
      refine weak_mk (Weak.cutI 2 [2, 3, 4] ?_ ?_)
      · simp (maxSteps:=9999999)-implicitDefEqProofs only [simprocAttr,QH,Option.isSome,cond_true,cond_false,Option.bind,selB,V.rn,V.rns,Go.Ai.known,V.pz,V.pzs,T.toV,frz1,List.range,List.range.loop,ite_true,ite_false,if_true,if_false,ne_eq,implies_true,forall_const,eq_self,IntKind.bits,upd_tmsS,selT_cons,selT_nil,List.map_cons,List.map_nil,v1,v2,v3,v4,v5,v6,v7,v8,v9,v10,v11,v12,v13,v14,v15,v16,v17,v18,List.drop_succ_cons,List.drop_zero,List.drop_nil,List.take_succ_cons,List.take_zero,List.take_nil,List.length_cons,List.length_nil]
        rfl
      · simp (maxSteps:=9999999)-implicitDefEqProofs only [simprocAttr,QH,Option.isSome,cond_true,cond_false,Option.bind,selB,V.rn,V.rns,Go.Ai.known,V.pz,V.pzs,T.toV,frz1,List.range,List.range.loop,ite_true,ite_false,if_true,if_false,ne_eq,implies_true,forall_const,eq_self,IntKind.bits,upd_tmsS,selT_cons,selT_nil,List.map_cons,List.map_nil,v1,v2,v3,v4,v5,v6,v7,v8,v9,v10,v11,v12,v13,v14,v15,v16,v17,v18,List.drop_succ_cons,List.drop_zero,List.drop_nil,List.take_succ_cons,List.take_zero,List.take_nil,List.length_cons,List.length_nil]
    (have hwq := trivial; repeat' (first | simp (maxSteps:=9999999)-implicitDefEqProofs only [go_sem,simprocAttr,hwq,u3,a3,c3,b3,z3,k3,u4,a4,c4,b4,z4,k4,u5,a5,c5,b5,z5,k5,u23,a23,c23,b23,z23,k23,u82,a82,c82,b82,z82,k82,u84,a84,c84,b84,z84,k84,u91,a91,c91,b91,z91,k91,u126,a126,c126,b126,z126,k126,l126,List.map_cons,List.map_nil,v1,v2,v3,v4,v5,v6,v7,v8,v9,v10,v11,v12,v13,v14,v15,v16,v17,v18,List.drop_succ_cons,List.drop_zero,List.drop_nil,List.take_succ_cons,List.take_zero,List.take_nil,List.length_cons,List.length_nil] | (refine awpL_loop 18 ?_; have hwq := trivial) | (refine condK_split ?_ ?_ <;> intro hwq) | (refine two_split ?_ ?_) | (refine guardK_split ?_ ?_ <;> intro hwq) | (refine guardE_split ?_ ?_ <;> intro hwq) | (refine awp_drawI 3 [] (List.range 22) [0, 1, 3, 7, 15, 0, 32, 96, 224, 511, 0, 1024, 3072, 7168, 15360, 0, 32768, 98304, 229376, 523264, 1023, 2097151] (by decide +kernel) ?_; have hwq := trivial) | (refine awp_drawW [] (by decide +kernel) ?_; have hwq := trivial) | fail))
    exact ⟨_, rfl, by simp [V.leT, V.le, V.les]⟩
end Go.Ai

set_option linter.unusedVariables false
set_option linter.unusedSimpArgs false
set_option maxHeartbeats 4000000
set_option maxRecDepth 100000
namespace Go.Ai
open Go.Proofs
attribute [local go_sem] QH QR V.noimm V.noimms frzZs frzZ frzA frzV frzVs frzBox boxLen Option.isSome cond_true cond_false aopD calW flatV stepX amap stepY alookup afind aupdate adelete amlen arange ameq mapOf akeq pl V.mapT V.mapTs Option.bind stepK runK guardD stepE runD callD compact selB callK evS ofVal ofVals scalar aop ares mkRes V.rn V.rns V.cells? cellsAt Go.Ai.part aload astore setL V.atom abin aun intBin shiftBin aconv fieldOf aindexAddr aindex bound? aslice aarr abuild afill alen nilP nilS nilF aeq eqCells eqCell Go.Ai.known strBin abuiltin aappend abuildSlice arowsFill amakeSlice acopy aclear minmax rowsOf numsT notStr isIntD isByte V.pz V.pzs T.toV frz1 frz scalT scalTs chunkT List.range List.range.loop ite_true ite_false if_true if_false ne_eq implies_true forall_const eq_self IntKind.bits kPostKF_ret kPostKF_normal kPostX_ret kPostX_normal bsl nil2K nil2 kPostFW_ret kPostFW_normal kPostKM_ret kPostKM_normal kPostXK_ret kPostXK_normal
theorem mh13 : AC Try.prog 13 [bysV Mg] [] (eqR (.tuple [vcsV [⟨false, 10, [3]⟩], vI 0])) := by
  refine AC_frozen orders Try.func13 rfl (by kernel_rfl) (by kernel_rfl) Try.ntmps13 (by simp) ?_
  unfold Try.f13
  (have hwq := trivial; repeat' (first | simp (maxSteps:=9999999)-implicitDefEqProofs only [go_sem,simprocAttr,hwq,u3,a3,c3,b3,z3,k3,u4,a4,c4,b4,z4,k4,u5,a5,c5,b5,z5,k5,u22,a22,c22,b22,z22,k22,u23,a23,c23,b23,z23,k23,u26,a26,c26,b26,z26,k26,u82,a82,c82,b82,z82,k82,u84,a84,c84,b84,z84,k84,u91,a91,c91,b91,z91,k91,List.map_cons,List.map_nil,List.drop_succ_cons,List.drop_zero,List.drop_nil,List.take_succ_cons,List.take_zero,List.take_nil,List.length_cons,List.length_nil] | (refine awpL_loop 18 ?_; have hwq := trivial) | (refine condK_split ?_ ?_ <;> intro hwq) | (refine two_split ?_ ?_) | (refine guardK_split ?_ ?_ <;> intro hwq) | (refine guardE_split ?_ ?_ <;> intro hwq) | (refine awp_drawW [] (by decide +kernel) ?_; have hwq := trivial) | (refine call_plain mh47a rfl rfl ?_; have hwq := trivial) | (refine call_plain mh47b rfl rfl ?_; have hwq := trivial) | (refine call_data mh42a rfl (V.les_refl _) rfl ?_; have hwq := trivial) | (refine call_data mh42b rfl (V.les_refl _) rfl ?_; have hwq := trivial) | (refine call_dataF mh11 rfl (V.les_refl _) rfl rfl ?_; have hwq := trivial) | (refine call_plain mh48 rfl rfl ?_; have hwq := trivial) | fail))
  rfl
end Go.Ai

set_option linter.unusedVariables false
set_option linter.unusedSimpArgs false
set_option maxHeartbeats 4000000
set_option maxRecDepth 100000
namespace Go.Ai
open Go.Proofs
attribute [local go_sem] QH QR V.noimm V.noimms frzZs frzZ frzA frzV frzVs frzBox boxLen Option.isSome cond_true cond_false aopD calW flatV stepX amap stepY alookup afind aupdate adelete amlen arange ameq mapOf akeq pl V.mapT V.mapTs Option.bind stepK runK guardD stepE runD callD compact selB callK evS ofVal ofVals scalar aop ares mkRes V.rn V.rns V.cells? cellsAt Go.Ai.part aload astore setL V.atom abin aun intBin shiftBin aconv fieldOf aindexAddr aindex bound? aslice aarr abuild afill alen nilP nilS nilF aeq eqCells eqCell Go.Ai.known strBin abuiltin aappend abuildSlice arowsFill amakeSlice acopy aclear minmax rowsOf numsT notStr isIntD isByte V.pz V.pzs T.toV frz1 frz scalT scalTs chunkT List.range List.range.loop ite_true ite_false if_true if_false ne_eq implies_true forall_const eq_self IntKind.bits kPostKF_ret kPostKF_normal kPostX_ret kPostX_normal bsl nil2K nil2 kPostFW_ret kPostFW_normal kPostKM_ret kPostKM_normal kPostXK_ret kPostXK_normal
theorem mj54 (lv al ck v a r t : Int) (n c : Nat) (hnc : n < c) (h : (a == 0 && r == 0) = false) : AC Try.prog 54 [.ptr 0 0 0] (hP lv al ck [eV v a r t n] c) (eqS (.tuple []) (hP lv al ck [eV v a r t n] c)) := by
  refine AC_heap orders [0, 1] Try.func54 rfl (by kernel_rfl) (by kernel_rfl) Try.ntmps54 (by simp) ?_
  unfold Try.f54
  (have hwq := trivial; repeat' (first | simp (maxSteps:=9999999)-implicitDefEqProofs only [go_sem,simprocAttr,hwq,u3,a3,c3,b3,z3,k3,u39,a39,c39,b39,z39,k39,l39,u41,a41,c41,b41,z41,k41,u77,a77,c77,b77,z77,k77,u79,a79,c79,b79,z79,k79,u96,a96,c96,b96,z96,k96,u100,a100,c100,b100,z100,k100,u105,a105,c105,b105,z105,k105,l105,rn_mp,mapT_mp,pz_mp,flatE,flatS,lk3,nextK,aentry,forall_eq_or_imp,forall_eq,List.getLast?_append,List.getLast?_singleton,List.getLast?_nil,List.getLast?_cons_cons,List.find?_cons,Option.some_or,List.mem_append,List.nil_append,List.eraseIdx_cons_zero,List.eraseIdx_cons_succ,Option.or_some,List.forall_mem_cons,List.forall_mem_nil,not_true_eq_false,hnc,true_and,h] | (refine awpL_loop 18 ?_; have hwq := trivial) | (refine condK_split ?_ ?_ <;> intro hwq) | (refine two_split ?_ ?_) | (refine guardK_split ?_ ?_ <;> intro hwq) | (refine guardE_split ?_ ?_ <;> intro hwq) | (refine awp_drawW [] (by decide +kernel) ?_; have hwq := trivial) | fail))
  all_goals simp_all
theorem mj56 (lv al ck v a r t : Int) (n c : Nat) (hnc : n < c) : AC Try.prog 56 [.ptr 0 0 0] (hP lv al ck [eV v a r t n] c) (eqS (isV [v]) (hP lv al ck [eV v a r t n] c)) := by
  refine AC_heapF orders [0, 1] Try.func56 rfl (by kernel_rfl) (by kernel_rfl) Try.ntmps56 (by simp) ?_
  unfold Try.f56
  (have hwq := trivial; repeat' (first | simp (maxSteps:=9999999)-implicitDefEqProofs only [go_sem,simprocAttr,hwq,u3,a3,c3,b3,z3,k3,u39,a39,c39,b39,z39,k39,l39,u40,a40,c40,b40,z40,k40,u41,a41,c41,b41,z41,k41,u77,a77,c77,b77,z77,k77,u79,a79,c79,b79,z79,k79,u96,a96,c96,b96,z96,k96,u100,a100,c100,b100,z100,k100,u105,a105,c105,b105,z105,k105,l105,rn_mp,mapT_mp,pz_mp,flatE,flatS,lk3,nextK,aentry,forall_eq_or_imp,forall_eq,List.getLast?_append,List.getLast?_singleton,List.getLast?_nil,List.getLast?_cons_cons,List.find?_cons,Option.some_or,List.mem_append,List.nil_append,List.eraseIdx_cons_zero,List.eraseIdx_cons_succ,Option.or_some,List.forall_mem_cons,List.forall_mem_nil,not_true_eq_false,hnc,true_and] | (refine awpL_loop 18 ?_; have hwq := trivial) | (refine condK_split ?_ ?_ <;> intro hwq) | (refine two_split ?_ ?_) | (refine guardK_split ?_ ?_ <;> intro hwq) | (refine guardE_split ?_ ?_ <;> intro hwq) | (refine awp_drawW [] (by decide +kernel) ?_; have hwq := trivial) | (refine call_own [4] (mz75 _) (by simp) (by decide) rfl rfl (V.les_refl _) ?_; have hwq := trivial) | fail))
  rfl
end Go.Ai

set_option linter.unusedVariables false
set_option linter.unusedSimpArgs false
set_option maxHeartbeats 4000000
set_option maxRecDepth 100000
namespace Go.Ai
open Go.Proofs
attribute [local go_sem] QH QR V.noimm V.noimms frzZs frzZ frzA frzV frzVs frzBox boxLen Option.isSome cond_true cond_false aopD calW flatV stepX amap stepY alookup afind aupdate adelete amlen arange ameq mapOf akeq pl V.mapT V.mapTs Option.bind stepK runK guardD stepE runD callD compact selB callK evS ofVal ofVals scalar aop ares mkRes V.rn V.rns V.cells? cellsAt Go.Ai.part aload astore setL V.atom abin aun intBin shiftBin aconv fieldOf aindexAddr aindex bound? aslice aarr abuild afill alen nilP nilS nilF aeq eqCells eqCell Go.Ai.known strBin abuiltin aappend abuildSlice arowsFill amakeSlice acopy aclear minmax rowsOf numsT notStr isIntD isByte V.pz V.pzs T.toV frz1 frz scalT scalTs chunkT List.range List.range.loop ite_true ite_false if_true if_false ne_eq implies_true forall_const eq_self IntKind.bits kPostKF_ret kPostKF_normal kPostX_ret kPostX_normal bsl nil2K nil2 kPostFW_ret kPostFW_normal kPostKM_ret kPostKM_normal kPostXK_ret kPostXK_normal
theorem e53a' : (if ((0 : Int) == 1 && (0 : Int) != 1) = true then (3 : Int) else 0) = 0 := rfl
theorem mk33 : AC Try.prog 33 [.ptr 0 0 0] (hP 3 20 20 [eV 10 1 0 0 0] 1) (eqS (.tuple [bysV Mg, vB true]) (hP 3 20 20 [eV 10 4 0 0 0] 1)) := by
  have n55 := mn55 3 20 20 [eV 10 1 0 0 0] 1 rfl
  have n56 := mj56 3 20 20 10 1 0 0 0 1 (by decide)
  have n53 := mn53 3 20 20 10 1 0 0 12 4 3 0 0 1 mh49b mh50b
  rw [e53a'] at n53
  have n54 := mj54 3 20 20 10 4 0 0 0 1 (by decide) rfl
  refine AC_heapF orders [0, 1] Try.func33 rfl (by kernel_rfl) (by kernel_rfl) Try.ntmps33 (by simp) ?_
  unfold Try.f33
  (have hwq := trivial; repeat' (first | simp (maxSteps:=9999999)-implicitDefEqProofs only [go_sem,simprocAttr,hwq,u3,a3,c3,b3,z3,k3,u4,a4,c4,b4,z4,k4,u5,a5,c5,b5,z5,k5,u22,a22,c22,b22,z22,k22,u23,a23,c23,b23,z23,k23,u39,a39,c39,b39,z39,k39,l39,u40,a40,c40,b40,z40,k40,u41,a41,c41,b41,z41,k41,u77,a77,c77,b77,z77,k77,u79,a79,c79,b79,z79,k79,u82,a82,c82,b82,z82,k82,u84,a84,c84,b84,z84,k84,u91,a91,c91,b91,z91,k91,u96,a96,c96,b96,z96,k96,u99,a99,c99,b99,z99,k99,u100,a100,c100,b100,z100,k100,u105,a105,c105,b105,z105,k105,l105,rn_mp,mapT_mp,pz_mp,flatE,flatS,lk3,nextK,aentry,forall_eq_or_imp,forall_eq,List.getLast?_append,List.getLast?_singleton,List.getLast?_nil,List.getLast?_cons_cons,List.find?_cons,Option.some_or,List.mem_append,List.nil_append,List.eraseIdx_cons_zero,List.eraseIdx_cons_succ,Option.or_some,List.forall_mem_cons,List.forall_mem_nil,not_true_eq_false,List.map_cons,List.map_nil] | (refine awpL_loop 18 ?_; have hwq := trivial) | (refine condK_split ?_ ?_ <;> intro hwq) | (refine two_split ?_ ?_) | (refine guardK_split ?_ ?_ <;> intro hwq) | (refine guardE_split ?_ ?_ <;> intro hwq) | (refine awp_drawI 13 [] (List.range 20) [0, 1, 3, 7, 7, 23, 63, 127, 255, 7, 7, 1031, 3591, 7687, 15879, 32263, 65535, 7, 262143, 524287] (by decide +kernel) ?_; have hwq := trivial) | (refine awp_drawW [] (by decide +kernel) ?_; have hwq := trivial) | (refine call_at [0, 1] n55 (by simp) (by decide) rfl rfl ?_ (V.les_refl _) ?_; (· simp [mapT_mp, mapT_mp (es := []) rfl, flatE, flatS, mapT_box, V.mapTs, V.mapT, pl]; done); have hwq := trivial) | (refine call_at [0, 1] n56 (by simp) (by decide) rfl rfl ?_ (V.les_refl _) ?_; (· simp [mapT_mp, mapT_mp (es := []) rfl, flatE, flatS, mapT_box, V.mapTs, V.mapT, pl]; done); have hwq := trivial) | (refine call_at [0, 1] n53 (by simp) (by decide) rfl rfl ?_ (V.les_refl _) ?_; (· simp [mapT_mp, mapT_mp (es := []) rfl, flatE, flatS, mapT_box, V.mapTs, V.mapT, pl]; done); have hwq := trivial) | (refine call_at [0, 1] n54 (by simp) (by decide) rfl rfl ?_ (V.les_refl _) ?_; (· simp [mapT_mp, mapT_mp (es := []) rfl, flatE, flatS, mapT_box, V.mapTs, V.mapT, pl]; done); have hwq := trivial) | (refine call_dataF mh11 rfl (V.les_refl _) rfl rfl ?_; have hwq := trivial) | fail))
  all_goals rfl
end Go.Ai

set_option linter.unusedVariables false
set_option linter.unusedSimpArgs false
set_option maxHeartbeats 4000000
set_option maxRecDepth 100000
namespace Go.Ai
open Go.Proofs
attribute [local go_sem] QH QR V.noimm V.noimms frzZs frzZ frzA frzV frzVs frzBox boxLen Option.isSome cond_true cond_false aopD calW flatV stepX amap stepY alookup afind aupdate adelete amlen arange ameq mapOf akeq pl V.mapT V.mapTs Option.bind stepK runK guardD stepE runD callD compact selB callK evS ofVal ofVals scalar aop ares mkRes V.rn V.rns V.cells? cellsAt Go.Ai.part aload astore setL V.atom abin aun intBin shiftBin aconv fieldOf aindexAddr aindex bound? aslice aarr abuild afill alen nilP nilS nilF aeq eqCells eqCell Go.Ai.known strBin abuiltin aappend abuildSlice arowsFill amakeSlice acopy aclear minmax rowsOf numsT notStr isIntD isByte V.pz V.pzs T.toV frz1 frz scalT scalTs chunkT List.range List.range.loop ite_true ite_false if_true if_false ne_eq implies_true forall_const eq_self IntKind.bits kPostKF_ret kPostKF_normal kPostX_ret kPostX_normal bsl nil2K nil2 kPostFW_ret kPostFW_normal kPostKM_ret kPostKM_normal kPostXK_ret kPostXK_normal
theorem e53a : (if ((0 : Int) == 1 && (0 : Int) != 1) = true then (3 : Int) else 0) = 0 := rfl
theorem e53b : (if ((2 : Int) == 1 && (0 : Int) != 1) = true then (3 : Int) else 0) = 0 := rfl
theorem mk18a : AC Try.prog 18 [.ptr 0 0 0, vI 10, vB false] (hP 3 20 20 [] 0) (eqS (vI 0) (hP 3 20 20 [eV 10 1 0 0 0] 1)) := by
  have n51 := mn51 3 20 20 [] 0 rfl 10 (by decide) (by decide)
  have n52 := mn52a 3 20 20 10 0
  have n53 := mn53 3 20 20 10 0 0 0 2 1 6 0 0 1 mh49a mh50a
  rw [e53a] at n53
  have n54 := mj54 3 20 20 10 1 0 0 0 1 (by decide) rfl
  refine AC_heap orders [0, 1] Try.func18 rfl (by kernel_rfl) (by kernel_rfl) Try.ntmps18 (by simp) ?_
  unfold Try.f18
  (have hwq := trivial; repeat' (first | simp (maxSteps:=9999999)-implicitDefEqProofs only [go_sem,simprocAttr,hwq,u3,a3,c3,b3,z3,k3,u4,a4,c4,b4,z4,k4,u26,a26,c26,b26,z26,k26,u39,a39,c39,b39,z39,k39,l39,u41,a41,c41,b41,z41,k41,u77,a77,c77,b77,z77,k77,u79,a79,c79,b79,z79,k79,u96,a96,c96,b96,z96,k96,u99,a99,c99,b99,z99,k99,u100,a100,c100,b100,z100,k100,u105,a105,c105,b105,z105,k105,l105,rn_mp,mapT_mp,pz_mp,flatE,flatS,lk3,nextK,aentry,forall_eq_or_imp,forall_eq,List.getLast?_append,List.getLast?_singleton,List.getLast?_nil,List.getLast?_cons_cons,List.find?_cons,Option.some_or,List.mem_append,List.nil_append,List.eraseIdx_cons_zero,List.eraseIdx_cons_succ,Option.or_some,List.forall_mem_cons,List.forall_mem_nil,not_true_eq_false] | (refine awpL_loop 18 ?_; have hwq := trivial) | (refine condK_split ?_ ?_ <;> intro hwq) | (refine two_split ?_ ?_) | (refine guardK_split ?_ ?_ <;> intro hwq) | (refine guardE_split ?_ ?_ <;> intro hwq) | (refine awp_drawW [53] (by decide +kernel) ?_; have hwq := trivial) | (refine call_at [0, 1] n51 (by simp) (by decide) rfl rfl ?_ (V.les_refl _) ?_; (· simp [mapT_mp, mapT_mp (es := []) rfl, flatE, flatS, mapT_box, V.mapTs, V.mapT, pl]; done); have hwq := trivial) | (refine call_at [0, 1] n52 (by simp) (by decide) rfl rfl ?_ (V.les_refl _) ?_; (· simp [mapT_mp, mapT_mp (es := []) rfl, flatE, flatS, mapT_box, V.mapTs, V.mapT, pl]; done); have hwq := trivial) | (refine call_at [0, 1] n53 (by simp) (by decide) rfl rfl ?_ (V.les_refl _) ?_; (· simp [mapT_mp, mapT_mp (es := []) rfl, flatE, flatS, mapT_box, V.mapTs, V.mapT, pl]; done); have hwq := trivial) | (refine call_at [0, 1] n54 (by simp) (by decide) rfl rfl ?_ (V.les_refl _) ?_; (· simp [mapT_mp, mapT_mp (es := []) rfl, flatE, flatS, mapT_box, V.mapTs, V.mapT, pl]; done); have hwq := trivial) | fail))
  all_goals trace_state
theorem mk51b : AC Try.prog 51 [.ptr 0 0 0, vI 0] (hP 3 20 20 [eV 10 0 2 0 0] 1) (eqS (vI 1) (hP 3 20 20 [eV 10 0 2 0 0] 1)) := by
  have h := mn55 3 20 20 [eV 10 0 2 0 0] 1 rfl
  refine AC_heap orders [0, 1] Try.func51 rfl (by kernel_rfl) (by kernel_rfl) Try.ntmps51 (by simp) ?_
  unfold Try.f51
  (have hwq := trivial; repeat' (first | simp (maxSteps:=9999999)-implicitDefEqProofs only [go_sem,simprocAttr,hwq,u3,a3,c3,b3,z3,k3,u26,a26,c26,b26,z26,k26,u39,a39,c39,b39,z39,k39,l39,u41,a41,c41,b41,z41,k41,u77,a77,c77,b77,z77,k77,u79,a79,c79,b79,z79,k79,u96,a96,c96,b96,z96,k96,u100,a100,c100,b100,z100,k100,u105,a105,c105,b105,z105,k105,l105,rn_mp,mapT_mp,pz_mp,flatE,flatS,lk3,nextK,aentry,forall_eq_or_imp,forall_eq,List.getLast?_append,List.getLast?_singleton,List.getLast?_nil,List.getLast?_cons_cons,List.find?_cons,Option.some_or,List.mem_append,List.nil_append,List.eraseIdx_cons_zero,List.eraseIdx_cons_succ,Option.or_some,List.forall_mem_cons,List.forall_mem_nil,not_true_eq_false] | (refine awpL_loop 18 ?_; have hwq := trivial) | (refine condK_split ?_ ?_ <;> intro hwq) | (refine two_split ?_ ?_) | (refine guardK_split ?_ ?_ <;> intro hwq) | (refine guardE_split ?_ ?_ <;> intro hwq) | (refine awp_drawW [53] (by decide +kernel) ?_; have hwq := trivial) | (refine call_at [0, 1] h (by simp) (by decide) rfl rfl ?_ (V.les_refl _) ?_; (· simp [mapT_mp, mapT_mp (es := []) rfl, flatE, flatS, mapT_box, V.mapTs, V.mapT, pl]; done); have hwq := trivial) | fail))
  all_goals trace_state
theorem mk18b : AC Try.prog 18 [.ptr 0 0 0, vI 0, vB true] (hP 3 20 20 [eV 10 0 2 0 0] 1) (eqS (vI 1) (hP 3 20 20 [eV 10 0 2 0 0] 1)) := by
  refine AC_heap orders [0, 1] Try.func18 rfl (by kernel_rfl) (by kernel_rfl) Try.ntmps18 (by simp) ?_
  unfold Try.f18
  (have hwq := trivial; repeat' (first | simp (maxSteps:=9999999)-implicitDefEqProofs only [go_sem,simprocAttr,hwq,u3,a3,c3,b3,z3,k3,u4,a4,c4,b4,z4,k4,u26,a26,c26,b26,z26,k26,u39,a39,c39,b39,z39,k39,l39,u41,a41,c41,b41,z41,k41,u77,a77,c77,b77,z77,k77,u79,a79,c79,b79,z79,k79,u96,a96,c96,b96,z96,k96,u99,a99,c99,b99,z99,k99,u100,a100,c100,b100,z100,k100,u105,a105,c105,b105,z105,k105,l105,rn_mp,mapT_mp,pz_mp,flatE,flatS,lk3,nextK,aentry,forall_eq_or_imp,forall_eq,List.getLast?_append,List.getLast?_singleton,List.getLast?_nil,List.getLast?_cons_cons,List.find?_cons,Option.some_or,List.mem_append,List.nil_append,List.eraseIdx_cons_zero,List.eraseIdx_cons_succ,Option.or_some,List.forall_mem_cons,List.forall_mem_nil,not_true_eq_false] | (refine awpL_loop 18 ?_; have hwq := trivial) | (refine condK_split ?_ ?_ <;> intro hwq) | (refine two_split ?_ ?_) | (refine guardK_split ?_ ?_ <;> intro hwq) | (refine guardE_split ?_ ?_ <;> intro hwq) | (refine awp_drawW [53] (by decide +kernel) ?_; have hwq := trivial) | (refine call_at [0, 1] mk51b (by simp) (by decide) rfl rfl ?_ (V.les_refl _) ?_; (· simp [mapT_mp, mapT_mp (es := []) rfl, flatE, flatS, mapT_box, V.mapTs, V.mapT, pl]; done); have hwq := trivial) | fail))
  all_goals trace_state
theorem mk28 : AC Try.prog 28 [.ptr 0 0 0, bysV Mg] (hP 3 20 20 [] 0) (eqS (vI 0) (hP 3 20 20 [eV 10 0 2 0 0] 1)) := by
  have n55 := mn55 3 20 20 [] 0 rfl
  have n52 := mn52a 3 20 20 10 0
  have n53 := mn53 3 20 20 10 0 0 0 7 0 6 2 0 1 mh49c mh50c
  rw [e53b] at n53
  have n54 := mj54 3 20 20 10 0 2 0 0 1 (by decide) rfl
  refine AC_heap orders [0, 1] Try.func28 rfl (by kernel_rfl) (by kernel_rfl) Try.ntmps28 (by simp) ?_
  unfold Try.f28
  (have hwq := trivial; repeat' (first | simp (maxSteps:=9999999)-implicitDefEqProofs only [go_sem,simprocAttr,hwq,u3,a3,c3,b3,z3,k3,u4,a4,c4,b4,z4,k4,u5,a5,c5,b5,z5,k5,u22,a22,c22,b22,z22,k22,u23,a23,c23,b23,z23,k23,u26,a26,c26,b26,z26,k26,u39,a39,c39,b39,z39,k39,l39,u41,a41,c41,b41,z41,k41,u77,a77,c77,b77,z77,k77,u79,a79,c79,b79,z79,k79,u82,a82,c82,b82,z82,k82,u84,a84,c84,b84,z84,k84,u91,a91,c91,b91,z91,k91,u96,a96,c96,b96,z96,k96,u99,a99,c99,b99,z99,k99,u100,a100,c100,b100,z100,k100,u105,a105,c105,b105,z105,k105,l105,rn_mp,mapT_mp,pz_mp,flatE,flatS,lk3,nextK,aentry,forall_eq_or_imp,forall_eq,List.getLast?_append,List.getLast?_singleton,List.getLast?_nil,List.getLast?_cons_cons,List.find?_cons,Option.some_or,List.mem_append,List.nil_append,List.eraseIdx_cons_zero,List.eraseIdx_cons_succ,Option.or_some,List.forall_mem_cons,List.forall_mem_nil,not_true_eq_false] | (refine awpL_loop 18 ?_; have hwq := trivial) | (refine condK_split ?_ ?_ <;> intro hwq) | (refine two_split ?_ ?_) | (refine guardK_split ?_ ?_ <;> intro hwq) | (refine guardE_split ?_ ?_ <;> intro hwq) | (refine awp_drawW [53] (by decide +kernel) ?_; have hwq := trivial) | (refine call_plain mh13 rfl rfl ?_; have hwq := trivial) | (refine draw_plain mh64 rfl (fun _ => rfl) ?_; have hwq := trivial) | (refine call_at [0, 1] n55 (by simp) (by decide) rfl rfl ?_ (V.les_refl _) ?_; (· simp [mapT_mp, mapT_mp (es := []) rfl, flatE, flatS, mapT_box, V.mapTs, V.mapT, pl]; done); have hwq := trivial) | (refine call_at [0, 1] n52 (by simp) (by decide) rfl rfl ?_ (V.les_refl _) ?_; (· simp [mapT_mp, mapT_mp (es := []) rfl, flatE, flatS, mapT_box, V.mapTs, V.mapT, pl]; done); have hwq := trivial) | (refine drawW_at [0, 1] n53 (by simp) (by decide) rfl rfl ?_ (V.les_refl _) ?_; (· simp [mapT_mp, mapT_mp (es := []) rfl, flatE, flatS, mapT_box, V.mapTs, V.mapT, pl]; done); have hwq := trivial) | (refine call_at [0, 1] n54 (by simp) (by decide) rfl rfl ?_ (V.les_refl _) ?_; (· simp [mapT_mp, mapT_mp (es := []) rfl, flatE, flatS, mapT_box, V.mapTs, V.mapT, pl]; done); have hwq := trivial) | fail))
  all_goals trace_state
end Go.Ai

set_option linter.unusedVariables false
set_option linter.unusedSimpArgs false
set_option maxHeartbeats 4000000
set_option maxRecDepth 100000
namespace Go.Ai
open Go.Proofs
attribute [local go_sem] QH QR V.noimm V.noimms frzZs frzZ frzA frzV frzVs frzBox boxLen Option.isSome cond_true cond_false aopD calW flatV stepX amap stepY alookup afind aupdate adelete amlen arange ameq mapOf akeq pl V.mapT V.mapTs Option.bind stepK runK guardD stepE runD callD compact selB callK evS ofVal ofVals scalar aop ares mkRes V.rn V.rns V.cells? cellsAt Go.Ai.part aload astore setL V.atom abin aun intBin shiftBin aconv fieldOf aindexAddr aindex bound? aslice aarr abuild afill alen nilP nilS nilF aeq eqCells eqCell Go.Ai.known strBin abuiltin aappend abuildSlice arowsFill amakeSlice acopy aclear minmax rowsOf numsT notStr isIntD isByte V.pz V.pzs T.toV frz1 frz scalT scalTs chunkT List.range List.range.loop ite_true ite_false if_true if_false ne_eq implies_true forall_const eq_self IntKind.bits kPostKF_ret kPostKF_normal kPostX_ret kPostX_normal bsl nil2K nil2 kPostFW_ret kPostFW_normal kPostKM_ret kPostKM_normal kPostXK_ret kPostXK_normal
abbrev hR : List Blk := [.box [vI 3, vI 20, .mref 1, vI 20] false, .mp [eV 10 0 2 0 0] 1, .box [.ptr 0 0 0] false]
theorem mm58 : AC Try.prog 58 [vI 10, .ptr 2 0 0] (hR) (eqS (vB false) (hR)) := by
  refine AC_heap orders [0, 1, 2] Try.func58 rfl (by kernel_rfl) (by kernel_rfl) Try.ntmps58 (by simp) ?_
  unfold Try.f58
  (have hwq := trivial; repeat' (first | simp (maxSteps:=9999999)-implicitDefEqProofs only [go_sem,simprocAttr,hwq,u3,a3,c3,b3,z3,k3,u4,a4,c4,b4,z4,k4,u39,a39,c39,b39,z39,k39,l39,u41,a41,c41,b41,z41,k41,u77,a77,c77,b77,z77,k77,u79,a79,c79,b79,z79,k79,u96,a96,c96,b96,z96,k96,u100,a100,c100,b100,z100,k100,u105,a105,c105,b105,z105,k105,l105,rn_mp,mapT_mp,pz_mp,flatE,flatS,lk3,nextK,aentry,forall_eq_or_imp,forall_eq,List.getLast?_append,List.getLast?_singleton,List.getLast?_nil,List.getLast?_cons_cons,List.find?_cons,Option.some_or,List.mem_append,List.nil_append,List.eraseIdx_cons_zero,List.eraseIdx_cons_succ,Option.or_some,List.forall_mem_cons,List.forall_mem_nil,not_true_eq_false,List.map_cons,List.map_nil] | (refine awpL_loop 18 ?_; have hwq := trivial) | (refine condK_split ?_ ?_ <;> intro hwq) | (refine two_split ?_ ?_) | (refine guardK_split ?_ ?_ <;> intro hwq) | (refine guardE_split ?_ ?_ <;> intro hwq) | (refine awp_drawW [] (by decide +kernel) ?_; have hwq := trivial) | fail))
  all_goals rfl
theorem mm76 : AC Try.prog 76 [isV [10], .clo (.func 58) [] [.ptr 2 0 0]] (hR) (eqS (vI (-1)) (hR)) := by
  refine AC_heap orders [0, 1, 2] Try.func76 rfl (by kernel_rfl) (by kernel_rfl) Try.ntmps76 (by simp) ?_
  unfold Try.f76
  (have hwq := trivial; repeat' (first | simp (maxSteps:=9999999)-implicitDefEqProofs only [go_sem,simprocAttr,hwq,u3,a3,c3,b3,z3,k3,u40,a40,c40,b40,z40,k40,u102,rn_mp,mapT_mp,pz_mp,flatE,flatS,lk3,nextK,aentry,forall_eq_or_imp,forall_eq,List.getLast?_append,List.getLast?_singleton,List.getLast?_nil,List.getLast?_cons_cons,List.find?_cons,Option.some_or,List.mem_append,List.nil_append,List.eraseIdx_cons_zero,List.eraseIdx_cons_succ,Option.or_some,List.forall_mem_cons,List.forall_mem_nil,not_true_eq_false,List.map_cons,List.map_nil] | (refine awpL_loop 18 ?_; have hwq := trivial) | (refine condK_split ?_ ?_ <;> intro hwq) | (refine two_split ?_ ?_) | (refine guardK_split ?_ ?_ <;> intro hwq) | (refine guardE_split ?_ ?_ <;> intro hwq) | (refine awp_drawW [] (by decide +kernel) ?_; have hwq := trivial) | (refine call_at [0, 1, 2] mm58 (by simp) (by decide) rfl rfl ?_ (V.les_refl _) ?_; (· simp [mapT_mp, mapT_mp (es := []) rfl, flatE, flatS, mapT_box, V.mapTs, V.mapT, pl]; done); have hwq := trivial) | fail))
  all_goals rfl
theorem mm57 : AC Try.prog 57 [isV [10], .clo (.func 58) [] [.ptr 2 0 0]] (hR) (eqS (isV [10]) (hR)) := by
  refine AC_heap orders [0, 1, 2] Try.func57 rfl (by kernel_rfl) (by kernel_rfl) Try.ntmps57 (by simp) ?_
  unfold Try.f57
  (have hwq := trivial; repeat' (first | simp (maxSteps:=9999999)-implicitDefEqProofs only [go_sem,simprocAttr,hwq,u3,a3,c3,b3,z3,k3,u4,a4,c4,b4,z4,k4,u40,a40,c40,b40,z40,k40,u102,rn_mp,mapT_mp,pz_mp,flatE,flatS,lk3,nextK,aentry,forall_eq_or_imp,forall_eq,List.getLast?_append,List.getLast?_singleton,List.getLast?_nil,List.getLast?_cons_cons,List.find?_cons,Option.some_or,List.mem_append,List.nil_append,List.eraseIdx_cons_zero,List.eraseIdx_cons_succ,Option.or_some,List.forall_mem_cons,List.forall_mem_nil,not_true_eq_false,List.map_cons,List.map_nil] | (refine awpL_loop 18 ?_; have hwq := trivial) | (refine condK_split ?_ ?_ <;> intro hwq) | (refine two_split ?_ ?_) | (refine guardK_split ?_ ?_ <;> intro hwq) | (refine guardE_split ?_ ?_ <;> intro hwq) | (refine awp_drawW [] (by decide +kernel) ?_; have hwq := trivial) | (refine call_at [0, 1, 2] mm76 (by simp) (by decide) rfl rfl ?_ (V.les_refl _) ?_; (· simp [mapT_mp, mapT_mp (es := []) rfl, flatE, flatS, mapT_box, V.mapTs, V.mapT, pl]; done); have hwq := trivial) | fail))
  all_goals rfl
theorem mm22 : AC Try.prog 22 [.ptr 0 0 0] (hP 3 20 20 [eV 10 0 2 0 0] 1) (eqS (isV [10]) (hP 3 20 20 [eV 10 0 2 0 0] 1)) := by
  have n55 := mn55 3 20 20 [eV 10 0 2 0 0] 1 rfl
  have n56 := mj56 3 20 20 10 0 2 0 0 1 (by decide)
  refine AC_heapF orders [0, 1] Try.func22 rfl (by kernel_rfl) (by kernel_rfl) Try.ntmps22 (by simp) ?_
  unfold Try.f22
  (have hwq := trivial; repeat' (first | simp (maxSteps:=9999999)-implicitDefEqProofs only [go_sem,simprocAttr,hwq,u3,a3,c3,b3,z3,k3,u39,a39,c39,b39,z39,k39,l39,u40,a40,c40,b40,z40,k40,u41,a41,c41,b41,z41,k41,u77,a77,c77,b77,z77,k77,u79,a79,c79,b79,z79,k79,u96,a96,c96,b96,z96,k96,u100,a100,c100,b100,z100,k100,u102,u105,a105,c105,b105,z105,k105,l105,rn_mp,mapT_mp,pz_mp,flatE,flatS,lk3,nextK,aentry,forall_eq_or_imp,forall_eq,List.getLast?_append,List.getLast?_singleton,List.getLast?_nil,List.getLast?_cons_cons,List.find?_cons,Option.some_or,List.mem_append,List.nil_append,List.eraseIdx_cons_zero,List.eraseIdx_cons_succ,Option.or_some,List.forall_mem_cons,List.forall_mem_nil,not_true_eq_false,List.map_cons,List.map_nil] | (refine awpL_loop 18 ?_; have hwq := trivial) | (refine condK_split ?_ ?_ <;> intro hwq) | (refine two_split ?_ ?_) | (refine guardK_split ?_ ?_ <;> intro hwq) | (refine guardE_split ?_ ?_ <;> intro hwq) | (refine awp_drawW [] (by decide +kernel) ?_; have hwq := trivial) | (refine call_at [0, 1] n55 (by simp) (by decide) rfl rfl ?_ (V.les_refl _) ?_; (· simp [mapT_mp, mapT_mp (es := []) rfl, flatE, flatS, mapT_box, V.mapTs, V.mapT, pl]; done); have hwq := trivial) | (refine call_at [0, 1] n56 (by simp) (by decide) rfl rfl ?_ (V.les_refl _) ?_; (· simp [mapT_mp, mapT_mp (es := []) rfl, flatE, flatS, mapT_box, V.mapTs, V.mapT, pl]; done); have hwq := trivial) | (refine call_at [0, 1, 2] mm57 (by simp) (by decide) rfl rfl ?_ (V.les_refl _) ?_; (· simp [mapT_mp, mapT_mp (es := []) rfl, flatE, flatS, mapT_box, V.mapTs, V.mapT, pl]; done); have hwq := trivial) | fail))
  all_goals rfl
theorem mm21 : AC Try.prog 21 [isV [10], vI 10] [] (eqR (vB true)) := by
  refine AC_plain orders Try.func21 rfl (by kernel_rfl) (by kernel_rfl) Try.ntmps21 (by simp) ?_
  unfold Try.f21
  (have hwq := trivial; repeat' (first | simp (maxSteps:=9999999)-implicitDefEqProofs only [go_sem,simprocAttr,hwq,u3,a3,c3,b3,z3,k3,u4,a4,c4,b4,z4,k4,u40,a40,c40,b40,z40,k40,List.map_cons,List.map_nil] | (refine awpL_loop 18 ?_; have hwq := trivial) | (refine condK_split ?_ ?_ <;> intro hwq) | (refine two_split ?_ ?_) | (refine guardK_split ?_ ?_ <;> intro hwq) | (refine guardE_split ?_ ?_ <;> intro hwq) | (refine awp_drawW [] (by decide +kernel) ?_; have hwq := trivial) | fail))
  all_goals rfl
end Go.Ai

set_option linter.unusedVariables false
set_option linter.unusedSimpArgs false
set_option maxHeartbeats 4000000
set_option maxRecDepth 100000
namespace Go.Ai
open Go.Proofs
attribute [local go_sem] QH QR V.noimm V.noimms frzZs frzZ frzA frzV frzVs frzBox boxLen Option.isSome cond_true cond_false aopD calW flatV stepX amap stepY alookup afind aupdate adelete amlen arange ameq mapOf akeq pl V.mapT V.mapTs Option.bind stepK runK guardD stepE runD callD compact selB callK evS ofVal ofVals scalar aop ares mkRes V.rn V.rns V.cells? cellsAt Go.Ai.part aload astore setL V.atom abin aun intBin shiftBin aconv fieldOf aindexAddr aindex bound? aslice aarr abuild afill alen nilP nilS nilF aeq eqCells eqCell Go.Ai.known strBin abuiltin aappend abuildSlice arowsFill amakeSlice acopy aclear minmax rowsOf numsT notStr isIntD isByte V.pz V.pzs T.toV frz1 frz scalT scalTs chunkT List.range List.range.loop ite_true ite_false if_true if_false ne_eq implies_true forall_const eq_self IntKind.bits kPostKF_ret kPostKF_normal kPostX_ret kPostX_normal bsl nil2K nil2 kPostFW_ret kPostFW_normal kPostKM_ret kPostKM_normal kPostXK_ret kPostXK_normal
theorem mp16 : AC Try.prog 16 [] [] (eqR (vB true)) := by
  refine AC_plain orders Try.func16 rfl (by kernel_rfl) (by kernel_rfl) Try.ntmps16 (by simp) ?_
  unfold Try.f16
  (have hwq := trivial; repeat' (first | simp (maxSteps:=9999999)-implicitDefEqProofs only [go_sem,simprocAttr,hwq,u3,a3,c3,b3,z3,k3,u4,a4,c4,b4,z4,k4,u5,a5,c5,b5,z5,k5,u9,a9,c9,b9,z9,k9,u23,a23,c23,b23,z23,k23,u26,a26,c26,b26,z26,k26,u39,a39,c39,b39,z39,k39,l39,u40,a40,c40,b40,z40,k40,u41,a41,c41,b41,z41,k41,u77,a77,c77,b77,z77,k77,u79,a79,c79,b79,z79,k79,u91,a91,c91,b91,z91,k91,u96,a96,c96,b96,z96,k96,u99,a99,c99,b99,z99,k99,u100,a100,c100,b100,z100,k100,u105,a105,c105,b105,z105,k105,l105,rn_mp,mapT_mp,pz_mp,flatE,flatS,lk3,nextK,aentry,forall_eq_or_imp,forall_eq,List.getLast?_append,List.getLast?_singleton,List.getLast?_nil,List.getLast?_cons_cons,List.find?_cons,Option.some_or,List.mem_append,List.nil_append,List.eraseIdx_cons_zero,List.eraseIdx_cons_succ,Option.or_some,List.forall_mem_cons,List.forall_mem_nil,not_true_eq_false,List.map_cons,List.map_nil] | (refine awpL_loop 18 ?_; have hwq := trivial) | (refine condK_split ?_ ?_ <;> intro hwq) | (refine two_split ?_ ?_) | (refine guardK_split ?_ ?_ <;> intro hwq) | (refine guardE_split ?_ ?_ <;> intro hwq) | (refine awp_drawW [] (by decide +kernel) ?_; have hwq := trivial) | (refine call_at [] (mn17 3 20 (by decide) (by decide) (by decide) (by decide)) (by simp) (by simp) rfl rfl rfl (V.les_refl _) ?_; have hwq := trivial) | (refine call_at [0, 1] mk18a (by simp) (by decide) rfl rfl ?_ (V.les_refl _) ?_; (· simp [mapT_mp, mapT_mp (es := []) rfl, flatE, flatS, mapT_box, V.mapTs, V.mapT, pl]; done); have hwq := trivial) | (refine call_at [0, 1] mk33 (by simp) (by decide) rfl rfl ?_ (V.les_refl _) ?_; (· simp [mapT_mp, mapT_mp (es := []) rfl, flatE, flatS, mapT_box, V.mapTs, V.mapT, pl]; done); have hwq := trivial) | (refine call_at [2, 3] mk28 (by simp) (by decide) rfl rfl ?_ (V.les_refl _) ?_; (· simp [mapT_mp, mapT_mp (es := []) rfl, flatE, flatS, mapT_box, V.mapTs, V.mapT, pl]; done); have hwq := trivial) | (refine call_at [2, 3] mm22 (by simp) (by decide) rfl rfl ?_ (V.les_refl _) ?_; (· simp [mapT_mp, mapT_mp (es := []) rfl, flatE, flatS, mapT_box, V.mapTs, V.mapT, pl]; done); have hwq := trivial) | (refine call_at [2, 3] mk18b (by simp) (by decide) rfl rfl ?_ (V.les_refl _) ?_; (· simp [mapT_mp, mapT_mp (es := []) rfl, flatE, flatS, mapT_box, V.mapTs, V.mapT, pl]; done); have hwq := trivial) | (refine call_plain mh49b rfl rfl ?_; have hwq := trivial) | (refine call_plain mm21 rfl rfl ?_; have hwq := trivial) | (refine call_plain mh50d rfl rfl ?_; have hwq := trivial) | fail))
  all_goals exact absurd hwq (by decide +kernel)
end Go.Ai

set_option linter.unusedVariables false
set_option linter.unusedSimpArgs false
set_option maxHeartbeats 4000000
set_option maxRecDepth 100000
namespace Go.Ai
open Go.Proofs
attribute [local go_sem] QH QR V.noimm V.noimms frzZs frzZ frzA frzV frzVs frzBox boxLen Option.isSome cond_true cond_false aopD calW flatV stepX amap stepY alookup afind aupdate adelete amlen arange ameq mapOf akeq pl V.mapT V.mapTs Option.bind stepK runK guardD stepE runD callD compact selB callK evS ofVal ofVals scalar aop ares mkRes V.rn V.rns V.cells? cellsAt Go.Ai.part aload astore setL V.atom abin aun intBin shiftBin aconv fieldOf aindexAddr aindex bound? aslice aarr abuild afill alen nilP nilS nilF aeq eqCells eqCell Go.Ai.known strBin abuiltin aappend abuildSlice arowsFill amakeSlice acopy aclear minmax rowsOf numsT notStr isIntD isByte V.pz V.pzs T.toV frz1 frz scalT scalTs chunkT List.range List.range.loop ite_true ite_false if_true if_false ne_eq implies_true forall_const eq_self IntKind.bits kPostKF_ret kPostKF_normal kPostX_ret kPostX_normal bsl nil2K nil2 kPostFW_ret kPostFW_normal kPostKM_ret kPostKM_normal kPostXK_ret kPostXK_normal
abbrev hN : List Blk := [.box [vI 0, vI 0, .s (.map none), vI 0] false]
theorem mq10 (B : List Int) : AC Try.prog 10 [bysV B] [] (eqR (bysV (B.take 3000))) := by
  obtain ⟨m, hm0⟩ : ∃ m, min 3000 B.length = m := ⟨_, rfl⟩
  have hm : (if (3000 : Int) < (B.length : Int) then (3000 : Int) else (B.length : Int)) = (m : Int) := by split <;> omega
  have hle : m ≤ B.length := by omega
  have ht : bysV (B.take 3000) = .sl 1 ((B.map byT).take m) := by
    show V.sl 1 _ = V.sl 1 _
    rw [List.map_take, ← hm0]
    congr 1
    rw [List.take_eq_take_iff]
    simp
  rw [ht]
  refine AC_plain orders Try.func10 rfl (by kernel_rfl) (by kernel_rfl) Try.ntmps10 (by simp) ?_
  unfold Try.f10
  (have hwq := trivial; repeat' (first | simp (maxSteps:=9999999)-implicitDefEqProofs only [go_sem,simprocAttr,hwq,u3,a3,c3,b3,z3,k3,u5,a5,c5,b5,z5,k5,u23,a23,c23,b23,z23,k23,List.length_map,List.getElem?_map,Int.natCast_nonneg,List.length_append,List.map_append,hm,hle,List.drop_zero,Nat.sub_zero,Nat.zero_le] | (refine awpL_loop 18 ?_; have hwq := trivial) | (refine condK_split ?_ ?_ <;> intro hwq) | (refine two_split ?_ ?_) | (refine guardK_split ?_ ?_ <;> intro hwq) | (refine guardE_split ?_ ?_ <;> intro hwq) | (refine awp_drawW [] (by decide +kernel) ?_; have hwq := trivial) | fail))
  all_goals trace_state
end Go.Ai

set_option linter.unusedVariables false
set_option linter.unusedSimpArgs false
set_option maxHeartbeats 4000000
set_option maxRecDepth 100000
namespace Go.Ai
open Go.Proofs
attribute [local go_sem] QH QR V.noimm V.noimms frzZs frzZ frzA frzV frzVs frzBox boxLen Option.isSome cond_true cond_false aopD calW flatV stepX amap stepY alookup afind aupdate adelete amlen arange ameq mapOf akeq pl V.mapT V.mapTs Option.bind stepK runK guardD stepE runD callD compact selB callK evS ofVal ofVals scalar aop ares mkRes V.rn V.rns V.cells? cellsAt Go.Ai.part aload astore setL V.atom abin aun intBin shiftBin aconv fieldOf aindexAddr aindex bound? aslice aarr abuild afill alen nilP nilS nilF aeq eqCells eqCell Go.Ai.known strBin abuiltin aappend abuildSlice arowsFill amakeSlice acopy aclear minmax rowsOf numsT notStr isIntD isByte V.pz V.pzs T.toV frz1 frz scalT scalTs chunkT List.range List.range.loop ite_true ite_false if_true if_false ne_eq implies_true forall_const eq_self IntKind.bits kPostKF_ret kPostKF_normal kPostX_ret kPostX_normal bsl nil2K nil2 kPostFW_ret kPostFW_normal kPostKM_ret kPostKM_normal kPostXK_ret kPostXK_normal
theorem decP_small (b : List Int) : (decodeP b).1.length ≤ 64 ∧ ∀ x ∈ (decodeP b).1, x.l.length ≤ 64 := by
  by_cases h : (decodeP b).2 = 0
  · obtain ⟨h1, _, h3, _⟩ := encR_ok (decP_ok h)
    exact ⟨h1, fun x hx => (mayB_of (h3 x hx)).2.2.1⟩
  · have e : (decodeP b).1 = [] := by
      by_cases h7 : b.length < 7
      · unfold decodeP; rw [if_pos h7]
      · rw [decP_bad h7 h]
    rw [e]
    simp
theorem decP_bad1 {b : List Int} (h : (decodeP b).2 ≠ 0) : (decodeP b).1 = [] := by
  by_cases h7 : b.length < 7
  · unfold decodeP; rw [if_pos h7]
  · rw [decP_bad h7 h]
theorem few_small (L : List Vc) : (fewL L).length ≤ 70 ∧ ∀ x ∈ fewL L, x.l.length ≤ 70 := by
  unfold fewL trimV
  refine ⟨by simp; omega, fun x hx => ?_⟩
  obtain ⟨y, _, rfl⟩ := List.mem_map.1 hx
  simp
  omega
theorem ml4 (L : List Vc) (B : List Int) (hB : ∀ x ∈ B, 0 ≤ x ∧ x ≤ 255) : AC Try.prog 4 [vcsV L, bysV B] [] (eqR (vB true)) := by
  obtain ⟨f1, f2⟩ := few_small L
  obtain ⟨b, hb⟩ : ∃ b, B.take 3000 = b := ⟨_, rfl⟩
  obtain ⟨M, hM⟩ : ∃ M, fewL L = M := ⟨_, rfl⟩
  have h9 := mq9 L
  have h10 := mq10 B
  have hbl : b.length ≤ 100000 := by rw [← hb, List.length_take]; omega
  have hbr : ∀ x ∈ b, 0 ≤ x ∧ x ≤ 255 := fun x hx => hB x (List.mem_of_mem_take (hb ▸ hx))
  rw [hM] at h9 f1 f2
  rw [hb] at h10
  have h11 := mc11 M (fun x hx => by have := f2 x hx; omega)
  have h15 := mr15 M (by omega) (fun x hx => by have := f2 x hx; omega)
  obtain ⟨X, hX⟩ : ∃ X, encR M = X := ⟨_, rfl⟩
  obtain ⟨ex, er⟩ := X
  rw [hX] at h11
  simp only at h11
  have h13 := mdec b hbl hbr
  obtain ⟨d1, d2⟩ := decP_small b
  have dok := @decP_ok b
  have dbad := @decP_bad1 b
  obtain ⟨Y, hY⟩ : ∃ Y, decodeP b = Y := ⟨_, rfl⟩
  obtain ⟨U, g⟩ := Y
  rw [hY] at h13 d1 d2 dok dbad
  simp only at h13 d1 d2 dok dbad
  have nB := numsT_by b
  have q1 : ((strOfNums b).toList == (strOfNums b).toList) = true := by simp
  have hfin : (g = 0 ∧ AC Try.prog 11 [vcsV U] [] (eqR (.tuple [bysV b, vI 0]))) ∨ (g ≠ 0 ∧ U = []) := by
    by_cases hg : g = 0
    · have h := mc11 U (fun x hx => by have := d2 x hx; omega)
      rw [dok hg] at h
      exact .inl ⟨hg, h⟩
    · exact .inr ⟨hg, dbad hg⟩
  refine AC_plain orders Try.func4 rfl (by kernel_rfl) (by kernel_rfl) Try.ntmps4 (by simp) ?_
  unfold Try.f4
  rcases encR_ex hX with ⟨rfl, e0, es, rfl⟩ | ⟨he, rfl⟩
  · have hel : (e0 :: es).length ≤ 100000 := by
      obtain ⟨t1, t2, t3, t4⟩ := encR_ok hX
      rw [t4]
      have := encB_len M (fun x hx => (mayB_of (t3 x hx)).2.2.1)
      unfold encB at this
      simp only [List.length_append, List.length_cons, List.length_nil] at this ⊢
      omega
    have h13x := mdec (e0 :: es) hel (encR_range hX)
    rw [enc_decP hX] at h13x
    simp only at h13x
    rcases hfin with ⟨rfl, h11b⟩ | ⟨hg, rfl⟩
    · (have hwq := trivial; repeat' (first | simp (maxSteps:=9999999)-implicitDefEqProofs only [go_sem,simprocAttr,hwq,FT3,FT4,FT5,FT9,FT22,FT23,FT26,FT82,FT84,FT91,nB,q1] | (refine awpL_loop 18 ?_; have hwq := trivial) | (refine condK_split ?_ ?_ <;> intro hwq) | (refine two_split ?_ ?_) | (refine guardK_split ?_ ?_ <;> intro hwq) | (refine guardE_split ?_ ?_ <;> intro hwq) | (refine awp_drawW [] (by decide +kernel) ?_; have hwq := trivial) | (refine call_plain h9 rfl rfl ?_; have hwq := trivial) | (refine call_plain h10 rfl rfl ?_; have hwq := trivial) | (refine call_plain h11 rfl rfl ?_; have hwq := trivial) | (refine call_plain h13x rfl rfl ?_; have hwq := trivial) | (refine call_plain h15 rfl rfl ?_; have hwq := trivial) | (refine call_plain h13 rfl rfl ?_; have hwq := trivial) | (refine call_plain h11b rfl rfl ?_; have hwq := trivial) | (refine call_plain mp16 rfl rfl ?_; have hwq := trivial) | fail))
    · have q2 : (g != 0) = true := by simpa using hg
      (have hwq := trivial; repeat' (first | simp (maxSteps:=9999999)-implicitDefEqProofs only [go_sem,simprocAttr,hwq,FT3,FT4,FT5,FT9,FT22,FT23,FT26,FT82,FT84,FT91,nB,q1,q2,List.map_nil,List.length_nil] | (refine awpL_loop 18 ?_; have hwq := trivial) | (refine condK_split ?_ ?_ <;> intro hwq) | (refine two_split ?_ ?_) | (refine guardK_split ?_ ?_ <;> intro hwq) | (refine guardE_split ?_ ?_ <;> intro hwq) | (refine awp_drawW [] (by decide +kernel) ?_; have hwq := trivial) | (refine call_plain h9 rfl rfl ?_; have hwq := trivial) | (refine call_plain h10 rfl rfl ?_; have hwq := trivial) | (refine call_plain h11 rfl rfl ?_; have hwq := trivial) | (refine call_plain h13x rfl rfl ?_; have hwq := trivial) | (refine call_plain h15 rfl rfl ?_; have hwq := trivial) | (refine call_plain h13 rfl rfl ?_; have hwq := trivial) | (refine call_plain mp16 rfl rfl ?_; have hwq := trivial) | fail))
  · have q3 : (er == 0) = false := by simpa using he
    rcases hfin with ⟨rfl, h11b⟩ | ⟨hg, rfl⟩
    · (have hwq := trivial; repeat' (first | simp (maxSteps:=9999999)-implicitDefEqProofs only [go_sem,simprocAttr,hwq,FT3,FT4,FT5,FT9,FT22,FT23,FT26,FT82,FT84,FT91,nB,q1,q3] | (refine awpL_loop 18 ?_; have hwq := trivial) | (refine condK_split ?_ ?_ <;> intro hwq) | (refine two_split ?_ ?_) | (refine guardK_split ?_ ?_ <;> intro hwq) | (refine guardE_split ?_ ?_ <;> intro hwq) | (refine awp_drawW [] (by decide +kernel) ?_; have hwq := trivial) | (refine call_plain h9 rfl rfl ?_; have hwq := trivial) | (refine call_plain h10 rfl rfl ?_; have hwq := trivial) | (refine call_plain h11 rfl rfl ?_; have hwq := trivial) | (refine call_plain h13 rfl rfl ?_; have hwq := trivial) | (refine call_plain h11b rfl rfl ?_; have hwq := trivial) | (refine call_plain mp16 rfl rfl ?_; have hwq := trivial) | fail))
    · have q2 : (g != 0) = true := by simpa using hg
      (have hwq := trivial; repeat' (first | simp (maxSteps:=9999999)-implicitDefEqProofs only [go_sem,simprocAttr,hwq,FT3,FT4,FT5,FT9,FT22,FT23,FT26,FT82,FT84,FT91,nB,q1,q2,q3,List.map_nil,List.length_nil] | (refine awpL_loop 18 ?_; have hwq := trivial) | (refine condK_split ?_ ?_ <;> intro hwq) | (refine two_split ?_ ?_) | (refine guardK_split ?_ ?_ <;> intro hwq) | (refine guardE_split ?_ ?_ <;> intro hwq) | (refine awp_drawW [] (by decide +kernel) ?_; have hwq := trivial) | (refine call_plain h9 rfl rfl ?_; have hwq := trivial) | (refine call_plain h10 rfl rfl ?_; have hwq := trivial) | (refine call_plain h11 rfl rfl ?_; have hwq := trivial) | (refine call_plain h13 rfl rfl ?_; have hwq := trivial) | (refine call_plain mp16 rfl rfl ?_; have hwq := trivial) | fail))
end Go.Ai
