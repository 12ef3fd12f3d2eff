/- Contracts of functions of the loaded program: called with data in the ranges that each names, it returns this value and writes to no old memory. -/
import Derived.Test.YtbiolkmddpkheaaGreatPrvUd
set_option linter.unusedVariables false
set_option linter.unusedSimpArgs false
set_option maxHeartbeats 8000000
set_option maxRecDepth 100000
namespace Go.Ai
open Go.Proofs
attribute [local go_sem] QH QR V.noimm V.noimms frzZs frzZ frzA frzV frzVs frzBox boxLen Option.isSome cond_true cond_false aopD calW flatV stepX amap stepY alookup afind aupdate adelete amlen arange ameq mapOf akeq pl V.mapT V.mapTs Option.bind stepK runK guardD stepE runD callD compact selB callK evS ofVal ofVals scalar aop ares mkRes V.rn V.rns V.cells? cellsAt Go.Ai.part aload astore setL V.atom abin aun intBin shiftBin aconv fieldOf aindexAddr aindex bound? aslice aarr abuild afill alen nilP nilS nilF aeq eqCells eqCell Go.Ai.known strBin abuiltin aappend abuildSlice arowsFill amakeSlice acopy aclear minmax rowsOf numsT notStr isIntD isByte V.pz V.pzs T.toV frz1 frz scalT scalTs chunkT List.range List.range.loop ite_true ite_false if_true if_false ne_eq implies_true forall_const eq_self IntKind.bits kPostKF_ret kPostKF_normal kPostX_ret kPostX_normal bsl nil2K nil2 kPostFW_ret kPostFW_normal kPostKM_ret kPostKM_normal kPostXK_ret kPostXK_normal
/-- May the map stand there, by the document? -/
def mpOk (p : Pv) (i : Nat) (m : Mp) : Bool := decide (vidOk m.v) && (hasC p.cs m.s && (kindP p.ks m.p == 1 && (!((p.ms.take i).any fun x => x.p == m.p && x.s == m.s) && (decide (i = 0) || beforeB (p.ms.getD (i - 1) default) m))))
def refMs (p : Pv) : Bool := !((List.range p.ms.length).any fun i => !mpOk p i (p.ms.getD i default)) && decide ((p.ms.length : Int) ≤ 64)
def Lp86 (p : Pv) (n : Nat) (S : St) : Prop :=
  ∃ (j : Nat) (mv : List Nat), S = ⟨tms [(1, .ptr 0 0 0), (3, vI j)], [bxP p], mv⟩ ∧ j ≤ p.ms.length ∧ n = p.ms.length - j ∧ ∀ i, i < j → mpOk p i (p.ms.getD i default) = true
def Lq86 (p : Pv) (m : Mp) (j : Nat) (n : Nat) (S : St) : Prop :=
  ∃ (i : Nat) (mv : List Nat), S = ⟨tms [(1, .ptr 0 0 0), (3, vI j), (4, .ptr 1 0 0), (7, vI i)], [bxP p, bxMp m], mv⟩ ∧ i ≤ j ∧ n = j - i ∧ ∀ x ∈ p.ms.take i, (fun x : Mp => x.p == m.p && x.s == m.s) x = false
theorem pc86 (p : Pv) (hp : okL p) : AC Tryz.prog 86 [pvV p] [] (eqR (vB (refMs p))) := by
  obtain ⟨l1, l2, l3, l4, l5⟩ := hp
  refine AC_plain orders Tryz.func86 rfl (by kernel_rfl) (by kernel_rfl) Tryz.ntmps86 (by simp) ?_
  unfold Tryz.f86
  (have hwq := trivial; repeat' (first | simp (maxSteps:=9999999)-implicitDefEqProofs only [go_sem,simprocAttr,hwq,FT3,FT4,FT5,FT23,FT24,FT25,FT26,FT27,FT29,FT32,FT34,FT35,FT37,FT59] | (refine condK_split ?_ ?_ <;> intro hwq) | (refine two_split ?_ ?_) | (refine guardK_split ?_ ?_ <;> intro hwq) | (refine guardE_split ?_ ?_ <;> intro hwq) | (refine awp_drawI 11 [] (List.range 20) [0, 1, 0, 7, 15, 31, 0, 64, 255, 511, 1023, 2047, 1023, 8191, 16383, 32767, 1023, 66559, 262143, 524287] (by decide +kernel) ?_; have hwq := trivial) | (refine awp_drawW [] (by decide +kernel) ?_; have hwq := trivial) | fail))
  refine awp_loopK (Lp86 p) p.ms.length _ (Weak.cutI 1 [1, 3] ?_ ?_) ⟨0, _, rfl, by omega, rfl, by simp⟩ ?_
  · simp (maxSteps:=9999999)-implicitDefEqProofs only [simprocAttr,QH,Option.isSome,cond_true,cond_false,Option.bind,selB,V.rn,V.rns,Go.Ai.known,V.pz,V.pzs,T.toV,frz1,List.range,List.range.loop,ite_true,ite_false,if_true,if_false,ne_eq,implies_true,forall_const,eq_self,IntKind.bits,upd_tmsS,selT_cons,selT_nil]
  · simp (maxSteps:=9999999)-implicitDefEqProofs only [simprocAttr,QH,Option.isSome,cond_true,cond_false,Option.bind,selB,V.rn,V.rns,Go.Ai.known,V.pz,V.pzs,T.toV,frz1,List.range,List.range.loop,ite_true,ite_false,if_true,if_false,ne_eq,implies_true,forall_const,eq_self,IntKind.bits,upd_tmsS,selT_cons,selT_nil]
  rintro kk S ⟨j, mv, rfl, hj, rfl, hno⟩
  have wj : IntKind.i64.wrap ((j : Int) + 1) = (j : Int) + 1 := wI64 _ (by omega) (by omega)
  by_cases hjl : j < p.ms.length
  · have hjl' : (j : Int) < (p.ms.length : Int) := by omega
    have hgj : p.ms[j]? = some p.ms[j] := List.getElem?_eq_getElem hjl
    obtain ⟨m, hm⟩ : ∃ m, p.ms[j] = m := ⟨_, rfl⟩
    rw [hm] at hgj
    have hd : p.ms.getD j default = m := by rw [List.getD_eq_getElem?_getD, hgj]; rfl
    have n116 := pc116 m.v
    have n25 := pq25 p ⟨l1, l2, l3, l4, l5⟩ m.s
    have n120 := pc120 p ⟨l1, l2, l3, l4, l5⟩ [m.p] (by simp) 1 (by decide)
    have dM : mpOk p j m = (decide (vidOk m.v) && (hasC p.cs m.s && (kindP p.ks m.p == 1 && (!((p.ms.take j).any fun x => x.p == m.p && x.s == m.s) && (decide (j = 0) || beforeB (p.ms.getD (j - 1) default) m))))) := rfl
    rw [hasC_find] at dM
    have e120 : (![m.p].any fun x => kindP p.ks x != 1) = (kindP p.ks m.p == 1) := by simp; rfl
    rw [e120] at n120
    generalize decide (vidOk m.v) = m1 at n116 dM
    generalize (kindP p.ks m.p == 1) = m3 at n120 dM
    unfold rf25 at n25
    have stop : mpOk p j m = false → refMs p = false := fun h => by
      unfold refMs
      rw [show ((List.range p.ms.length).any fun i => !mpOk p i (p.ms.getD i default)) = true from List.any_eq_true.2 ⟨j, List.mem_range.2 hjl, by rw [hd, h]; rfl⟩]
      rfl
    cases hf : p.cs.find? (fun x => x.s == m.s) with
    | none =>
      rw [hf] at n25 dM
      have ds : mpOk p j m = false := by rw [dM]; simp
      (have hwq := trivial; repeat' (first | simp (maxSteps:=9999999)-implicitDefEqProofs only [go_sem,simprocAttr,hwq,FT3,FT4,FT5,FT23,FT24,FT25,FT26,FT27,FT29,FT32,FT34,FT35,FT37,FT59,List.length_map,List.getElem?_map,Int.natCast_nonneg,List.length_append,List.map_append,hjl',hgj,wj] | (refine condK_split ?_ ?_ <;> intro hwq) | (refine two_split ?_ ?_) | (refine guardK_split ?_ ?_ <;> intro hwq) | (refine guardE_split ?_ ?_ <;> intro hwq) | (refine awp_drawI 11 [] (List.range 20) [0, 1, 0, 7, 15, 31, 0, 64, 255, 511, 1023, 2047, 1023, 8191, 16383, 32767, 1023, 66559, 262143, 524287] (by decide +kernel) ?_; have hwq := trivial) | (refine awp_drawW [] (by decide +kernel) ?_; have hwq := trivial) | (refine call_plain n116 rfl rfl ?_; have hwq := trivial) | (refine call_plain n25 rfl rfl ?_; have hwq := trivial) | (refine call_data n120 rfl (V.les_refl _) rfl ?_; have hwq := trivial) | fail))
      all_goals (rw [stop ds])
    | some c =>
      rw [hf] at n25 dM
      rw [show ((some c : Option Cr).isSome) = true from rfl, Bool.true_and] at dM
      cases h1 : m1 with
      | false =>
        rw [h1] at n116 dM
        (have hwq := trivial; repeat' (first | simp (maxSteps:=9999999)-implicitDefEqProofs only [go_sem,simprocAttr,hwq,FT3,FT4,FT5,FT23,FT24,FT25,FT26,FT27,FT29,FT32,FT34,FT35,FT37,FT59,List.length_map,List.getElem?_map,Int.natCast_nonneg,List.length_append,List.map_append,hjl',hgj,wj] | (refine condK_split ?_ ?_ <;> intro hwq) | (refine two_split ?_ ?_) | (refine guardK_split ?_ ?_ <;> intro hwq) | (refine guardE_split ?_ ?_ <;> intro hwq) | (refine awp_drawI 11 [] (List.range 20) [0, 1, 0, 7, 15, 31, 0, 64, 255, 511, 1023, 2047, 1023, 8191, 16383, 32767, 1023, 66559, 262143, 524287] (by decide +kernel) ?_; have hwq := trivial) | (refine awp_drawW [] (by decide +kernel) ?_; have hwq := trivial) | (refine call_plain n116 rfl rfl ?_; have hwq := trivial) | (refine call_plain n25 rfl rfl ?_; have hwq := trivial) | (refine call_data n120 rfl (V.les_refl _) rfl ?_; have hwq := trivial) | fail))
        all_goals (rw [stop dM])
      | true =>
      rw [h1] at n116 dM
      cases h3 : m3 with
      | false =>
        rw [h3] at n120 dM
        (have hwq := trivial; repeat' (first | simp (maxSteps:=9999999)-implicitDefEqProofs only [go_sem,simprocAttr,hwq,FT3,FT4,FT5,FT23,FT24,FT25,FT26,FT27,FT29,FT32,FT34,FT35,FT37,FT59,List.length_map,List.getElem?_map,Int.natCast_nonneg,List.length_append,List.map_append,hjl',hgj,wj] | (refine condK_split ?_ ?_ <;> intro hwq) | (refine two_split ?_ ?_) | (refine guardK_split ?_ ?_ <;> intro hwq) | (refine guardE_split ?_ ?_ <;> intro hwq) | (refine awp_drawI 11 [] (List.range 20) [0, 1, 0, 7, 15, 31, 0, 64, 255, 511, 1023, 2047, 1023, 8191, 16383, 32767, 1023, 66559, 262143, 524287] (by decide +kernel) ?_; have hwq := trivial) | (refine awp_drawW [] (by decide +kernel) ?_; have hwq := trivial) | (refine call_plain n116 rfl rfl ?_; have hwq := trivial) | (refine call_plain n25 rfl rfl ?_; have hwq := trivial) | (refine call_data n120 rfl (V.les_refl _) rfl ?_; have hwq := trivial) | fail))
        all_goals (rw [stop dM])
      | true =>
      rw [h3] at n120 dM
      (have hwq := trivial; repeat' (first | simp (maxSteps:=9999999)-implicitDefEqProofs only [go_sem,simprocAttr,hwq,FT3,FT4,FT5,FT23,FT24,FT25,FT26,FT27,FT29,FT32,FT34,FT35,FT37,FT59,List.length_map,List.getElem?_map,Int.natCast_nonneg,List.length_append,List.map_append,hjl',hgj,wj] | (refine condK_split ?_ ?_ <;> intro hwq) | (refine two_split ?_ ?_) | (refine guardK_split ?_ ?_ <;> intro hwq) | (refine guardE_split ?_ ?_ <;> intro hwq) | (refine awp_drawI 11 [] (List.range 20) [0, 1, 0, 7, 15, 31, 0, 64, 255, 511, 1023, 2047, 1023, 8191, 16383, 32767, 1023, 66559, 262143, 524287] (by decide +kernel) ?_; have hwq := trivial) | (refine awp_drawW [] (by decide +kernel) ?_; have hwq := trivial) | (refine call_plain n116 rfl rfl ?_; have hwq := trivial) | (refine call_plain n25 rfl rfl ?_; have hwq := trivial) | (refine call_data n120 rfl (V.les_refl _) rfl ?_; have hwq := trivial) | fail))
      refine awp_loopK (Lq86 p m j) j _ (Weak.cutI 2 [1, 3, 4, 7] ?_ ?_) ⟨0, _, rfl, by omega, rfl, by simp⟩ ?_
      · simp (maxSteps:=9999999)-implicitDefEqProofs only [simprocAttr,QH,Option.isSome,cond_true,cond_false,Option.bind,selB,V.rn,V.rns,Go.Ai.known,V.pz,V.pzs,T.toV,frz1,List.range,List.range.loop,ite_true,ite_false,if_true,if_false,ne_eq,implies_true,forall_const,eq_self,IntKind.bits,upd_tmsS,selT_cons,selT_nil,List.length_map,List.getElem?_map,Int.natCast_nonneg,List.length_append,List.map_append]
      · simp (maxSteps:=9999999)-implicitDefEqProofs only [simprocAttr,QH,Option.isSome,cond_true,cond_false,Option.bind,selB,V.rn,V.rns,Go.Ai.known,V.pz,V.pzs,T.toV,frz1,List.range,List.range.loop,ite_true,ite_false,if_true,if_false,ne_eq,implies_true,forall_const,eq_self,IntKind.bits,upd_tmsS,selT_cons,selT_nil]
      rintro kk S ⟨i, mv, rfl, hi, rfl, hno2⟩
      have wi : IntKind.i64.wrap ((i : Int) + 1) = (i : Int) + 1 := wI64 _ (by omega) (by omega)
      by_cases hij : i < j
      · have hij' : (i : Int) < (j : Int) := by omega
        have hil' : (i : Int) < (p.ms.length : Int) := by omega
        have hgi : p.ms[i]? = some (p.ms[i]'(by omega)) := List.getElem?_eq_getElem (by omega)
        obtain ⟨x, hx⟩ : ∃ x, p.ms[i]'(by omega) = x := ⟨_, rfl⟩
        rw [hx] at hgi
        have hgt : (p.ms.take j)[i]? = some x := by rw [List.getElem?_take_of_lt hij]; exact hgi
        have any1 : (x.p == m.p && x.s == m.s) = true → mpOk p j m = false := fun h => by
          rw [dM, any_some (q := fun x : Mp => x.p == m.p && x.s == m.s) hgt h]
          simp
        cases q1 : (x.p == m.p) with
        | false =>
          (have hwq := trivial; repeat' (first | simp (maxSteps:=9999999)-implicitDefEqProofs only [go_sem,simprocAttr,hwq,FT3,FT4,FT5,FT23,FT24,FT25,FT26,FT27,FT29,FT32,FT34,FT35,FT37,FT59,List.length_map,List.getElem?_map,Int.natCast_nonneg,List.length_append,List.map_append,hij',hil',hgi,wi,q1] | (refine condK_split ?_ ?_ <;> intro hwq) | (refine two_split ?_ ?_) | (refine guardK_split ?_ ?_ <;> intro hwq) | (refine guardE_split ?_ ?_ <;> intro hwq) | (refine awp_drawI 11 [] (List.range 20) [0, 1, 0, 7, 15, 31, 0, 64, 255, 511, 1023, 2047, 1023, 8191, 16383, 32767, 1023, 66559, 262143, 524287] (by decide +kernel) ?_; have hwq := trivial) | (refine awp_drawW [] (by decide +kernel) ?_; have hwq := trivial) | fail))
          refine ⟨j - (i + 1), _, by omega, Weak.cutI 2 [1, 3, 4, 7] ?_ ?_, i + 1, _, rfl, by omega, rfl, take_more (q := fun x : Mp => x.p == m.p && x.s == m.s) hno2 hgi (by simp [q1])⟩
          · simp (maxSteps:=9999999)-implicitDefEqProofs only [simprocAttr,QH,Option.isSome,cond_true,cond_false,Option.bind,selB,V.rn,V.rns,Go.Ai.known,V.pz,V.pzs,T.toV,frz1,List.range,List.range.loop,ite_true,ite_false,if_true,if_false,ne_eq,implies_true,forall_const,eq_self,IntKind.bits,upd_tmsS,selT_cons,selT_nil,List.length_map,List.getElem?_map,Int.natCast_nonneg,List.length_append,List.map_append]
          · simp (maxSteps:=9999999)-implicitDefEqProofs only [simprocAttr,QH,Option.isSome,cond_true,cond_false,Option.bind,selB,V.rn,V.rns,Go.Ai.known,V.pz,V.pzs,T.toV,frz1,List.range,List.range.loop,ite_true,ite_false,if_true,if_false,ne_eq,implies_true,forall_const,eq_self,IntKind.bits,upd_tmsS,selT_cons,selT_nil,List.length_map,List.getElem?_map,Int.natCast_nonneg,List.length_append,List.map_append]
        | true =>
          cases q2 : (x.s == m.s) with
          | false =>
            (have hwq := trivial; repeat' (first | simp (maxSteps:=9999999)-implicitDefEqProofs only [go_sem,simprocAttr,hwq,FT3,FT4,FT5,FT23,FT24,FT25,FT26,FT27,FT29,FT32,FT34,FT35,FT37,FT59,List.length_map,List.getElem?_map,Int.natCast_nonneg,List.length_append,List.map_append,hij',hil',hgi,wi,q1,q2] | (refine condK_split ?_ ?_ <;> intro hwq) | (refine two_split ?_ ?_) | (refine guardK_split ?_ ?_ <;> intro hwq) | (refine guardE_split ?_ ?_ <;> intro hwq) | (refine awp_drawI 11 [] (List.range 20) [0, 1, 0, 7, 15, 31, 0, 64, 255, 511, 1023, 2047, 1023, 8191, 16383, 32767, 1023, 66559, 262143, 524287] (by decide +kernel) ?_; have hwq := trivial) | (refine awp_drawW [] (by decide +kernel) ?_; have hwq := trivial) | fail))
            refine ⟨j - (i + 1), _, by omega, Weak.cutI 2 [1, 3, 4, 7] ?_ ?_, i + 1, _, rfl, by omega, rfl, take_more (q := fun x : Mp => x.p == m.p && x.s == m.s) hno2 hgi (by simp [q2])⟩
            · simp (maxSteps:=9999999)-implicitDefEqProofs only [simprocAttr,QH,Option.isSome,cond_true,cond_false,Option.bind,selB,V.rn,V.rns,Go.Ai.known,V.pz,V.pzs,T.toV,frz1,List.range,List.range.loop,ite_true,ite_false,if_true,if_false,ne_eq,implies_true,forall_const,eq_self,IntKind.bits,upd_tmsS,selT_cons,selT_nil,List.length_map,List.getElem?_map,Int.natCast_nonneg,List.length_append,List.map_append]
            · simp (maxSteps:=9999999)-implicitDefEqProofs only [simprocAttr,QH,Option.isSome,cond_true,cond_false,Option.bind,selB,V.rn,V.rns,Go.Ai.known,V.pz,V.pzs,T.toV,frz1,List.range,List.range.loop,ite_true,ite_false,if_true,if_false,ne_eq,implies_true,forall_const,eq_self,IntKind.bits,upd_tmsS,selT_cons,selT_nil,List.length_map,List.getElem?_map,Int.natCast_nonneg,List.length_append,List.map_append]
          | true =>
            have hs := stop (any1 (by rw [q1, q2]; rfl))
            (have hwq := trivial; repeat' (first | simp (maxSteps:=9999999)-implicitDefEqProofs only [go_sem,simprocAttr,hwq,FT3,FT4,FT5,FT23,FT24,FT25,FT26,FT27,FT29,FT32,FT34,FT35,FT37,FT59,List.length_map,List.getElem?_map,Int.natCast_nonneg,List.length_append,List.map_append,hij',hil',hgi,wi,q1,q2,hs] | (refine condK_split ?_ ?_ <;> intro hwq) | (refine two_split ?_ ?_) | (refine guardK_split ?_ ?_ <;> intro hwq) | (refine guardE_split ?_ ?_ <;> intro hwq) | (refine awp_drawI 11 [] (List.range 20) [0, 1, 0, 7, 15, 31, 0, 64, 255, 511, 1023, 2047, 1023, 8191, 16383, 32767, 1023, 66559, 262143, 524287] (by decide +kernel) ?_; have hwq := trivial) | (refine awp_drawW [] (by decide +kernel) ?_; have hwq := trivial) | fail))
      · have hij' : ¬ (i : Int) < (j : Int) := by omega
        obtain rfl : i = j := by omega
        rw [any_none (q := fun x : Mp => x.p == m.p && x.s == m.s) hno2] at dM
        have fin : mpOk p i m = true → ∀ k, k < i + 1 → mpOk p k (p.ms.getD k default) = true := fun h k hk => by
          by_cases hki : k < i
          · exact hno k hki
          · obtain rfl : k = i := by omega
            rw [hd]; exact h
        by_cases hz0 : i = 0
        · subst hz0
          have hz : ¬ (0 : Int) < ((0 : Nat) : Int) := by decide
          (have hwq := trivial; repeat' (first | simp (maxSteps:=9999999)-implicitDefEqProofs only [go_sem,simprocAttr,hwq,FT3,FT4,FT5,FT23,FT24,FT25,FT26,FT27,FT29,FT32,FT34,FT35,FT37,FT59,List.length_map,List.getElem?_map,Int.natCast_nonneg,List.length_append,List.map_append,hij',hjl',hgj,wj,hz] | (refine condK_split ?_ ?_ <;> intro hwq) | (refine two_split ?_ ?_) | (refine guardK_split ?_ ?_ <;> intro hwq) | (refine guardE_split ?_ ?_ <;> intro hwq) | (refine awp_drawI 11 [] (List.range 20) [0, 1, 0, 7, 15, 31, 0, 64, 255, 511, 1023, 2047, 1023, 8191, 16383, 32767, 1023, 66559, 262143, 524287] (by decide +kernel) ?_; have hwq := trivial) | (refine awp_drawW [] (by decide +kernel) ?_; have hwq := trivial) | fail))
          refine ⟨p.ms.length - (0 + 1), _, by omega, Weak.cutI 1 [1, 3] ?_ ?_, 0 + 1, _, rfl, by omega, rfl, fin (by rw [dM]; rfl)⟩
          · simp (maxSteps:=9999999)-implicitDefEqProofs only [simprocAttr,QH,Option.isSome,cond_true,cond_false,Option.bind,selB,V.rn,V.rns,Go.Ai.known,V.pz,V.pzs,T.toV,frz1,List.range,List.range.loop,ite_true,ite_false,if_true,if_false,ne_eq,implies_true,forall_const,eq_self,IntKind.bits,upd_tmsS,selT_cons,selT_nil,List.length_map,List.getElem?_map,Int.natCast_nonneg,List.length_append,List.map_append]
          · simp (maxSteps:=9999999)-implicitDefEqProofs only [simprocAttr,QH,Option.isSome,cond_true,cond_false,Option.bind,selB,V.rn,V.rns,Go.Ai.known,V.pz,V.pzs,T.toV,frz1,List.range,List.range.loop,ite_true,ite_false,if_true,if_false,ne_eq,implies_true,forall_const,eq_self,IntKind.bits,upd_tmsS,selT_cons,selT_nil,List.length_map,List.getElem?_map,Int.natCast_nonneg,List.length_append,List.map_append]
        · obtain ⟨j, hje⟩ : ∃ j, i = j + 1 := ⟨i - 1, by omega⟩
          have hz : (0 : Int) < (i : Int) := by omega
          have wp : IntKind.i64.wrap ((i : Int) - 1) = (j : Int) := by rw [wI64 _ (by omega) (by omega)]; omega
          have hpl' : (j : Int) < (p.ms.length : Int) := by omega
          have hgi : p.ms[j]? = some (p.ms[j]'(by omega)) := List.getElem?_eq_getElem (by omega)
          obtain ⟨x, hx⟩ : ∃ x, p.ms[j]'(by omega) = x := ⟨_, rfl⟩
          rw [hx] at hgi
          have hdi : p.ms.getD (i - 1) default = x := by rw [hje, Nat.add_sub_cancel, List.getD_eq_getElem?_getD, hgi]; rfl
          have hj0 : decide (i = 0) = false := by rw [hje]; rfl
          rw [hdi, hj0] at dM
          have n118 := pc118 x m
          cases hb : beforeB x m with
          | false =>
            rw [hb] at n118 dM
            have hs := stop (by rw [dM]; simp)
            (have hwq := trivial; repeat' (first | simp (maxSteps:=9999999)-implicitDefEqProofs only [go_sem,simprocAttr,hwq,FT3,FT4,FT5,FT23,FT24,FT25,FT26,FT27,FT29,FT32,FT34,FT35,FT37,FT59,List.length_map,List.getElem?_map,Int.natCast_nonneg,List.length_append,List.map_append,hij',hjl',hgj,wj,hz,wp,hpl',hgi,hs] | (refine condK_split ?_ ?_ <;> intro hwq) | (refine two_split ?_ ?_) | (refine guardK_split ?_ ?_ <;> intro hwq) | (refine guardE_split ?_ ?_ <;> intro hwq) | (refine awp_drawI 11 [] (List.range 20) [0, 1, 0, 7, 15, 31, 0, 64, 255, 511, 1023, 2047, 1023, 8191, 16383, 32767, 1023, 66559, 262143, 524287] (by decide +kernel) ?_; have hwq := trivial) | (refine awp_drawW [] (by decide +kernel) ?_; have hwq := trivial) | (refine draw_plain n118 rfl (fun _ => rfl) ?_; have hwq := trivial) | fail))
          | true =>
            rw [hb] at n118 dM
            (have hwq := trivial; repeat' (first | simp (maxSteps:=9999999)-implicitDefEqProofs only [go_sem,simprocAttr,hwq,FT3,FT4,FT5,FT23,FT24,FT25,FT26,FT27,FT29,FT32,FT34,FT35,FT37,FT59,List.length_map,List.getElem?_map,Int.natCast_nonneg,List.length_append,List.map_append,hij',hjl',hgj,wj,hz,wp,hpl',hgi] | (refine condK_split ?_ ?_ <;> intro hwq) | (refine two_split ?_ ?_) | (refine guardK_split ?_ ?_ <;> intro hwq) | (refine guardE_split ?_ ?_ <;> intro hwq) | (refine awp_drawI 11 [] (List.range 20) [0, 1, 0, 7, 15, 31, 0, 64, 255, 511, 1023, 2047, 1023, 8191, 16383, 32767, 1023, 66559, 262143, 524287] (by decide +kernel) ?_; have hwq := trivial) | (refine awp_drawW [] (by decide +kernel) ?_; have hwq := trivial) | (refine draw_plain n118 rfl (fun _ => rfl) ?_; have hwq := trivial) | fail))
            refine ⟨p.ms.length - (i + 1), _, by omega, Weak.cutI 1 [1, 3] ?_ ?_, i + 1, _, rfl, by omega, rfl, fin (by rw [dM]; rfl)⟩
            · simp (maxSteps:=9999999)-implicitDefEqProofs only [simprocAttr,QH,Option.isSome,cond_true,cond_false,Option.bind,selB,V.rn,V.rns,Go.Ai.known,V.pz,V.pzs,T.toV,frz1,List.range,List.range.loop,ite_true,ite_false,if_true,if_false,ne_eq,implies_true,forall_const,eq_self,IntKind.bits,upd_tmsS,selT_cons,selT_nil,List.length_map,List.getElem?_map,Int.natCast_nonneg,List.length_append,List.map_append]
            · simp (maxSteps:=9999999)-implicitDefEqProofs only [simprocAttr,QH,Option.isSome,cond_true,cond_false,Option.bind,selB,V.rn,V.rns,Go.Ai.known,V.pz,V.pzs,T.toV,frz1,List.range,List.range.loop,ite_true,ite_false,if_true,if_false,ne_eq,implies_true,forall_const,eq_self,IntKind.bits,upd_tmsS,selT_cons,selT_nil,List.length_map,List.getElem?_map,Int.natCast_nonneg,List.length_append,List.map_append]
  · have hjl' : ¬ (j : Int) < (p.ms.length : Int) := by omega
    have he : refMs p = decide ((p.ms.length : Int) ≤ 64) := by
      unfold refMs
      rw [show ((List.range p.ms.length).any fun i => !mpOk p i (p.ms.getD i default)) = false from any_none fun i hi => by rw [hno i (by have := List.mem_range.1 hi; omega)]; rfl]
      rfl
    rw [he]
    (have hwq := trivial; repeat' (first | simp (maxSteps:=9999999)-implicitDefEqProofs only [go_sem,simprocAttr,hwq,FT3,FT4,FT5,FT23,FT24,FT25,FT26,FT27,FT29,FT32,FT34,FT35,FT37,FT59,List.length_map,List.getElem?_map,Int.natCast_nonneg,List.length_append,List.map_append,hjl'] | (refine condK_split ?_ ?_ <;> intro hwq) | (refine two_split ?_ ?_) | (refine guardK_split ?_ ?_ <;> intro hwq) | (refine guardE_split ?_ ?_ <;> intro hwq) | (refine awp_drawI 11 [] (List.range 20) [0, 1, 0, 7, 15, 31, 0, 64, 255, 511, 1023, 2047, 1023, 8191, 16383, 32767, 1023, 66559, 262143, 524287] (by decide +kernel) ?_; have hwq := trivial) | (refine awp_drawW [] (by decide +kernel) ?_; have hwq := trivial) | fail))
end Go.Ai

set_option linter.unusedVariables false
set_option linter.unusedSimpArgs false
set_option maxHeartbeats 8000000
set_option maxRecDepth 100000
namespace Go.Ai
open Go.Proofs
attribute [local go_sem] QH QR V.noimm V.noimms frzZs frzZ frzA frzV frzVs frzBox boxLen Option.isSome cond_true cond_false aopD calW flatV stepX amap stepY alookup afind aupdate adelete amlen arange ameq mapOf akeq pl V.mapT V.mapTs Option.bind stepK runK guardD stepE runD callD compact selB callK evS ofVal ofVals scalar aop ares mkRes V.rn V.rns V.cells? cellsAt Go.Ai.part aload astore setL V.atom abin aun intBin shiftBin aconv fieldOf aindexAddr aindex bound? aslice aarr abuild afill alen nilP nilS nilF aeq eqCells eqCell Go.Ai.known strBin abuiltin aappend abuildSlice arowsFill amakeSlice acopy aclear minmax rowsOf numsT notStr isIntD isByte V.pz V.pzs T.toV frz1 frz scalT scalTs chunkT List.range List.range.loop ite_true ite_false if_true if_false ne_eq implies_true forall_const eq_self IntKind.bits kPostKF_ret kPostKF_normal kPostX_ret kPostX_normal bsl nil2K nil2 kPostFW_ret kPostFW_normal kPostKM_ret kPostKM_normal kPostXK_ret kPostXK_normal
theorem risB_map {α β : Type} (f : α → β) (lt : β → β → Bool) : ∀ L : List α, risB lt (L.map f) = risB (fun a b => lt (f a) (f b)) L
  | [] => rfl
  | [_] => rfl
  | a :: b :: l => by
    have := risB_map f lt (b :: l)
    simp only [List.map_cons, risB] at this ⊢
    rw [this]
theorem any_congr' {α : Type} {p q : α → Bool} : ∀ {L : List α}, (∀ x ∈ L, p x = q x) → L.any p = L.any q
  | [], _ => rfl
  | a :: l, h => by rw [List.any_cons, List.any_cons, h a (by simp), any_congr' fun x hx => h x (by simp [hx])]
theorem portsE_ok (ks l : List Int) : (portsE ks l != 0) = !(risB ltI l && !(l.any fun y => kindP ks y != 2)) := by
  unfold portsE
  cases risB ltI l with
  | false => rfl
  | true =>
    simp only [if_true, Bool.true_and, Bool.not_not]
    cases h2 : (l.any fun y => kindP ks y != 2) with
    | true => split <;> rfl
    | false =>
      have : (l.any fun x => kindP ks x == 0) = false := by
        rw [List.any_eq_false] at h2 ⊢
        intro x hx
        have := h2 x hx
        simp at this ⊢
        omega
      rw [this]
      rfl
def refOk (p : Pv) : Bool := kindZ p.own.a p.own.b p.own.c p.own.d p.own.e p.own.f == 1 && (decide (1 ≤ (p.ks.length : Int)) && (decide ((p.ks.length : Int) ≤ 8) && (!(p.ks.any fun x => x != 1 && x != 2) && (decide ((p.bs.length : Int) ≤ 64) && (decide ((p.cs.length : Int) ≤ 64) && (decide ((p.ms.length : Int) ≤ 64) && (refM p && (refC p && refMs p))))))))
theorem maps_eq (p : Pv) : (risB beforeB p.ms && okM p) = !((List.range p.ms.length).any fun i => !mpOk p i (p.ms.getD i default)) := by
  have gd : ∀ {i : Nat} (hi : i < p.ms.length), p.ms[i]? = some (p.ms.getD i default) := fun {i} hi => by
    rw [List.getD_eq_getElem?_getD, List.getElem?_eq_getElem hi]; rfl
  rw [Bool.eq_iff_iff, Bool.and_eq_true, risB_iff, Bool.not_eq_true', List.any_eq_false]
  unfold okM
  rw [List.all_eq_true]
  simp only [List.mem_range]
  constructor
  · rintro ⟨h1, h2⟩ i hi
    have h := h2 i hi
    unfold mOk at h
    unfold mpOk
    simp only [Bool.and_eq_true] at h
    obtain ⟨a1, a2, a3, a4⟩ := h
    rw [a1, a2, a3, a4]
    have : (decide (i = 0) || beforeB (p.ms.getD (i - 1) default) (p.ms.getD i default)) = true := by
      cases i with
      | zero => rfl
      | succ i =>
        rw [Nat.add_sub_cancel, h1 i _ _ (gd (by omega)) (gd hi)]
        simp
    rw [this]
    simp
  · intro h
    have hm : ∀ i, i < p.ms.length → mpOk p i (p.ms.getD i default) = true := fun i hi => by
      have := h i hi
      simpa using this
    refine ⟨fun i x y hx hy => ?_, fun i hi => ?_⟩
    · have hi1 : i + 1 < p.ms.length := (List.getElem?_eq_some_iff.1 hy).1
      have := hm (i + 1) hi1
      unfold mpOk at this
      simp only [Bool.and_eq_true] at this
      have h5 := this.2.2.2.2
      rw [Nat.add_sub_cancel] at h5
      rw [gd (by omega)] at hx
      rw [gd hi1] at hy
      cases hx
      cases hy
      simpa using h5
    · have := hm i hi
      unfold mpOk at this
      unfold mOk
      simp only [Bool.and_eq_true] at this
      obtain ⟨a1, a2, a3, a4, _⟩ := this
      rw [a1, a2, a3, a4]
      rfl
theorem ref_eq (p : Pv) : refOk p = okB p := by
  have hm := maps_eq p
  have hM : refM p = (!(p.bs.any fun x => !decide (vidOk x.v) || portsE p.ks x.l != 0) && (risB ltMb p.bs && decide ((p.bs.length : Int) ≤ 64))) := by
    unfold refM
    rw [any_congr' (q := fun x => !decide (vidOk x.v) || portsE p.ks x.l != 0) fun x _ => by
      rw [portsE_ok]
      unfold mbOk
      cases decide (vidOk x.v) <;> simp, risB_map]
    rfl
  have hC : refC p = (!(p.cs.any fun x => !decide (isidOk x.s) || !hasM p.bs x.v) && (risB ltCr p.cs && decide ((p.cs.length : Int) ≤ 64))) := by
    unfold refC
    rw [any_congr' (q := fun x => !decide (isidOk x.s) || !hasM p.bs x.v) fun x _ => by
      unfold crOk
      cases decide (isidOk x.s) <;> simp, risB_map]
    rfl
  have hd : decide (1 ≤ (p.ks.length : Int) ∧ (p.ks.length : Int) ≤ 8) = (decide (1 ≤ (p.ks.length : Int)) && decide ((p.ks.length : Int) ≤ 8)) := Bool.decide_and ..
  unfold refOk okB okA okR okQ refMs
  rw [hM, hC, ← hm, hd]
  generalize (kindZ p.own.a p.own.b p.own.c p.own.d p.own.e p.own.f == 1) = x1
  generalize decide (1 ≤ (p.ks.length : Int)) = x2
  generalize decide ((p.ks.length : Int) ≤ 8) = x3
  generalize decide ((p.bs.length : Int) ≤ 64) = x4
  generalize decide ((p.cs.length : Int) ≤ 64) = x5
  generalize decide ((p.ms.length : Int) ≤ 64) = x6
  generalize (p.ks.any fun x => x != 1 && x != 2) = x7
  generalize (p.bs.any fun x => !decide (vidOk x.v) || portsE p.ks x.l != 0) = x8
  generalize (p.cs.any fun x => !decide (isidOk x.s) || !hasM p.bs x.v) = x9
  generalize risB ltMb p.bs = y1
  generalize risB ltCr p.cs = y2
  generalize risB beforeB p.ms = y3
  generalize okM p = y4
  revert x1 x2 x3 x4 x5 x6 x7 x8 x9 y1 y2 y3 y4
  decide +kernel
def Lk31 (p : Pv) (n : Nat) (S : St) : Prop :=
  ∃ (j : Nat) (mv : List Nat), S = ⟨tms [(1, .ptr 0 0 0), (3, vI j)], [bxP p], mv⟩ ∧ j ≤ p.ks.length ∧ n = p.ks.length - j ∧ ∀ x ∈ p.ks.take j, (x != 1 && x != 2) = false
theorem pc31 (p : Pv) (hp : okL p) (ho : isB p.own.a) : AC Tryz.prog 31 [pvV p] [] (eqR (vI (checkE p))) := by
  have n83 := pc83 p.own.a p.own.b p.own.c p.own.d p.own.e p.own.f ho
  have n84 := pc84 p hp
  have n85 := pc85 p hp
  have n86 := pc86 p hp
  obtain ⟨l1, l2, l3, l4, l5⟩ := hp
  have dR : checkE p = if refOk p = true then 0 else 180 := by rw [ref_eq]; rfl
  have dO : refOk p = (kindZ p.own.a p.own.b p.own.c p.own.d p.own.e p.own.f == 1 && (decide (1 ≤ (p.ks.length : Int)) && (decide ((p.ks.length : Int) ≤ 8) && (!(p.ks.any fun x => x != 1 && x != 2) && (decide ((p.bs.length : Int) ≤ 64) && (decide ((p.cs.length : Int) ≤ 64) && (decide ((p.ms.length : Int) ≤ 64) && (refM p && (refC p && refMs p))))))))) := rfl
  have no : refOk p = false → checkE p = 180 := fun h => by rw [dR, h]; rfl
  generalize refM p = r1 at n84 dO
  generalize refC p = r2 at n85 dO
  generalize refMs p = r3 at n86 dO
  refine AC_plain orders Tryz.func31 rfl (by kernel_rfl) (by kernel_rfl) Tryz.ntmps31 (by simp) ?_
  unfold Tryz.f31
  cases hk : (kindZ p.own.a p.own.b p.own.c p.own.d p.own.e p.own.f == 1) with
  | false =>
    have hk' : (kindZ p.own.a p.own.b p.own.c p.own.d p.own.e p.own.f != 1) = true := by rw [bne, hk]; rfl
    rw [no (by rw [dO, hk]; rfl)]
    (have hwq := trivial; repeat' (first | simp (maxSteps:=9999999)-implicitDefEqProofs only [go_sem,simprocAttr,hwq,FT3,FT4,FT5,FT23,FT24,FT25,FT26,FT27,FT29,FT32,FT34,FT35,FT37,FT46,FT59,FT86,List.length_map,List.getElem?_map,Int.natCast_nonneg,List.length_append,List.map_append,hk'] | (refine condK_split ?_ ?_ <;> intro hwq) | (refine two_split ?_ ?_) | (refine guardK_split ?_ ?_ <;> intro hwq) | (refine guardE_split ?_ ?_ <;> intro hwq) | (refine awp_drawW [] (by decide +kernel) ?_; have hwq := trivial) | (refine call_plain n83 rfl rfl ?_; have hwq := trivial) | fail))
  | true =>
  have hk' : (kindZ p.own.a p.own.b p.own.c p.own.d p.own.e p.own.f != 1) = false := by rw [bne, hk]; rfl
  by_cases h1 : (p.ks.length : Int) < 1
  · rw [no (by rw [dO, hk, decide_eq_false (by omega : ¬ 1 ≤ (p.ks.length : Int))]; rfl)]
    (have hwq := trivial; repeat' (first | simp (maxSteps:=9999999)-implicitDefEqProofs only [go_sem,simprocAttr,hwq,FT3,FT4,FT5,FT23,FT24,FT25,FT26,FT27,FT29,FT32,FT34,FT35,FT37,FT46,FT59,FT86,List.length_map,List.getElem?_map,Int.natCast_nonneg,List.length_append,List.map_append,hk',h1] | (refine condK_split ?_ ?_ <;> intro hwq) | (refine two_split ?_ ?_) | (refine guardK_split ?_ ?_ <;> intro hwq) | (refine guardE_split ?_ ?_ <;> intro hwq) | (refine awp_drawW [] (by decide +kernel) ?_; have hwq := trivial) | (refine call_plain n83 rfl rfl ?_; have hwq := trivial) | fail))
  by_cases h2 : 8 < (p.ks.length : Int)
  · rw [no (by rw [dO, hk, decide_eq_true (by omega : 1 ≤ (p.ks.length : Int)), decide_eq_false (by omega : ¬ (p.ks.length : Int) ≤ 8)]; rfl)]
    (have hwq := trivial; repeat' (first | simp (maxSteps:=9999999)-implicitDefEqProofs only [go_sem,simprocAttr,hwq,FT3,FT4,FT5,FT23,FT24,FT25,FT26,FT27,FT29,FT32,FT34,FT35,FT37,FT46,FT59,FT86,List.length_map,List.getElem?_map,Int.natCast_nonneg,List.length_append,List.map_append,hk',h1,h2] | (refine condK_split ?_ ?_ <;> intro hwq) | (refine two_split ?_ ?_) | (refine guardK_split ?_ ?_ <;> intro hwq) | (refine guardE_split ?_ ?_ <;> intro hwq) | (refine awp_drawW [] (by decide +kernel) ?_; have hwq := trivial) | (refine call_plain n83 rfl rfl ?_; have hwq := trivial) | fail))
  rw [hk, decide_eq_true (by omega : 1 ≤ (p.ks.length : Int)), decide_eq_true (by omega : (p.ks.length : Int) ≤ 8)] at dO
  (have hwq := trivial; repeat' (first | simp (maxSteps:=9999999)-implicitDefEqProofs only [go_sem,simprocAttr,hwq,FT3,FT4,FT5,FT23,FT24,FT25,FT26,FT27,FT29,FT32,FT34,FT35,FT37,FT46,FT59,FT86,List.length_map,List.getElem?_map,Int.natCast_nonneg,List.length_append,List.map_append,hk',h1,h2] | (refine condK_split ?_ ?_ <;> intro hwq) | (refine two_split ?_ ?_) | (refine guardK_split ?_ ?_ <;> intro hwq) | (refine guardE_split ?_ ?_ <;> intro hwq) | (refine awp_drawW [] (by decide +kernel) ?_; have hwq := trivial) | (refine call_plain n83 rfl rfl ?_; have hwq := trivial) | fail))
  refine awp_loopK (Lk31 p) p.ks.length _ (Weak.cutI 1 [1, 3] ?_ ?_) ⟨0, _, rfl, by omega, rfl, by simp⟩ ?_
  · simp (maxSteps:=9999999)-implicitDefEqProofs only [simprocAttr,QH,Option.isSome,cond_true,cond_false,Option.bind,selB,V.rn,V.rns,Go.Ai.known,V.pz,V.pzs,T.toV,frz1,List.range,List.range.loop,ite_true,ite_false,if_true,if_false,ne_eq,implies_true,forall_const,eq_self,IntKind.bits,upd_tmsS,selT_cons,selT_nil]
  · simp (maxSteps:=9999999)-implicitDefEqProofs only [simprocAttr,QH,Option.isSome,cond_true,cond_false,Option.bind,selB,V.rn,V.rns,Go.Ai.known,V.pz,V.pzs,T.toV,frz1,List.range,List.range.loop,ite_true,ite_false,if_true,if_false,ne_eq,implies_true,forall_const,eq_self,IntKind.bits,upd_tmsS,selT_cons,selT_nil]
  rintro kk S ⟨j, mv, rfl, hj, rfl, hno⟩
  have wj : IntKind.i64.wrap ((j : Int) + 1) = (j : Int) + 1 := wI64 _ (by omega) (by omega)
  by_cases hjl : j < p.ks.length
  · have hjl' : (j : Int) < (p.ks.length : Int) := by omega
    have hgj : p.ks[j]? = some p.ks[j] := List.getElem?_eq_getElem hjl
    obtain ⟨x, hx⟩ : ∃ x, p.ks[j] = x := ⟨_, rfl⟩
    rw [hx] at hgj
    cases q1 : (x != 1) with
    | false =>
      (have hwq := trivial; repeat' (first | simp (maxSteps:=9999999)-implicitDefEqProofs only [go_sem,simprocAttr,hwq,FT3,FT4,FT5,FT23,FT24,FT25,FT26,FT27,FT29,FT32,FT34,FT35,FT37,FT46,FT59,FT86,List.length_map,List.getElem?_map,Int.natCast_nonneg,List.length_append,List.map_append,hjl',hgj,wj,q1] | (refine condK_split ?_ ?_ <;> intro hwq) | (refine two_split ?_ ?_) | (refine guardK_split ?_ ?_ <;> intro hwq) | (refine guardE_split ?_ ?_ <;> intro hwq) | (refine awp_drawW [] (by decide +kernel) ?_; have hwq := trivial) | fail))
      refine ⟨p.ks.length - (j + 1), _, by omega, Weak.cutI 1 [1, 3] ?_ ?_, j + 1, _, rfl, by omega, rfl, take_more (q := fun x : Int => x != 1 && x != 2) hno hgj (by simp only [q1, Bool.false_and])⟩
      · simp (maxSteps:=9999999)-implicitDefEqProofs only [simprocAttr,QH,Option.isSome,cond_true,cond_false,Option.bind,selB,V.rn,V.rns,Go.Ai.known,V.pz,V.pzs,T.toV,frz1,List.range,List.range.loop,ite_true,ite_false,if_true,if_false,ne_eq,implies_true,forall_const,eq_self,IntKind.bits,upd_tmsS,selT_cons,selT_nil,List.length_map,List.getElem?_map,Int.natCast_nonneg,List.length_append,List.map_append]
      · simp (maxSteps:=9999999)-implicitDefEqProofs only [simprocAttr,QH,Option.isSome,cond_true,cond_false,Option.bind,selB,V.rn,V.rns,Go.Ai.known,V.pz,V.pzs,T.toV,frz1,List.range,List.range.loop,ite_true,ite_false,if_true,if_false,ne_eq,implies_true,forall_const,eq_self,IntKind.bits,upd_tmsS,selT_cons,selT_nil,List.length_map,List.getElem?_map,Int.natCast_nonneg,List.length_append,List.map_append]
    | true =>
      cases q2 : (x != 2) with
      | false =>
        (have hwq := trivial; repeat' (first | simp (maxSteps:=9999999)-implicitDefEqProofs only [go_sem,simprocAttr,hwq,FT3,FT4,FT5,FT23,FT24,FT25,FT26,FT27,FT29,FT32,FT34,FT35,FT37,FT46,FT59,FT86,List.length_map,List.getElem?_map,Int.natCast_nonneg,List.length_append,List.map_append,hjl',hgj,wj,q1,q2] | (refine condK_split ?_ ?_ <;> intro hwq) | (refine two_split ?_ ?_) | (refine guardK_split ?_ ?_ <;> intro hwq) | (refine guardE_split ?_ ?_ <;> intro hwq) | (refine awp_drawW [] (by decide +kernel) ?_; have hwq := trivial) | fail))
        refine ⟨p.ks.length - (j + 1), _, by omega, Weak.cutI 1 [1, 3] ?_ ?_, j + 1, _, rfl, by omega, rfl, take_more (q := fun x : Int => x != 1 && x != 2) hno hgj (by simp only [q2, Bool.and_false])⟩
        · simp (maxSteps:=9999999)-implicitDefEqProofs only [simprocAttr,QH,Option.isSome,cond_true,cond_false,Option.bind,selB,V.rn,V.rns,Go.Ai.known,V.pz,V.pzs,T.toV,frz1,List.range,List.range.loop,ite_true,ite_false,if_true,if_false,ne_eq,implies_true,forall_const,eq_self,IntKind.bits,upd_tmsS,selT_cons,selT_nil,List.length_map,List.getElem?_map,Int.natCast_nonneg,List.length_append,List.map_append]
        · simp (maxSteps:=9999999)-implicitDefEqProofs only [simprocAttr,QH,Option.isSome,cond_true,cond_false,Option.bind,selB,V.rn,V.rns,Go.Ai.known,V.pz,V.pzs,T.toV,frz1,List.range,List.range.loop,ite_true,ite_false,if_true,if_false,ne_eq,implies_true,forall_const,eq_self,IntKind.bits,upd_tmsS,selT_cons,selT_nil,List.length_map,List.getElem?_map,Int.natCast_nonneg,List.length_append,List.map_append]
      | true =>
        rw [no (by rw [dO, any_some (q := fun x : Int => x != 1 && x != 2) hgj (by simp only [q1, q2, Bool.and_self])]; rfl)]
        (have hwq := trivial; repeat' (first | simp (maxSteps:=9999999)-implicitDefEqProofs only [go_sem,simprocAttr,hwq,FT3,FT4,FT5,FT23,FT24,FT25,FT26,FT27,FT29,FT32,FT34,FT35,FT37,FT46,FT59,FT86,List.length_map,List.getElem?_map,Int.natCast_nonneg,List.length_append,List.map_append,hjl',hgj,wj,q1,q2] | (refine condK_split ?_ ?_ <;> intro hwq) | (refine two_split ?_ ?_) | (refine guardK_split ?_ ?_ <;> intro hwq) | (refine guardE_split ?_ ?_ <;> intro hwq) | (refine awp_drawW [] (by decide +kernel) ?_; have hwq := trivial) | fail))
  · have hjl' : ¬ (j : Int) < (p.ks.length : Int) := by omega
    rw [List.take_of_length_le (by omega)] at hno
    rw [any_none (q := fun x : Int => x != 1 && x != 2) hno] at dO
    by_cases g1 : 64 < (p.bs.length : Int)
    · rw [no (by rw [dO, decide_eq_false (by omega : ¬ (p.bs.length : Int) ≤ 64)]; rfl)]
      (have hwq := trivial; repeat' (first | simp (maxSteps:=9999999)-implicitDefEqProofs only [go_sem,simprocAttr,hwq,FT3,FT4,FT5,FT23,FT24,FT25,FT26,FT27,FT29,FT32,FT34,FT35,FT37,FT46,FT59,FT86,List.length_map,List.getElem?_map,Int.natCast_nonneg,List.length_append,List.map_append,hjl',g1] | (refine condK_split ?_ ?_ <;> intro hwq) | (refine two_split ?_ ?_) | (refine guardK_split ?_ ?_ <;> intro hwq) | (refine guardE_split ?_ ?_ <;> intro hwq) | (refine awp_drawW [] (by decide +kernel) ?_; have hwq := trivial) | fail))
    by_cases g2 : 64 < (p.cs.length : Int)
    · rw [no (by rw [dO, decide_eq_true (by omega : (p.bs.length : Int) ≤ 64), decide_eq_false (by omega : ¬ (p.cs.length : Int) ≤ 64)]; rfl)]
      (have hwq := trivial; repeat' (first | simp (maxSteps:=9999999)-implicitDefEqProofs only [go_sem,simprocAttr,hwq,FT3,FT4,FT5,FT23,FT24,FT25,FT26,FT27,FT29,FT32,FT34,FT35,FT37,FT46,FT59,FT86,List.length_map,List.getElem?_map,Int.natCast_nonneg,List.length_append,List.map_append,hjl',g1,g2] | (refine condK_split ?_ ?_ <;> intro hwq) | (refine two_split ?_ ?_) | (refine guardK_split ?_ ?_ <;> intro hwq) | (refine guardE_split ?_ ?_ <;> intro hwq) | (refine awp_drawW [] (by decide +kernel) ?_; have hwq := trivial) | fail))
    by_cases g3 : 64 < (p.ms.length : Int)
    · rw [no (by rw [dO, decide_eq_true (by omega : (p.bs.length : Int) ≤ 64), decide_eq_true (by omega : (p.cs.length : Int) ≤ 64), decide_eq_false (by omega : ¬ (p.ms.length : Int) ≤ 64)]; rfl)]
      (have hwq := trivial; repeat' (first | simp (maxSteps:=9999999)-implicitDefEqProofs only [go_sem,simprocAttr,hwq,FT3,FT4,FT5,FT23,FT24,FT25,FT26,FT27,FT29,FT32,FT34,FT35,FT37,FT46,FT59,FT86,List.length_map,List.getElem?_map,Int.natCast_nonneg,List.length_append,List.map_append,hjl',g1,g2,g3] | (refine condK_split ?_ ?_ <;> intro hwq) | (refine two_split ?_ ?_) | (refine guardK_split ?_ ?_ <;> intro hwq) | (refine guardE_split ?_ ?_ <;> intro hwq) | (refine awp_drawW [] (by decide +kernel) ?_; have hwq := trivial) | fail))
    rw [decide_eq_true (by omega : (p.bs.length : Int) ≤ 64), decide_eq_true (by omega : (p.cs.length : Int) ≤ 64), decide_eq_true (by omega : (p.ms.length : Int) ≤ 64)] at dO
    cases r1 with
    | false =>
      rw [no (by rw [dO]; rfl)]
      (have hwq := trivial; repeat' (first | simp (maxSteps:=9999999)-implicitDefEqProofs only [go_sem,simprocAttr,hwq,FT3,FT4,FT5,FT23,FT24,FT25,FT26,FT27,FT29,FT32,FT34,FT35,FT37,FT46,FT59,FT86,List.length_map,List.getElem?_map,Int.natCast_nonneg,List.length_append,List.map_append,hjl',g1,g2,g3] | (refine condK_split ?_ ?_ <;> intro hwq) | (refine two_split ?_ ?_) | (refine guardK_split ?_ ?_ <;> intro hwq) | (refine guardE_split ?_ ?_ <;> intro hwq) | (refine awp_drawW [] (by decide +kernel) ?_; have hwq := trivial) | (refine call_plain n84 rfl rfl ?_; have hwq := trivial) | fail))
    | true =>
    cases r2 with
    | false =>
      rw [no (by rw [dO]; rfl)]
      (have hwq := trivial; repeat' (first | simp (maxSteps:=9999999)-implicitDefEqProofs only [go_sem,simprocAttr,hwq,FT3,FT4,FT5,FT23,FT24,FT25,FT26,FT27,FT29,FT32,FT34,FT35,FT37,FT46,FT59,FT86,List.length_map,List.getElem?_map,Int.natCast_nonneg,List.length_append,List.map_append,hjl',g1,g2,g3] | (refine condK_split ?_ ?_ <;> intro hwq) | (refine two_split ?_ ?_) | (refine guardK_split ?_ ?_ <;> intro hwq) | (refine guardE_split ?_ ?_ <;> intro hwq) | (refine awp_drawW [] (by decide +kernel) ?_; have hwq := trivial) | (refine call_plain n84 rfl rfl ?_; have hwq := trivial) | (refine call_plain n85 rfl rfl ?_; have hwq := trivial) | fail))
    | true =>
    cases r3 with
    | false =>
      rw [no (by rw [dO]; rfl)]
      (have hwq := trivial; repeat' (first | simp (maxSteps:=9999999)-implicitDefEqProofs only [go_sem,simprocAttr,hwq,FT3,FT4,FT5,FT23,FT24,FT25,FT26,FT27,FT29,FT32,FT34,FT35,FT37,FT46,FT59,FT86,List.length_map,List.getElem?_map,Int.natCast_nonneg,List.length_append,List.map_append,hjl',g1,g2,g3] | (refine condK_split ?_ ?_ <;> intro hwq) | (refine two_split ?_ ?_) | (refine guardK_split ?_ ?_ <;> intro hwq) | (refine guardE_split ?_ ?_ <;> intro hwq) | (refine awp_drawW [] (by decide +kernel) ?_; have hwq := trivial) | (refine call_plain n84 rfl rfl ?_; have hwq := trivial) | (refine call_plain n85 rfl rfl ?_; have hwq := trivial) | (refine call_plain n86 rfl rfl ?_; have hwq := trivial) | fail))
    | true =>
      have he : checkE p = 0 := by rw [dR, dO]; rfl
      rw [he]
      (have hwq := trivial; repeat' (first | simp (maxSteps:=9999999)-implicitDefEqProofs only [go_sem,simprocAttr,hwq,FT3,FT4,FT5,FT23,FT24,FT25,FT26,FT27,FT29,FT32,FT34,FT35,FT37,FT46,FT59,FT86,List.length_map,List.getElem?_map,Int.natCast_nonneg,List.length_append,List.map_append,hjl',g1,g2,g3] | (refine condK_split ?_ ?_ <;> intro hwq) | (refine two_split ?_ ?_) | (refine guardK_split ?_ ?_ <;> intro hwq) | (refine guardE_split ?_ ?_ <;> intro hwq) | (refine awp_drawW [] (by decide +kernel) ?_; have hwq := trivial) | (refine call_plain n84 rfl rfl ?_; have hwq := trivial) | (refine call_plain n85 rfl rfl ?_; have hwq := trivial) | (refine call_plain n86 rfl rfl ?_; have hwq := trivial) | fail))
end Go.Ai

set_option linter.unusedVariables false
set_option linter.unusedSimpArgs false
set_option maxHeartbeats 8000000
set_option maxRecDepth 100000
namespace Go.Ai
open Go.Proofs
attribute [local go_sem] QH QR V.noimm V.noimms frzZs frzZ frzA frzV frzVs frzBox boxLen Option.isSome cond_true cond_false aopD calW flatV stepX amap stepY alookup afind aupdate adelete amlen arange ameq mapOf akeq pl V.mapT V.mapTs Option.bind stepK runK guardD stepE runD callD compact selB callK evS ofVal ofVals scalar aop ares mkRes V.rn V.rns V.cells? cellsAt Go.Ai.part aload astore setL V.atom abin aun intBin shiftBin aconv fieldOf aindexAddr aindex bound? aslice aarr abuild afill alen nilP nilS nilF aeq eqCells eqCell Go.Ai.known strBin abuiltin aappend abuildSlice arowsFill amakeSlice acopy aclear minmax rowsOf numsT notStr isIntD isByte V.pz V.pzs T.toV frz1 frz scalT scalTs chunkT List.range List.range.loop ite_true ite_false if_true if_false ne_eq implies_true forall_const eq_self IntKind.bits kPostKF_ret kPostKF_normal kPostX_ret kPostX_normal bsl nil2K nil2 kPostFW_ret kPostFW_normal kPostKM_ret kPostKM_normal kPostXK_ret kPostXK_normal
def refMap (p : Pv) (m : Mp) : Pv × Int := (if refMapE p m = 0 then { p with ms := insL beforeB m p.ms } else p, refMapE p m)
def refMapD (p : Pv) (m : Mp) : Pv × Int := (if delE51 p m = 0 then { p with ms := p.ms.filter (fun y : Mp => !decide (y = m)) } else p, delE51 p m)
def refCar (p : Pv) (m : Cr) : Pv × Int := (if refCarE p m = 0 then { p with cs := insL ltCr m p.cs } else p, refCarE p m)
def refCarD (p : Pv) (m : Cr) : Pv × Int := (if delE53 p m = 0 then { p with cs := p.cs.filter (fun y : Cr => !decide (y = m)) } else p, delE53 p m)
def refMem (p : Pv) (m : Mb) : Pv × Int := (if refMemE p m = 0 then { p with bs := setMbL m p.bs } else p, refMemE p m)
def refMemD (p : Pv) (m : Int) : Pv × Int := (if delE55 p m = 0 then { p with bs := p.bs.filter (fun y : Mb => y.v != m) } else p, delE55 p m)
/-- What the reference's Do answers. -/
def refDo (p : Pv) (x : Cm) : Pv × Int :=
  if checkE p != 0 then (p, checkE p) else if x.k == 1 then refMap p x.m else if x.k == 2 then refMapD p x.m else if x.k == 3 then refCar p x.c else if x.k == 4 then refCarD p x.c else if x.k == 5 then refMem p x.w else if x.k == 6 then refMemD p x.w.v else (p, 1)
theorem pc13 (p : Pv) (hp : okL p) (ho : isB p.own.a) (x : Cm) (hw : x.w.l.length ≤ 1000) : AC Tryz.prog 13 [pvV p, cmV x] [] (eqR (.tuple [pvV (refDo p x).1, vI (refDo p x).2])) := by
  have n31 := pc31 p hp ho
  have n50 : AC Tryz.prog 50 [pvV p, mpV x.m] [] (eqR (.tuple [pvV (refMap p x.m).1, vI (refMap p x.m).2])) := pc50 p hp x.m
  generalize h50 : refMap p x.m = r50 at n50
  have n51 : AC Tryz.prog 51 [pvV p, mpV x.m] [] (eqR (.tuple [pvV (refMapD p x.m).1, vI (refMapD p x.m).2])) := pc51 p hp x.m
  generalize h51 : refMapD p x.m = r51 at n51
  have n52 : AC Tryz.prog 52 [pvV p, crV x.c] [] (eqR (.tuple [pvV (refCar p x.c).1, vI (refCar p x.c).2])) := pc52 p hp x.c
  generalize h52 : refCar p x.c = r52 at n52
  have n53 : AC Tryz.prog 53 [pvV p, crV x.c] [] (eqR (.tuple [pvV (refCarD p x.c).1, vI (refCarD p x.c).2])) := pc53 p hp x.c
  generalize h53 : refCarD p x.c = r53 at n53
  have n54 : AC Tryz.prog 54 [pvV p, mbV x.w] [] (eqR (.tuple [pvV (refMem p x.w).1, vI (refMem p x.w).2])) := pc54 p hp x.w hw
  generalize h54 : refMem p x.w = r54 at n54
  have n55 : AC Tryz.prog 55 [pvV p, vI x.w.v] [] (eqR (.tuple [pvV (refMemD p x.w.v).1, vI (refMemD p x.w.v).2])) := pc55 p hp x.w.v
  generalize h55 : refMemD p x.w.v = r55 at n55
  have hD : refDo p x = if checkE p != 0 then (p, checkE p) else if x.k == 1 then r50 else if x.k == 2 then r51 else if x.k == 3 then r52 else if x.k == 4 then r53 else if x.k == 5 then r54 else if x.k == 6 then r55 else (p, 1) := by
    unfold refDo; rw [h50, h51, h52, h53, h54, h55]
  generalize refDo p x = D at hD
  generalize checkE p = e at n31 hD
  refine AC_frozen orders Tryz.func13 rfl (by kernel_rfl) (by kernel_rfl) Tryz.ntmps13 (by simp) ?_
  unfold Tryz.f13
  cases he : (e != 0) with
  | true =>
    rw [he, if_pos rfl] at hD
    subst hD
    (have hwq := trivial; repeat' (first | simp (maxSteps:=9999999)-implicitDefEqProofs only [go_sem,simprocAttr,hwq,FT3,FT4,FT5,FT23,FT24,FT25,FT26,FT27,FT29,FT30,FT32,FT34,FT35,FT37,FT39,FT40,FT41,FT43,FT46,FT59,List.length_map,List.getElem?_map,Int.natCast_nonneg,List.length_append,List.map_append,he] | (refine condK_split ?_ ?_ <;> intro hwq) | (refine two_split ?_ ?_) | (refine guardK_split ?_ ?_ <;> intro hwq) | (refine guardE_split ?_ ?_ <;> intro hwq) | (refine awp_drawW [] (by decide +kernel) ?_; have hwq := trivial) | (refine call_plain n31 rfl rfl ?_; have hwq := trivial) | fail))
  | false =>
    rw [he, if_neg (by simp)] at hD
    cases q1 : (x.k == 1) with
    | true =>
      rw [q1, if_pos rfl] at hD
      subst hD
      (have hwq := trivial; repeat' (first | simp (maxSteps:=9999999)-implicitDefEqProofs only [go_sem,simprocAttr,hwq,FT3,FT4,FT5,FT23,FT24,FT25,FT26,FT27,FT29,FT30,FT32,FT34,FT35,FT37,FT39,FT40,FT41,FT43,FT46,FT59,List.length_map,List.getElem?_map,Int.natCast_nonneg,List.length_append,List.map_append,he,q1] | (refine condK_split ?_ ?_ <;> intro hwq) | (refine two_split ?_ ?_) | (refine guardK_split ?_ ?_ <;> intro hwq) | (refine guardE_split ?_ ?_ <;> intro hwq) | (refine awp_drawW [] (by decide +kernel) ?_; have hwq := trivial) | (refine call_plain n31 rfl rfl ?_; have hwq := trivial) | (refine call_plain n50 rfl rfl ?_; have hwq := trivial) | fail))
    | false =>
      rw [q1, if_neg (by simp)] at hD
      cases q2 : (x.k == 2) with
      | true =>
        rw [q2, if_pos rfl] at hD
        subst hD
        (have hwq := trivial; repeat' (first | simp (maxSteps:=9999999)-implicitDefEqProofs only [go_sem,simprocAttr,hwq,FT3,FT4,FT5,FT23,FT24,FT25,FT26,FT27,FT29,FT30,FT32,FT34,FT35,FT37,FT39,FT40,FT41,FT43,FT46,FT59,List.length_map,List.getElem?_map,Int.natCast_nonneg,List.length_append,List.map_append,he,q1,q2] | (refine condK_split ?_ ?_ <;> intro hwq) | (refine two_split ?_ ?_) | (refine guardK_split ?_ ?_ <;> intro hwq) | (refine guardE_split ?_ ?_ <;> intro hwq) | (refine awp_drawW [] (by decide +kernel) ?_; have hwq := trivial) | (refine call_plain n31 rfl rfl ?_; have hwq := trivial) | (refine call_plain n51 rfl rfl ?_; have hwq := trivial) | fail))
      | false =>
        rw [q2, if_neg (by simp)] at hD
        cases q3 : (x.k == 3) with
        | true =>
          rw [q3, if_pos rfl] at hD
          subst hD
          (have hwq := trivial; repeat' (first | simp (maxSteps:=9999999)-implicitDefEqProofs only [go_sem,simprocAttr,hwq,FT3,FT4,FT5,FT23,FT24,FT25,FT26,FT27,FT29,FT30,FT32,FT34,FT35,FT37,FT39,FT40,FT41,FT43,FT46,FT59,List.length_map,List.getElem?_map,Int.natCast_nonneg,List.length_append,List.map_append,he,q1,q2,q3] | (refine condK_split ?_ ?_ <;> intro hwq) | (refine two_split ?_ ?_) | (refine guardK_split ?_ ?_ <;> intro hwq) | (refine guardE_split ?_ ?_ <;> intro hwq) | (refine awp_drawW [] (by decide +kernel) ?_; have hwq := trivial) | (refine call_plain n31 rfl rfl ?_; have hwq := trivial) | (refine call_plain n52 rfl rfl ?_; have hwq := trivial) | fail))
        | false =>
          rw [q3, if_neg (by simp)] at hD
          cases q4 : (x.k == 4) with
          | true =>
            rw [q4, if_pos rfl] at hD
            subst hD
            (have hwq := trivial; repeat' (first | simp (maxSteps:=9999999)-implicitDefEqProofs only [go_sem,simprocAttr,hwq,FT3,FT4,FT5,FT23,FT24,FT25,FT26,FT27,FT29,FT30,FT32,FT34,FT35,FT37,FT39,FT40,FT41,FT43,FT46,FT59,List.length_map,List.getElem?_map,Int.natCast_nonneg,List.length_append,List.map_append,he,q1,q2,q3,q4] | (refine condK_split ?_ ?_ <;> intro hwq) | (refine two_split ?_ ?_) | (refine guardK_split ?_ ?_ <;> intro hwq) | (refine guardE_split ?_ ?_ <;> intro hwq) | (refine awp_drawW [] (by decide +kernel) ?_; have hwq := trivial) | (refine call_plain n31 rfl rfl ?_; have hwq := trivial) | (refine call_plain n53 rfl rfl ?_; have hwq := trivial) | fail))
          | false =>
            rw [q4, if_neg (by simp)] at hD
            cases q5 : (x.k == 5) with
            | true =>
              rw [q5, if_pos rfl] at hD
              subst hD
              (have hwq := trivial; repeat' (first | simp (maxSteps:=9999999)-implicitDefEqProofs only [go_sem,simprocAttr,hwq,FT3,FT4,FT5,FT23,FT24,FT25,FT26,FT27,FT29,FT30,FT32,FT34,FT35,FT37,FT39,FT40,FT41,FT43,FT46,FT59,List.length_map,List.getElem?_map,Int.natCast_nonneg,List.length_append,List.map_append,he,q1,q2,q3,q4,q5] | (refine condK_split ?_ ?_ <;> intro hwq) | (refine two_split ?_ ?_) | (refine guardK_split ?_ ?_ <;> intro hwq) | (refine guardE_split ?_ ?_ <;> intro hwq) | (refine awp_drawW [] (by decide +kernel) ?_; have hwq := trivial) | (refine call_plain n31 rfl rfl ?_; have hwq := trivial) | (refine call_plain n54 rfl rfl ?_; have hwq := trivial) | fail))
            | false =>
              rw [q5, if_neg (by simp)] at hD
              cases q6 : (x.k == 6) with
              | true =>
                rw [q6, if_pos rfl] at hD
                subst hD
                (have hwq := trivial; repeat' (first | simp (maxSteps:=9999999)-implicitDefEqProofs only [go_sem,simprocAttr,hwq,FT3,FT4,FT5,FT23,FT24,FT25,FT26,FT27,FT29,FT30,FT32,FT34,FT35,FT37,FT39,FT40,FT41,FT43,FT46,FT59,List.length_map,List.getElem?_map,Int.natCast_nonneg,List.length_append,List.map_append,he,q1,q2,q3,q4,q5,q6] | (refine condK_split ?_ ?_ <;> intro hwq) | (refine two_split ?_ ?_) | (refine guardK_split ?_ ?_ <;> intro hwq) | (refine guardE_split ?_ ?_ <;> intro hwq) | (refine awp_drawW [] (by decide +kernel) ?_; have hwq := trivial) | (refine call_plain n31 rfl rfl ?_; have hwq := trivial) | (refine call_plain n55 rfl rfl ?_; have hwq := trivial) | fail))
              | false =>
                rw [q6, if_neg (by simp)] at hD
                subst hD
                (have hwq := trivial; repeat' (first | simp (maxSteps:=9999999)-implicitDefEqProofs only [go_sem,simprocAttr,hwq,FT3,FT4,FT5,FT23,FT24,FT25,FT26,FT27,FT29,FT30,FT32,FT34,FT35,FT37,FT39,FT40,FT41,FT43,FT46,FT59,List.length_map,List.getElem?_map,Int.natCast_nonneg,List.length_append,List.map_append,he,q1,q2,q3,q4,q5,q6] | (refine condK_split ?_ ?_ <;> intro hwq) | (refine two_split ?_ ?_) | (refine guardK_split ?_ ?_ <;> intro hwq) | (refine guardE_split ?_ ?_ <;> intro hwq) | (refine awp_drawW [] (by decide +kernel) ?_; have hwq := trivial) | (refine call_plain n31 rfl rfl ?_; have hwq := trivial) | fail))
end Go.Ai

set_option linter.unusedVariables false
set_option linter.unusedSimpArgs false
set_option maxHeartbeats 8000000
set_option maxRecDepth 100000
namespace Go.Ai
open Go.Proofs
attribute [local go_sem] QH QR V.noimm V.noimms frzZs frzZ frzA frzV frzVs frzBox boxLen Option.isSome cond_true cond_false aopD calW flatV stepX amap stepY alookup afind aupdate adelete amlen arange ameq mapOf akeq pl V.mapT V.mapTs Option.bind stepK runK guardD stepE runD callD compact selB callK evS ofVal ofVals scalar aop ares mkRes V.rn V.rns V.cells? cellsAt Go.Ai.part aload astore setL V.atom abin aun intBin shiftBin aconv fieldOf aindexAddr aindex bound? aslice aarr abuild afill alen nilP nilS nilF aeq eqCells eqCell Go.Ai.known strBin abuiltin aappend abuildSlice arowsFill amakeSlice acopy aclear minmax rowsOf numsT notStr isIntD isByte V.pz V.pzs T.toV frz1 frz scalT scalTs chunkT List.range List.range.loop ite_true ite_false if_true if_false ne_eq implies_true forall_const eq_self IntKind.bits kPostKF_ret kPostKF_normal kPostX_ret kPostX_normal bsl nil2K nil2 kPostFW_ret kPostFW_normal kPostKM_ret kPostKM_normal kPostXK_ret kPostXK_normal
/-- Where slices.Index finds x. -/
def idxFrom {α : Type} [DecidableEq α] (x : α) : List α → Nat → Int
  | [], _ => -1
  | y :: l, n => if x = y then (n : Int) else idxFrom x l (n + 1)
theorem idx_here {α : Type} [DecidableEq α] {x : α} : ∀ {L : List α} {j n : Nat}, (∀ y ∈ L.take j, x ≠ y) → L[j]? = some x → idxFrom x L n = ((n + j : Nat) : Int)
  | [], j, n, _, h => by simp at h
  | y :: l, 0, n, _, h => by
    simp only [List.getElem?_cons_zero, Option.some.injEq] at h
    rw [idxFrom, if_pos h.symm]; rfl
  | y :: l, j + 1, n, hn, h => by
    simp only [List.getElem?_cons_succ] at h
    rw [List.take_succ_cons] at hn
    rw [idxFrom, if_neg (hn y (List.mem_cons_self ..)), idx_here (fun z hz => hn z (List.mem_cons_of_mem _ hz)) h]
    congr 1; omega
theorem idx_none {α : Type} [DecidableEq α] {x : α} : ∀ {L : List α} {n : Nat}, (∀ y ∈ L, x ≠ y) → idxFrom x L n = -1
  | [], n, _ => rfl
  | y :: l, n, h => by
    rw [idxFrom, if_neg (h y (List.mem_cons_self ..)), idx_none fun z hz => h z (List.mem_cons_of_mem _ hz)]
theorem idx_pos {α : Type} [DecidableEq α] {x : α} : ∀ {L : List α} {n : Nat}, decide (0 ≤ idxFrom x L n) = decide (x ∈ L)
  | [], n => rfl
  | y :: l, n => by
    rw [idxFrom]
    by_cases h : x = y
    · rw [if_pos h]; simp [h]
    · rw [if_neg h, idx_pos]; simp [h]
theorem ne_more {α : Type} {x y : α} {L : List α} {j : Nat} (h : ∀ z ∈ L.take j, x ≠ z) (hg : L[j]? = some y) (hn : x ≠ y) : ∀ z ∈ L.take (j + 1), x ≠ z := by
  rw [take_in hg]
  intro z hz
  rcases List.mem_append.1 hz with h1 | h1
  · exact h z h1
  · rw [List.mem_singleton.1 h1]; exact hn
def Ix103 (x : Mp) (L : List Mp) (n : Nat) (S : St) : Prop :=
  ∃ (j : Nat) (mv : List Nat), S = ⟨tms [(0, msV L), (3, .ptr 0 0 0), (4, vI 0), (7, vI L.length), (8, vI j)], [bxMp x], mv⟩ ∧ (∀ y ∈ L.take j, x ≠ y) ∧ j ≤ L.length ∧ n = L.length - j
theorem pc103 (x : Mp) (L : List Mp) (hL : L.length ≤ 1000) : AC Tryz.prog 103 [msV L, mpV x] [] (eqR (vI (idxFrom x L 0))) := by
  obtain ⟨R, hR⟩ : ∃ R, idxFrom x L 0 = R := ⟨_, rfl⟩
  rw [hR]
  refine AC_plain orders Tryz.func103 rfl (by kernel_rfl) (by kernel_rfl) Tryz.ntmps103 (by simp) ?_
  unfold Tryz.f103
  (have hwq := trivial; repeat' (first | simp (maxSteps:=9999999)-implicitDefEqProofs only [go_sem,simprocAttr,hwq,FT3,FT25,FT32,List.length_map,List.getElem?_map,Int.natCast_nonneg,List.length_append,List.map_append] | (refine condK_split ?_ ?_ <;> intro hwq) | (refine two_split ?_ ?_) | (refine guardK_split ?_ ?_ <;> intro hwq) | (refine guardE_split ?_ ?_ <;> intro hwq) | (refine awp_drawW [] (by decide +kernel) ?_; have hwq := trivial) | fail))
  refine awp_loopK (Ix103 x L) L.length _ (Weak.cutI 1 [0, 3, 4, 7, 8] ?_ ?_) ⟨0, _, rfl, by simp, Nat.zero_le _, rfl⟩ ?_
  · simp (maxSteps:=9999999)-implicitDefEqProofs only [simprocAttr,QH,Option.isSome,cond_true,cond_false,Option.bind,selB,V.rn,V.rns,Go.Ai.known,V.pz,V.pzs,T.toV,frz1,List.range,List.range.loop,ite_true,ite_false,if_true,if_false,ne_eq,implies_true,forall_const,eq_self,IntKind.bits,upd_tmsS,selT_cons,selT_nil,List.length_map,List.getElem?_map,Int.natCast_nonneg,List.length_append,List.map_append]
  · simp (maxSteps:=9999999)-implicitDefEqProofs only [simprocAttr,QH,Option.isSome,cond_true,cond_false,Option.bind,selB,V.rn,V.rns,Go.Ai.known,V.pz,V.pzs,T.toV,frz1,List.range,List.range.loop,ite_true,ite_false,if_true,if_false,ne_eq,implies_true,forall_const,eq_self,IntKind.bits,upd_tmsS,selT_cons,selT_nil]
  rintro kk S ⟨j, mv, rfl, hno, hj, rfl⟩
  have wj := wj_of hj hL
  by_cases hjl : j < L.length
  · have hjl' : (j : Int) < (L.length : Int) := Int.ofNat_lt.2 hjl
    have hgj : L[j]? = some L[j] := List.getElem?_eq_getElem hjl
    obtain ⟨y, hy⟩ : ∃ y, L[j] = y := ⟨_, rfl⟩
    rw [hy] at hgj
    have hee := mp_eq x y
    by_cases hq : x = y
    · have hq' : decide (x = y) = true := decide_eq_true hq
      have hres : R = (j : Int) := by rw [← hR, idx_here hno (hq ▸ hgj), Nat.zero_add]
      rw [hres]
      (have hwq := trivial; repeat' (first | simp (maxSteps:=9999999)-implicitDefEqProofs only [go_sem,simprocAttr,hwq,FT3,FT25,FT32,List.length_map,List.getElem?_map,Int.natCast_nonneg,List.length_append,List.map_append,hjl',hgj,wj,hee,hq'] | (refine condK_split ?_ ?_ <;> intro hwq) | (refine two_split ?_ ?_) | (refine guardK_split ?_ ?_ <;> intro hwq) | (refine guardE_split ?_ ?_ <;> intro hwq) | (refine awp_drawW [] (by decide +kernel) ?_; have hwq := trivial) | fail))
    · have hq' : decide (x = y) = false := decide_eq_false hq
      (have hwq := trivial; repeat' (first | simp (maxSteps:=9999999)-implicitDefEqProofs only [go_sem,simprocAttr,hwq,FT3,FT25,FT32,List.length_map,List.getElem?_map,Int.natCast_nonneg,List.length_append,List.map_append,hjl',hgj,wj,hee,hq'] | (refine condK_split ?_ ?_ <;> intro hwq) | (refine two_split ?_ ?_) | (refine guardK_split ?_ ?_ <;> intro hwq) | (refine guardE_split ?_ ?_ <;> intro hwq) | (refine awp_drawW [] (by decide +kernel) ?_; have hwq := trivial) | fail))
      refine ⟨L.length - (j + 1), _, st_of hjl, Weak.cutI 1 [0, 3, 4, 7, 8] ?_ ?_, j + 1, _, rfl, ne_more hno hgj hq, hjl, rfl⟩
      · simp (maxSteps:=9999999)-implicitDefEqProofs only [simprocAttr,QH,Option.isSome,cond_true,cond_false,Option.bind,selB,V.rn,V.rns,Go.Ai.known,V.pz,V.pzs,T.toV,frz1,List.range,List.range.loop,ite_true,ite_false,if_true,if_false,ne_eq,implies_true,forall_const,eq_self,IntKind.bits,upd_tmsS,selT_cons,selT_nil,List.length_map,List.getElem?_map,Int.natCast_nonneg,List.length_append,List.map_append]
      · simp (maxSteps:=9999999)-implicitDefEqProofs only [simprocAttr,QH,Option.isSome,cond_true,cond_false,Option.bind,selB,V.rn,V.rns,Go.Ai.known,V.pz,V.pzs,T.toV,frz1,List.range,List.range.loop,ite_true,ite_false,if_true,if_false,ne_eq,implies_true,forall_const,eq_self,IntKind.bits,upd_tmsS,selT_cons,selT_nil,List.length_map,List.getElem?_map,Int.natCast_nonneg,List.length_append,List.map_append]
  · have hjl' : ¬ (j : Int) < (L.length : Int) := fun h => hjl (Int.ofNat_lt.1 h)
    rw [List.take_of_length_le (Nat.le_of_not_lt hjl)] at hno
    have hres : R = -1 := by rw [← hR, idx_none hno]
    rw [hres]
    (have hwq := trivial; repeat' (first | simp (maxSteps:=9999999)-implicitDefEqProofs only [go_sem,simprocAttr,hwq,FT3,FT25,FT32,List.length_map,List.getElem?_map,Int.natCast_nonneg,List.length_append,List.map_append,hjl'] | (refine condK_split ?_ ?_ <;> intro hwq) | (refine two_split ?_ ?_) | (refine guardK_split ?_ ?_ <;> intro hwq) | (refine guardE_split ?_ ?_ <;> intro hwq) | (refine awp_drawW [] (by decide +kernel) ?_; have hwq := trivial) | fail))
theorem pc37 (x : Mp) (L : List Mp) (hL : L.length ≤ 1000) : AC Tryz.prog 37 [msV L, mpV x] [] (eqR (vB (decide (x ∈ L)))) := by
  have h1 := pc103 x L hL
  have h2 := idx_pos (x := x) (L := L) (n := 0)
  generalize idxFrom x L 0 = i at h1 h2
  rw [← h2]
  refine AC_plain orders Tryz.func37 rfl (by kernel_rfl) (by kernel_rfl) Tryz.ntmps37 (by simp) ?_
  unfold Tryz.f37
  (have hwq := trivial; repeat' (first | simp (maxSteps:=9999999)-implicitDefEqProofs only [go_sem,simprocAttr,hwq,FT3,FT4,FT25,FT32,List.length_map,List.getElem?_map,Int.natCast_nonneg,List.length_append,List.map_append] | (refine condK_split ?_ ?_ <;> intro hwq) | (refine two_split ?_ ?_) | (refine guardK_split ?_ ?_ <;> intro hwq) | (refine guardE_split ?_ ?_ <;> intro hwq) | (refine awp_drawW [] (by decide +kernel) ?_; have hwq := trivial) | (refine call_plain h1 rfl rfl ?_; have hwq := trivial) | fail))
def Ix108 (x : Cr) (L : List Cr) (n : Nat) (S : St) : Prop :=
  ∃ (j : Nat) (mv : List Nat), S = ⟨tms [(0, csV L), (3, .ptr 0 0 0), (4, vI 0), (7, vI L.length), (8, vI j)], [bxCr x], mv⟩ ∧ (∀ y ∈ L.take j, x ≠ y) ∧ j ≤ L.length ∧ n = L.length - j
theorem pc108 (x : Cr) (L : List Cr) (hL : L.length ≤ 1000) : AC Tryz.prog 108 [csV L, crV x] [] (eqR (vI (idxFrom x L 0))) := by
  obtain ⟨R, hR⟩ : ∃ R, idxFrom x L 0 = R := ⟨_, rfl⟩
  rw [hR]
  refine AC_plain orders Tryz.func108 rfl (by kernel_rfl) (by kernel_rfl) Tryz.ntmps108 (by simp) ?_
  unfold Tryz.f108
  (have hwq := trivial; repeat' (first | simp (maxSteps:=9999999)-implicitDefEqProofs only [go_sem,simprocAttr,hwq,FT3,FT26,FT34,List.length_map,List.getElem?_map,Int.natCast_nonneg,List.length_append,List.map_append] | (refine condK_split ?_ ?_ <;> intro hwq) | (refine two_split ?_ ?_) | (refine guardK_split ?_ ?_ <;> intro hwq) | (refine guardE_split ?_ ?_ <;> intro hwq) | (refine awp_drawW [] (by decide +kernel) ?_; have hwq := trivial) | fail))
  refine awp_loopK (Ix108 x L) L.length _ (Weak.cutI 1 [0, 3, 4, 7, 8] ?_ ?_) ⟨0, _, rfl, by simp, Nat.zero_le _, rfl⟩ ?_
  · simp (maxSteps:=9999999)-implicitDefEqProofs only [simprocAttr,QH,Option.isSome,cond_true,cond_false,Option.bind,selB,V.rn,V.rns,Go.Ai.known,V.pz,V.pzs,T.toV,frz1,List.range,List.range.loop,ite_true,ite_false,if_true,if_false,ne_eq,implies_true,forall_const,eq_self,IntKind.bits,upd_tmsS,selT_cons,selT_nil,List.length_map,List.getElem?_map,Int.natCast_nonneg,List.length_append,List.map_append]
  · simp (maxSteps:=9999999)-implicitDefEqProofs only [simprocAttr,QH,Option.isSome,cond_true,cond_false,Option.bind,selB,V.rn,V.rns,Go.Ai.known,V.pz,V.pzs,T.toV,frz1,List.range,List.range.loop,ite_true,ite_false,if_true,if_false,ne_eq,implies_true,forall_const,eq_self,IntKind.bits,upd_tmsS,selT_cons,selT_nil]
  rintro kk S ⟨j, mv, rfl, hno, hj, rfl⟩
  have wj := wj_of hj hL
  by_cases hjl : j < L.length
  · have hjl' : (j : Int) < (L.length : Int) := Int.ofNat_lt.2 hjl
    have hgj : L[j]? = some L[j] := List.getElem?_eq_getElem hjl
    obtain ⟨y, hy⟩ : ∃ y, L[j] = y := ⟨_, rfl⟩
    rw [hy] at hgj
    have hee := cr_eq x y
    by_cases hq : x = y
    · have hq' : decide (x = y) = true := decide_eq_true hq
      have hres : R = (j : Int) := by rw [← hR, idx_here hno (hq ▸ hgj), Nat.zero_add]
      rw [hres]
      (have hwq := trivial; repeat' (first | simp (maxSteps:=9999999)-implicitDefEqProofs only [go_sem,simprocAttr,hwq,FT3,FT26,FT34,List.length_map,List.getElem?_map,Int.natCast_nonneg,List.length_append,List.map_append,hjl',hgj,wj,hee,hq'] | (refine condK_split ?_ ?_ <;> intro hwq) | (refine two_split ?_ ?_) | (refine guardK_split ?_ ?_ <;> intro hwq) | (refine guardE_split ?_ ?_ <;> intro hwq) | (refine awp_drawW [] (by decide +kernel) ?_; have hwq := trivial) | fail))
    · have hq' : decide (x = y) = false := decide_eq_false hq
      (have hwq := trivial; repeat' (first | simp (maxSteps:=9999999)-implicitDefEqProofs only [go_sem,simprocAttr,hwq,FT3,FT26,FT34,List.length_map,List.getElem?_map,Int.natCast_nonneg,List.length_append,List.map_append,hjl',hgj,wj,hee,hq'] | (refine condK_split ?_ ?_ <;> intro hwq) | (refine two_split ?_ ?_) | (refine guardK_split ?_ ?_ <;> intro hwq) | (refine guardE_split ?_ ?_ <;> intro hwq) | (refine awp_drawW [] (by decide +kernel) ?_; have hwq := trivial) | fail))
      refine ⟨L.length - (j + 1), _, st_of hjl, Weak.cutI 1 [0, 3, 4, 7, 8] ?_ ?_, j + 1, _, rfl, ne_more hno hgj hq, hjl, rfl⟩
      · simp (maxSteps:=9999999)-implicitDefEqProofs only [simprocAttr,QH,Option.isSome,cond_true,cond_false,Option.bind,selB,V.rn,V.rns,Go.Ai.known,V.pz,V.pzs,T.toV,frz1,List.range,List.range.loop,ite_true,ite_false,if_true,if_false,ne_eq,implies_true,forall_const,eq_self,IntKind.bits,upd_tmsS,selT_cons,selT_nil,List.length_map,List.getElem?_map,Int.natCast_nonneg,List.length_append,List.map_append]
      · simp (maxSteps:=9999999)-implicitDefEqProofs only [simprocAttr,QH,Option.isSome,cond_true,cond_false,Option.bind,selB,V.rn,V.rns,Go.Ai.known,V.pz,V.pzs,T.toV,frz1,List.range,List.range.loop,ite_true,ite_false,if_true,if_false,ne_eq,implies_true,forall_const,eq_self,IntKind.bits,upd_tmsS,selT_cons,selT_nil,List.length_map,List.getElem?_map,Int.natCast_nonneg,List.length_append,List.map_append]
  · have hjl' : ¬ (j : Int) < (L.length : Int) := fun h => hjl (Int.ofNat_lt.1 h)
    rw [List.take_of_length_le (Nat.le_of_not_lt hjl)] at hno
    have hres : R = -1 := by rw [← hR, idx_none hno]
    rw [hres]
    (have hwq := trivial; repeat' (first | simp (maxSteps:=9999999)-implicitDefEqProofs only [go_sem,simprocAttr,hwq,FT3,FT26,FT34,List.length_map,List.getElem?_map,Int.natCast_nonneg,List.length_append,List.map_append,hjl'] | (refine condK_split ?_ ?_ <;> intro hwq) | (refine two_split ?_ ?_) | (refine guardK_split ?_ ?_ <;> intro hwq) | (refine guardE_split ?_ ?_ <;> intro hwq) | (refine awp_drawW [] (by decide +kernel) ?_; have hwq := trivial) | fail))
theorem pc42 (x : Cr) (L : List Cr) (hL : L.length ≤ 1000) : AC Tryz.prog 42 [csV L, crV x] [] (eqR (vB (decide (x ∈ L)))) := by
  have h1 := pc108 x L hL
  have h2 := idx_pos (x := x) (L := L) (n := 0)
  generalize idxFrom x L 0 = i at h1 h2
  rw [← h2]
  refine AC_plain orders Tryz.func42 rfl (by kernel_rfl) (by kernel_rfl) Tryz.ntmps42 (by simp) ?_
  unfold Tryz.f42
  (have hwq := trivial; repeat' (first | simp (maxSteps:=9999999)-implicitDefEqProofs only [go_sem,simprocAttr,hwq,FT3,FT4,FT26,FT34,List.length_map,List.getElem?_map,Int.natCast_nonneg,List.length_append,List.map_append] | (refine condK_split ?_ ?_ <;> intro hwq) | (refine two_split ?_ ?_) | (refine guardK_split ?_ ?_ <;> intro hwq) | (refine guardE_split ?_ ?_ <;> intro hwq) | (refine awp_drawW [] (by decide +kernel) ?_; have hwq := trivial) | (refine call_plain h1 rfl rfl ?_; have hwq := trivial) | fail))
end Go.Ai

set_option linter.unusedVariables false
set_option linter.unusedSimpArgs false
set_option maxHeartbeats 8000000
set_option maxRecDepth 100000
namespace Go.Ai
open Go.Proofs
attribute [local go_sem] QH QR V.noimm V.noimms frzZs frzZ frzA frzV frzVs frzBox boxLen Option.isSome cond_true cond_false aopD calW flatV stepX amap stepY alookup afind aupdate adelete amlen arange ameq mapOf akeq pl V.mapT V.mapTs Option.bind stepK runK guardD stepE runD callD compact selB callK evS ofVal ofVals scalar aop ares mkRes V.rn V.rns V.cells? cellsAt Go.Ai.part aload astore setL V.atom abin aun intBin shiftBin aconv fieldOf aindexAddr aindex bound? aslice aarr abuild afill alen nilP nilS nilF aeq eqCells eqCell Go.Ai.known strBin abuiltin aappend abuildSlice arowsFill amakeSlice acopy aclear minmax rowsOf numsT notStr isIntD isByte V.pz V.pzs T.toV frz1 frz scalT scalTs chunkT List.range List.range.loop ite_true ite_false if_true if_false ne_eq implies_true forall_const eq_self IntKind.bits kPostKF_ret kPostKF_normal kPostX_ret kPostX_normal bsl nil2K nil2 kPostFW_ret kPostFW_normal kPostKM_ret kPostKM_normal kPostXK_ret kPostXK_normal
theorem half_of {i j l : Nat} (h : i < j) (h2 : j ≤ l) (h3 : l ≤ 1000) : ∃ h : Nat, (i + j) / 2 = h ∧ i ≤ h ∧ h < j ∧ h < l ∧ IntKind.i64.wrap (IntKind.u64.wrap (IntKind.i64.wrap ((i : Int) + (j : Int))) / 2) = (h : Int) ∧ IntKind.i64.wrap ((h : Int) + 1) = (h : Int) + 1 ∧ (0 : Int) ≤ (h : Int) ∧ (h : Int) < (l : Int) := by
  refine ⟨(i + j) / 2, rfl, by omega, by omega, by omega, ?_, wI64 _ (by omega) (by omega), by omega, by omega⟩
  have h1 : IntKind.u64.wrap ((i : Int) + (j : Int)) = (i : Int) + (j : Int) := by
    unfold IntKind.wrap; simp [IntKind.signed, IntKind.bits]; omega
  have h0 : IntKind.i64.wrap ((i : Int) + (j : Int)) = (i : Int) + (j : Int) := wI64 _ (by omega) (by omega)
  rw [h0, h1, wI64 _ (by omega) (by omega)]
  omega
def Bs99 (x : Mp) (L : List Mp) (n0 : Nat) (n : Nat) (S : St) : Prop :=
  ∃ (i j : Nat) (mv : List Nat), S = ⟨tms [(0, msV L), (2, .clo (.func 36) [] []), (4, .ptr 0 0 0), (6, vI 0), (7, vB false), (8, vI L.length), (9, vI i), (10, vI j)], [bxMp x], mv⟩ ∧ i ≤ n0 ∧ n0 ≤ j ∧ j ≤ L.length ∧ n = j - i
theorem pc99 (x : Mp) (L : List Mp) (hL : L.length ≤ 1000) (n0 : Nat) (hn0 : n0 ≤ L.length) (hlo : ∀ (k : Nat) (y : Mp), L[k]? = some y → k < n0 → cmpMp y x < 0) (hhi : ∀ (k : Nat) (y : Mp), L[k]? = some y → n0 ≤ k → ¬ cmpMp y x < 0) (fd : Bool) (hfd : fd = match L[n0]? with | some y => (cmpMp y x == 0) | none => false) :
    AC Tryz.prog 99 [msV L, mpV x, .clo (.func 36) [] []] [] (eqR (.tuple [vI n0, vB fd])) := by
  refine AC_plain orders Tryz.func99 rfl (by kernel_rfl) (by kernel_rfl) Tryz.ntmps99 (by simp) ?_
  unfold Tryz.f99
  (have hwq := trivial; repeat' (first | simp (maxSteps:=9999999)-implicitDefEqProofs only [go_sem,simprocAttr,hwq,FT3,FT4,FT25,FT32,FT69,FT85,List.length_map,List.getElem?_map,Int.natCast_nonneg,List.length_append,List.map_append] | (refine condK_split ?_ ?_ <;> intro hwq) | (refine two_split ?_ ?_) | (refine guardK_split ?_ ?_ <;> intro hwq) | (refine guardE_split ?_ ?_ <;> intro hwq) | (refine awp_drawI 8 [] (List.range 16) [0, 0, 0, 6, 14, 30, 30, 30, 222, 478, 30, 2046, 4094, 8190, 4095, 32767] (by decide +kernel) ?_; have hwq := trivial) | (refine awp_drawW [] (by decide +kernel) ?_; have hwq := trivial) | fail))
  refine awp_loopK (Bs99 x L n0) L.length _ (Weak.cutI 1 [0, 2, 4, 6, 7, 8, 9, 10] ?_ ?_) ⟨0, L.length, _, rfl, Nat.zero_le _, hn0, Nat.le_refl _, rfl⟩ ?_
  · simp (maxSteps:=9999999)-implicitDefEqProofs only [simprocAttr,QH,Option.isSome,cond_true,cond_false,Option.bind,selB,V.rn,V.rns,Go.Ai.known,V.pz,V.pzs,T.toV,frz1,List.range,List.range.loop,ite_true,ite_false,if_true,if_false,ne_eq,implies_true,forall_const,eq_self,IntKind.bits,upd_tmsS,selT_cons,selT_nil,List.length_map,List.getElem?_map,Int.natCast_nonneg,List.length_append,List.map_append]
  · simp (maxSteps:=9999999)-implicitDefEqProofs only [simprocAttr,QH,Option.isSome,cond_true,cond_false,Option.bind,selB,V.rn,V.rns,Go.Ai.known,V.pz,V.pzs,T.toV,frz1,List.range,List.range.loop,ite_true,ite_false,if_true,if_false,ne_eq,implies_true,forall_const,eq_self,IntKind.bits,upd_tmsS,selT_cons,selT_nil]
  rintro kk S ⟨i, j, mv, rfl, hi, hj, hjL, rfl⟩
  by_cases hij : i < j
  · have hij' : (i : Int) < (j : Int) := Int.ofNat_lt.2 hij
    obtain ⟨h, e0, e1, e2, e3, w1, w2, w3, w4⟩ := half_of hij hjL hL
    have hgh : L[h]? = some L[h] := List.getElem?_eq_getElem e3
    obtain ⟨y, hy⟩ : ∃ y, L[h] = y := ⟨_, rfl⟩
    rw [hy] at hgh
    have hc := pc36 y x
    have hl1 := hlo h y hgh
    have hh1 := hhi h y hgh
    generalize cmpMp y x = r at hc hl1 hh1
    by_cases hr : r < 0
    · have hhn : h + 1 ≤ n0 := Nat.lt_of_not_le fun hk => hh1 hk hr
      (have hwq := trivial; repeat' (first | simp (maxSteps:=9999999)-implicitDefEqProofs only [go_sem,simprocAttr,hwq,FT3,FT4,FT25,FT32,FT69,FT85,List.length_map,List.getElem?_map,Int.natCast_nonneg,List.length_append,List.map_append,hij',hgh,w1,w2,w3,w4,hr] | (refine condK_split ?_ ?_ <;> intro hwq) | (refine two_split ?_ ?_) | (refine guardK_split ?_ ?_ <;> intro hwq) | (refine guardE_split ?_ ?_ <;> intro hwq) | (refine awp_drawI 8 [] (List.range 16) [0, 0, 0, 6, 14, 30, 30, 30, 222, 478, 30, 2046, 4094, 8190, 4095, 32767] (by decide +kernel) ?_; have hwq := trivial) | (refine awp_drawW [] (by decide +kernel) ?_; have hwq := trivial) | (refine draw_plain hc rfl (fun _ => rfl) ?_; have hwq := trivial) | fail))
      refine ⟨j - (h + 1), _, by omega, Weak.cutI 1 [0, 2, 4, 6, 7, 8, 9, 10] ?_ ?_, h + 1, j, _, rfl, hhn, hj, hjL, rfl⟩
      · simp (maxSteps:=9999999)-implicitDefEqProofs only [simprocAttr,QH,Option.isSome,cond_true,cond_false,Option.bind,selB,V.rn,V.rns,Go.Ai.known,V.pz,V.pzs,T.toV,frz1,List.range,List.range.loop,ite_true,ite_false,if_true,if_false,ne_eq,implies_true,forall_const,eq_self,IntKind.bits,upd_tmsS,selT_cons,selT_nil,List.length_map,List.getElem?_map,Int.natCast_nonneg,List.length_append,List.map_append]
      · simp (maxSteps:=9999999)-implicitDefEqProofs only [simprocAttr,QH,Option.isSome,cond_true,cond_false,Option.bind,selB,V.rn,V.rns,Go.Ai.known,V.pz,V.pzs,T.toV,frz1,List.range,List.range.loop,ite_true,ite_false,if_true,if_false,ne_eq,implies_true,forall_const,eq_self,IntKind.bits,upd_tmsS,selT_cons,selT_nil,List.length_map,List.getElem?_map,Int.natCast_nonneg,List.length_append,List.map_append]
    · have hhn : n0 ≤ h := Nat.le_of_not_lt fun hk => hr (hl1 hk)
      (have hwq := trivial; repeat' (first | simp (maxSteps:=9999999)-implicitDefEqProofs only [go_sem,simprocAttr,hwq,FT3,FT4,FT25,FT32,FT69,FT85,List.length_map,List.getElem?_map,Int.natCast_nonneg,List.length_append,List.map_append,hij',hgh,w1,w2,w3,w4,hr] | (refine condK_split ?_ ?_ <;> intro hwq) | (refine two_split ?_ ?_) | (refine guardK_split ?_ ?_ <;> intro hwq) | (refine guardE_split ?_ ?_ <;> intro hwq) | (refine awp_drawI 8 [] (List.range 16) [0, 0, 0, 6, 14, 30, 30, 30, 222, 478, 30, 2046, 4094, 8190, 4095, 32767] (by decide +kernel) ?_; have hwq := trivial) | (refine awp_drawW [] (by decide +kernel) ?_; have hwq := trivial) | (refine draw_plain hc rfl (fun _ => rfl) ?_; have hwq := trivial) | fail))
      refine ⟨h - i, _, by omega, Weak.cutI 1 [0, 2, 4, 6, 7, 8, 9, 10] ?_ ?_, i, h, _, rfl, hi, hhn, Nat.le_of_lt e3, rfl⟩
      · simp (maxSteps:=9999999)-implicitDefEqProofs only [simprocAttr,QH,Option.isSome,cond_true,cond_false,Option.bind,selB,V.rn,V.rns,Go.Ai.known,V.pz,V.pzs,T.toV,frz1,List.range,List.range.loop,ite_true,ite_false,if_true,if_false,ne_eq,implies_true,forall_const,eq_self,IntKind.bits,upd_tmsS,selT_cons,selT_nil,List.length_map,List.getElem?_map,Int.natCast_nonneg,List.length_append,List.map_append]
      · simp (maxSteps:=9999999)-implicitDefEqProofs only [simprocAttr,QH,Option.isSome,cond_true,cond_false,Option.bind,selB,V.rn,V.rns,Go.Ai.known,V.pz,V.pzs,T.toV,frz1,List.range,List.range.loop,ite_true,ite_false,if_true,if_false,ne_eq,implies_true,forall_const,eq_self,IntKind.bits,upd_tmsS,selT_cons,selT_nil,List.length_map,List.getElem?_map,Int.natCast_nonneg,List.length_append,List.map_append]
  · have hij' : ¬ (i : Int) < (j : Int) := fun h => hij (Int.ofNat_lt.1 h)
    obtain rfl : i = n0 := by omega
    by_cases hl : i < L.length
    · have hl' : (i : Int) < (L.length : Int) := Int.ofNat_lt.2 hl
      have hgh : L[i]? = some L[i] := List.getElem?_eq_getElem hl
      obtain ⟨y, hy⟩ : ∃ y, L[i] = y := ⟨_, rfl⟩
      rw [hy] at hgh
      rw [hgh] at hfd
      have hc := pc36 y x
      simp only at hfd
      generalize cmpMp y x = r at hc hfd
      (have hwq := trivial; repeat' (first | simp (maxSteps:=9999999)-implicitDefEqProofs only [go_sem,simprocAttr,hwq,FT3,FT4,FT25,FT32,FT69,FT85,List.length_map,List.getElem?_map,Int.natCast_nonneg,List.length_append,List.map_append,hij',hl',hgh,hfd] | (refine condK_split ?_ ?_ <;> intro hwq) | (refine two_split ?_ ?_) | (refine guardK_split ?_ ?_ <;> intro hwq) | (refine guardE_split ?_ ?_ <;> intro hwq) | (refine awp_drawI 8 [] (List.range 16) [0, 0, 0, 6, 14, 30, 30, 30, 222, 478, 30, 2046, 4094, 8190, 4095, 32767] (by decide +kernel) ?_; have hwq := trivial) | (refine awp_drawW [] (by decide +kernel) ?_; have hwq := trivial) | (refine draw_plain hc rfl (fun _ => rfl) ?_; have hwq := trivial) | fail))
    · have hl' : ¬ (i : Int) < (L.length : Int) := fun h => hl (Int.ofNat_lt.1 h)
      rw [List.getElem?_eq_none (Nat.le_of_not_lt hl)] at hfd
      simp only at hfd
      (have hwq := trivial; repeat' (first | simp (maxSteps:=9999999)-implicitDefEqProofs only [go_sem,simprocAttr,hwq,FT3,FT4,FT25,FT32,FT69,FT85,List.length_map,List.getElem?_map,Int.natCast_nonneg,List.length_append,List.map_append,hij',hl',hfd] | (refine condK_split ?_ ?_ <;> intro hwq) | (refine two_split ?_ ?_) | (refine guardK_split ?_ ?_ <;> intro hwq) | (refine guardE_split ?_ ?_ <;> intro hwq) | (refine awp_drawI 8 [] (List.range 16) [0, 0, 0, 6, 14, 30, 30, 30, 222, 478, 30, 2046, 4094, 8190, 4095, 32767] (by decide +kernel) ?_; have hwq := trivial) | (refine awp_drawW [] (by decide +kernel) ?_; have hwq := trivial) | fail))
def Bs106 (x : Cr) (L : List Cr) (n0 : Nat) (n : Nat) (S : St) : Prop :=
  ∃ (i j : Nat) (mv : List Nat), S = ⟨tms [(0, csV L), (2, .clo (.func 41) [] []), (4, .ptr 0 0 0), (6, vI 0), (7, vB false), (8, vI L.length), (9, vI i), (10, vI j)], [bxCr x], mv⟩ ∧ i ≤ n0 ∧ n0 ≤ j ∧ j ≤ L.length ∧ n = j - i
theorem pc106 (x : Cr) (L : List Cr) (hL : L.length ≤ 1000) (n0 : Nat) (hn0 : n0 ≤ L.length) (hlo : ∀ (k : Nat) (y : Cr), L[k]? = some y → k < n0 → cmpZ y.s x.s < 0) (hhi : ∀ (k : Nat) (y : Cr), L[k]? = some y → n0 ≤ k → ¬ cmpZ y.s x.s < 0) (fd : Bool) (hfd : fd = match L[n0]? with | some y => (cmpZ y.s x.s == 0) | none => false) :
    AC Tryz.prog 106 [csV L, crV x, .clo (.func 41) [] []] [] (eqR (.tuple [vI n0, vB fd])) := by
  refine AC_plain orders Tryz.func106 rfl (by kernel_rfl) (by kernel_rfl) Tryz.ntmps106 (by simp) ?_
  unfold Tryz.f106
  (have hwq := trivial; repeat' (first | simp (maxSteps:=9999999)-implicitDefEqProofs only [go_sem,simprocAttr,hwq,FT3,FT4,FT26,FT34,FT73,FT85,List.length_map,List.getElem?_map,Int.natCast_nonneg,List.length_append,List.map_append] | (refine condK_split ?_ ?_ <;> intro hwq) | (refine two_split ?_ ?_) | (refine guardK_split ?_ ?_ <;> intro hwq) | (refine guardE_split ?_ ?_ <;> intro hwq) | (refine awp_drawI 8 [] (List.range 16) [0, 0, 0, 6, 14, 30, 30, 30, 222, 478, 30, 2046, 4094, 8190, 4095, 32767] (by decide +kernel) ?_; have hwq := trivial) | (refine awp_drawW [] (by decide +kernel) ?_; have hwq := trivial) | fail))
  refine awp_loopK (Bs106 x L n0) L.length _ (Weak.cutI 1 [0, 2, 4, 6, 7, 8, 9, 10] ?_ ?_) ⟨0, L.length, _, rfl, Nat.zero_le _, hn0, Nat.le_refl _, rfl⟩ ?_
  · simp (maxSteps:=9999999)-implicitDefEqProofs only [simprocAttr,QH,Option.isSome,cond_true,cond_false,Option.bind,selB,V.rn,V.rns,Go.Ai.known,V.pz,V.pzs,T.toV,frz1,List.range,List.range.loop,ite_true,ite_false,if_true,if_false,ne_eq,implies_true,forall_const,eq_self,IntKind.bits,upd_tmsS,selT_cons,selT_nil,List.length_map,List.getElem?_map,Int.natCast_nonneg,List.length_append,List.map_append]
  · simp (maxSteps:=9999999)-implicitDefEqProofs only [simprocAttr,QH,Option.isSome,cond_true,cond_false,Option.bind,selB,V.rn,V.rns,Go.Ai.known,V.pz,V.pzs,T.toV,frz1,List.range,List.range.loop,ite_true,ite_false,if_true,if_false,ne_eq,implies_true,forall_const,eq_self,IntKind.bits,upd_tmsS,selT_cons,selT_nil]
  rintro kk S ⟨i, j, mv, rfl, hi, hj, hjL, rfl⟩
  by_cases hij : i < j
  · have hij' : (i : Int) < (j : Int) := Int.ofNat_lt.2 hij
    obtain ⟨h, e0, e1, e2, e3, w1, w2, w3, w4⟩ := half_of hij hjL hL
    have hgh : L[h]? = some L[h] := List.getElem?_eq_getElem e3
    obtain ⟨y, hy⟩ : ∃ y, L[h] = y := ⟨_, rfl⟩
    rw [hy] at hgh
    have hc := pc41 y x
    have hl1 := hlo h y hgh
    have hh1 := hhi h y hgh
    generalize cmpZ y.s x.s = r at hc hl1 hh1
    by_cases hr : r < 0
    · have hhn : h + 1 ≤ n0 := Nat.lt_of_not_le fun hk => hh1 hk hr
      (have hwq := trivial; repeat' (first | simp (maxSteps:=9999999)-implicitDefEqProofs only [go_sem,simprocAttr,hwq,FT3,FT4,FT26,FT34,FT73,FT85,List.length_map,List.getElem?_map,Int.natCast_nonneg,List.length_append,List.map_append,hij',hgh,w1,w2,w3,w4,hr] | (refine condK_split ?_ ?_ <;> intro hwq) | (refine two_split ?_ ?_) | (refine guardK_split ?_ ?_ <;> intro hwq) | (refine guardE_split ?_ ?_ <;> intro hwq) | (refine awp_drawI 8 [] (List.range 16) [0, 0, 0, 6, 14, 30, 30, 30, 222, 478, 30, 2046, 4094, 8190, 4095, 32767] (by decide +kernel) ?_; have hwq := trivial) | (refine awp_drawW [] (by decide +kernel) ?_; have hwq := trivial) | (refine draw_plain hc rfl (fun _ => rfl) ?_; have hwq := trivial) | fail))
      refine ⟨j - (h + 1), _, by omega, Weak.cutI 1 [0, 2, 4, 6, 7, 8, 9, 10] ?_ ?_, h + 1, j, _, rfl, hhn, hj, hjL, rfl⟩
      · simp (maxSteps:=9999999)-implicitDefEqProofs only [simprocAttr,QH,Option.isSome,cond_true,cond_false,Option.bind,selB,V.rn,V.rns,Go.Ai.known,V.pz,V.pzs,T.toV,frz1,List.range,List.range.loop,ite_true,ite_false,if_true,if_false,ne_eq,implies_true,forall_const,eq_self,IntKind.bits,upd_tmsS,selT_cons,selT_nil,List.length_map,List.getElem?_map,Int.natCast_nonneg,List.length_append,List.map_append]
      · simp (maxSteps:=9999999)-implicitDefEqProofs only [simprocAttr,QH,Option.isSome,cond_true,cond_false,Option.bind,selB,V.rn,V.rns,Go.Ai.known,V.pz,V.pzs,T.toV,frz1,List.range,List.range.loop,ite_true,ite_false,if_true,if_false,ne_eq,implies_true,forall_const,eq_self,IntKind.bits,upd_tmsS,selT_cons,selT_nil,List.length_map,List.getElem?_map,Int.natCast_nonneg,List.length_append,List.map_append]
    · have hhn : n0 ≤ h := Nat.le_of_not_lt fun hk => hr (hl1 hk)
      (have hwq := trivial; repeat' (first | simp (maxSteps:=9999999)-implicitDefEqProofs only [go_sem,simprocAttr,hwq,FT3,FT4,FT26,FT34,FT73,FT85,List.length_map,List.getElem?_map,Int.natCast_nonneg,List.length_append,List.map_append,hij',hgh,w1,w2,w3,w4,hr] | (refine condK_split ?_ ?_ <;> intro hwq) | (refine two_split ?_ ?_) | (refine guardK_split ?_ ?_ <;> intro hwq) | (refine guardE_split ?_ ?_ <;> intro hwq) | (refine awp_drawI 8 [] (List.range 16) [0, 0, 0, 6, 14, 30, 30, 30, 222, 478, 30, 2046, 4094, 8190, 4095, 32767] (by decide +kernel) ?_; have hwq := trivial) | (refine awp_drawW [] (by decide +kernel) ?_; have hwq := trivial) | (refine draw_plain hc rfl (fun _ => rfl) ?_; have hwq := trivial) | fail))
      refine ⟨h - i, _, by omega, Weak.cutI 1 [0, 2, 4, 6, 7, 8, 9, 10] ?_ ?_, i, h, _, rfl, hi, hhn, Nat.le_of_lt e3, rfl⟩
      · simp (maxSteps:=9999999)-implicitDefEqProofs only [simprocAttr,QH,Option.isSome,cond_true,cond_false,Option.bind,selB,V.rn,V.rns,Go.Ai.known,V.pz,V.pzs,T.toV,frz1,List.range,List.range.loop,ite_true,ite_false,if_true,if_false,ne_eq,implies_true,forall_const,eq_self,IntKind.bits,upd_tmsS,selT_cons,selT_nil,List.length_map,List.getElem?_map,Int.natCast_nonneg,List.length_append,List.map_append]
      · simp (maxSteps:=9999999)-implicitDefEqProofs only [simprocAttr,QH,Option.isSome,cond_true,cond_false,Option.bind,selB,V.rn,V.rns,Go.Ai.known,V.pz,V.pzs,T.toV,frz1,List.range,List.range.loop,ite_true,ite_false,if_true,if_false,ne_eq,implies_true,forall_const,eq_self,IntKind.bits,upd_tmsS,selT_cons,selT_nil,List.length_map,List.getElem?_map,Int.natCast_nonneg,List.length_append,List.map_append]
  · have hij' : ¬ (i : Int) < (j : Int) := fun h => hij (Int.ofNat_lt.1 h)
    obtain rfl : i = n0 := by omega
    by_cases hl : i < L.length
    · have hl' : (i : Int) < (L.length : Int) := Int.ofNat_lt.2 hl
      have hgh : L[i]? = some L[i] := List.getElem?_eq_getElem hl
      obtain ⟨y, hy⟩ : ∃ y, L[i] = y := ⟨_, rfl⟩
      rw [hy] at hgh
      rw [hgh] at hfd
      have hc := pc41 y x
      simp only at hfd
      generalize cmpZ y.s x.s = r at hc hfd
      (have hwq := trivial; repeat' (first | simp (maxSteps:=9999999)-implicitDefEqProofs only [go_sem,simprocAttr,hwq,FT3,FT4,FT26,FT34,FT73,FT85,List.length_map,List.getElem?_map,Int.natCast_nonneg,List.length_append,List.map_append,hij',hl',hgh,hfd] | (refine condK_split ?_ ?_ <;> intro hwq) | (refine two_split ?_ ?_) | (refine guardK_split ?_ ?_ <;> intro hwq) | (refine guardE_split ?_ ?_ <;> intro hwq) | (refine awp_drawI 8 [] (List.range 16) [0, 0, 0, 6, 14, 30, 30, 30, 222, 478, 30, 2046, 4094, 8190, 4095, 32767] (by decide +kernel) ?_; have hwq := trivial) | (refine awp_drawW [] (by decide +kernel) ?_; have hwq := trivial) | (refine draw_plain hc rfl (fun _ => rfl) ?_; have hwq := trivial) | fail))
    · have hl' : ¬ (i : Int) < (L.length : Int) := fun h => hl (Int.ofNat_lt.1 h)
      rw [List.getElem?_eq_none (Nat.le_of_not_lt hl)] at hfd
      simp only at hfd
      (have hwq := trivial; repeat' (first | simp (maxSteps:=9999999)-implicitDefEqProofs only [go_sem,simprocAttr,hwq,FT3,FT4,FT26,FT34,FT73,FT85,List.length_map,List.getElem?_map,Int.natCast_nonneg,List.length_append,List.map_append,hij',hl',hfd] | (refine condK_split ?_ ?_ <;> intro hwq) | (refine two_split ?_ ?_) | (refine guardK_split ?_ ?_ <;> intro hwq) | (refine guardE_split ?_ ?_ <;> intro hwq) | (refine awp_drawI 8 [] (List.range 16) [0, 0, 0, 6, 14, 30, 30, 30, 222, 478, 30, 2046, 4094, 8190, 4095, 32767] (by decide +kernel) ?_; have hwq := trivial) | (refine awp_drawW [] (by decide +kernel) ?_; have hwq := trivial) | fail))
abbrev bxMb (x : Mb) : Blk := .box [vI x.v, isV x.l] false
def Bs111 (x : Mb) (L : List Mb) (n0 : Nat) (n : Nat) (S : St) : Prop :=
  ∃ (i j : Nat) (mv : List Nat), S = ⟨tms [(0, bsV L), (2, .clo (.func 47) [] []), (4, .ptr 0 0 0), (6, vI 0), (7, vB false), (8, vI L.length), (9, vI i), (10, vI j)], [bxMb x], mv⟩ ∧ i ≤ n0 ∧ n0 ≤ j ∧ j ≤ L.length ∧ n = j - i
theorem pc111 (x : Mb) (L : List Mb) (hL : L.length ≤ 1000) (n0 : Nat) (hn0 : n0 ≤ L.length) (hlo : ∀ (k : Nat) (y : Mb), L[k]? = some y → k < n0 → cmpZ y.v x.v < 0) (hhi : ∀ (k : Nat) (y : Mb), L[k]? = some y → n0 ≤ k → ¬ cmpZ y.v x.v < 0) (fd : Bool) (hfd : fd = match L[n0]? with | some y => (cmpZ y.v x.v == 0) | none => false) :
    AC Tryz.prog 111 [bsV L, mbV x, .clo (.func 47) [] []] [] (eqR (.tuple [vI n0, vB fd])) := by
  refine AC_plain orders Tryz.func111 rfl (by kernel_rfl) (by kernel_rfl) Tryz.ntmps111 (by simp) ?_
  unfold Tryz.f111
  (have hwq := trivial; repeat' (first | simp (maxSteps:=9999999)-implicitDefEqProofs only [go_sem,simprocAttr,hwq,FT3,FT4,FT27,FT35,FT37,FT78,FT85,List.length_map,List.getElem?_map,Int.natCast_nonneg,List.length_append,List.map_append] | (refine condK_split ?_ ?_ <;> intro hwq) | (refine two_split ?_ ?_) | (refine guardK_split ?_ ?_ <;> intro hwq) | (refine guardE_split ?_ ?_ <;> intro hwq) | (refine awp_drawI 8 [] (List.range 16) [0, 0, 0, 6, 14, 30, 30, 30, 222, 478, 30, 2046, 4094, 8190, 4095, 32767] (by decide +kernel) ?_; have hwq := trivial) | (refine awp_drawW [] (by decide +kernel) ?_; have hwq := trivial) | fail))
  refine awp_loopK (Bs111 x L n0) L.length _ (Weak.cutI 1 [0, 2, 4, 6, 7, 8, 9, 10] ?_ ?_) ⟨0, L.length, _, rfl, Nat.zero_le _, hn0, Nat.le_refl _, rfl⟩ ?_
  · simp (maxSteps:=9999999)-implicitDefEqProofs only [simprocAttr,QH,Option.isSome,cond_true,cond_false,Option.bind,selB,V.rn,V.rns,Go.Ai.known,V.pz,V.pzs,T.toV,frz1,List.range,List.range.loop,ite_true,ite_false,if_true,if_false,ne_eq,implies_true,forall_const,eq_self,IntKind.bits,upd_tmsS,selT_cons,selT_nil,List.length_map,List.getElem?_map,Int.natCast_nonneg,List.length_append,List.map_append]
  · simp (maxSteps:=9999999)-implicitDefEqProofs only [simprocAttr,QH,Option.isSome,cond_true,cond_false,Option.bind,selB,V.rn,V.rns,Go.Ai.known,V.pz,V.pzs,T.toV,frz1,List.range,List.range.loop,ite_true,ite_false,if_true,if_false,ne_eq,implies_true,forall_const,eq_self,IntKind.bits,upd_tmsS,selT_cons,selT_nil]
  rintro kk S ⟨i, j, mv, rfl, hi, hj, hjL, rfl⟩
  by_cases hij : i < j
  · have hij' : (i : Int) < (j : Int) := Int.ofNat_lt.2 hij
    obtain ⟨h, e0, e1, e2, e3, w1, w2, w3, w4⟩ := half_of hij hjL hL
    have hgh : L[h]? = some L[h] := List.getElem?_eq_getElem e3
    obtain ⟨y, hy⟩ : ∃ y, L[h] = y := ⟨_, rfl⟩
    rw [hy] at hgh
    have hc := pc47 y x
    have hl1 := hlo h y hgh
    have hh1 := hhi h y hgh
    generalize cmpZ y.v x.v = r at hc hl1 hh1
    by_cases hr : r < 0
    · have hhn : h + 1 ≤ n0 := Nat.lt_of_not_le fun hk => hh1 hk hr
      (have hwq := trivial; repeat' (first | simp (maxSteps:=9999999)-implicitDefEqProofs only [go_sem,simprocAttr,hwq,FT3,FT4,FT27,FT35,FT37,FT78,FT85,List.length_map,List.getElem?_map,Int.natCast_nonneg,List.length_append,List.map_append,hij',hgh,w1,w2,w3,w4,hr] | (refine condK_split ?_ ?_ <;> intro hwq) | (refine two_split ?_ ?_) | (refine guardK_split ?_ ?_ <;> intro hwq) | (refine guardE_split ?_ ?_ <;> intro hwq) | (refine awp_drawI 8 [] (List.range 16) [0, 0, 0, 6, 14, 30, 30, 30, 222, 478, 30, 2046, 4094, 8190, 4095, 32767] (by decide +kernel) ?_; have hwq := trivial) | (refine awp_drawW [] (by decide +kernel) ?_; have hwq := trivial) | (refine draw_plain hc rfl (fun _ => rfl) ?_; have hwq := trivial) | fail))
      refine ⟨j - (h + 1), _, by omega, Weak.cutI 1 [0, 2, 4, 6, 7, 8, 9, 10] ?_ ?_, h + 1, j, _, rfl, hhn, hj, hjL, rfl⟩
      · simp (maxSteps:=9999999)-implicitDefEqProofs only [simprocAttr,QH,Option.isSome,cond_true,cond_false,Option.bind,selB,V.rn,V.rns,Go.Ai.known,V.pz,V.pzs,T.toV,frz1,List.range,List.range.loop,ite_true,ite_false,if_true,if_false,ne_eq,implies_true,forall_const,eq_self,IntKind.bits,upd_tmsS,selT_cons,selT_nil,List.length_map,List.getElem?_map,Int.natCast_nonneg,List.length_append,List.map_append]
      · simp (maxSteps:=9999999)-implicitDefEqProofs only [simprocAttr,QH,Option.isSome,cond_true,cond_false,Option.bind,selB,V.rn,V.rns,Go.Ai.known,V.pz,V.pzs,T.toV,frz1,List.range,List.range.loop,ite_true,ite_false,if_true,if_false,ne_eq,implies_true,forall_const,eq_self,IntKind.bits,upd_tmsS,selT_cons,selT_nil,List.length_map,List.getElem?_map,Int.natCast_nonneg,List.length_append,List.map_append]
    · have hhn : n0 ≤ h := Nat.le_of_not_lt fun hk => hr (hl1 hk)
      (have hwq := trivial; repeat' (first | simp (maxSteps:=9999999)-implicitDefEqProofs only [go_sem,simprocAttr,hwq,FT3,FT4,FT27,FT35,FT37,FT78,FT85,List.length_map,List.getElem?_map,Int.natCast_nonneg,List.length_append,List.map_append,hij',hgh,w1,w2,w3,w4,hr] | (refine condK_split ?_ ?_ <;> intro hwq) | (refine two_split ?_ ?_) | (refine guardK_split ?_ ?_ <;> intro hwq) | (refine guardE_split ?_ ?_ <;> intro hwq) | (refine awp_drawI 8 [] (List.range 16) [0, 0, 0, 6, 14, 30, 30, 30, 222, 478, 30, 2046, 4094, 8190, 4095, 32767] (by decide +kernel) ?_; have hwq := trivial) | (refine awp_drawW [] (by decide +kernel) ?_; have hwq := trivial) | (refine draw_plain hc rfl (fun _ => rfl) ?_; have hwq := trivial) | fail))
      refine ⟨h - i, _, by omega, Weak.cutI 1 [0, 2, 4, 6, 7, 8, 9, 10] ?_ ?_, i, h, _, rfl, hi, hhn, Nat.le_of_lt e3, rfl⟩
      · simp (maxSteps:=9999999)-implicitDefEqProofs only [simprocAttr,QH,Option.isSome,cond_true,cond_false,Option.bind,selB,V.rn,V.rns,Go.Ai.known,V.pz,V.pzs,T.toV,frz1,List.range,List.range.loop,ite_true,ite_false,if_true,if_false,ne_eq,implies_true,forall_const,eq_self,IntKind.bits,upd_tmsS,selT_cons,selT_nil,List.length_map,List.getElem?_map,Int.natCast_nonneg,List.length_append,List.map_append]
      · simp (maxSteps:=9999999)-implicitDefEqProofs only [simprocAttr,QH,Option.isSome,cond_true,cond_false,Option.bind,selB,V.rn,V.rns,Go.Ai.known,V.pz,V.pzs,T.toV,frz1,List.range,List.range.loop,ite_true,ite_false,if_true,if_false,ne_eq,implies_true,forall_const,eq_self,IntKind.bits,upd_tmsS,selT_cons,selT_nil,List.length_map,List.getElem?_map,Int.natCast_nonneg,List.length_append,List.map_append]
  · have hij' : ¬ (i : Int) < (j : Int) := fun h => hij (Int.ofNat_lt.1 h)
    obtain rfl : i = n0 := by omega
    by_cases hl : i < L.length
    · have hl' : (i : Int) < (L.length : Int) := Int.ofNat_lt.2 hl
      have hgh : L[i]? = some L[i] := List.getElem?_eq_getElem hl
      obtain ⟨y, hy⟩ : ∃ y, L[i] = y := ⟨_, rfl⟩
      rw [hy] at hgh
      rw [hgh] at hfd
      have hc := pc47 y x
      simp only at hfd
      generalize cmpZ y.v x.v = r at hc hfd
      (have hwq := trivial; repeat' (first | simp (maxSteps:=9999999)-implicitDefEqProofs only [go_sem,simprocAttr,hwq,FT3,FT4,FT27,FT35,FT37,FT78,FT85,List.length_map,List.getElem?_map,Int.natCast_nonneg,List.length_append,List.map_append,hij',hl',hgh,hfd] | (refine condK_split ?_ ?_ <;> intro hwq) | (refine two_split ?_ ?_) | (refine guardK_split ?_ ?_ <;> intro hwq) | (refine guardE_split ?_ ?_ <;> intro hwq) | (refine awp_drawI 8 [] (List.range 16) [0, 0, 0, 6, 14, 30, 30, 30, 222, 478, 30, 2046, 4094, 8190, 4095, 32767] (by decide +kernel) ?_; have hwq := trivial) | (refine awp_drawW [] (by decide +kernel) ?_; have hwq := trivial) | (refine draw_plain hc rfl (fun _ => rfl) ?_; have hwq := trivial) | fail))
    · have hl' : ¬ (i : Int) < (L.length : Int) := fun h => hl (Int.ofNat_lt.1 h)
      rw [List.getElem?_eq_none (Nat.le_of_not_lt hl)] at hfd
      simp only at hfd
      (have hwq := trivial; repeat' (first | simp (maxSteps:=9999999)-implicitDefEqProofs only [go_sem,simprocAttr,hwq,FT3,FT4,FT27,FT35,FT37,FT78,FT85,List.length_map,List.getElem?_map,Int.natCast_nonneg,List.length_append,List.map_append,hij',hl',hfd] | (refine condK_split ?_ ?_ <;> intro hwq) | (refine two_split ?_ ?_) | (refine guardK_split ?_ ?_ <;> intro hwq) | (refine guardE_split ?_ ?_ <;> intro hwq) | (refine awp_drawI 8 [] (List.range 16) [0, 0, 0, 6, 14, 30, 30, 30, 222, 478, 30, 2046, 4094, 8190, 4095, 32767] (by decide +kernel) ?_; have hwq := trivial) | (refine awp_drawW [] (by decide +kernel) ?_; have hwq := trivial) | fail))
end Go.Ai
