/- Contracts of functions of the loaded program: called with data in the ranges that each names, it returns this value and writes to no old memory. -/
import Derived.Test.YtbiolkmddpkheaaGreatPrvE
set_option linter.unusedVariables false
set_option linter.unusedSimpArgs false
set_option maxHeartbeats 8000000
set_option maxRecDepth 100000
namespace Go.Ai
open Go.Proofs

def mOk (p : Pv) (pre : List Mp) (m : Mp) : Bool := !(pre.any fun x => x.p == m.p && x.s == m.s) && (kindP p.ks m.p == 1 && (decide (vidOk m.v) && hasC p.cs m.s))
def okA (p : Pv) : Bool := kindZ p.own.a p.own.b p.own.c p.own.d p.own.e p.own.f == 1 && (decide (1 ≤ (p.ks.length : Int) ∧ (p.ks.length : Int) ≤ 8) && (decide ((p.ms.length : Int) ≤ 64) && (decide ((p.cs.length : Int) ≤ 64) && decide ((p.bs.length : Int) ≤ 64))))
def okR (p : Pv) : Bool := risB ltMb p.bs && (risB ltCr p.cs && risB beforeB p.ms)
def okQ (p : Pv) : Bool := !(p.ks.any fun x => x != 1 && x != 2) && (!(p.bs.any fun x => !decide (vidOk x.v) || portsE p.ks x.l != 0) && !(p.cs.any fun x => !decide (isidOk x.s) || !hasM p.bs x.v))
def okM (p : Pv) : Bool := (List.range p.ms.length).all fun i => mOk p (p.ms.take i) (p.ms.getD i default)
/-- May it be? -/
def okB (p : Pv) : Bool := okA p && (okR p && (okQ p && okM p))
def checkE (p : Pv) : Int := if okB p = true then 0 else 180
theorem chk_no {p : Pv} (h : okB p = false) : (180 : Int) = checkE p := by unfold checkE; rw [h]; rfl
def ChI (p : Pv) (n : Nat) (S : St) : Prop :=
  ∃ (j : Nat) (mv : List Nat), S = ⟨tms [(1, .ptr 0 0 0), (3, vB true), (52, msV p.ms), (53, vI p.ms.length), (54, vI j)], [bxP p], mv⟩ ∧ j ≤ p.ms.length ∧ n = p.ms.length - j ∧ ∀ i, i < j → mOk p (p.ms.take i) (p.ms.getD i default) = true
theorem pc17 (p : Pv) (hp : okL p) (ho : isB p.own.a) : AC Tryz.prog 17 [pvV p] [] (eqR (vI (checkE p))) := by
  obtain ⟨l1, l2, l3, l4, l5⟩ := hp
  have n58 := pc58 p.own.a p.own.b p.own.c p.own.d p.own.e p.own.f ho
  have n59 := pc59 (p.ks.length : Int) 1 8
  have n60 := pr60 p.bs (by omega)
  have n61 := pr61 p.cs (by omega)
  have n62 := pr62 p.ms (by omega)
  have n63 := pcf63 64 (fun x => x != 1 && x != 2) p.ks (by omega) (fun x _ => pk64 x)
  have n65 := pcf65 66 _ (flat_pv p) (fun x => !decide (vidOk x.v) || portsE p.ks x.l != 0) p.bs (by omega) (fun x hx => pk66 p ⟨l1, l2, l3, l4, l5⟩ x (l5 x hx))
  have n69 := pcf69 70 _ (flat_pv p) (fun x => !decide (isidOk x.s) || !hasM p.bs x.v) p.cs (by omega) (fun x hx => pk70 p ⟨l1, l2, l3, l4, l5⟩ x)
  refine AC_plain orders Tryz.func17 rfl (by kernel_rfl) (by kernel_rfl) Tryz.ntmps17 (by simp) ?_
  unfold Tryz.f17
  have dA : okA p = (kindZ p.own.a p.own.b p.own.c p.own.d p.own.e p.own.f == 1 && (decide (1 ≤ (p.ks.length : Int) ∧ (p.ks.length : Int) ≤ 8) && (decide ((p.ms.length : Int) ≤ 64) && (decide ((p.cs.length : Int) ≤ 64) && decide ((p.bs.length : Int) ≤ 64))))) := rfl
  have dR : okR p = (risB ltMb p.bs && (risB ltCr p.cs && risB beforeB p.ms)) := rfl
  have dQ : okQ p = (!(p.ks.any fun x => x != 1 && x != 2) && (!(p.bs.any fun x => !decide (vidOk x.v) || portsE p.ks x.l != 0) && !(p.cs.any fun x => !decide (isidOk x.s) || !hasM p.bs x.v))) := rfl
  generalize decide (1 ≤ (p.ks.length : Int) ∧ (p.ks.length : Int) ≤ 8) = gb1 at n59 dA
  generalize risB ltMb p.bs = r1 at n60 dR
  generalize risB ltCr p.cs = r2 at n61 dR
  generalize risB beforeB p.ms = r3 at n62 dR
  generalize (p.ks.any fun x => x != 1 && x != 2) = q1 at n63 dQ
  generalize (p.bs.any fun x => !decide (vidOk x.v) || portsE p.ks x.l != 0) = q2 at n65 dQ
  generalize (p.cs.any fun x => !decide (isidOk x.s) || !hasM p.bs x.v) = q3 at n69 dQ
  obtain ⟨gg3, hc3⟩ : ∃ c, decide ((p.ms.length : Int) ≤ 64) = c := ⟨_, rfl⟩
  obtain ⟨gg4, hc4⟩ : ∃ c, decide ((p.cs.length : Int) ≤ 64) = c := ⟨_, rfl⟩
  obtain ⟨gg5, hc5⟩ : ∃ c, decide ((p.bs.length : Int) ≤ 64) = c := ⟨_, rfl⟩
  rw [hc3, hc4, hc5] at dA
  have dB : okB p = (okA p && (okR p && (okQ p && okM p))) := rfl
  (have hwq := trivial; repeat' (first | simp (config := { maxSteps := 10000000, implicitDefEqProofs := false }) only [QH,QR,V.noimm,V.noimms,frzZs,frzZ,frzA,frzV,frzVs,frzBox,boxLen,Option.isSome,cond_true,cond_false,aopD,calW,flatV,stepX,amap,stepY,alookup,afind,aupdate,adelete,amlen,arange,ameq,mapOf,akeq,pl,V.mapT,V.mapTs,Option.bind,stepK,runK,guardD,stepE,runD,callD,compact,selB,callK,evS,ofVal,ofVals,scalar,aop,ares,mkRes,V.rn,V.rns,V.cells?,cellsAt,Go.Ai.part,aload,astore,setL,V.atom,abin,aun,intBin,shiftBin,aconv,fieldOf,aindexAddr,aindex,bound?,aslice,aarr,abuild,afill,alen,nilP,nilS,nilF,aeq,eqCells,eqCell,Go.Ai.known,strBin,abuiltin,aappend,abuildSlice,arowsFill,amakeSlice,acopy,minmax,rowsOf,numsT,notStr,isIntD,isByte,V.pz,V.pzs,T.toV,frz1,frz,scalT,scalTs,chunkT,List.range,List.range.loop,Int.reduceTDiv,Int.reduceTMod,Int.reduceFDiv,UInt8.reduceToNat,Nat.reduceAdd,Nat.reduceMul,Nat.reduceSub,Nat.reduceEqDiff,Nat.reduceLT,Nat.reduceLeDiff,Nat.reducePow,Nat.reduceDiv,Nat.reduceMod,Int.reduceLT,Int.reduceLE,Int.reduceAdd,Int.reduceMul,Int.reduceSub,Int.reduceNeg,Int.reduceToNat,Int.reducePow,Int.reduceEq,↓reduceIte,ite_true,ite_false,if_true,if_false,ne_eq,reduceCtorEq,Int.reduceBEq,Int.reduceBNe,Nat.reduceBEq,Nat.reduceBNe,implies_true,forall_const,eq_self,reduceDIte,IntKind.bits,kPostKF_ret,kPostKF_normal,kPostX_ret,kPostX_normal,bsl,nil2K,nil2,kPostFW_ret,kPostFW_normal,kPostKM_ret,kPostKM_normal,kPostXK_ret,kPostXK_normal,hwq,FT3,FT4,FT5,FT23,FT24,FT25,FT26,FT27,FT29,FT32,FT34,FT35,FT37,FT46,FT59,FT69,FT73,FT78,FT86,FT93,FT97,FT99,FT101,List.length_map,List.getElem?_map,Int.natCast_nonneg,List.length_append,List.map_append,hc3,hc4,hc5] | (refine condK_split ?_ ?_ <;> intro hwq) | (refine two_split ?_ ?_) | (refine guardK_split ?_ ?_ <;> intro hwq) | (refine guardE_split ?_ ?_ <;> intro hwq) | (refine awp_drawW [] (by decide +kernel) ?_; have hwq := trivial) | (refine call_plain n58 rfl rfl ?_; have hwq := trivial) | (refine call_plain n59 rfl rfl ?_; have hwq := trivial) | (refine call_plain n60 rfl rfl ?_; have hwq := trivial) | (refine call_plain n61 rfl rfl ?_; have hwq := trivial) | (refine call_plain n62 rfl rfl ?_; have hwq := trivial) | (refine call_plain n63 rfl rfl ?_; have hwq := trivial) | (refine call_at [0] n65 (by simp) (by decide) rfl rfl (by simp [mapT_box, V.mapTs, V.mapT, pl]) (by simp [V.les, V.le, V.mapTs, V.mapT, pl]) ?_; have hwq := trivial) | (refine call_at [0] n69 (by simp) (by decide) rfl rfl (by simp [mapT_box, V.mapTs, V.mapT, pl]) (by simp [V.les, V.le, V.mapTs, V.mapT, pl]) ?_; have hwq := trivial) | fail))
  all_goals first
    | (clear hc3 hc4 hc5; refine chk_no ?_; rw [dB, dA, dR, dQ]; simp_all; done)
    | skip
  have h3 : r3 = true := by simp_all
  subst h3
  have hok : (okA p && (okR p && okQ p)) = true := by clear hc3 hc4 hc5; rw [dA, dR, dQ]; simp_all
  refine awp_loopK (ChI p) p.ms.length _ (Weak.cutI 1 [1, 3, 52, 53, 54] ?_ ?_) ⟨0, _, rfl, by omega, rfl, by simp⟩ ?_
  · simp (config := { maxSteps := 10000000, implicitDefEqProofs := false }) only [QH,Option.isSome,cond_true,cond_false,Option.bind,selB,V.rn,V.rns,Go.Ai.known,V.pz,V.pzs,T.toV,frz1,List.range,List.range.loop,Nat.reduceAdd,Nat.reduceMul,Nat.reduceSub,Nat.reduceEqDiff,Nat.reduceLT,Nat.reduceLeDiff,Nat.reducePow,Nat.reduceDiv,Nat.reduceMod,Int.reduceLT,Int.reduceLE,Int.reduceAdd,Int.reduceMul,Int.reduceSub,Int.reduceNeg,Int.reducePow,Int.reduceEq,↓reduceIte,ite_true,ite_false,if_true,if_false,ne_eq,reduceCtorEq,Int.reduceBEq,Int.reduceBNe,Nat.reduceBEq,Nat.reduceBNe,implies_true,forall_const,eq_self,IntKind.bits,upd_tmsS,selT_cons,selT_nil,List.length_map,List.getElem?_map,Int.natCast_nonneg,List.length_append,List.map_append]
  · simp (config := { maxSteps := 10000000, implicitDefEqProofs := false }) only [QH,Option.isSome,cond_true,cond_false,Option.bind,selB,V.rn,V.rns,Go.Ai.known,V.pz,V.pzs,T.toV,frz1,List.range,List.range.loop,Nat.reduceAdd,Nat.reduceMul,Nat.reduceSub,Nat.reduceEqDiff,Nat.reduceLT,Nat.reduceLeDiff,Nat.reducePow,Nat.reduceDiv,Nat.reduceMod,Int.reduceLT,Int.reduceLE,Int.reduceAdd,Int.reduceMul,Int.reduceSub,Int.reduceNeg,Int.reducePow,Int.reduceEq,↓reduceIte,ite_true,ite_false,if_true,if_false,ne_eq,reduceCtorEq,Int.reduceBEq,Int.reduceBNe,Nat.reduceBEq,Nat.reduceBNe,implies_true,forall_const,eq_self,IntKind.bits,upd_tmsS,selT_cons,selT_nil]
  rintro kk S ⟨j, mv, rfl, hj, rfl, hno⟩
  have wj : IntKind.i64.wrap ((j : Int) + 1) = (j : Int) + 1 := wI64 _ (by omega) (by omega)
  by_cases hjl : j < p.ms.length
  · have hjl' : (j : Int) < (p.ms.length : Int) := by omega
    have hgj : p.ms[j]? = some p.ms[j] := List.getElem?_eq_getElem hjl
    obtain ⟨m, hm⟩ : ∃ m, p.ms[j] = m := ⟨_, rfl⟩
    rw [hm] at hgj
    have hd : p.ms.getD j default = m := by rw [List.getD_eq_getElem?_getD, hgj]; rfl
    have htk : List.take j (List.map mpT p.ms) = List.map mpT (p.ms.take j) := by rw [List.map_take]
    have hjle : j ≤ p.ms.length := hj
    have n72 := pcf72 73 _ (flat_mp m) (fun x => x.p == m.p && x.s == m.s) (p.ms.take j) (by rw [List.length_take]; omega) (fun x _ => pk73 x m)
    have n74 := pc74 p (by omega) m.p
    have n67 := pc67 m.v
    have n75 := pc75 p ⟨l1, l2, l3, l4, l5⟩ m.s
    have dM : mOk p (p.ms.take j) m = (!((p.ms.take j).any fun x => x.p == m.p && x.s == m.s) && (kindP p.ks m.p == 1 && (decide (vidOk m.v) && hasC p.cs m.s))) := rfl
    generalize ((p.ms.take j).any fun x => x.p == m.p && x.s == m.s) = m1 at n72 dM
    generalize decide (vidOk m.v) = m3 at n67 dM
    generalize hasC p.cs m.s = m4 at n75 dM
    have bad : mOk p (p.ms.take j) m = false → okB p = false := by
      intro h
      have : okM p = false := by
        rw [Bool.eq_false_iff]
        intro hc
        have := List.all_eq_true.1 hc j (List.mem_range.2 hjl)
        rw [hd, h] at this
        simp at this
      rw [dB, this]
      simp
    (have hwq := trivial; repeat' (first | simp (config := { maxSteps := 10000000, implicitDefEqProofs := false }) only [QH,QR,V.noimm,V.noimms,frzZs,frzZ,frzA,frzV,frzVs,frzBox,boxLen,Option.isSome,cond_true,cond_false,aopD,calW,flatV,stepX,amap,stepY,alookup,afind,aupdate,adelete,amlen,arange,ameq,mapOf,akeq,pl,V.mapT,V.mapTs,Option.bind,stepK,runK,guardD,stepE,runD,callD,compact,selB,callK,evS,ofVal,ofVals,scalar,aop,ares,mkRes,V.rn,V.rns,V.cells?,cellsAt,Go.Ai.part,aload,astore,setL,V.atom,abin,aun,intBin,shiftBin,aconv,fieldOf,aindexAddr,aindex,bound?,aslice,aarr,abuild,afill,alen,nilP,nilS,nilF,aeq,eqCells,eqCell,Go.Ai.known,strBin,abuiltin,aappend,abuildSlice,arowsFill,amakeSlice,acopy,minmax,rowsOf,numsT,notStr,isIntD,isByte,V.pz,V.pzs,T.toV,frz1,frz,scalT,scalTs,chunkT,List.range,List.range.loop,Int.reduceTDiv,Int.reduceTMod,Int.reduceFDiv,UInt8.reduceToNat,Nat.reduceAdd,Nat.reduceMul,Nat.reduceSub,Nat.reduceEqDiff,Nat.reduceLT,Nat.reduceLeDiff,Nat.reducePow,Nat.reduceDiv,Nat.reduceMod,Int.reduceLT,Int.reduceLE,Int.reduceAdd,Int.reduceMul,Int.reduceSub,Int.reduceNeg,Int.reduceToNat,Int.reducePow,Int.reduceEq,↓reduceIte,ite_true,ite_false,if_true,if_false,ne_eq,reduceCtorEq,Int.reduceBEq,Int.reduceBNe,Nat.reduceBEq,Nat.reduceBNe,implies_true,forall_const,eq_self,reduceDIte,IntKind.bits,kPostKF_ret,kPostKF_normal,kPostX_ret,kPostX_normal,bsl,nil2K,nil2,kPostFW_ret,kPostFW_normal,kPostKM_ret,kPostKM_normal,kPostXK_ret,kPostXK_normal,hwq,FT3,FT4,FT5,FT23,FT24,FT25,FT26,FT27,FT29,FT32,FT34,FT35,FT37,FT46,FT59,FT69,FT73,FT78,FT86,FT93,FT97,FT99,FT101,List.length_map,List.getElem?_map,Int.natCast_nonneg,List.length_append,List.map_append,hjl',hjle,hgj,wj,htk,Nat.zero_le,Nat.sub_zero] | (refine condK_split ?_ ?_ <;> intro hwq) | (refine two_split ?_ ?_) | (refine guardK_split ?_ ?_ <;> intro hwq) | (refine guardE_split ?_ ?_ <;> intro hwq) | (refine awp_drawW [] (by decide +kernel) ?_; have hwq := trivial) | (refine call_at [1] n72 (by simp) (by decide) rfl rfl (by simp [mapT_box, V.mapTs, V.mapT, pl]) (by simp [V.les, V.le, V.mapTs, V.mapT, pl]) ?_; have hwq := trivial) | (refine call_plain n74 rfl rfl ?_; have hwq := trivial) | (refine call_plain n67 rfl rfl ?_; have hwq := trivial) | (refine call_plain n75 rfl rfl ?_; have hwq := trivial) | fail))
    all_goals first
      | (refine chk_no (bad ?_); rw [dM]; simp_all; done)
      | skip
    refine ⟨p.ms.length - (j + 1), _, by omega, Weak.cutI 1 [1, 3, 52, 53, 54] ?_ ?_, j + 1, _, rfl, by omega, rfl, fun i hi => ?_⟩
    · simp (config := { maxSteps := 10000000, implicitDefEqProofs := false }) only [QH,Option.isSome,cond_true,cond_false,Option.bind,selB,V.rn,V.rns,Go.Ai.known,V.pz,V.pzs,T.toV,frz1,List.range,List.range.loop,Nat.reduceAdd,Nat.reduceMul,Nat.reduceSub,Nat.reduceEqDiff,Nat.reduceLT,Nat.reduceLeDiff,Nat.reducePow,Nat.reduceDiv,Nat.reduceMod,Int.reduceLT,Int.reduceLE,Int.reduceAdd,Int.reduceMul,Int.reduceSub,Int.reduceNeg,Int.reducePow,Int.reduceEq,↓reduceIte,ite_true,ite_false,if_true,if_false,ne_eq,reduceCtorEq,Int.reduceBEq,Int.reduceBNe,Nat.reduceBEq,Nat.reduceBNe,implies_true,forall_const,eq_self,IntKind.bits,upd_tmsS,selT_cons,selT_nil,List.length_map,List.getElem?_map,Int.natCast_nonneg,List.length_append,List.map_append]
    · simp (config := { maxSteps := 10000000, implicitDefEqProofs := false }) only [QH,Option.isSome,cond_true,cond_false,Option.bind,selB,V.rn,V.rns,Go.Ai.known,V.pz,V.pzs,T.toV,frz1,List.range,List.range.loop,Nat.reduceAdd,Nat.reduceMul,Nat.reduceSub,Nat.reduceEqDiff,Nat.reduceLT,Nat.reduceLeDiff,Nat.reducePow,Nat.reduceDiv,Nat.reduceMod,Int.reduceLT,Int.reduceLE,Int.reduceAdd,Int.reduceMul,Int.reduceSub,Int.reduceNeg,Int.reducePow,Int.reduceEq,↓reduceIte,ite_true,ite_false,if_true,if_false,ne_eq,reduceCtorEq,Int.reduceBEq,Int.reduceBNe,Nat.reduceBEq,Nat.reduceBNe,implies_true,forall_const,eq_self,IntKind.bits,upd_tmsS,selT_cons,selT_nil,List.length_map,List.getElem?_map,Int.natCast_nonneg,List.length_append,List.map_append]
    · by_cases hij : i < j
      · exact hno i hij
      · obtain rfl : i = j := by omega
        rw [hd, dM]
        simp_all
  · have hjl' : ¬ (j : Int) < (p.ms.length : Int) := by omega
    have hM : okM p = true := List.all_eq_true.2 fun i hi => hno i (by have := List.mem_range.1 hi; omega)
    have he : checkE p = 0 := by
      unfold checkE
      have e : okB p = true := by
        rw [dB, hM, Bool.and_true]
        exact hok
      rw [e]
      rfl
    rw [he]
    (have hwq := trivial; repeat' (first | simp (config := { maxSteps := 10000000, implicitDefEqProofs := false }) only [QH,QR,V.noimm,V.noimms,frzZs,frzZ,frzA,frzV,frzVs,frzBox,boxLen,Option.isSome,cond_true,cond_false,aopD,calW,flatV,stepX,amap,stepY,alookup,afind,aupdate,adelete,amlen,arange,ameq,mapOf,akeq,pl,V.mapT,V.mapTs,Option.bind,stepK,runK,guardD,stepE,runD,callD,compact,selB,callK,evS,ofVal,ofVals,scalar,aop,ares,mkRes,V.rn,V.rns,V.cells?,cellsAt,Go.Ai.part,aload,astore,setL,V.atom,abin,aun,intBin,shiftBin,aconv,fieldOf,aindexAddr,aindex,bound?,aslice,aarr,abuild,afill,alen,nilP,nilS,nilF,aeq,eqCells,eqCell,Go.Ai.known,strBin,abuiltin,aappend,abuildSlice,arowsFill,amakeSlice,acopy,minmax,rowsOf,numsT,notStr,isIntD,isByte,V.pz,V.pzs,T.toV,frz1,frz,scalT,scalTs,chunkT,List.range,List.range.loop,Int.reduceTDiv,Int.reduceTMod,Int.reduceFDiv,UInt8.reduceToNat,Nat.reduceAdd,Nat.reduceMul,Nat.reduceSub,Nat.reduceEqDiff,Nat.reduceLT,Nat.reduceLeDiff,Nat.reducePow,Nat.reduceDiv,Nat.reduceMod,Int.reduceLT,Int.reduceLE,Int.reduceAdd,Int.reduceMul,Int.reduceSub,Int.reduceNeg,Int.reduceToNat,Int.reducePow,Int.reduceEq,↓reduceIte,ite_true,ite_false,if_true,if_false,ne_eq,reduceCtorEq,Int.reduceBEq,Int.reduceBNe,Nat.reduceBEq,Nat.reduceBNe,implies_true,forall_const,eq_self,reduceDIte,IntKind.bits,kPostKF_ret,kPostKF_normal,kPostX_ret,kPostX_normal,bsl,nil2K,nil2,kPostFW_ret,kPostFW_normal,kPostKM_ret,kPostKM_normal,kPostXK_ret,kPostXK_normal,hwq,FT3,FT4,FT5,FT23,FT24,FT25,FT26,FT27,FT29,FT32,FT34,FT35,FT37,FT46,FT59,FT69,FT73,FT78,FT86,FT93,FT97,FT99,FT101,List.length_map,List.getElem?_map,Int.natCast_nonneg,List.length_append,List.map_append,hjl'] | (refine condK_split ?_ ?_ <;> intro hwq) | (refine two_split ?_ ?_) | (refine guardK_split ?_ ?_ <;> intro hwq) | (refine guardE_split ?_ ?_ <;> intro hwq) | (refine awp_drawW [] (by decide +kernel) ?_; have hwq := trivial) | fail))
end Go.Ai
