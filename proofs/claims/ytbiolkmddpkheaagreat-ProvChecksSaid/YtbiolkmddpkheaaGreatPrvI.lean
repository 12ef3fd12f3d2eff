/- Contracts of functions of the loaded program: called with data in the ranges that each names, it returns this value and writes to no old memory. -/
import Derived.Test.YtbiolkmddpkheaaGreatPrvH
set_option linter.unusedVariables false
set_option linter.unusedSimpArgs false
set_option maxHeartbeats 8000000
set_option maxRecDepth 100000
namespace Go.Ai
open Go.Proofs

def mbOk (p : Pv) (x : Mb) : Bool := decide (vidOk x.v) && (risB ltI x.l && !(x.l.any fun y => kindP p.ks y != 2))
def refM (p : Pv) : Bool := !(p.bs.any fun x => !mbOk p x) && (risB ltI (p.bs.map (·.v)) && decide ((p.bs.length : Int) ≤ 64))
def crOk (p : Pv) (x : Cr) : Bool := decide (isidOk x.s) && hasM p.bs x.v
def refC (p : Pv) : Bool := !(p.cs.any fun x => !crOk p x) && (risB ltI (p.cs.map (·.s)) && decide ((p.cs.length : Int) ≤ 64))
theorem hasM_find (bs : List Mb) (n : Int) : hasM bs n = (bs.find? fun x => x.v == n).isSome := by
  unfold hasM
  rw [Bool.eq_iff_iff, List.any_eq_true, List.find?_isSome]
theorem hasC_find (cs : List Cr) (n : Int) : hasC cs n = (cs.find? fun x => x.s == n).isSome := by
  unfold hasC
  rw [Bool.eq_iff_iff, List.any_eq_true, List.find?_isSome]
theorem frz_ids (b : Blk) (N : List Int) : frzVs false [b, .rows 1 (N.map inT) false] [.own 1 0 N.length] = some ([isV N], [b, .rows 1 (N.map inT) true]) := by
  have : List.take N.length (N.map inT) = N.map inT := List.take_of_length_le (by simp)
  simp [frzVs, frzV, frz1, T.toV, this]
def Lo84 (p : Pv) (n : Nat) (S : St) : Prop :=
  ∃ (j : Nat) (N : List Int) (mv : List Nat), S = ⟨tms [(1, .ptr 0 0 0), (3, .own 1 0 N.length), (4, vI j)], [bxP p, .rows 1 (N.map inT) false], mv⟩ ∧ N = (p.bs.take j).map (·.v) ∧ j ≤ p.bs.length ∧ n = p.bs.length - j ∧ ∀ x ∈ p.bs.take j, (!mbOk p x) = false
theorem pc84 (p : Pv) (hp : okL p) : AC Tryz.prog 84 [pvV p] [] (eqR (vB (refM p))) := by
  obtain ⟨l1, l2, l3, l4, l5⟩ := hp
  refine AC_plain orders Tryz.func84 rfl (by kernel_rfl) (by kernel_rfl) Tryz.ntmps84 (by simp) ?_
  unfold Tryz.f84
  (have hwq := trivial; repeat' (first | simp (config := { maxSteps := 10000000, implicitDefEqProofs := false }) only [QH,QR,V.noimm,V.noimms,frzZs,frzZ,frzA,frzV,frzVs,frzBox,boxLen,Option.isSome,cond_true,cond_false,aopD,calW,flatV,stepX,amap,stepY,alookup,afind,aupdate,adelete,amlen,arange,ameq,mapOf,akeq,pl,V.mapT,V.mapTs,Option.bind,stepK,runK,guardD,stepE,runD,callD,compact,selB,callK,evS,ofVal,ofVals,scalar,aop,ares,mkRes,V.rn,V.rns,V.cells?,cellsAt,Go.Ai.part,aload,astore,setL,V.atom,abin,aun,intBin,shiftBin,aconv,fieldOf,aindexAddr,aindex,bound?,aslice,aarr,abuild,afill,alen,nilP,nilS,nilF,aeq,eqCells,eqCell,Go.Ai.known,strBin,abuiltin,aappend,abuildSlice,arowsFill,amakeSlice,acopy,minmax,rowsOf,numsT,notStr,isIntD,isByte,V.pz,V.pzs,T.toV,frz1,frz,scalT,scalTs,chunkT,List.range,List.range.loop,Int.reduceTDiv,Int.reduceTMod,Int.reduceFDiv,UInt8.reduceToNat,Nat.reduceAdd,Nat.reduceMul,Nat.reduceSub,Nat.reduceEqDiff,Nat.reduceLT,Nat.reduceLeDiff,Nat.reducePow,Nat.reduceDiv,Nat.reduceMod,Int.reduceLT,Int.reduceLE,Int.reduceAdd,Int.reduceMul,Int.reduceSub,Int.reduceNeg,Int.reduceToNat,Int.reducePow,Int.reduceEq,↓reduceIte,ite_true,ite_false,if_true,if_false,ne_eq,reduceCtorEq,Int.reduceBEq,Int.reduceBNe,Nat.reduceBEq,Nat.reduceBNe,implies_true,forall_const,eq_self,reduceDIte,IntKind.bits,kPostKF_ret,kPostKF_normal,kPostX_ret,kPostX_normal,bsl,nil2K,nil2,kPostFW_ret,kPostFW_normal,kPostKM_ret,kPostKM_normal,kPostXK_ret,kPostXK_normal,hwq,FT3,FT4,FT5,FT23,FT24,FT25,FT26,FT27,FT29,FT32,FT34,FT35,FT37,FT59] | (refine condK_split ?_ ?_ <;> intro hwq) | (refine two_split ?_ ?_) | (refine guardK_split ?_ ?_ <;> intro hwq) | (refine guardE_split ?_ ?_ <;> intro hwq) | (refine awp_drawW [] (by decide +kernel) ?_; have hwq := trivial) | fail))
  refine awp_loopK (Lo84 p) p.bs.length _ (Weak.trans (Weak.virt 3 1 (.inl rfl)) (Weak.cutI 2 [1, 3, 4] ?_ ?_)) ⟨0, [], _, rfl, by simp, by omega, rfl, by simp⟩ ?_
  · simp (config := { maxSteps := 10000000, implicitDefEqProofs := false }) only [QH,Option.isSome,cond_true,cond_false,Option.bind,selB,V.rn,V.rns,Go.Ai.known,V.pz,V.pzs,T.toV,frz1,List.range,List.range.loop,Nat.reduceAdd,Nat.reduceMul,Nat.reduceSub,Nat.reduceEqDiff,Nat.reduceLT,Nat.reduceLeDiff,Nat.reducePow,Nat.reduceDiv,Nat.reduceMod,Int.reduceLT,Int.reduceLE,Int.reduceAdd,Int.reduceMul,Int.reduceSub,Int.reduceNeg,Int.reducePow,Int.reduceEq,↓reduceIte,ite_true,ite_false,if_true,if_false,ne_eq,reduceCtorEq,Int.reduceBEq,Int.reduceBNe,Nat.reduceBEq,Nat.reduceBNe,implies_true,forall_const,eq_self,IntKind.bits,upd_tmsS,selT_cons,selT_nil]
  · simp (config := { maxSteps := 10000000, implicitDefEqProofs := false }) only [QH,Option.isSome,cond_true,cond_false,Option.bind,selB,V.rn,V.rns,Go.Ai.known,V.pz,V.pzs,T.toV,frz1,List.range,List.range.loop,Nat.reduceAdd,Nat.reduceMul,Nat.reduceSub,Nat.reduceEqDiff,Nat.reduceLT,Nat.reduceLeDiff,Nat.reducePow,Nat.reduceDiv,Nat.reduceMod,Int.reduceLT,Int.reduceLE,Int.reduceAdd,Int.reduceMul,Int.reduceSub,Int.reduceNeg,Int.reducePow,Int.reduceEq,↓reduceIte,ite_true,ite_false,if_true,if_false,ne_eq,reduceCtorEq,Int.reduceBEq,Int.reduceBNe,Nat.reduceBEq,Nat.reduceBNe,implies_true,forall_const,eq_self,IntKind.bits,upd_tmsS,selT_cons,selT_nil]
  rintro kk S ⟨j, N, mv, rfl, hN, hj, rfl, hno⟩
  have hNl : N.length = j := by rw [hN]; simp; omega
  have zs : (N.length + 1) * 8 ≤ 140737488355328 := by omega
  have wj : IntKind.i64.wrap ((j : Int) + 1) = (j : Int) + 1 := wI64 _ (by omega) (by omega)
  by_cases hjl : j < p.bs.length
  · have hjl' : (j : Int) < (p.bs.length : Int) := by omega
    have hgj : p.bs[j]? = some p.bs[j] := List.getElem?_eq_getElem hjl
    obtain ⟨x, hx⟩ : ∃ x, p.bs[j] = x := ⟨_, rfl⟩
    rw [hx] at hgj
    have hNx : N ++ [x.v] = (p.bs.take (j + 1)).map (·.v) := by rw [take_in hgj, List.map_append, hN]; rfl
    have n116 := pc116 x.v
    have n119 := pc119 x.l (by have := l5 x (mem_in hgj); omega)
    have n120 := pc120 p ⟨l1, l2, l3, l4, l5⟩ x.l (l5 x (mem_in hgj)) 2 (by decide)
    have dk : mbOk p x = (decide (vidOk x.v) && (risB ltI x.l && !(x.l.any fun y => kindP p.ks y != 2))) := rfl
    generalize decide (vidOk x.v) = m1 at n116 dk
    generalize risB ltI x.l = m2 at n119 dk
    generalize (!(x.l.any fun y => kindP p.ks y != 2)) = m3 at n120 dk
    have stop : mbOk p x = false → refM p = false := fun h => by
      unfold refM
      rw [any_some (q := fun x => !mbOk p x) hgj (by simp [h])]
      rfl
    (have hwq := trivial; repeat' (first | simp (config := { maxSteps := 10000000, implicitDefEqProofs := false }) only [QH,QR,V.noimm,V.noimms,frzZs,frzZ,frzA,frzV,frzVs,frzBox,boxLen,Option.isSome,cond_true,cond_false,aopD,calW,flatV,stepX,amap,stepY,alookup,afind,aupdate,adelete,amlen,arange,ameq,mapOf,akeq,pl,V.mapT,V.mapTs,Option.bind,stepK,runK,guardD,stepE,runD,callD,compact,selB,callK,evS,ofVal,ofVals,scalar,aop,ares,mkRes,V.rn,V.rns,V.cells?,cellsAt,Go.Ai.part,aload,astore,setL,V.atom,abin,aun,intBin,shiftBin,aconv,fieldOf,aindexAddr,aindex,bound?,aslice,aarr,abuild,afill,alen,nilP,nilS,nilF,aeq,eqCells,eqCell,Go.Ai.known,strBin,abuiltin,aappend,abuildSlice,arowsFill,amakeSlice,acopy,minmax,rowsOf,numsT,notStr,isIntD,isByte,V.pz,V.pzs,T.toV,frz1,frz,scalT,scalTs,chunkT,List.range,List.range.loop,Int.reduceTDiv,Int.reduceTMod,Int.reduceFDiv,UInt8.reduceToNat,Nat.reduceAdd,Nat.reduceMul,Nat.reduceSub,Nat.reduceEqDiff,Nat.reduceLT,Nat.reduceLeDiff,Nat.reducePow,Nat.reduceDiv,Nat.reduceMod,Int.reduceLT,Int.reduceLE,Int.reduceAdd,Int.reduceMul,Int.reduceSub,Int.reduceNeg,Int.reduceToNat,Int.reducePow,Int.reduceEq,↓reduceIte,ite_true,ite_false,if_true,if_false,ne_eq,reduceCtorEq,Int.reduceBEq,Int.reduceBNe,Nat.reduceBEq,Nat.reduceBNe,implies_true,forall_const,eq_self,reduceDIte,IntKind.bits,kPostKF_ret,kPostKF_normal,kPostX_ret,kPostX_normal,bsl,nil2K,nil2,kPostFW_ret,kPostFW_normal,kPostKM_ret,kPostKM_normal,kPostXK_ret,kPostXK_normal,hwq,FT3,FT4,FT5,FT23,FT24,FT25,FT26,FT27,FT29,FT32,FT34,FT35,FT37,FT59,List.length_map,List.getElem?_map,Int.natCast_nonneg,List.length_append,List.map_append,hjl',hgj,wj,zs] | (refine condK_split ?_ ?_ <;> intro hwq) | (refine two_split ?_ ?_) | (refine guardK_split ?_ ?_ <;> intro hwq) | (refine guardE_split ?_ ?_ <;> intro hwq) | (refine awp_drawW [] (by decide +kernel) ?_; have hwq := trivial) | (refine call_plain n116 rfl rfl ?_; have hwq := trivial) | (refine call_plain n119 rfl rfl ?_; have hwq := trivial) | (refine call_plain n120 rfl rfl ?_; have hwq := trivial) | fail))
    all_goals first
      | (rw [stop (by first | exact dk | (rw [dk]; simp_all))]; done)
      | skip
    refine ⟨p.bs.length - (j + 1), _, by omega, Weak.cutI 2 [1, 3, 4] ?_ ?_, j + 1, N ++ [x.v], _, rfl, hNx, by omega, rfl, take_more hno hgj (by rw [dk]; simp_all)⟩
    · simp (config := { maxSteps := 10000000, implicitDefEqProofs := false }) only [QH,Option.isSome,cond_true,cond_false,Option.bind,selB,V.rn,V.rns,Go.Ai.known,V.pz,V.pzs,T.toV,frz1,List.range,List.range.loop,Nat.reduceAdd,Nat.reduceMul,Nat.reduceSub,Nat.reduceEqDiff,Nat.reduceLT,Nat.reduceLeDiff,Nat.reducePow,Nat.reduceDiv,Nat.reduceMod,Int.reduceLT,Int.reduceLE,Int.reduceAdd,Int.reduceMul,Int.reduceSub,Int.reduceNeg,Int.reducePow,Int.reduceEq,↓reduceIte,ite_true,ite_false,if_true,if_false,ne_eq,reduceCtorEq,Int.reduceBEq,Int.reduceBNe,Nat.reduceBEq,Nat.reduceBNe,implies_true,forall_const,eq_self,IntKind.bits,upd_tmsS,selT_cons,selT_nil,List.length_map,List.getElem?_map,Int.natCast_nonneg,List.length_append,List.map_append,List.length_cons,List.length_nil,List.map_cons,List.map_nil]
    · simp (config := { maxSteps := 10000000, implicitDefEqProofs := false }) only [QH,Option.isSome,cond_true,cond_false,Option.bind,selB,V.rn,V.rns,Go.Ai.known,V.pz,V.pzs,T.toV,frz1,List.range,List.range.loop,Nat.reduceAdd,Nat.reduceMul,Nat.reduceSub,Nat.reduceEqDiff,Nat.reduceLT,Nat.reduceLeDiff,Nat.reducePow,Nat.reduceDiv,Nat.reduceMod,Int.reduceLT,Int.reduceLE,Int.reduceAdd,Int.reduceMul,Int.reduceSub,Int.reduceNeg,Int.reducePow,Int.reduceEq,↓reduceIte,ite_true,ite_false,if_true,if_false,ne_eq,reduceCtorEq,Int.reduceBEq,Int.reduceBNe,Nat.reduceBEq,Nat.reduceBNe,implies_true,forall_const,eq_self,IntKind.bits,upd_tmsS,selT_cons,selT_nil,List.length_map,List.getElem?_map,Int.natCast_nonneg,List.length_append,List.map_append,List.length_cons,List.length_nil,List.map_cons,List.map_nil]
  · have hjl' : ¬ (j : Int) < (p.bs.length : Int) := by omega
    have hje : j = p.bs.length := by omega
    rw [hje, List.take_length] at hN hno
    have hfz := frz_ids (bxP p) N
    have n119 := pc119 N (by omega)
    have hNl' : (N.length : Int) = (p.bs.length : Int) := by omega
    have he : refM p = (risB ltI N && decide ((p.bs.length : Int) ≤ 64)) := by
      unfold refM
      rw [any_none (q := fun x => !mbOk p x) hno, ← hN]
      rfl
    rw [he]
    generalize risB ltI N = r at n119
    (have hwq := trivial; repeat' (first | simp (config := { maxSteps := 10000000, implicitDefEqProofs := false }) only [QH,QR,V.noimm,V.noimms,frzZs,frzZ,frzA,frzV,frzVs,frzBox,boxLen,Option.isSome,cond_true,cond_false,aopD,calW,flatV,stepX,amap,stepY,alookup,afind,aupdate,adelete,amlen,arange,ameq,mapOf,akeq,pl,V.mapT,V.mapTs,Option.bind,stepK,runK,guardD,stepE,runD,callD,compact,selB,callK,evS,ofVal,ofVals,scalar,aop,ares,mkRes,V.rn,V.rns,V.cells?,cellsAt,Go.Ai.part,aload,astore,setL,V.atom,abin,aun,intBin,shiftBin,aconv,fieldOf,aindexAddr,aindex,bound?,aslice,aarr,abuild,afill,alen,nilP,nilS,nilF,aeq,eqCells,eqCell,Go.Ai.known,strBin,abuiltin,aappend,abuildSlice,arowsFill,amakeSlice,acopy,minmax,rowsOf,numsT,notStr,isIntD,isByte,V.pz,V.pzs,T.toV,frz1,frz,scalT,scalTs,chunkT,List.range,List.range.loop,Int.reduceTDiv,Int.reduceTMod,Int.reduceFDiv,UInt8.reduceToNat,Nat.reduceAdd,Nat.reduceMul,Nat.reduceSub,Nat.reduceEqDiff,Nat.reduceLT,Nat.reduceLeDiff,Nat.reducePow,Nat.reduceDiv,Nat.reduceMod,Int.reduceLT,Int.reduceLE,Int.reduceAdd,Int.reduceMul,Int.reduceSub,Int.reduceNeg,Int.reduceToNat,Int.reducePow,Int.reduceEq,↓reduceIte,ite_true,ite_false,if_true,if_false,ne_eq,reduceCtorEq,Int.reduceBEq,Int.reduceBNe,Nat.reduceBEq,Nat.reduceBNe,implies_true,forall_const,eq_self,reduceDIte,IntKind.bits,kPostKF_ret,kPostKF_normal,kPostX_ret,kPostX_normal,bsl,nil2K,nil2,kPostFW_ret,kPostFW_normal,kPostKM_ret,kPostKM_normal,kPostXK_ret,kPostXK_normal,hwq,FT3,FT4,FT5,FT23,FT24,FT25,FT26,FT27,FT29,FT32,FT34,FT35,FT37,FT59,List.length_map,List.getElem?_map,Int.natCast_nonneg,List.length_append,List.map_append,hjl',hNl'] | (refine condK_split ?_ ?_ <;> intro hwq) | (refine two_split ?_ ?_) | (refine guardK_split ?_ ?_ <;> intro hwq) | (refine guardE_split ?_ ?_ <;> intro hwq) | (refine awp_drawW [] (by decide +kernel) ?_; have hwq := trivial) | (refine call_data n119 hfz (V.les_refl _) rfl ?_; have hwq := trivial) | fail))
    all_goals (simp only [*]; try rfl)
def Lo85 (p : Pv) (n : Nat) (S : St) : Prop :=
  ∃ (j : Nat) (N : List Int) (mv : List Nat), S = ⟨tms [(1, .ptr 0 0 0), (3, .own 1 0 N.length), (4, vI j)], [bxP p, .rows 1 (N.map inT) false], mv⟩ ∧ N = (p.cs.take j).map (·.s) ∧ j ≤ p.cs.length ∧ n = p.cs.length - j ∧ ∀ x ∈ p.cs.take j, (!crOk p x) = false
theorem pc85 (p : Pv) (hp : okL p) : AC Tryz.prog 85 [pvV p] [] (eqR (vB (refC p))) := by
  obtain ⟨l1, l2, l3, l4, l5⟩ := hp
  refine AC_plain orders Tryz.func85 rfl (by kernel_rfl) (by kernel_rfl) Tryz.ntmps85 (by simp) ?_
  unfold Tryz.f85
  (have hwq := trivial; repeat' (first | simp (config := { maxSteps := 10000000, implicitDefEqProofs := false }) only [QH,QR,V.noimm,V.noimms,frzZs,frzZ,frzA,frzV,frzVs,frzBox,boxLen,Option.isSome,cond_true,cond_false,aopD,calW,flatV,stepX,amap,stepY,alookup,afind,aupdate,adelete,amlen,arange,ameq,mapOf,akeq,pl,V.mapT,V.mapTs,Option.bind,stepK,runK,guardD,stepE,runD,callD,compact,selB,callK,evS,ofVal,ofVals,scalar,aop,ares,mkRes,V.rn,V.rns,V.cells?,cellsAt,Go.Ai.part,aload,astore,setL,V.atom,abin,aun,intBin,shiftBin,aconv,fieldOf,aindexAddr,aindex,bound?,aslice,aarr,abuild,afill,alen,nilP,nilS,nilF,aeq,eqCells,eqCell,Go.Ai.known,strBin,abuiltin,aappend,abuildSlice,arowsFill,amakeSlice,acopy,minmax,rowsOf,numsT,notStr,isIntD,isByte,V.pz,V.pzs,T.toV,frz1,frz,scalT,scalTs,chunkT,List.range,List.range.loop,Int.reduceTDiv,Int.reduceTMod,Int.reduceFDiv,UInt8.reduceToNat,Nat.reduceAdd,Nat.reduceMul,Nat.reduceSub,Nat.reduceEqDiff,Nat.reduceLT,Nat.reduceLeDiff,Nat.reducePow,Nat.reduceDiv,Nat.reduceMod,Int.reduceLT,Int.reduceLE,Int.reduceAdd,Int.reduceMul,Int.reduceSub,Int.reduceNeg,Int.reduceToNat,Int.reducePow,Int.reduceEq,↓reduceIte,ite_true,ite_false,if_true,if_false,ne_eq,reduceCtorEq,Int.reduceBEq,Int.reduceBNe,Nat.reduceBEq,Nat.reduceBNe,implies_true,forall_const,eq_self,reduceDIte,IntKind.bits,kPostKF_ret,kPostKF_normal,kPostX_ret,kPostX_normal,bsl,nil2K,nil2,kPostFW_ret,kPostFW_normal,kPostKM_ret,kPostKM_normal,kPostXK_ret,kPostXK_normal,hwq,FT3,FT4,FT5,FT23,FT24,FT25,FT26,FT27,FT29,FT32,FT34,FT35,FT37,FT59] | (refine condK_split ?_ ?_ <;> intro hwq) | (refine two_split ?_ ?_) | (refine guardK_split ?_ ?_ <;> intro hwq) | (refine guardE_split ?_ ?_ <;> intro hwq) | (refine awp_drawW [] (by decide +kernel) ?_; have hwq := trivial) | fail))
  refine awp_loopK (Lo85 p) p.cs.length _ (Weak.trans (Weak.virt 3 1 (.inl rfl)) (Weak.cutI 2 [1, 3, 4] ?_ ?_)) ⟨0, [], _, rfl, by simp, by omega, rfl, by simp⟩ ?_
  · simp (config := { maxSteps := 10000000, implicitDefEqProofs := false }) only [QH,Option.isSome,cond_true,cond_false,Option.bind,selB,V.rn,V.rns,Go.Ai.known,V.pz,V.pzs,T.toV,frz1,List.range,List.range.loop,Nat.reduceAdd,Nat.reduceMul,Nat.reduceSub,Nat.reduceEqDiff,Nat.reduceLT,Nat.reduceLeDiff,Nat.reducePow,Nat.reduceDiv,Nat.reduceMod,Int.reduceLT,Int.reduceLE,Int.reduceAdd,Int.reduceMul,Int.reduceSub,Int.reduceNeg,Int.reducePow,Int.reduceEq,↓reduceIte,ite_true,ite_false,if_true,if_false,ne_eq,reduceCtorEq,Int.reduceBEq,Int.reduceBNe,Nat.reduceBEq,Nat.reduceBNe,implies_true,forall_const,eq_self,IntKind.bits,upd_tmsS,selT_cons,selT_nil]
  · simp (config := { maxSteps := 10000000, implicitDefEqProofs := false }) only [QH,Option.isSome,cond_true,cond_false,Option.bind,selB,V.rn,V.rns,Go.Ai.known,V.pz,V.pzs,T.toV,frz1,List.range,List.range.loop,Nat.reduceAdd,Nat.reduceMul,Nat.reduceSub,Nat.reduceEqDiff,Nat.reduceLT,Nat.reduceLeDiff,Nat.reducePow,Nat.reduceDiv,Nat.reduceMod,Int.reduceLT,Int.reduceLE,Int.reduceAdd,Int.reduceMul,Int.reduceSub,Int.reduceNeg,Int.reducePow,Int.reduceEq,↓reduceIte,ite_true,ite_false,if_true,if_false,ne_eq,reduceCtorEq,Int.reduceBEq,Int.reduceBNe,Nat.reduceBEq,Nat.reduceBNe,implies_true,forall_const,eq_self,IntKind.bits,upd_tmsS,selT_cons,selT_nil]
  rintro kk S ⟨j, N, mv, rfl, hN, hj, rfl, hno⟩
  have hNl : N.length = j := by rw [hN]; simp; omega
  have zs : (N.length + 1) * 8 ≤ 140737488355328 := by omega
  have wj : IntKind.i64.wrap ((j : Int) + 1) = (j : Int) + 1 := wI64 _ (by omega) (by omega)
  by_cases hjl : j < p.cs.length
  · have hjl' : (j : Int) < (p.cs.length : Int) := by omega
    have hgj : p.cs[j]? = some p.cs[j] := List.getElem?_eq_getElem hjl
    obtain ⟨x, hx⟩ : ∃ x, p.cs[j] = x := ⟨_, rfl⟩
    rw [hx] at hgj
    have hNx : N ++ [x.s] = (p.cs.take (j + 1)).map (·.s) := by rw [take_in hgj, List.map_append, hN]; rfl
    have n117 := pc117 x.s
    have n18 := pq18 p ⟨l1, l2, l3, l4, l5⟩ x.v
    have dk : crOk p x = (decide (isidOk x.s) && hasM p.bs x.v) := rfl
    rw [hasM_find] at dk
    generalize decide (isidOk x.s) = m1 at n117 dk
    unfold rf18 at n18
    have stop : crOk p x = false → refC p = false := fun h => by
      unfold refC
      rw [any_some (q := fun x => !crOk p x) hgj (by simp [h])]
      rfl
    cases hf : p.bs.find? (fun y => y.v == x.v) with
    | none =>
      rw [hf] at n18 dk
      rw [show ((none : Option Mb).isSome) = false from rfl, Bool.and_false] at dk
      (have hwq := trivial; repeat' (first | simp (config := { maxSteps := 10000000, implicitDefEqProofs := false }) only [QH,QR,V.noimm,V.noimms,frzZs,frzZ,frzA,frzV,frzVs,frzBox,boxLen,Option.isSome,cond_true,cond_false,aopD,calW,flatV,stepX,amap,stepY,alookup,afind,aupdate,adelete,amlen,arange,ameq,mapOf,akeq,pl,V.mapT,V.mapTs,Option.bind,stepK,runK,guardD,stepE,runD,callD,compact,selB,callK,evS,ofVal,ofVals,scalar,aop,ares,mkRes,V.rn,V.rns,V.cells?,cellsAt,Go.Ai.part,aload,astore,setL,V.atom,abin,aun,intBin,shiftBin,aconv,fieldOf,aindexAddr,aindex,bound?,aslice,aarr,abuild,afill,alen,nilP,nilS,nilF,aeq,eqCells,eqCell,Go.Ai.known,strBin,abuiltin,aappend,abuildSlice,arowsFill,amakeSlice,acopy,minmax,rowsOf,numsT,notStr,isIntD,isByte,V.pz,V.pzs,T.toV,frz1,frz,scalT,scalTs,chunkT,List.range,List.range.loop,Int.reduceTDiv,Int.reduceTMod,Int.reduceFDiv,UInt8.reduceToNat,Nat.reduceAdd,Nat.reduceMul,Nat.reduceSub,Nat.reduceEqDiff,Nat.reduceLT,Nat.reduceLeDiff,Nat.reducePow,Nat.reduceDiv,Nat.reduceMod,Int.reduceLT,Int.reduceLE,Int.reduceAdd,Int.reduceMul,Int.reduceSub,Int.reduceNeg,Int.reduceToNat,Int.reducePow,Int.reduceEq,↓reduceIte,ite_true,ite_false,if_true,if_false,ne_eq,reduceCtorEq,Int.reduceBEq,Int.reduceBNe,Nat.reduceBEq,Nat.reduceBNe,implies_true,forall_const,eq_self,reduceDIte,IntKind.bits,kPostKF_ret,kPostKF_normal,kPostX_ret,kPostX_normal,bsl,nil2K,nil2,kPostFW_ret,kPostFW_normal,kPostKM_ret,kPostKM_normal,kPostXK_ret,kPostXK_normal,hwq,FT3,FT4,FT5,FT23,FT24,FT25,FT26,FT27,FT29,FT32,FT34,FT35,FT37,FT59,List.length_map,List.getElem?_map,Int.natCast_nonneg,List.length_append,List.map_append,hjl',hgj,wj,zs] | (refine condK_split ?_ ?_ <;> intro hwq) | (refine two_split ?_ ?_) | (refine guardK_split ?_ ?_ <;> intro hwq) | (refine guardE_split ?_ ?_ <;> intro hwq) | (refine awp_drawW [] (by decide +kernel) ?_; have hwq := trivial) | (refine call_plain n117 rfl rfl ?_; have hwq := trivial) | (refine call_plain n18 rfl rfl ?_; have hwq := trivial) | fail))
      all_goals first
        | (rw [stop (by first | exact dk | (rw [dk]; simp_all))]; done)
        | skip
    | some y =>
      rw [hf] at n18 dk
      rw [show ((some y : Option Mb).isSome) = true from rfl, Bool.and_true] at dk
      (have hwq := trivial; repeat' (first | simp (config := { maxSteps := 10000000, implicitDefEqProofs := false }) only [QH,QR,V.noimm,V.noimms,frzZs,frzZ,frzA,frzV,frzVs,frzBox,boxLen,Option.isSome,cond_true,cond_false,aopD,calW,flatV,stepX,amap,stepY,alookup,afind,aupdate,adelete,amlen,arange,ameq,mapOf,akeq,pl,V.mapT,V.mapTs,Option.bind,stepK,runK,guardD,stepE,runD,callD,compact,selB,callK,evS,ofVal,ofVals,scalar,aop,ares,mkRes,V.rn,V.rns,V.cells?,cellsAt,Go.Ai.part,aload,astore,setL,V.atom,abin,aun,intBin,shiftBin,aconv,fieldOf,aindexAddr,aindex,bound?,aslice,aarr,abuild,afill,alen,nilP,nilS,nilF,aeq,eqCells,eqCell,Go.Ai.known,strBin,abuiltin,aappend,abuildSlice,arowsFill,amakeSlice,acopy,minmax,rowsOf,numsT,notStr,isIntD,isByte,V.pz,V.pzs,T.toV,frz1,frz,scalT,scalTs,chunkT,List.range,List.range.loop,Int.reduceTDiv,Int.reduceTMod,Int.reduceFDiv,UInt8.reduceToNat,Nat.reduceAdd,Nat.reduceMul,Nat.reduceSub,Nat.reduceEqDiff,Nat.reduceLT,Nat.reduceLeDiff,Nat.reducePow,Nat.reduceDiv,Nat.reduceMod,Int.reduceLT,Int.reduceLE,Int.reduceAdd,Int.reduceMul,Int.reduceSub,Int.reduceNeg,Int.reduceToNat,Int.reducePow,Int.reduceEq,↓reduceIte,ite_true,ite_false,if_true,if_false,ne_eq,reduceCtorEq,Int.reduceBEq,Int.reduceBNe,Nat.reduceBEq,Nat.reduceBNe,implies_true,forall_const,eq_self,reduceDIte,IntKind.bits,kPostKF_ret,kPostKF_normal,kPostX_ret,kPostX_normal,bsl,nil2K,nil2,kPostFW_ret,kPostFW_normal,kPostKM_ret,kPostKM_normal,kPostXK_ret,kPostXK_normal,hwq,FT3,FT4,FT5,FT23,FT24,FT25,FT26,FT27,FT29,FT32,FT34,FT35,FT37,FT59,List.length_map,List.getElem?_map,Int.natCast_nonneg,List.length_append,List.map_append,hjl',hgj,wj,zs] | (refine condK_split ?_ ?_ <;> intro hwq) | (refine two_split ?_ ?_) | (refine guardK_split ?_ ?_ <;> intro hwq) | (refine guardE_split ?_ ?_ <;> intro hwq) | (refine awp_drawW [] (by decide +kernel) ?_; have hwq := trivial) | (refine call_plain n117 rfl rfl ?_; have hwq := trivial) | (refine call_plain n18 rfl rfl ?_; have hwq := trivial) | fail))
      all_goals first
        | (rw [stop (by first | exact dk | (rw [dk]; simp_all))]; done)
        | skip
      refine ⟨p.cs.length - (j + 1), _, by omega, Weak.cutI 2 [1, 3, 4] ?_ ?_, j + 1, N ++ [x.s], _, rfl, hNx, by omega, rfl, take_more hno hgj (by rw [dk]; simp_all)⟩
      · simp (config := { maxSteps := 10000000, implicitDefEqProofs := false }) only [QH,Option.isSome,cond_true,cond_false,Option.bind,selB,V.rn,V.rns,Go.Ai.known,V.pz,V.pzs,T.toV,frz1,List.range,List.range.loop,Nat.reduceAdd,Nat.reduceMul,Nat.reduceSub,Nat.reduceEqDiff,Nat.reduceLT,Nat.reduceLeDiff,Nat.reducePow,Nat.reduceDiv,Nat.reduceMod,Int.reduceLT,Int.reduceLE,Int.reduceAdd,Int.reduceMul,Int.reduceSub,Int.reduceNeg,Int.reducePow,Int.reduceEq,↓reduceIte,ite_true,ite_false,if_true,if_false,ne_eq,reduceCtorEq,Int.reduceBEq,Int.reduceBNe,Nat.reduceBEq,Nat.reduceBNe,implies_true,forall_const,eq_self,IntKind.bits,upd_tmsS,selT_cons,selT_nil,List.length_map,List.getElem?_map,Int.natCast_nonneg,List.length_append,List.map_append,List.length_cons,List.length_nil,List.map_cons,List.map_nil]
      · simp (config := { maxSteps := 10000000, implicitDefEqProofs := false }) only [QH,Option.isSome,cond_true,cond_false,Option.bind,selB,V.rn,V.rns,Go.Ai.known,V.pz,V.pzs,T.toV,frz1,List.range,List.range.loop,Nat.reduceAdd,Nat.reduceMul,Nat.reduceSub,Nat.reduceEqDiff,Nat.reduceLT,Nat.reduceLeDiff,Nat.reducePow,Nat.reduceDiv,Nat.reduceMod,Int.reduceLT,Int.reduceLE,Int.reduceAdd,Int.reduceMul,Int.reduceSub,Int.reduceNeg,Int.reducePow,Int.reduceEq,↓reduceIte,ite_true,ite_false,if_true,if_false,ne_eq,reduceCtorEq,Int.reduceBEq,Int.reduceBNe,Nat.reduceBEq,Nat.reduceBNe,implies_true,forall_const,eq_self,IntKind.bits,upd_tmsS,selT_cons,selT_nil,List.length_map,List.getElem?_map,Int.natCast_nonneg,List.length_append,List.map_append,List.length_cons,List.length_nil,List.map_cons,List.map_nil]
  · have hjl' : ¬ (j : Int) < (p.cs.length : Int) := by omega
    have hje : j = p.cs.length := by omega
    rw [hje, List.take_length] at hN hno
    have hfz := frz_ids (bxP p) N
    have n119 := pc119 N (by omega)
    have hNl' : (N.length : Int) = (p.cs.length : Int) := by omega
    have he : refC p = (risB ltI N && decide ((p.cs.length : Int) ≤ 64)) := by
      unfold refC
      rw [any_none (q := fun x => !crOk p x) hno, ← hN]
      rfl
    rw [he]
    generalize risB ltI N = r at n119
    (have hwq := trivial; repeat' (first | simp (config := { maxSteps := 10000000, implicitDefEqProofs := false }) only [QH,QR,V.noimm,V.noimms,frzZs,frzZ,frzA,frzV,frzVs,frzBox,boxLen,Option.isSome,cond_true,cond_false,aopD,calW,flatV,stepX,amap,stepY,alookup,afind,aupdate,adelete,amlen,arange,ameq,mapOf,akeq,pl,V.mapT,V.mapTs,Option.bind,stepK,runK,guardD,stepE,runD,callD,compact,selB,callK,evS,ofVal,ofVals,scalar,aop,ares,mkRes,V.rn,V.rns,V.cells?,cellsAt,Go.Ai.part,aload,astore,setL,V.atom,abin,aun,intBin,shiftBin,aconv,fieldOf,aindexAddr,aindex,bound?,aslice,aarr,abuild,afill,alen,nilP,nilS,nilF,aeq,eqCells,eqCell,Go.Ai.known,strBin,abuiltin,aappend,abuildSlice,arowsFill,amakeSlice,acopy,minmax,rowsOf,numsT,notStr,isIntD,isByte,V.pz,V.pzs,T.toV,frz1,frz,scalT,scalTs,chunkT,List.range,List.range.loop,Int.reduceTDiv,Int.reduceTMod,Int.reduceFDiv,UInt8.reduceToNat,Nat.reduceAdd,Nat.reduceMul,Nat.reduceSub,Nat.reduceEqDiff,Nat.reduceLT,Nat.reduceLeDiff,Nat.reducePow,Nat.reduceDiv,Nat.reduceMod,Int.reduceLT,Int.reduceLE,Int.reduceAdd,Int.reduceMul,Int.reduceSub,Int.reduceNeg,Int.reduceToNat,Int.reducePow,Int.reduceEq,↓reduceIte,ite_true,ite_false,if_true,if_false,ne_eq,reduceCtorEq,Int.reduceBEq,Int.reduceBNe,Nat.reduceBEq,Nat.reduceBNe,implies_true,forall_const,eq_self,reduceDIte,IntKind.bits,kPostKF_ret,kPostKF_normal,kPostX_ret,kPostX_normal,bsl,nil2K,nil2,kPostFW_ret,kPostFW_normal,kPostKM_ret,kPostKM_normal,kPostXK_ret,kPostXK_normal,hwq,FT3,FT4,FT5,FT23,FT24,FT25,FT26,FT27,FT29,FT32,FT34,FT35,FT37,FT59,List.length_map,List.getElem?_map,Int.natCast_nonneg,List.length_append,List.map_append,hjl',hNl'] | (refine condK_split ?_ ?_ <;> intro hwq) | (refine two_split ?_ ?_) | (refine guardK_split ?_ ?_ <;> intro hwq) | (refine guardE_split ?_ ?_ <;> intro hwq) | (refine awp_drawW [] (by decide +kernel) ?_; have hwq := trivial) | (refine call_data n119 hfz (V.les_refl _) rfl ?_; have hwq := trivial) | fail))
    all_goals (simp only [*]; try rfl)
end Go.Ai
