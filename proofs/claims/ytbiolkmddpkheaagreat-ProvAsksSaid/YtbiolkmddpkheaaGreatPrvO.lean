/- Contracts of functions of the loaded program: called with data in the ranges that each names, it returns this value and writes to no old memory. -/
import Derived.Test.YtbiolkmddpkheaaGreatPrvN
import Derived.Test.YtbiolkmddpkheaaGreatPrvE
set_option linter.unusedVariables false
set_option linter.unusedSimpArgs false
set_option maxHeartbeats 8000000
set_option maxRecDepth 100000
namespace Go.Ai
open Go.Proofs

/-- A command, with what prov does not look at. -/
structure Cm where
  k : Int
  m : Mp
  c : Cr
  w : Mb
  ev : Int
  em : Mc
  ep : Int
  es : Bool
  et : Int
  id : Int
  po : Int
  co : Int
abbrev cmL (x : Cm) : List V := [vI x.k, vI x.m.p, vI x.m.v, vI x.m.s, vI x.c.s, vI x.c.v, vI x.w.v, isV x.w.l, vI x.ev, .s (.int .u8 x.em.a), .s (.int .u8 x.em.b), .s (.int .u8 x.em.c), .s (.int .u8 x.em.d), .s (.int .u8 x.em.e), .s (.int .u8 x.em.f), vI x.ep, vB x.es, vI x.et, .s (.int .u64 x.id), vI x.po, .s (.int .u32 x.co)]
abbrev cmV (x : Cm) : V := .agg (cmL x)
theorem pc57 (ks : List Int) : AC Tryz.prog 57 [isV ks] [] (eqR (pvV ⟨⟨2, 0, 0, 0, 0, 1⟩, ks, [], [], []⟩)) := by
  refine AC_frozenW orders Tryz.func57 rfl (by kernel_rfl) (by kernel_rfl) Tryz.ntmps57 (by simp) ?_
  unfold Tryz.f57
  (have hwq := trivial; repeat' (first | simp (config := { maxSteps := 10000000, implicitDefEqProofs := false }) only [QH,QR,V.noimm,V.noimms,frzZs,frzZ,frzA,frzV,frzVs,frzBox,boxLen,Option.isSome,cond_true,cond_false,aopD,calW,flatV,stepX,amap,stepY,alookup,afind,aupdate,adelete,amlen,arange,ameq,mapOf,akeq,pl,V.mapT,V.mapTs,Option.bind,stepK,runK,guardD,stepE,runD,callD,compact,selB,callK,evS,ofVal,ofVals,scalar,aop,ares,mkRes,V.rn,V.rns,V.cells?,cellsAt,Go.Ai.part,aload,astore,setL,V.atom,abin,aun,intBin,shiftBin,aconv,fieldOf,aindexAddr,aindex,bound?,aslice,aarr,abuild,afill,alen,nilP,nilS,nilF,aeq,eqCells,eqCell,Go.Ai.known,strBin,abuiltin,aappend,abuildSlice,arowsFill,amakeSlice,acopy,minmax,rowsOf,numsT,notStr,isIntD,isByte,V.pz,V.pzs,T.toV,frz1,frz,scalT,scalTs,chunkT,List.range,List.range.loop,Int.reduceTDiv,Int.reduceTMod,Int.reduceFDiv,UInt8.reduceToNat,Nat.reduceAdd,Nat.reduceMul,Nat.reduceSub,Nat.reduceEqDiff,Nat.reduceLT,Nat.reduceLeDiff,Nat.reducePow,Nat.reduceDiv,Nat.reduceMod,Int.reduceLT,Int.reduceLE,Int.reduceAdd,Int.reduceMul,Int.reduceSub,Int.reduceNeg,Int.reduceToNat,Int.reducePow,Int.reduceEq,↓reduceIte,ite_true,ite_false,if_true,if_false,ne_eq,reduceCtorEq,Int.reduceBEq,Int.reduceBNe,Nat.reduceBEq,Nat.reduceBNe,implies_true,forall_const,eq_self,reduceDIte,IntKind.bits,kPostKF_ret,kPostKF_normal,kPostX_ret,kPostX_normal,bsl,nil2K,nil2,kPostFW_ret,kPostFW_normal,kPostKM_ret,kPostKM_normal,kPostXK_ret,kPostXK_normal,hwq,FT3,FT5,FT23,FT24,FT25,FT26,FT27,FT29,FT32,FT34,FT35,FT37,FT59] | (refine awpL_loop 18 ?_; have hwq := trivial) | (refine condK_split ?_ ?_ <;> intro hwq) | (refine two_split ?_ ?_) | (refine guardK_split ?_ ?_ <;> intro hwq) | (refine guardE_split ?_ ?_ <;> intro hwq) | (refine awp_drawW [] (by decide +kernel) ?_; have hwq := trivial) | fail))
  exact ⟨_, rfl, by simp [V.leT, V.le, V.les]⟩
theorem pq20 (p : Pv) (hp : okL p) (a b : Int) : AC Tryz.prog 20 [pvV p, vI a, vI b] [] (eqR (match p.ms.find? (fun x => x.p == a && x.v == b) with
    | some x => .tuple [vI x.s, vB true]
    | none => .tuple [vI 0, vB false])) := by
  have h := pcf78 79 (.box [vI a] false) (flat_int a) (.box [vI b] false) (flat_int b) (fun x => x.p == a && x.v == b) p.ms (by have := hp.2.1; omega) (fun x _ => pk79 x a b)
  unfold fst78 at h
  cases hf : p.ms.find? (fun x => x.p == a && x.v == b) with
  | none =>
    rw [hf] at h
    refine AC_plain orders Tryz.func20 rfl (by kernel_rfl) (by kernel_rfl) Tryz.ntmps20 (by simp) ?_
    unfold Tryz.f20
    (have hwq := trivial; repeat' (first | simp (config := { maxSteps := 10000000, implicitDefEqProofs := false }) only [QH,QR,V.noimm,V.noimms,frzZs,frzZ,frzA,frzV,frzVs,frzBox,boxLen,Option.isSome,cond_true,cond_false,aopD,calW,flatV,stepX,amap,stepY,alookup,afind,aupdate,adelete,amlen,arange,ameq,mapOf,akeq,pl,V.mapT,V.mapTs,Option.bind,stepK,runK,guardD,stepE,runD,callD,compact,selB,callK,evS,ofVal,ofVals,scalar,aop,ares,mkRes,V.rn,V.rns,V.cells?,cellsAt,Go.Ai.part,aload,astore,setL,V.atom,abin,aun,intBin,shiftBin,aconv,fieldOf,aindexAddr,aindex,bound?,aslice,aarr,abuild,afill,alen,nilP,nilS,nilF,aeq,eqCells,eqCell,Go.Ai.known,strBin,abuiltin,aappend,abuildSlice,arowsFill,amakeSlice,acopy,minmax,rowsOf,numsT,notStr,isIntD,isByte,V.pz,V.pzs,T.toV,frz1,frz,scalT,scalTs,chunkT,List.range,List.range.loop,Int.reduceTDiv,Int.reduceTMod,Int.reduceFDiv,UInt8.reduceToNat,Nat.reduceAdd,Nat.reduceMul,Nat.reduceSub,Nat.reduceEqDiff,Nat.reduceLT,Nat.reduceLeDiff,Nat.reducePow,Nat.reduceDiv,Nat.reduceMod,Int.reduceLT,Int.reduceLE,Int.reduceAdd,Int.reduceMul,Int.reduceSub,Int.reduceNeg,Int.reduceToNat,Int.reducePow,Int.reduceEq,↓reduceIte,ite_true,ite_false,if_true,if_false,ne_eq,reduceCtorEq,Int.reduceBEq,Int.reduceBNe,Nat.reduceBEq,Nat.reduceBNe,implies_true,forall_const,eq_self,reduceDIte,IntKind.bits,kPostKF_ret,kPostKF_normal,kPostX_ret,kPostX_normal,bsl,nil2K,nil2,kPostFW_ret,kPostFW_normal,kPostKM_ret,kPostKM_normal,kPostXK_ret,kPostXK_normal,hwq,FT3,FT4,FT5,FT23,FT24,FT25,FT26,FT27,FT29,FT32,FT34,FT35,FT37,FT59,FT101] | (refine awpL_loop 18 ?_; have hwq := trivial) | (refine condK_split ?_ ?_ <;> intro hwq) | (refine two_split ?_ ?_) | (refine guardK_split ?_ ?_ <;> intro hwq) | (refine guardE_split ?_ ?_ <;> intro hwq) | (refine awp_drawW [] (by decide +kernel) ?_; have hwq := trivial) | (refine call_at [1, 2] h (by simp) (by decide) rfl rfl (by simp [mapT_box, V.mapTs, V.mapT, pl]) (by simp [V.les, V.le, V.mapTs, V.mapT, pl]) ?_; have hwq := trivial) | fail))
  | some x =>
    rw [hf] at h
    refine AC_plain orders Tryz.func20 rfl (by kernel_rfl) (by kernel_rfl) Tryz.ntmps20 (by simp) ?_
    unfold Tryz.f20
    (have hwq := trivial; repeat' (first | simp (config := { maxSteps := 10000000, implicitDefEqProofs := false }) only [QH,QR,V.noimm,V.noimms,frzZs,frzZ,frzA,frzV,frzVs,frzBox,boxLen,Option.isSome,cond_true,cond_false,aopD,calW,flatV,stepX,amap,stepY,alookup,afind,aupdate,adelete,amlen,arange,ameq,mapOf,akeq,pl,V.mapT,V.mapTs,Option.bind,stepK,runK,guardD,stepE,runD,callD,compact,selB,callK,evS,ofVal,ofVals,scalar,aop,ares,mkRes,V.rn,V.rns,V.cells?,cellsAt,Go.Ai.part,aload,astore,setL,V.atom,abin,aun,intBin,shiftBin,aconv,fieldOf,aindexAddr,aindex,bound?,aslice,aarr,abuild,afill,alen,nilP,nilS,nilF,aeq,eqCells,eqCell,Go.Ai.known,strBin,abuiltin,aappend,abuildSlice,arowsFill,amakeSlice,acopy,minmax,rowsOf,numsT,notStr,isIntD,isByte,V.pz,V.pzs,T.toV,frz1,frz,scalT,scalTs,chunkT,List.range,List.range.loop,Int.reduceTDiv,Int.reduceTMod,Int.reduceFDiv,UInt8.reduceToNat,Nat.reduceAdd,Nat.reduceMul,Nat.reduceSub,Nat.reduceEqDiff,Nat.reduceLT,Nat.reduceLeDiff,Nat.reducePow,Nat.reduceDiv,Nat.reduceMod,Int.reduceLT,Int.reduceLE,Int.reduceAdd,Int.reduceMul,Int.reduceSub,Int.reduceNeg,Int.reduceToNat,Int.reducePow,Int.reduceEq,↓reduceIte,ite_true,ite_false,if_true,if_false,ne_eq,reduceCtorEq,Int.reduceBEq,Int.reduceBNe,Nat.reduceBEq,Nat.reduceBNe,implies_true,forall_const,eq_self,reduceDIte,IntKind.bits,kPostKF_ret,kPostKF_normal,kPostX_ret,kPostX_normal,bsl,nil2K,nil2,kPostFW_ret,kPostFW_normal,kPostKM_ret,kPostKM_normal,kPostXK_ret,kPostXK_normal,hwq,FT3,FT4,FT5,FT23,FT24,FT25,FT26,FT27,FT29,FT32,FT34,FT35,FT37,FT59,FT101] | (refine awpL_loop 18 ?_; have hwq := trivial) | (refine condK_split ?_ ?_ <;> intro hwq) | (refine two_split ?_ ?_) | (refine guardK_split ?_ ?_ <;> intro hwq) | (refine guardE_split ?_ ?_ <;> intro hwq) | (refine awp_drawW [] (by decide +kernel) ?_; have hwq := trivial) | (refine call_at [1, 2] h (by simp) (by decide) rfl rfl (by simp [mapT_box, V.mapTs, V.mapT, pl]) (by simp [V.les, V.le, V.mapTs, V.mapT, pl]) ?_; have hwq := trivial) | fail))
theorem pdo1 (p : Pv) (hp : okL p) (ho : isB p.own.a) (hck : checkE p = 0) (x : Cm) (hk : x.k = 1) (he : addMapE p x.m = 0) (l' : List Mp) (hput : AC Tryz.prog 35 [msV p.ms, mpV x.m, .clo (.func 36) [] []] [] (eqR (msV l'))) :
    AC Tryz.prog 12 [pvV p, cmV x] [] (eqR (.tuple [pvV { p with ms := l' }, vI 0])) := by
  have n33 := pc33 p hp
  have n17 := pc17 p hp ho
  rw [hck] at n17
  have ne := pc34 p hp x.m
  rw [he] at ne
  have q1 : (x.k == 1) = true := by rw [hk]; rfl
  have q2 : (x.k == 2) = false := by rw [hk]; rfl
  have q3 : (x.k == 3) = false := by rw [hk]; rfl
  have q4 : (x.k == 4) = false := by rw [hk]; rfl
  have q5 : (x.k == 5) = false := by rw [hk]; rfl
  have q6 : (x.k == 6) = false := by rw [hk]; rfl
  refine AC_frozen orders Tryz.func12 rfl (by kernel_rfl) (by kernel_rfl) Tryz.ntmps12 (by simp) ?_
  unfold Tryz.f12
  (have hwq := trivial; repeat' (first | simp (config := { maxSteps := 10000000, implicitDefEqProofs := false }) only [QH,QR,V.noimm,V.noimms,frzZs,frzZ,frzA,frzV,frzVs,frzBox,boxLen,Option.isSome,cond_true,cond_false,aopD,calW,flatV,stepX,amap,stepY,alookup,afind,aupdate,adelete,amlen,arange,ameq,mapOf,akeq,pl,V.mapT,V.mapTs,Option.bind,stepK,runK,guardD,stepE,runD,callD,compact,selB,callK,evS,ofVal,ofVals,scalar,aop,ares,mkRes,V.rn,V.rns,V.cells?,cellsAt,Go.Ai.part,aload,astore,setL,V.atom,abin,aun,intBin,shiftBin,aconv,fieldOf,aindexAddr,aindex,bound?,aslice,aarr,abuild,afill,alen,nilP,nilS,nilF,aeq,eqCells,eqCell,Go.Ai.known,strBin,abuiltin,aappend,abuildSlice,arowsFill,amakeSlice,acopy,minmax,rowsOf,numsT,notStr,isIntD,isByte,V.pz,V.pzs,T.toV,frz1,frz,scalT,scalTs,chunkT,List.range,List.range.loop,Int.reduceTDiv,Int.reduceTMod,Int.reduceFDiv,UInt8.reduceToNat,Nat.reduceAdd,Nat.reduceMul,Nat.reduceSub,Nat.reduceEqDiff,Nat.reduceLT,Nat.reduceLeDiff,Nat.reducePow,Nat.reduceDiv,Nat.reduceMod,Int.reduceLT,Int.reduceLE,Int.reduceAdd,Int.reduceMul,Int.reduceSub,Int.reduceNeg,Int.reduceToNat,Int.reducePow,Int.reduceEq,↓reduceIte,ite_true,ite_false,if_true,if_false,ne_eq,reduceCtorEq,Int.reduceBEq,Int.reduceBNe,Nat.reduceBEq,Nat.reduceBNe,implies_true,forall_const,eq_self,reduceDIte,IntKind.bits,kPostKF_ret,kPostKF_normal,kPostX_ret,kPostX_normal,bsl,nil2K,nil2,kPostFW_ret,kPostFW_normal,kPostKM_ret,kPostKM_normal,kPostXK_ret,kPostXK_normal,hwq,FT3,FT4,FT5,FT23,FT24,FT25,FT26,FT27,FT29,FT30,FT32,FT34,FT35,FT37,FT39,FT40,FT41,FT43,FT46,FT59,FT69,FT73,FT78,List.length_map,List.getElem?_map,Int.natCast_nonneg,List.length_append,List.map_append,q1,q2,q3,q4,q5,q6] | (refine awpL_loop 18 ?_; have hwq := trivial) | (refine condK_split ?_ ?_ <;> intro hwq) | (refine two_split ?_ ?_) | (refine guardK_split ?_ ?_ <;> intro hwq) | (refine guardE_split ?_ ?_ <;> intro hwq) | (refine awp_drawW [] (by decide +kernel) ?_; have hwq := trivial) | (refine call_plain n33 rfl rfl ?_; have hwq := trivial) | (refine call_plain n17 rfl rfl ?_; have hwq := trivial) | (refine call_plain ne rfl rfl ?_; have hwq := trivial) | (refine call_plain hput rfl rfl ?_; have hwq := trivial) | fail))
theorem pdo3 (p : Pv) (hp : okL p) (ho : isB p.own.a) (hck : checkE p = 0) (x : Cm) (hk : x.k = 3) (he : addCarryE p x.c = 0) (l' : List Cr) (hput : AC Tryz.prog 40 [csV p.cs, crV x.c, .clo (.func 41) [] []] [] (eqR (csV l'))) :
    AC Tryz.prog 12 [pvV p, cmV x] [] (eqR (.tuple [pvV { p with cs := l' }, vI 0])) := by
  have n33 := pc33 p hp
  have n17 := pc17 p hp ho
  rw [hck] at n17
  have ne := pc39 p hp x.c
  rw [he] at ne
  have q1 : (x.k == 1) = false := by rw [hk]; rfl
  have q2 : (x.k == 2) = false := by rw [hk]; rfl
  have q3 : (x.k == 3) = true := by rw [hk]; rfl
  have q4 : (x.k == 4) = false := by rw [hk]; rfl
  have q5 : (x.k == 5) = false := by rw [hk]; rfl
  have q6 : (x.k == 6) = false := by rw [hk]; rfl
  refine AC_frozen orders Tryz.func12 rfl (by kernel_rfl) (by kernel_rfl) Tryz.ntmps12 (by simp) ?_
  unfold Tryz.f12
  (have hwq := trivial; repeat' (first | simp (config := { maxSteps := 10000000, implicitDefEqProofs := false }) only [QH,QR,V.noimm,V.noimms,frzZs,frzZ,frzA,frzV,frzVs,frzBox,boxLen,Option.isSome,cond_true,cond_false,aopD,calW,flatV,stepX,amap,stepY,alookup,afind,aupdate,adelete,amlen,arange,ameq,mapOf,akeq,pl,V.mapT,V.mapTs,Option.bind,stepK,runK,guardD,stepE,runD,callD,compact,selB,callK,evS,ofVal,ofVals,scalar,aop,ares,mkRes,V.rn,V.rns,V.cells?,cellsAt,Go.Ai.part,aload,astore,setL,V.atom,abin,aun,intBin,shiftBin,aconv,fieldOf,aindexAddr,aindex,bound?,aslice,aarr,abuild,afill,alen,nilP,nilS,nilF,aeq,eqCells,eqCell,Go.Ai.known,strBin,abuiltin,aappend,abuildSlice,arowsFill,amakeSlice,acopy,minmax,rowsOf,numsT,notStr,isIntD,isByte,V.pz,V.pzs,T.toV,frz1,frz,scalT,scalTs,chunkT,List.range,List.range.loop,Int.reduceTDiv,Int.reduceTMod,Int.reduceFDiv,UInt8.reduceToNat,Nat.reduceAdd,Nat.reduceMul,Nat.reduceSub,Nat.reduceEqDiff,Nat.reduceLT,Nat.reduceLeDiff,Nat.reducePow,Nat.reduceDiv,Nat.reduceMod,Int.reduceLT,Int.reduceLE,Int.reduceAdd,Int.reduceMul,Int.reduceSub,Int.reduceNeg,Int.reduceToNat,Int.reducePow,Int.reduceEq,↓reduceIte,ite_true,ite_false,if_true,if_false,ne_eq,reduceCtorEq,Int.reduceBEq,Int.reduceBNe,Nat.reduceBEq,Nat.reduceBNe,implies_true,forall_const,eq_self,reduceDIte,IntKind.bits,kPostKF_ret,kPostKF_normal,kPostX_ret,kPostX_normal,bsl,nil2K,nil2,kPostFW_ret,kPostFW_normal,kPostKM_ret,kPostKM_normal,kPostXK_ret,kPostXK_normal,hwq,FT3,FT4,FT5,FT23,FT24,FT25,FT26,FT27,FT29,FT30,FT32,FT34,FT35,FT37,FT39,FT40,FT41,FT43,FT46,FT59,FT69,FT73,FT78,List.length_map,List.getElem?_map,Int.natCast_nonneg,List.length_append,List.map_append,q1,q2,q3,q4,q5,q6] | (refine awpL_loop 18 ?_; have hwq := trivial) | (refine condK_split ?_ ?_ <;> intro hwq) | (refine two_split ?_ ?_) | (refine guardK_split ?_ ?_ <;> intro hwq) | (refine guardE_split ?_ ?_ <;> intro hwq) | (refine awp_drawW [] (by decide +kernel) ?_; have hwq := trivial) | (refine call_plain n33 rfl rfl ?_; have hwq := trivial) | (refine call_plain n17 rfl rfl ?_; have hwq := trivial) | (refine call_plain ne rfl rfl ?_; have hwq := trivial) | (refine call_plain hput rfl rfl ?_; have hwq := trivial) | fail))
theorem pdo5 (p : Pv) (hp : okL p) (ho : isB p.own.a) (hck : checkE p = 0) (x : Cm) (hk : x.k = 5) (hw : x.w.l.length ≤ 1000) (he : setMemberE p x.w = 0) (l' : List Mb) (hput : AC Tryz.prog 45 [bsV p.bs, mbV x.w, .clo (.func 47) [] []] [] (eqR (bsV l'))) :
    AC Tryz.prog 12 [pvV p, cmV x] [] (eqR (.tuple [pvV { p with bs := l' }, vI 0])) := by
  have n33 := pc33 p hp
  have n17 := pc17 p hp ho
  rw [hck] at n17
  have ne := pc44 p hp x.w hw
  rw [he] at ne
  have q1 : (x.k == 1) = false := by rw [hk]; rfl
  have q2 : (x.k == 2) = false := by rw [hk]; rfl
  have q3 : (x.k == 3) = false := by rw [hk]; rfl
  have q4 : (x.k == 4) = false := by rw [hk]; rfl
  have q5 : (x.k == 5) = true := by rw [hk]; rfl
  have q6 : (x.k == 6) = false := by rw [hk]; rfl
  have n46 := pcl46 (x.w.l.map inT) (by simp; omega)
  refine AC_frozen orders Tryz.func12 rfl (by kernel_rfl) (by kernel_rfl) Tryz.ntmps12 (by simp) ?_
  unfold Tryz.f12
  (have hwq := trivial; repeat' (first | simp (config := { maxSteps := 10000000, implicitDefEqProofs := false }) only [QH,QR,V.noimm,V.noimms,frzZs,frzZ,frzA,frzV,frzVs,frzBox,boxLen,Option.isSome,cond_true,cond_false,aopD,calW,flatV,stepX,amap,stepY,alookup,afind,aupdate,adelete,amlen,arange,ameq,mapOf,akeq,pl,V.mapT,V.mapTs,Option.bind,stepK,runK,guardD,stepE,runD,callD,compact,selB,callK,evS,ofVal,ofVals,scalar,aop,ares,mkRes,V.rn,V.rns,V.cells?,cellsAt,Go.Ai.part,aload,astore,setL,V.atom,abin,aun,intBin,shiftBin,aconv,fieldOf,aindexAddr,aindex,bound?,aslice,aarr,abuild,afill,alen,nilP,nilS,nilF,aeq,eqCells,eqCell,Go.Ai.known,strBin,abuiltin,aappend,abuildSlice,arowsFill,amakeSlice,acopy,minmax,rowsOf,numsT,notStr,isIntD,isByte,V.pz,V.pzs,T.toV,frz1,frz,scalT,scalTs,chunkT,List.range,List.range.loop,Int.reduceTDiv,Int.reduceTMod,Int.reduceFDiv,UInt8.reduceToNat,Nat.reduceAdd,Nat.reduceMul,Nat.reduceSub,Nat.reduceEqDiff,Nat.reduceLT,Nat.reduceLeDiff,Nat.reducePow,Nat.reduceDiv,Nat.reduceMod,Int.reduceLT,Int.reduceLE,Int.reduceAdd,Int.reduceMul,Int.reduceSub,Int.reduceNeg,Int.reduceToNat,Int.reducePow,Int.reduceEq,↓reduceIte,ite_true,ite_false,if_true,if_false,ne_eq,reduceCtorEq,Int.reduceBEq,Int.reduceBNe,Nat.reduceBEq,Nat.reduceBNe,implies_true,forall_const,eq_self,reduceDIte,IntKind.bits,kPostKF_ret,kPostKF_normal,kPostX_ret,kPostX_normal,bsl,nil2K,nil2,kPostFW_ret,kPostFW_normal,kPostKM_ret,kPostKM_normal,kPostXK_ret,kPostXK_normal,hwq,FT3,FT4,FT5,FT23,FT24,FT25,FT26,FT27,FT29,FT30,FT32,FT34,FT35,FT37,FT39,FT40,FT41,FT43,FT46,FT59,FT69,FT73,FT78,List.length_map,List.getElem?_map,Int.natCast_nonneg,List.length_append,List.map_append,q1,q2,q3,q4,q5,q6] | (refine awpL_loop 18 ?_; have hwq := trivial) | (refine condK_split ?_ ?_ <;> intro hwq) | (refine two_split ?_ ?_) | (refine guardK_split ?_ ?_ <;> intro hwq) | (refine guardE_split ?_ ?_ <;> intro hwq) | (refine awp_drawW [] (by decide +kernel) ?_; have hwq := trivial) | (refine call_plain n33 rfl rfl ?_; have hwq := trivial) | (refine call_plain n17 rfl rfl ?_; have hwq := trivial) | (refine call_plain ne rfl rfl ?_; have hwq := trivial) | (refine call_plain hput rfl rfl ?_; have hwq := trivial) | (refine draw_plain n46 rfl (fun _ => rfl) ?_; have hwq := trivial) | (refine draw_plain hput rfl (fun _ => rfl) ?_; have hwq := trivial) | fail))
/-- The page's example. -/
abbrev aw0 : Pv := ⟨⟨2, 0, 0, 0, 0, 1⟩, [1, 2], [], [], []⟩
abbrev aw1 : Pv := ⟨⟨2, 0, 0, 0, 0, 1⟩, [1, 2], [], [], [⟨10, [1]⟩]⟩
abbrev aw2 : Pv := ⟨⟨2, 0, 0, 0, 0, 1⟩, [1, 2], [], [⟨5000, 10⟩], [⟨10, [1]⟩]⟩
abbrev aw3 : Pv := ⟨⟨2, 0, 0, 0, 0, 1⟩, [1, 2], [⟨0, 100, 5000⟩], [⟨5000, 10⟩], [⟨10, [1]⟩]⟩
abbrev zMp : Mp := ⟨0, 0, 0⟩
abbrev zCr : Cr := ⟨0, 0⟩
abbrev zMb : Mb := ⟨0, []⟩
abbrev awC (k : Int) (m : Mp) (c : Cr) (w : Mb) : Cm := ⟨k, m, c, w, 0, ⟨0, 0, 0, 0, 0, 0⟩, 0, false, 0, 0, 0, 0⟩
theorem aw_ok (p : Pv) (h1 : p.ks.length ≤ 1000) (h2 : p.ms.length ≤ 1000) (h3 : p.cs.length ≤ 1000) (h4 : p.bs.length ≤ 1000) (h5 : ∀ b ∈ p.bs, b.l.length ≤ 1000) : okL p := ⟨h1, h2, h3, h4, h5⟩
theorem AC.lesA {P : Program} {f : FuncId} {args args' : List V} {σ : List Blk} {R : V → List Blk → List Nat → Prop} (h : AC P f args' σ R) (hl : V.les args args') : AC P f args σ R := ⟨h.1, fun β I w vs hi hv => h.2 β I w vs hi (VRs.le _ hl hv)⟩
abbrev cmN (x : Cm) : V := .agg [vI x.k, vI x.m.p, vI x.m.v, vI x.m.s, vI x.c.s, vI x.c.v, vI x.w.v, .s (.slice none 0 0), vI x.ev, .s (.int .u8 x.em.a), .s (.int .u8 x.em.b), .s (.int .u8 x.em.c), .s (.int .u8 x.em.d), .s (.int .u8 x.em.e), .s (.int .u8 x.em.f), vI x.ep, vB x.es, vI x.et, .s (.int .u64 x.id), vI x.po, .s (.int .u32 x.co)]
theorem cmN_le (p : V) (x : Cm) (h : x.w.l = []) : V.les [p, cmN x] [p, cmV x] := by
  have hp := V.les_refl [p]
  simp only [V.les, and_true] at hp
  simp [V.les, V.le, hp, h]
theorem call_dataF {P : Program} {k : FuncId} {args args1 args' : List V} {σ σ1 : List Blk} {v : V} {K : V → List Blk → List Nat → Prop} (h : AC P k args' [] (eqR v)) (hs : frzVs false σ args = some (args1, σ1)) (hle : V.les args1 args') (hv : v.mapT (· + σ.length) = v) (hn : v.noimm = false) (hk : K v σ1 []) : AC P k args σ K :=
  call_data h hs hle hv (by rw [hn]; exact hk)
theorem pc15 : AC Tryz.prog 15 [] [] (eqR (vB true)) := by
  have i2 : isB 2 := by unfold isB; decide
  have o0 : okL aw0 := aw_ok _ (by decide) (by decide) (by decide) (by decide) (by decide)
  have o1 : okL aw1 := aw_ok _ (by decide) (by decide) (by decide) (by decide) (by decide)
  have o2 : okL aw2 := aw_ok _ (by decide) (by decide) (by decide) (by decide) (by decide)
  have o3 : okL aw3 := aw_ok _ (by decide) (by decide) (by decide) (by decide) (by decide)
  have n57 := pc57 [1, 2]
  have n1 := pdo5 aw0 o0 i2 (by decide +kernel) (awC 5 zMp zCr ⟨10, [1]⟩) rfl (by decide) (by decide +kernel) [⟨10, [1]⟩] (put45_nil _)
  have n2 := (pdo3 aw1 o1 i2 (by decide +kernel) (awC 3 zMp ⟨5000, 10⟩ zMb) rfl (by decide +kernel) [⟨5000, 10⟩] (put40_nil _)).lesA (cmN_le _ _ rfl)
  have n3 := (pdo1 aw2 o2 i2 (by decide +kernel) (awC 1 ⟨0, 100, 5000⟩ zCr zMb) rfl (by decide +kernel) [⟨0, 100, 5000⟩] (put35_nil _)).lesA (cmN_le _ _ rfl)
  have n20 := pq20 aw3 o3 0 100
  rw [show (aw3.ms.find? fun x => x.p == 0 && x.v == 100) = some ⟨0, 100, 5000⟩ from by decide +kernel] at n20
  have n17 := pc17 aw3 o3 i2
  rw [show checkE aw3 = 0 from by decide +kernel] at n17
  refine AC_plain orders Tryz.func15 rfl (by kernel_rfl) (by kernel_rfl) Tryz.ntmps15 (by simp) ?_
  unfold Tryz.f15
  (have hwq := trivial; repeat' (first | simp (config := { maxSteps := 10000000, implicitDefEqProofs := false }) only [QH,QR,V.noimm,V.noimms,frzZs,frzZ,frzA,frzV,frzVs,frzBox,boxLen,Option.isSome,cond_true,cond_false,aopD,calW,flatV,stepX,amap,stepY,alookup,afind,aupdate,adelete,amlen,arange,ameq,mapOf,akeq,pl,V.mapT,V.mapTs,Option.bind,stepK,runK,guardD,stepE,runD,callD,compact,selB,callK,evS,ofVal,ofVals,scalar,aop,ares,mkRes,V.rn,V.rns,V.cells?,cellsAt,Go.Ai.part,aload,astore,setL,V.atom,abin,aun,intBin,shiftBin,aconv,fieldOf,aindexAddr,aindex,bound?,aslice,aarr,abuild,afill,alen,nilP,nilS,nilF,aeq,eqCells,eqCell,Go.Ai.known,strBin,abuiltin,aappend,abuildSlice,arowsFill,amakeSlice,acopy,minmax,rowsOf,numsT,notStr,isIntD,isByte,V.pz,V.pzs,T.toV,frz1,frz,scalT,scalTs,chunkT,List.range,List.range.loop,Int.reduceTDiv,Int.reduceTMod,Int.reduceFDiv,UInt8.reduceToNat,Nat.reduceAdd,Nat.reduceMul,Nat.reduceSub,Nat.reduceEqDiff,Nat.reduceLT,Nat.reduceLeDiff,Nat.reducePow,Nat.reduceDiv,Nat.reduceMod,Int.reduceLT,Int.reduceLE,Int.reduceAdd,Int.reduceMul,Int.reduceSub,Int.reduceNeg,Int.reduceToNat,Int.reducePow,Int.reduceEq,↓reduceIte,ite_true,ite_false,if_true,if_false,ne_eq,reduceCtorEq,Int.reduceBEq,Int.reduceBNe,Nat.reduceBEq,Nat.reduceBNe,implies_true,forall_const,eq_self,reduceDIte,IntKind.bits,kPostKF_ret,kPostKF_normal,kPostX_ret,kPostX_normal,bsl,nil2K,nil2,kPostFW_ret,kPostFW_normal,kPostKM_ret,kPostKM_normal,kPostXK_ret,kPostXK_normal,hwq,FT3,FT4,FT5,FT23,FT24,FT25,FT26,FT27,FT29,FT30,FT32,FT34,FT35,FT37,FT39,FT40,FT41,FT43,FT46,FT59] | (refine awpL_loop 18 ?_; have hwq := trivial) | (refine condK_split ?_ ?_ <;> intro hwq) | (refine two_split ?_ ?_) | (refine guardK_split ?_ ?_ <;> intro hwq) | (refine guardE_split ?_ ?_ <;> intro hwq) | (refine awp_drawW [] (by decide +kernel) ?_; have hwq := trivial) | (refine call_dataF n57 rfl (V.les_refl _) rfl rfl ?_; have hwq := trivial) | (refine call_dataF n1 rfl (V.les_refl _) rfl rfl ?_; have hwq := trivial) | (refine call_dataF n2 rfl (V.les_refl _) rfl rfl ?_; have hwq := trivial) | (refine call_dataF n3 rfl (V.les_refl _) rfl rfl ?_; have hwq := trivial) | (refine call_plain n20 rfl rfl ?_; have hwq := trivial) | (refine call_plain n17 rfl rfl ?_; have hwq := trivial) | fail))
end Go.Ai
