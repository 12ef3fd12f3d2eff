/- Contracts of functions of the loaded program: called with data in the ranges that each names, it returns this value and writes to no old memory. -/
import Derived.Test.YtbiolkmddpkheaaGreatPrvJ
set_option linter.unusedVariables false
set_option linter.unusedSimpArgs false
set_option maxHeartbeats 8000000
set_option maxRecDepth 100000
namespace Go.Ai
open Go.Proofs

theorem risB_map {α β : Type} (f : α → β) (lt : β → β → Bool) : ∀ L : List α, risB lt (L.map f) = risB (fun a b => lt (f a) (f b)) L
  | [] => rfl
  | [_] => rfl
  | a :: b :: l => by
    have := risB_map f lt (b :: l)
    simp only [List.map_cons, risB] at this ⊢
    rw [this]
theorem any_congr' {α : Type} {p q : α → Bool} : ∀ {L : List α}, (∀ x ∈ L, p x = q x) → L.any p = L.any q
  | [], _ => rfl
  | a :: l, h => by rw [List.any_cons, List.any_cons, h a (by simp), any_congr' fun x hx => h x (by simp [hx])]
theorem portsE_ok (ks l : List Int) : (portsE ks l != 0) = !(risB ltI l && !(l.any fun y => kindP ks y != 2)) := by
  unfold portsE
  cases risB ltI l with
  | false => rfl
  | true =>
    simp only [if_true, Bool.true_and, Bool.not_not]
    cases h2 : (l.any fun y => kindP ks y != 2) with
    | true => split <;> rfl
    | false =>
      have : (l.any fun x => kindP ks x == 0) = false := by
        rw [List.any_eq_false] at h2 ⊢
        intro x hx
        have := h2 x hx
        simp at this ⊢
        omega
      rw [this]
      rfl
def refOk (p : Pv) : Bool := kindZ p.own.a p.own.b p.own.c p.own.d p.own.e p.own.f == 1 && (decide (1 ≤ (p.ks.length : Int)) && (decide ((p.ks.length : Int) ≤ 8) && (!(p.ks.any fun x => x != 1 && x != 2) && (decide ((p.bs.length : Int) ≤ 64) && (decide ((p.cs.length : Int) ≤ 64) && (decide ((p.ms.length : Int) ≤ 64) && (refM p && (refC p && refMs p))))))))
theorem maps_eq (p : Pv) : (risB beforeB p.ms && okM p) = !((List.range p.ms.length).any fun i => !mpOk p i (p.ms.getD i default)) := by
  have gd : ∀ {i : Nat} (hi : i < p.ms.length), p.ms[i]? = some (p.ms.getD i default) := fun {i} hi => by
    rw [List.getD_eq_getElem?_getD, List.getElem?_eq_getElem hi]; rfl
  rw [Bool.eq_iff_iff, Bool.and_eq_true, risB_iff, Bool.not_eq_true', List.any_eq_false]
  unfold okM
  rw [List.all_eq_true]
  simp only [List.mem_range]
  constructor
  · rintro ⟨h1, h2⟩ i hi
    have h := h2 i hi
    unfold mOk at h
    unfold mpOk
    simp only [Bool.and_eq_true] at h
    obtain ⟨a1, a2, a3, a4⟩ := h
    rw [a1, a2, a3, a4]
    have : (decide (i = 0) || beforeB (p.ms.getD (i - 1) default) (p.ms.getD i default)) = true := by
      cases i with
      | zero => rfl
      | succ i =>
        rw [Nat.add_sub_cancel, h1 i _ _ (gd (by omega)) (gd hi)]
        simp
    rw [this]
    simp
  · intro h
    have hm : ∀ i, i < p.ms.length → mpOk p i (p.ms.getD i default) = true := fun i hi => by
      have := h i hi
      simpa using this
    refine ⟨fun i x y hx hy => ?_, fun i hi => ?_⟩
    · have hi1 : i + 1 < p.ms.length := (List.getElem?_eq_some_iff.1 hy).1
      have := hm (i + 1) hi1
      unfold mpOk at this
      simp only [Bool.and_eq_true] at this
      have h5 := this.2.2.2.2
      rw [Nat.add_sub_cancel] at h5
      rw [gd (by omega)] at hx
      rw [gd hi1] at hy
      cases hx
      cases hy
      simpa using h5
    · have := hm i hi
      unfold mpOk at this
      unfold mOk
      simp only [Bool.and_eq_true] at this
      obtain ⟨a1, a2, a3, a4, _⟩ := this
      rw [a1, a2, a3, a4]
      rfl
theorem ref_eq (p : Pv) : refOk p = okB p := by
  have hm := maps_eq p
  have hM : refM p = (!(p.bs.any fun x => !decide (vidOk x.v) || portsE p.ks x.l != 0) && (risB ltMb p.bs && decide ((p.bs.length : Int) ≤ 64))) := by
    unfold refM
    rw [any_congr' (q := fun x => !decide (vidOk x.v) || portsE p.ks x.l != 0) fun x _ => by
      rw [portsE_ok]
      unfold mbOk
      cases decide (vidOk x.v) <;> simp, risB_map]
    rfl
  have hC : refC p = (!(p.cs.any fun x => !decide (isidOk x.s) || !hasM p.bs x.v) && (risB ltCr p.cs && decide ((p.cs.length : Int) ≤ 64))) := by
    unfold refC
    rw [any_congr' (q := fun x => !decide (isidOk x.s) || !hasM p.bs x.v) fun x _ => by
      unfold crOk
      cases decide (isidOk x.s) <;> simp, risB_map]
    rfl
  have hd : decide (1 ≤ (p.ks.length : Int) ∧ (p.ks.length : Int) ≤ 8) = (decide (1 ≤ (p.ks.length : Int)) && decide ((p.ks.length : Int) ≤ 8)) := Bool.decide_and ..
  unfold refOk okB okA okR okQ refMs
  rw [hM, hC, ← hm, hd]
  generalize (kindZ p.own.a p.own.b p.own.c p.own.d p.own.e p.own.f == 1) = x1
  generalize decide (1 ≤ (p.ks.length : Int)) = x2
  generalize decide ((p.ks.length : Int) ≤ 8) = x3
  generalize decide ((p.bs.length : Int) ≤ 64) = x4
  generalize decide ((p.cs.length : Int) ≤ 64) = x5
  generalize decide ((p.ms.length : Int) ≤ 64) = x6
  generalize (p.ks.any fun x => x != 1 && x != 2) = x7
  generalize (p.bs.any fun x => !decide (vidOk x.v) || portsE p.ks x.l != 0) = x8
  generalize (p.cs.any fun x => !decide (isidOk x.s) || !hasM p.bs x.v) = x9
  generalize risB ltMb p.bs = y1
  generalize risB ltCr p.cs = y2
  generalize risB beforeB p.ms = y3
  generalize okM p = y4
  revert x1 x2 x3 x4 x5 x6 x7 x8 x9 y1 y2 y3 y4
  decide +kernel
def Lk31 (p : Pv) (n : Nat) (S : St) : Prop :=
  ∃ (j : Nat) (mv : List Nat), S = ⟨tms [(1, .ptr 0 0 0), (3, vI j)], [bxP p], mv⟩ ∧ j ≤ p.ks.length ∧ n = p.ks.length - j ∧ ∀ x ∈ p.ks.take j, (x != 1 && x != 2) = false
theorem pc31 (p : Pv) (hp : okL p) (ho : isB p.own.a) : AC Tryz.prog 31 [pvV p] [] (eqR (vI (checkE p))) := by
  have n83 := pc83 p.own.a p.own.b p.own.c p.own.d p.own.e p.own.f ho
  have n84 := pc84 p hp
  have n85 := pc85 p hp
  have n86 := pc86 p hp
  obtain ⟨l1, l2, l3, l4, l5⟩ := hp
  have dR : checkE p = if refOk p = true then 0 else 180 := by rw [ref_eq]; rfl
  have dO : refOk p = (kindZ p.own.a p.own.b p.own.c p.own.d p.own.e p.own.f == 1 && (decide (1 ≤ (p.ks.length : Int)) && (decide ((p.ks.length : Int) ≤ 8) && (!(p.ks.any fun x => x != 1 && x != 2) && (decide ((p.bs.length : Int) ≤ 64) && (decide ((p.cs.length : Int) ≤ 64) && (decide ((p.ms.length : Int) ≤ 64) && (refM p && (refC p && refMs p))))))))) := rfl
  have no : refOk p = false → checkE p = 180 := fun h => by rw [dR, h]; rfl
  generalize refM p = r1 at n84 dO
  generalize refC p = r2 at n85 dO
  generalize refMs p = r3 at n86 dO
  refine AC_plain orders Tryz.func31 rfl (by kernel_rfl) (by kernel_rfl) Tryz.ntmps31 (by simp) ?_
  unfold Tryz.f31
  cases hk : (kindZ p.own.a p.own.b p.own.c p.own.d p.own.e p.own.f == 1) with
  | false =>
    have hk' : (kindZ p.own.a p.own.b p.own.c p.own.d p.own.e p.own.f != 1) = true := by rw [bne, hk]; rfl
    rw [no (by rw [dO, hk]; rfl)]
    (have hwq := trivial; repeat' (first | simp (config := { maxSteps := 10000000, implicitDefEqProofs := false }) only [QH,QR,V.noimm,V.noimms,frzZs,frzZ,frzA,frzV,frzVs,frzBox,boxLen,Option.isSome,cond_true,cond_false,aopD,calW,flatV,stepX,amap,stepY,alookup,afind,aupdate,adelete,amlen,arange,ameq,mapOf,akeq,pl,V.mapT,V.mapTs,Option.bind,stepK,runK,guardD,stepE,runD,callD,compact,selB,callK,evS,ofVal,ofVals,scalar,aop,ares,mkRes,V.rn,V.rns,V.cells?,cellsAt,Go.Ai.part,aload,astore,setL,V.atom,abin,aun,intBin,shiftBin,aconv,fieldOf,aindexAddr,aindex,bound?,aslice,aarr,abuild,afill,alen,nilP,nilS,nilF,aeq,eqCells,eqCell,Go.Ai.known,strBin,abuiltin,aappend,abuildSlice,arowsFill,amakeSlice,acopy,minmax,rowsOf,numsT,notStr,isIntD,isByte,V.pz,V.pzs,T.toV,frz1,frz,scalT,scalTs,chunkT,List.range,List.range.loop,Int.reduceTDiv,Int.reduceTMod,Int.reduceFDiv,UInt8.reduceToNat,Nat.reduceAdd,Nat.reduceMul,Nat.reduceSub,Nat.reduceEqDiff,Nat.reduceLT,Nat.reduceLeDiff,Nat.reducePow,Nat.reduceDiv,Nat.reduceMod,Int.reduceLT,Int.reduceLE,Int.reduceAdd,Int.reduceMul,Int.reduceSub,Int.reduceNeg,Int.reduceToNat,Int.reducePow,Int.reduceEq,↓reduceIte,ite_true,ite_false,if_true,if_false,ne_eq,reduceCtorEq,Int.reduceBEq,Int.reduceBNe,Nat.reduceBEq,Nat.reduceBNe,implies_true,forall_const,eq_self,reduceDIte,IntKind.bits,kPostKF_ret,kPostKF_normal,kPostX_ret,kPostX_normal,bsl,nil2K,nil2,kPostFW_ret,kPostFW_normal,kPostKM_ret,kPostKM_normal,kPostXK_ret,kPostXK_normal,hwq,FT3,FT4,FT5,FT23,FT24,FT25,FT26,FT27,FT29,FT32,FT34,FT35,FT37,FT46,FT59,FT86,List.length_map,List.getElem?_map,Int.natCast_nonneg,List.length_append,List.map_append,hk'] | (refine condK_split ?_ ?_ <;> intro hwq) | (refine two_split ?_ ?_) | (refine guardK_split ?_ ?_ <;> intro hwq) | (refine guardE_split ?_ ?_ <;> intro hwq) | (refine awp_drawW [] (by decide +kernel) ?_; have hwq := trivial) | (refine call_plain n83 rfl rfl ?_; have hwq := trivial) | fail))
  | true =>
  have hk' : (kindZ p.own.a p.own.b p.own.c p.own.d p.own.e p.own.f != 1) = false := by rw [bne, hk]; rfl
  by_cases h1 : (p.ks.length : Int) < 1
  · rw [no (by rw [dO, hk, decide_eq_false (by omega : ¬ 1 ≤ (p.ks.length : Int))]; rfl)]
    (have hwq := trivial; repeat' (first | simp (config := { maxSteps := 10000000, implicitDefEqProofs := false }) only [QH,QR,V.noimm,V.noimms,frzZs,frzZ,frzA,frzV,frzVs,frzBox,boxLen,Option.isSome,cond_true,cond_false,aopD,calW,flatV,stepX,amap,stepY,alookup,afind,aupdate,adelete,amlen,arange,ameq,mapOf,akeq,pl,V.mapT,V.mapTs,Option.bind,stepK,runK,guardD,stepE,runD,callD,compact,selB,callK,evS,ofVal,ofVals,scalar,aop,ares,mkRes,V.rn,V.rns,V.cells?,cellsAt,Go.Ai.part,aload,astore,setL,V.atom,abin,aun,intBin,shiftBin,aconv,fieldOf,aindexAddr,aindex,bound?,aslice,aarr,abuild,afill,alen,nilP,nilS,nilF,aeq,eqCells,eqCell,Go.Ai.known,strBin,abuiltin,aappend,abuildSlice,arowsFill,amakeSlice,acopy,minmax,rowsOf,numsT,notStr,isIntD,isByte,V.pz,V.pzs,T.toV,frz1,frz,scalT,scalTs,chunkT,List.range,List.range.loop,Int.reduceTDiv,Int.reduceTMod,Int.reduceFDiv,UInt8.reduceToNat,Nat.reduceAdd,Nat.reduceMul,Nat.reduceSub,Nat.reduceEqDiff,Nat.reduceLT,Nat.reduceLeDiff,Nat.reducePow,Nat.reduceDiv,Nat.reduceMod,Int.reduceLT,Int.reduceLE,Int.reduceAdd,Int.reduceMul,Int.reduceSub,Int.reduceNeg,Int.reduceToNat,Int.reducePow,Int.reduceEq,↓reduceIte,ite_true,ite_false,if_true,if_false,ne_eq,reduceCtorEq,Int.reduceBEq,Int.reduceBNe,Nat.reduceBEq,Nat.reduceBNe,implies_true,forall_const,eq_self,reduceDIte,IntKind.bits,kPostKF_ret,kPostKF_normal,kPostX_ret,kPostX_normal,bsl,nil2K,nil2,kPostFW_ret,kPostFW_normal,kPostKM_ret,kPostKM_normal,kPostXK_ret,kPostXK_normal,hwq,FT3,FT4,FT5,FT23,FT24,FT25,FT26,FT27,FT29,FT32,FT34,FT35,FT37,FT46,FT59,FT86,List.length_map,List.getElem?_map,Int.natCast_nonneg,List.length_append,List.map_append,hk',h1] | (refine condK_split ?_ ?_ <;> intro hwq) | (refine two_split ?_ ?_) | (refine guardK_split ?_ ?_ <;> intro hwq) | (refine guardE_split ?_ ?_ <;> intro hwq) | (refine awp_drawW [] (by decide +kernel) ?_; have hwq := trivial) | (refine call_plain n83 rfl rfl ?_; have hwq := trivial) | fail))
  by_cases h2 : 8 < (p.ks.length : Int)
  · rw [no (by rw [dO, hk, decide_eq_true (by omega : 1 ≤ (p.ks.length : Int)), decide_eq_false (by omega : ¬ (p.ks.length : Int) ≤ 8)]; rfl)]
    (have hwq := trivial; repeat' (first | simp (config := { maxSteps := 10000000, implicitDefEqProofs := false }) only [QH,QR,V.noimm,V.noimms,frzZs,frzZ,frzA,frzV,frzVs,frzBox,boxLen,Option.isSome,cond_true,cond_false,aopD,calW,flatV,stepX,amap,stepY,alookup,afind,aupdate,adelete,amlen,arange,ameq,mapOf,akeq,pl,V.mapT,V.mapTs,Option.bind,stepK,runK,guardD,stepE,runD,callD,compact,selB,callK,evS,ofVal,ofVals,scalar,aop,ares,mkRes,V.rn,V.rns,V.cells?,cellsAt,Go.Ai.part,aload,astore,setL,V.atom,abin,aun,intBin,shiftBin,aconv,fieldOf,aindexAddr,aindex,bound?,aslice,aarr,abuild,afill,alen,nilP,nilS,nilF,aeq,eqCells,eqCell,Go.Ai.known,strBin,abuiltin,aappend,abuildSlice,arowsFill,amakeSlice,acopy,minmax,rowsOf,numsT,notStr,isIntD,isByte,V.pz,V.pzs,T.toV,frz1,frz,scalT,scalTs,chunkT,List.range,List.range.loop,Int.reduceTDiv,Int.reduceTMod,Int.reduceFDiv,UInt8.reduceToNat,Nat.reduceAdd,Nat.reduceMul,Nat.reduceSub,Nat.reduceEqDiff,Nat.reduceLT,Nat.reduceLeDiff,Nat.reducePow,Nat.reduceDiv,Nat.reduceMod,Int.reduceLT,Int.reduceLE,Int.reduceAdd,Int.reduceMul,Int.reduceSub,Int.reduceNeg,Int.reduceToNat,Int.reducePow,Int.reduceEq,↓reduceIte,ite_true,ite_false,if_true,if_false,ne_eq,reduceCtorEq,Int.reduceBEq,Int.reduceBNe,Nat.reduceBEq,Nat.reduceBNe,implies_true,forall_const,eq_self,reduceDIte,IntKind.bits,kPostKF_ret,kPostKF_normal,kPostX_ret,kPostX_normal,bsl,nil2K,nil2,kPostFW_ret,kPostFW_normal,kPostKM_ret,kPostKM_normal,kPostXK_ret,kPostXK_normal,hwq,FT3,FT4,FT5,FT23,FT24,FT25,FT26,FT27,FT29,FT32,FT34,FT35,FT37,FT46,FT59,FT86,List.length_map,List.getElem?_map,Int.natCast_nonneg,List.length_append,List.map_append,hk',h1,h2] | (refine condK_split ?_ ?_ <;> intro hwq) | (refine two_split ?_ ?_) | (refine guardK_split ?_ ?_ <;> intro hwq) | (refine guardE_split ?_ ?_ <;> intro hwq) | (refine awp_drawW [] (by decide +kernel) ?_; have hwq := trivial) | (refine call_plain n83 rfl rfl ?_; have hwq := trivial) | fail))
  rw [hk, decide_eq_true (by omega : 1 ≤ (p.ks.length : Int)), decide_eq_true (by omega : (p.ks.length : Int) ≤ 8)] at dO
  (have hwq := trivial; repeat' (first | simp (config := { maxSteps := 10000000, implicitDefEqProofs := false }) only [QH,QR,V.noimm,V.noimms,frzZs,frzZ,frzA,frzV,frzVs,frzBox,boxLen,Option.isSome,cond_true,cond_false,aopD,calW,flatV,stepX,amap,stepY,alookup,afind,aupdate,adelete,amlen,arange,ameq,mapOf,akeq,pl,V.mapT,V.mapTs,Option.bind,stepK,runK,guardD,stepE,runD,callD,compact,selB,callK,evS,ofVal,ofVals,scalar,aop,ares,mkRes,V.rn,V.rns,V.cells?,cellsAt,Go.Ai.part,aload,astore,setL,V.atom,abin,aun,intBin,shiftBin,aconv,fieldOf,aindexAddr,aindex,bound?,aslice,aarr,abuild,afill,alen,nilP,nilS,nilF,aeq,eqCells,eqCell,Go.Ai.known,strBin,abuiltin,aappend,abuildSlice,arowsFill,amakeSlice,acopy,minmax,rowsOf,numsT,notStr,isIntD,isByte,V.pz,V.pzs,T.toV,frz1,frz,scalT,scalTs,chunkT,List.range,List.range.loop,Int.reduceTDiv,Int.reduceTMod,Int.reduceFDiv,UInt8.reduceToNat,Nat.reduceAdd,Nat.reduceMul,Nat.reduceSub,Nat.reduceEqDiff,Nat.reduceLT,Nat.reduceLeDiff,Nat.reducePow,Nat.reduceDiv,Nat.reduceMod,Int.reduceLT,Int.reduceLE,Int.reduceAdd,Int.reduceMul,Int.reduceSub,Int.reduceNeg,Int.reduceToNat,Int.reducePow,Int.reduceEq,↓reduceIte,ite_true,ite_false,if_true,if_false,ne_eq,reduceCtorEq,Int.reduceBEq,Int.reduceBNe,Nat.reduceBEq,Nat.reduceBNe,implies_true,forall_const,eq_self,reduceDIte,IntKind.bits,kPostKF_ret,kPostKF_normal,kPostX_ret,kPostX_normal,bsl,nil2K,nil2,kPostFW_ret,kPostFW_normal,kPostKM_ret,kPostKM_normal,kPostXK_ret,kPostXK_normal,hwq,FT3,FT4,FT5,FT23,FT24,FT25,FT26,FT27,FT29,FT32,FT34,FT35,FT37,FT46,FT59,FT86,List.length_map,List.getElem?_map,Int.natCast_nonneg,List.length_append,List.map_append,hk',h1,h2] | (refine condK_split ?_ ?_ <;> intro hwq) | (refine two_split ?_ ?_) | (refine guardK_split ?_ ?_ <;> intro hwq) | (refine guardE_split ?_ ?_ <;> intro hwq) | (refine awp_drawW [] (by decide +kernel) ?_; have hwq := trivial) | (refine call_plain n83 rfl rfl ?_; have hwq := trivial) | fail))
  refine awp_loopK (Lk31 p) p.ks.length _ (Weak.cutI 1 [1, 3] ?_ ?_) ⟨0, _, rfl, by omega, rfl, by simp⟩ ?_
  · simp (config := { maxSteps := 10000000, implicitDefEqProofs := false }) only [QH,Option.isSome,cond_true,cond_false,Option.bind,selB,V.rn,V.rns,Go.Ai.known,V.pz,V.pzs,T.toV,frz1,List.range,List.range.loop,Nat.reduceAdd,Nat.reduceMul,Nat.reduceSub,Nat.reduceEqDiff,Nat.reduceLT,Nat.reduceLeDiff,Nat.reducePow,Nat.reduceDiv,Nat.reduceMod,Int.reduceLT,Int.reduceLE,Int.reduceAdd,Int.reduceMul,Int.reduceSub,Int.reduceNeg,Int.reducePow,Int.reduceEq,↓reduceIte,ite_true,ite_false,if_true,if_false,ne_eq,reduceCtorEq,Int.reduceBEq,Int.reduceBNe,Nat.reduceBEq,Nat.reduceBNe,implies_true,forall_const,eq_self,IntKind.bits,upd_tmsS,selT_cons,selT_nil]
  · simp (config := { maxSteps := 10000000, implicitDefEqProofs := false }) only [QH,Option.isSome,cond_true,cond_false,Option.bind,selB,V.rn,V.rns,Go.Ai.known,V.pz,V.pzs,T.toV,frz1,List.range,List.range.loop,Nat.reduceAdd,Nat.reduceMul,Nat.reduceSub,Nat.reduceEqDiff,Nat.reduceLT,Nat.reduceLeDiff,Nat.reducePow,Nat.reduceDiv,Nat.reduceMod,Int.reduceLT,Int.reduceLE,Int.reduceAdd,Int.reduceMul,Int.reduceSub,Int.reduceNeg,Int.reducePow,Int.reduceEq,↓reduceIte,ite_true,ite_false,if_true,if_false,ne_eq,reduceCtorEq,Int.reduceBEq,Int.reduceBNe,Nat.reduceBEq,Nat.reduceBNe,implies_true,forall_const,eq_self,IntKind.bits,upd_tmsS,selT_cons,selT_nil]
  rintro kk S ⟨j, mv, rfl, hj, rfl, hno⟩
  have wj : IntKind.i64.wrap ((j : Int) + 1) = (j : Int) + 1 := wI64 _ (by omega) (by omega)
  by_cases hjl : j < p.ks.length
  · have hjl' : (j : Int) < (p.ks.length : Int) := by omega
    have hgj : p.ks[j]? = some p.ks[j] := List.getElem?_eq_getElem hjl
    obtain ⟨x, hx⟩ : ∃ x, p.ks[j] = x := ⟨_, rfl⟩
    rw [hx] at hgj
    cases q1 : (x != 1) with
    | false =>
      (have hwq := trivial; repeat' (first | simp (config := { maxSteps := 10000000, implicitDefEqProofs := false }) only [QH,QR,V.noimm,V.noimms,frzZs,frzZ,frzA,frzV,frzVs,frzBox,boxLen,Option.isSome,cond_true,cond_false,aopD,calW,flatV,stepX,amap,stepY,alookup,afind,aupdate,adelete,amlen,arange,ameq,mapOf,akeq,pl,V.mapT,V.mapTs,Option.bind,stepK,runK,guardD,stepE,runD,callD,compact,selB,callK,evS,ofVal,ofVals,scalar,aop,ares,mkRes,V.rn,V.rns,V.cells?,cellsAt,Go.Ai.part,aload,astore,setL,V.atom,abin,aun,intBin,shiftBin,aconv,fieldOf,aindexAddr,aindex,bound?,aslice,aarr,abuild,afill,alen,nilP,nilS,nilF,aeq,eqCells,eqCell,Go.Ai.known,strBin,abuiltin,aappend,abuildSlice,arowsFill,amakeSlice,acopy,minmax,rowsOf,numsT,notStr,isIntD,isByte,V.pz,V.pzs,T.toV,frz1,frz,scalT,scalTs,chunkT,List.range,List.range.loop,Int.reduceTDiv,Int.reduceTMod,Int.reduceFDiv,UInt8.reduceToNat,Nat.reduceAdd,Nat.reduceMul,Nat.reduceSub,Nat.reduceEqDiff,Nat.reduceLT,Nat.reduceLeDiff,Nat.reducePow,Nat.reduceDiv,Nat.reduceMod,Int.reduceLT,Int.reduceLE,Int.reduceAdd,Int.reduceMul,Int.reduceSub,Int.reduceNeg,Int.reduceToNat,Int.reducePow,Int.reduceEq,↓reduceIte,ite_true,ite_false,if_true,if_false,ne_eq,reduceCtorEq,Int.reduceBEq,Int.reduceBNe,Nat.reduceBEq,Nat.reduceBNe,implies_true,forall_const,eq_self,reduceDIte,IntKind.bits,kPostKF_ret,kPostKF_normal,kPostX_ret,kPostX_normal,bsl,nil2K,nil2,kPostFW_ret,kPostFW_normal,kPostKM_ret,kPostKM_normal,kPostXK_ret,kPostXK_normal,hwq,FT3,FT4,FT5,FT23,FT24,FT25,FT26,FT27,FT29,FT32,FT34,FT35,FT37,FT46,FT59,FT86,List.length_map,List.getElem?_map,Int.natCast_nonneg,List.length_append,List.map_append,hjl',hgj,wj,q1] | (refine condK_split ?_ ?_ <;> intro hwq) | (refine two_split ?_ ?_) | (refine guardK_split ?_ ?_ <;> intro hwq) | (refine guardE_split ?_ ?_ <;> intro hwq) | (refine awp_drawW [] (by decide +kernel) ?_; have hwq := trivial) | fail))
      refine ⟨p.ks.length - (j + 1), _, by omega, Weak.cutI 1 [1, 3] ?_ ?_, j + 1, _, rfl, by omega, rfl, take_more (q := fun x : Int => x != 1 && x != 2) hno hgj (by simp only [q1, Bool.false_and])⟩
      · simp (config := { maxSteps := 10000000, implicitDefEqProofs := false }) only [QH,Option.isSome,cond_true,cond_false,Option.bind,selB,V.rn,V.rns,Go.Ai.known,V.pz,V.pzs,T.toV,frz1,List.range,List.range.loop,Nat.reduceAdd,Nat.reduceMul,Nat.reduceSub,Nat.reduceEqDiff,Nat.reduceLT,Nat.reduceLeDiff,Nat.reducePow,Nat.reduceDiv,Nat.reduceMod,Int.reduceLT,Int.reduceLE,Int.reduceAdd,Int.reduceMul,Int.reduceSub,Int.reduceNeg,Int.reducePow,Int.reduceEq,↓reduceIte,ite_true,ite_false,if_true,if_false,ne_eq,reduceCtorEq,Int.reduceBEq,Int.reduceBNe,Nat.reduceBEq,Nat.reduceBNe,implies_true,forall_const,eq_self,IntKind.bits,upd_tmsS,selT_cons,selT_nil,List.length_map,List.getElem?_map,Int.natCast_nonneg,List.length_append,List.map_append]
      · simp (config := { maxSteps := 10000000, implicitDefEqProofs := false }) only [QH,Option.isSome,cond_true,cond_false,Option.bind,selB,V.rn,V.rns,Go.Ai.known,V.pz,V.pzs,T.toV,frz1,List.range,List.range.loop,Nat.reduceAdd,Nat.reduceMul,Nat.reduceSub,Nat.reduceEqDiff,Nat.reduceLT,Nat.reduceLeDiff,Nat.reducePow,Nat.reduceDiv,Nat.reduceMod,Int.reduceLT,Int.reduceLE,Int.reduceAdd,Int.reduceMul,Int.reduceSub,Int.reduceNeg,Int.reducePow,Int.reduceEq,↓reduceIte,ite_true,ite_false,if_true,if_false,ne_eq,reduceCtorEq,Int.reduceBEq,Int.reduceBNe,Nat.reduceBEq,Nat.reduceBNe,implies_true,forall_const,eq_self,IntKind.bits,upd_tmsS,selT_cons,selT_nil,List.length_map,List.getElem?_map,Int.natCast_nonneg,List.length_append,List.map_append]
    | true =>
      cases q2 : (x != 2) with
      | false =>
        (have hwq := trivial; repeat' (first | simp (config := { maxSteps := 10000000, implicitDefEqProofs := false }) only [QH,QR,V.noimm,V.noimms,frzZs,frzZ,frzA,frzV,frzVs,frzBox,boxLen,Option.isSome,cond_true,cond_false,aopD,calW,flatV,stepX,amap,stepY,alookup,afind,aupdate,adelete,amlen,arange,ameq,mapOf,akeq,pl,V.mapT,V.mapTs,Option.bind,stepK,runK,guardD,stepE,runD,callD,compact,selB,callK,evS,ofVal,ofVals,scalar,aop,ares,mkRes,V.rn,V.rns,V.cells?,cellsAt,Go.Ai.part,aload,astore,setL,V.atom,abin,aun,intBin,shiftBin,aconv,fieldOf,aindexAddr,aindex,bound?,aslice,aarr,abuild,afill,alen,nilP,nilS,nilF,aeq,eqCells,eqCell,Go.Ai.known,strBin,abuiltin,aappend,abuildSlice,arowsFill,amakeSlice,acopy,minmax,rowsOf,numsT,notStr,isIntD,isByte,V.pz,V.pzs,T.toV,frz1,frz,scalT,scalTs,chunkT,List.range,List.range.loop,Int.reduceTDiv,Int.reduceTMod,Int.reduceFDiv,UInt8.reduceToNat,Nat.reduceAdd,Nat.reduceMul,Nat.reduceSub,Nat.reduceEqDiff,Nat.reduceLT,Nat.reduceLeDiff,Nat.reducePow,Nat.reduceDiv,Nat.reduceMod,Int.reduceLT,Int.reduceLE,Int.reduceAdd,Int.reduceMul,Int.reduceSub,Int.reduceNeg,Int.reduceToNat,Int.reducePow,Int.reduceEq,↓reduceIte,ite_true,ite_false,if_true,if_false,ne_eq,reduceCtorEq,Int.reduceBEq,Int.reduceBNe,Nat.reduceBEq,Nat.reduceBNe,implies_true,forall_const,eq_self,reduceDIte,IntKind.bits,kPostKF_ret,kPostKF_normal,kPostX_ret,kPostX_normal,bsl,nil2K,nil2,kPostFW_ret,kPostFW_normal,kPostKM_ret,kPostKM_normal,kPostXK_ret,kPostXK_normal,hwq,FT3,FT4,FT5,FT23,FT24,FT25,FT26,FT27,FT29,FT32,FT34,FT35,FT37,FT46,FT59,FT86,List.length_map,List.getElem?_map,Int.natCast_nonneg,List.length_append,List.map_append,hjl',hgj,wj,q1,q2] | (refine condK_split ?_ ?_ <;> intro hwq) | (refine two_split ?_ ?_) | (refine guardK_split ?_ ?_ <;> intro hwq) | (refine guardE_split ?_ ?_ <;> intro hwq) | (refine awp_drawW [] (by decide +kernel) ?_; have hwq := trivial) | fail))
        refine ⟨p.ks.length - (j + 1), _, by omega, Weak.cutI 1 [1, 3] ?_ ?_, j + 1, _, rfl, by omega, rfl, take_more (q := fun x : Int => x != 1 && x != 2) hno hgj (by simp only [q2, Bool.and_false])⟩
        · simp (config := { maxSteps := 10000000, implicitDefEqProofs := false }) only [QH,Option.isSome,cond_true,cond_false,Option.bind,selB,V.rn,V.rns,Go.Ai.known,V.pz,V.pzs,T.toV,frz1,List.range,List.range.loop,Nat.reduceAdd,Nat.reduceMul,Nat.reduceSub,Nat.reduceEqDiff,Nat.reduceLT,Nat.reduceLeDiff,Nat.reducePow,Nat.reduceDiv,Nat.reduceMod,Int.reduceLT,Int.reduceLE,Int.reduceAdd,Int.reduceMul,Int.reduceSub,Int.reduceNeg,Int.reducePow,Int.reduceEq,↓reduceIte,ite_true,ite_false,if_true,if_false,ne_eq,reduceCtorEq,Int.reduceBEq,Int.reduceBNe,Nat.reduceBEq,Nat.reduceBNe,implies_true,forall_const,eq_self,IntKind.bits,upd_tmsS,selT_cons,selT_nil,List.length_map,List.getElem?_map,Int.natCast_nonneg,List.length_append,List.map_append]
        · simp (config := { maxSteps := 10000000, implicitDefEqProofs := false }) only [QH,Option.isSome,cond_true,cond_false,Option.bind,selB,V.rn,V.rns,Go.Ai.known,V.pz,V.pzs,T.toV,frz1,List.range,List.range.loop,Nat.reduceAdd,Nat.reduceMul,Nat.reduceSub,Nat.reduceEqDiff,Nat.reduceLT,Nat.reduceLeDiff,Nat.reducePow,Nat.reduceDiv,Nat.reduceMod,Int.reduceLT,Int.reduceLE,Int.reduceAdd,Int.reduceMul,Int.reduceSub,Int.reduceNeg,Int.reducePow,Int.reduceEq,↓reduceIte,ite_true,ite_false,if_true,if_false,ne_eq,reduceCtorEq,Int.reduceBEq,Int.reduceBNe,Nat.reduceBEq,Nat.reduceBNe,implies_true,forall_const,eq_self,IntKind.bits,upd_tmsS,selT_cons,selT_nil,List.length_map,List.getElem?_map,Int.natCast_nonneg,List.length_append,List.map_append]
      | true =>
        rw [no (by rw [dO, any_some (q := fun x : Int => x != 1 && x != 2) hgj (by simp only [q1, q2, Bool.and_self])]; rfl)]
        (have hwq := trivial; repeat' (first | simp (config := { maxSteps := 10000000, implicitDefEqProofs := false }) only [QH,QR,V.noimm,V.noimms,frzZs,frzZ,frzA,frzV,frzVs,frzBox,boxLen,Option.isSome,cond_true,cond_false,aopD,calW,flatV,stepX,amap,stepY,alookup,afind,aupdate,adelete,amlen,arange,ameq,mapOf,akeq,pl,V.mapT,V.mapTs,Option.bind,stepK,runK,guardD,stepE,runD,callD,compact,selB,callK,evS,ofVal,ofVals,scalar,aop,ares,mkRes,V.rn,V.rns,V.cells?,cellsAt,Go.Ai.part,aload,astore,setL,V.atom,abin,aun,intBin,shiftBin,aconv,fieldOf,aindexAddr,aindex,bound?,aslice,aarr,abuild,afill,alen,nilP,nilS,nilF,aeq,eqCells,eqCell,Go.Ai.known,strBin,abuiltin,aappend,abuildSlice,arowsFill,amakeSlice,acopy,minmax,rowsOf,numsT,notStr,isIntD,isByte,V.pz,V.pzs,T.toV,frz1,frz,scalT,scalTs,chunkT,List.range,List.range.loop,Int.reduceTDiv,Int.reduceTMod,Int.reduceFDiv,UInt8.reduceToNat,Nat.reduceAdd,Nat.reduceMul,Nat.reduceSub,Nat.reduceEqDiff,Nat.reduceLT,Nat.reduceLeDiff,Nat.reducePow,Nat.reduceDiv,Nat.reduceMod,Int.reduceLT,Int.reduceLE,Int.reduceAdd,Int.reduceMul,Int.reduceSub,Int.reduceNeg,Int.reduceToNat,Int.reducePow,Int.reduceEq,↓reduceIte,ite_true,ite_false,if_true,if_false,ne_eq,reduceCtorEq,Int.reduceBEq,Int.reduceBNe,Nat.reduceBEq,Nat.reduceBNe,implies_true,forall_const,eq_self,reduceDIte,IntKind.bits,kPostKF_ret,kPostKF_normal,kPostX_ret,kPostX_normal,bsl,nil2K,nil2,kPostFW_ret,kPostFW_normal,kPostKM_ret,kPostKM_normal,kPostXK_ret,kPostXK_normal,hwq,FT3,FT4,FT5,FT23,FT24,FT25,FT26,FT27,FT29,FT32,FT34,FT35,FT37,FT46,FT59,FT86,List.length_map,List.getElem?_map,Int.natCast_nonneg,List.length_append,List.map_append,hjl',hgj,wj,q1,q2] | (refine condK_split ?_ ?_ <;> intro hwq) | (refine two_split ?_ ?_) | (refine guardK_split ?_ ?_ <;> intro hwq) | (refine guardE_split ?_ ?_ <;> intro hwq) | (refine awp_drawW [] (by decide +kernel) ?_; have hwq := trivial) | fail))
  · have hjl' : ¬ (j : Int) < (p.ks.length : Int) := by omega
    rw [List.take_of_length_le (by omega)] at hno
    rw [any_none (q := fun x : Int => x != 1 && x != 2) hno] at dO
    by_cases g1 : 64 < (p.bs.length : Int)
    · rw [no (by rw [dO, decide_eq_false (by omega : ¬ (p.bs.length : Int) ≤ 64)]; rfl)]
      (have hwq := trivial; repeat' (first | simp (config := { maxSteps := 10000000, implicitDefEqProofs := false }) only [QH,QR,V.noimm,V.noimms,frzZs,frzZ,frzA,frzV,frzVs,frzBox,boxLen,Option.isSome,cond_true,cond_false,aopD,calW,flatV,stepX,amap,stepY,alookup,afind,aupdate,adelete,amlen,arange,ameq,mapOf,akeq,pl,V.mapT,V.mapTs,Option.bind,stepK,runK,guardD,stepE,runD,callD,compact,selB,callK,evS,ofVal,ofVals,scalar,aop,ares,mkRes,V.rn,V.rns,V.cells?,cellsAt,Go.Ai.part,aload,astore,setL,V.atom,abin,aun,intBin,shiftBin,aconv,fieldOf,aindexAddr,aindex,bound?,aslice,aarr,abuild,afill,alen,nilP,nilS,nilF,aeq,eqCells,eqCell,Go.Ai.known,strBin,abuiltin,aappend,abuildSlice,arowsFill,amakeSlice,acopy,minmax,rowsOf,numsT,notStr,isIntD,isByte,V.pz,V.pzs,T.toV,frz1,frz,scalT,scalTs,chunkT,List.range,List.range.loop,Int.reduceTDiv,Int.reduceTMod,Int.reduceFDiv,UInt8.reduceToNat,Nat.reduceAdd,Nat.reduceMul,Nat.reduceSub,Nat.reduceEqDiff,Nat.reduceLT,Nat.reduceLeDiff,Nat.reducePow,Nat.reduceDiv,Nat.reduceMod,Int.reduceLT,Int.reduceLE,Int.reduceAdd,Int.reduceMul,Int.reduceSub,Int.reduceNeg,Int.reduceToNat,Int.reducePow,Int.reduceEq,↓reduceIte,ite_true,ite_false,if_true,if_false,ne_eq,reduceCtorEq,Int.reduceBEq,Int.reduceBNe,Nat.reduceBEq,Nat.reduceBNe,implies_true,forall_const,eq_self,reduceDIte,IntKind.bits,kPostKF_ret,kPostKF_normal,kPostX_ret,kPostX_normal,bsl,nil2K,nil2,kPostFW_ret,kPostFW_normal,kPostKM_ret,kPostKM_normal,kPostXK_ret,kPostXK_normal,hwq,FT3,FT4,FT5,FT23,FT24,FT25,FT26,FT27,FT29,FT32,FT34,FT35,FT37,FT46,FT59,FT86,List.length_map,List.getElem?_map,Int.natCast_nonneg,List.length_append,List.map_append,hjl',g1] | (refine condK_split ?_ ?_ <;> intro hwq) | (refine two_split ?_ ?_) | (refine guardK_split ?_ ?_ <;> intro hwq) | (refine guardE_split ?_ ?_ <;> intro hwq) | (refine awp_drawW [] (by decide +kernel) ?_; have hwq := trivial) | fail))
    by_cases g2 : 64 < (p.cs.length : Int)
    · rw [no (by rw [dO, decide_eq_true (by omega : (p.bs.length : Int) ≤ 64), decide_eq_false (by omega : ¬ (p.cs.length : Int) ≤ 64)]; rfl)]
      (have hwq := trivial; repeat' (first | simp (config := { maxSteps := 10000000, implicitDefEqProofs := false }) only [QH,QR,V.noimm,V.noimms,frzZs,frzZ,frzA,frzV,frzVs,frzBox,boxLen,Option.isSome,cond_true,cond_false,aopD,calW,flatV,stepX,amap,stepY,alookup,afind,aupdate,adelete,amlen,arange,ameq,mapOf,akeq,pl,V.mapT,V.mapTs,Option.bind,stepK,runK,guardD,stepE,runD,callD,compact,selB,callK,evS,ofVal,ofVals,scalar,aop,ares,mkRes,V.rn,V.rns,V.cells?,cellsAt,Go.Ai.part,aload,astore,setL,V.atom,abin,aun,intBin,shiftBin,aconv,fieldOf,aindexAddr,aindex,bound?,aslice,aarr,abuild,afill,alen,nilP,nilS,nilF,aeq,eqCells,eqCell,Go.Ai.known,strBin,abuiltin,aappend,abuildSlice,arowsFill,amakeSlice,acopy,minmax,rowsOf,numsT,notStr,isIntD,isByte,V.pz,V.pzs,T.toV,frz1,frz,scalT,scalTs,chunkT,List.range,List.range.loop,Int.reduceTDiv,Int.reduceTMod,Int.reduceFDiv,UInt8.reduceToNat,Nat.reduceAdd,Nat.reduceMul,Nat.reduceSub,Nat.reduceEqDiff,Nat.reduceLT,Nat.reduceLeDiff,Nat.reducePow,Nat.reduceDiv,Nat.reduceMod,Int.reduceLT,Int.reduceLE,Int.reduceAdd,Int.reduceMul,Int.reduceSub,Int.reduceNeg,Int.reduceToNat,Int.reducePow,Int.reduceEq,↓reduceIte,ite_true,ite_false,if_true,if_false,ne_eq,reduceCtorEq,Int.reduceBEq,Int.reduceBNe,Nat.reduceBEq,Nat.reduceBNe,implies_true,forall_const,eq_self,reduceDIte,IntKind.bits,kPostKF_ret,kPostKF_normal,kPostX_ret,kPostX_normal,bsl,nil2K,nil2,kPostFW_ret,kPostFW_normal,kPostKM_ret,kPostKM_normal,kPostXK_ret,kPostXK_normal,hwq,FT3,FT4,FT5,FT23,FT24,FT25,FT26,FT27,FT29,FT32,FT34,FT35,FT37,FT46,FT59,FT86,List.length_map,List.getElem?_map,Int.natCast_nonneg,List.length_append,List.map_append,hjl',g1,g2] | (refine condK_split ?_ ?_ <;> intro hwq) | (refine two_split ?_ ?_) | (refine guardK_split ?_ ?_ <;> intro hwq) | (refine guardE_split ?_ ?_ <;> intro hwq) | (refine awp_drawW [] (by decide +kernel) ?_; have hwq := trivial) | fail))
    by_cases g3 : 64 < (p.ms.length : Int)
    · rw [no (by rw [dO, decide_eq_true (by omega : (p.bs.length : Int) ≤ 64), decide_eq_true (by omega : (p.cs.length : Int) ≤ 64), decide_eq_false (by omega : ¬ (p.ms.length : Int) ≤ 64)]; rfl)]
      (have hwq := trivial; repeat' (first | simp (config := { maxSteps := 10000000, implicitDefEqProofs := false }) only [QH,QR,V.noimm,V.noimms,frzZs,frzZ,frzA,frzV,frzVs,frzBox,boxLen,Option.isSome,cond_true,cond_false,aopD,calW,flatV,stepX,amap,stepY,alookup,afind,aupdate,adelete,amlen,arange,ameq,mapOf,akeq,pl,V.mapT,V.mapTs,Option.bind,stepK,runK,guardD,stepE,runD,callD,compact,selB,callK,evS,ofVal,ofVals,scalar,aop,ares,mkRes,V.rn,V.rns,V.cells?,cellsAt,Go.Ai.part,aload,astore,setL,V.atom,abin,aun,intBin,shiftBin,aconv,fieldOf,aindexAddr,aindex,bound?,aslice,aarr,abuild,afill,alen,nilP,nilS,nilF,aeq,eqCells,eqCell,Go.Ai.known,strBin,abuiltin,aappend,abuildSlice,arowsFill,amakeSlice,acopy,minmax,rowsOf,numsT,notStr,isIntD,isByte,V.pz,V.pzs,T.toV,frz1,frz,scalT,scalTs,chunkT,List.range,List.range.loop,Int.reduceTDiv,Int.reduceTMod,Int.reduceFDiv,UInt8.reduceToNat,Nat.reduceAdd,Nat.reduceMul,Nat.reduceSub,Nat.reduceEqDiff,Nat.reduceLT,Nat.reduceLeDiff,Nat.reducePow,Nat.reduceDiv,Nat.reduceMod,Int.reduceLT,Int.reduceLE,Int.reduceAdd,Int.reduceMul,Int.reduceSub,Int.reduceNeg,Int.reduceToNat,Int.reducePow,Int.reduceEq,↓reduceIte,ite_true,ite_false,if_true,if_false,ne_eq,reduceCtorEq,Int.reduceBEq,Int.reduceBNe,Nat.reduceBEq,Nat.reduceBNe,implies_true,forall_const,eq_self,reduceDIte,IntKind.bits,kPostKF_ret,kPostKF_normal,kPostX_ret,kPostX_normal,bsl,nil2K,nil2,kPostFW_ret,kPostFW_normal,kPostKM_ret,kPostKM_normal,kPostXK_ret,kPostXK_normal,hwq,FT3,FT4,FT5,FT23,FT24,FT25,FT26,FT27,FT29,FT32,FT34,FT35,FT37,FT46,FT59,FT86,List.length_map,List.getElem?_map,Int.natCast_nonneg,List.length_append,List.map_append,hjl',g1,g2,g3] | (refine condK_split ?_ ?_ <;> intro hwq) | (refine two_split ?_ ?_) | (refine guardK_split ?_ ?_ <;> intro hwq) | (refine guardE_split ?_ ?_ <;> intro hwq) | (refine awp_drawW [] (by decide +kernel) ?_; have hwq := trivial) | fail))
    rw [decide_eq_true (by omega : (p.bs.length : Int) ≤ 64), decide_eq_true (by omega : (p.cs.length : Int) ≤ 64), decide_eq_true (by omega : (p.ms.length : Int) ≤ 64)] at dO
    cases r1 with
    | false =>
      rw [no (by rw [dO]; rfl)]
      (have hwq := trivial; repeat' (first | simp (config := { maxSteps := 10000000, implicitDefEqProofs := false }) only [QH,QR,V.noimm,V.noimms,frzZs,frzZ,frzA,frzV,frzVs,frzBox,boxLen,Option.isSome,cond_true,cond_false,aopD,calW,flatV,stepX,amap,stepY,alookup,afind,aupdate,adelete,amlen,arange,ameq,mapOf,akeq,pl,V.mapT,V.mapTs,Option.bind,stepK,runK,guardD,stepE,runD,callD,compact,selB,callK,evS,ofVal,ofVals,scalar,aop,ares,mkRes,V.rn,V.rns,V.cells?,cellsAt,Go.Ai.part,aload,astore,setL,V.atom,abin,aun,intBin,shiftBin,aconv,fieldOf,aindexAddr,aindex,bound?,aslice,aarr,abuild,afill,alen,nilP,nilS,nilF,aeq,eqCells,eqCell,Go.Ai.known,strBin,abuiltin,aappend,abuildSlice,arowsFill,amakeSlice,acopy,minmax,rowsOf,numsT,notStr,isIntD,isByte,V.pz,V.pzs,T.toV,frz1,frz,scalT,scalTs,chunkT,List.range,List.range.loop,Int.reduceTDiv,Int.reduceTMod,Int.reduceFDiv,UInt8.reduceToNat,Nat.reduceAdd,Nat.reduceMul,Nat.reduceSub,Nat.reduceEqDiff,Nat.reduceLT,Nat.reduceLeDiff,Nat.reducePow,Nat.reduceDiv,Nat.reduceMod,Int.reduceLT,Int.reduceLE,Int.reduceAdd,Int.reduceMul,Int.reduceSub,Int.reduceNeg,Int.reduceToNat,Int.reducePow,Int.reduceEq,↓reduceIte,ite_true,ite_false,if_true,if_false,ne_eq,reduceCtorEq,Int.reduceBEq,Int.reduceBNe,Nat.reduceBEq,Nat.reduceBNe,implies_true,forall_const,eq_self,reduceDIte,IntKind.bits,kPostKF_ret,kPostKF_normal,kPostX_ret,kPostX_normal,bsl,nil2K,nil2,kPostFW_ret,kPostFW_normal,kPostKM_ret,kPostKM_normal,kPostXK_ret,kPostXK_normal,hwq,FT3,FT4,FT5,FT23,FT24,FT25,FT26,FT27,FT29,FT32,FT34,FT35,FT37,FT46,FT59,FT86,List.length_map,List.getElem?_map,Int.natCast_nonneg,List.length_append,List.map_append,hjl',g1,g2,g3] | (refine condK_split ?_ ?_ <;> intro hwq) | (refine two_split ?_ ?_) | (refine guardK_split ?_ ?_ <;> intro hwq) | (refine guardE_split ?_ ?_ <;> intro hwq) | (refine awp_drawW [] (by decide +kernel) ?_; have hwq := trivial) | (refine call_plain n84 rfl rfl ?_; have hwq := trivial) | fail))
    | true =>
    cases r2 with
    | false =>
      rw [no (by rw [dO]; rfl)]
      (have hwq := trivial; repeat' (first | simp (config := { maxSteps := 10000000, implicitDefEqProofs := false }) only [QH,QR,V.noimm,V.noimms,frzZs,frzZ,frzA,frzV,frzVs,frzBox,boxLen,Option.isSome,cond_true,cond_false,aopD,calW,flatV,stepX,amap,stepY,alookup,afind,aupdate,adelete,amlen,arange,ameq,mapOf,akeq,pl,V.mapT,V.mapTs,Option.bind,stepK,runK,guardD,stepE,runD,callD,compact,selB,callK,evS,ofVal,ofVals,scalar,aop,ares,mkRes,V.rn,V.rns,V.cells?,cellsAt,Go.Ai.part,aload,astore,setL,V.atom,abin,aun,intBin,shiftBin,aconv,fieldOf,aindexAddr,aindex,bound?,aslice,aarr,abuild,afill,alen,nilP,nilS,nilF,aeq,eqCells,eqCell,Go.Ai.known,strBin,abuiltin,aappend,abuildSlice,arowsFill,amakeSlice,acopy,minmax,rowsOf,numsT,notStr,isIntD,isByte,V.pz,V.pzs,T.toV,frz1,frz,scalT,scalTs,chunkT,List.range,List.range.loop,Int.reduceTDiv,Int.reduceTMod,Int.reduceFDiv,UInt8.reduceToNat,Nat.reduceAdd,Nat.reduceMul,Nat.reduceSub,Nat.reduceEqDiff,Nat.reduceLT,Nat.reduceLeDiff,Nat.reducePow,Nat.reduceDiv,Nat.reduceMod,Int.reduceLT,Int.reduceLE,Int.reduceAdd,Int.reduceMul,Int.reduceSub,Int.reduceNeg,Int.reduceToNat,Int.reducePow,Int.reduceEq,↓reduceIte,ite_true,ite_false,if_true,if_false,ne_eq,reduceCtorEq,Int.reduceBEq,Int.reduceBNe,Nat.reduceBEq,Nat.reduceBNe,implies_true,forall_const,eq_self,reduceDIte,IntKind.bits,kPostKF_ret,kPostKF_normal,kPostX_ret,kPostX_normal,bsl,nil2K,nil2,kPostFW_ret,kPostFW_normal,kPostKM_ret,kPostKM_normal,kPostXK_ret,kPostXK_normal,hwq,FT3,FT4,FT5,FT23,FT24,FT25,FT26,FT27,FT29,FT32,FT34,FT35,FT37,FT46,FT59,FT86,List.length_map,List.getElem?_map,Int.natCast_nonneg,List.length_append,List.map_append,hjl',g1,g2,g3] | (refine condK_split ?_ ?_ <;> intro hwq) | (refine two_split ?_ ?_) | (refine guardK_split ?_ ?_ <;> intro hwq) | (refine guardE_split ?_ ?_ <;> intro hwq) | (refine awp_drawW [] (by decide +kernel) ?_; have hwq := trivial) | (refine call_plain n84 rfl rfl ?_; have hwq := trivial) | (refine call_plain n85 rfl rfl ?_; have hwq := trivial) | fail))
    | true =>
    cases r3 with
    | false =>
      rw [no (by rw [dO]; rfl)]
      (have hwq := trivial; repeat' (first | simp (config := { maxSteps := 10000000, implicitDefEqProofs := false }) only [QH,QR,V.noimm,V.noimms,frzZs,frzZ,frzA,frzV,frzVs,frzBox,boxLen,Option.isSome,cond_true,cond_false,aopD,calW,flatV,stepX,amap,stepY,alookup,afind,aupdate,adelete,amlen,arange,ameq,mapOf,akeq,pl,V.mapT,V.mapTs,Option.bind,stepK,runK,guardD,stepE,runD,callD,compact,selB,callK,evS,ofVal,ofVals,scalar,aop,ares,mkRes,V.rn,V.rns,V.cells?,cellsAt,Go.Ai.part,aload,astore,setL,V.atom,abin,aun,intBin,shiftBin,aconv,fieldOf,aindexAddr,aindex,bound?,aslice,aarr,abuild,afill,alen,nilP,nilS,nilF,aeq,eqCells,eqCell,Go.Ai.known,strBin,abuiltin,aappend,abuildSlice,arowsFill,amakeSlice,acopy,minmax,rowsOf,numsT,notStr,isIntD,isByte,V.pz,V.pzs,T.toV,frz1,frz,scalT,scalTs,chunkT,List.range,List.range.loop,Int.reduceTDiv,Int.reduceTMod,Int.reduceFDiv,UInt8.reduceToNat,Nat.reduceAdd,Nat.reduceMul,Nat.reduceSub,Nat.reduceEqDiff,Nat.reduceLT,Nat.reduceLeDiff,Nat.reducePow,Nat.reduceDiv,Nat.reduceMod,Int.reduceLT,Int.reduceLE,Int.reduceAdd,Int.reduceMul,Int.reduceSub,Int.reduceNeg,Int.reduceToNat,Int.reducePow,Int.reduceEq,↓reduceIte,ite_true,ite_false,if_true,if_false,ne_eq,reduceCtorEq,Int.reduceBEq,Int.reduceBNe,Nat.reduceBEq,Nat.reduceBNe,implies_true,forall_const,eq_self,reduceDIte,IntKind.bits,kPostKF_ret,kPostKF_normal,kPostX_ret,kPostX_normal,bsl,nil2K,nil2,kPostFW_ret,kPostFW_normal,kPostKM_ret,kPostKM_normal,kPostXK_ret,kPostXK_normal,hwq,FT3,FT4,FT5,FT23,FT24,FT25,FT26,FT27,FT29,FT32,FT34,FT35,FT37,FT46,FT59,FT86,List.length_map,List.getElem?_map,Int.natCast_nonneg,List.length_append,List.map_append,hjl',g1,g2,g3] | (refine condK_split ?_ ?_ <;> intro hwq) | (refine two_split ?_ ?_) | (refine guardK_split ?_ ?_ <;> intro hwq) | (refine guardE_split ?_ ?_ <;> intro hwq) | (refine awp_drawW [] (by decide +kernel) ?_; have hwq := trivial) | (refine call_plain n84 rfl rfl ?_; have hwq := trivial) | (refine call_plain n85 rfl rfl ?_; have hwq := trivial) | (refine call_plain n86 rfl rfl ?_; have hwq := trivial) | fail))
    | true =>
      have he : checkE p = 0 := by rw [dR, dO]; rfl
      rw [he]
      (have hwq := trivial; repeat' (first | simp (config := { maxSteps := 10000000, implicitDefEqProofs := false }) only [QH,QR,V.noimm,V.noimms,frzZs,frzZ,frzA,frzV,frzVs,frzBox,boxLen,Option.isSome,cond_true,cond_false,aopD,calW,flatV,stepX,amap,stepY,alookup,afind,aupdate,adelete,amlen,arange,ameq,mapOf,akeq,pl,V.mapT,V.mapTs,Option.bind,stepK,runK,guardD,stepE,runD,callD,compact,selB,callK,evS,ofVal,ofVals,scalar,aop,ares,mkRes,V.rn,V.rns,V.cells?,cellsAt,Go.Ai.part,aload,astore,setL,V.atom,abin,aun,intBin,shiftBin,aconv,fieldOf,aindexAddr,aindex,bound?,aslice,aarr,abuild,afill,alen,nilP,nilS,nilF,aeq,eqCells,eqCell,Go.Ai.known,strBin,abuiltin,aappend,abuildSlice,arowsFill,amakeSlice,acopy,minmax,rowsOf,numsT,notStr,isIntD,isByte,V.pz,V.pzs,T.toV,frz1,frz,scalT,scalTs,chunkT,List.range,List.range.loop,Int.reduceTDiv,Int.reduceTMod,Int.reduceFDiv,UInt8.reduceToNat,Nat.reduceAdd,Nat.reduceMul,Nat.reduceSub,Nat.reduceEqDiff,Nat.reduceLT,Nat.reduceLeDiff,Nat.reducePow,Nat.reduceDiv,Nat.reduceMod,Int.reduceLT,Int.reduceLE,Int.reduceAdd,Int.reduceMul,Int.reduceSub,Int.reduceNeg,Int.reduceToNat,Int.reducePow,Int.reduceEq,↓reduceIte,ite_true,ite_false,if_true,if_false,ne_eq,reduceCtorEq,Int.reduceBEq,Int.reduceBNe,Nat.reduceBEq,Nat.reduceBNe,implies_true,forall_const,eq_self,reduceDIte,IntKind.bits,kPostKF_ret,kPostKF_normal,kPostX_ret,kPostX_normal,bsl,nil2K,nil2,kPostFW_ret,kPostFW_normal,kPostKM_ret,kPostKM_normal,kPostXK_ret,kPostXK_normal,hwq,FT3,FT4,FT5,FT23,FT24,FT25,FT26,FT27,FT29,FT32,FT34,FT35,FT37,FT46,FT59,FT86,List.length_map,List.getElem?_map,Int.natCast_nonneg,List.length_append,List.map_append,hjl',g1,g2,g3] | (refine condK_split ?_ ?_ <;> intro hwq) | (refine two_split ?_ ?_) | (refine guardK_split ?_ ?_ <;> intro hwq) | (refine guardE_split ?_ ?_ <;> intro hwq) | (refine awp_drawW [] (by decide +kernel) ?_; have hwq := trivial) | (refine call_plain n84 rfl rfl ?_; have hwq := trivial) | (refine call_plain n85 rfl rfl ?_; have hwq := trivial) | (refine call_plain n86 rfl rfl ?_; have hwq := trivial) | fail))
end Go.Ai
