/- Contracts of functions of the loaded program: called with data in the ranges that each names, it returns this value and writes to no old memory. -/
import Derived.Test.YtbiolkmddpkheaaGreatPrvZc
import Derived.Lib.Overlaps
import Derived.Lib.AppendZerosOnto
set_option linter.unusedVariables false
set_option linter.unusedSimpArgs false
set_option maxHeartbeats 4000000
set_option maxRecDepth 100000
namespace Go.Ai
open Go.Proofs
attribute [local go_sem] QH QR V.noimm V.noimms frzZs frzZ frzA frzV frzVs frzBox boxLen Option.isSome cond_true cond_false aopD calW flatV stepX amap stepY alookup afind aupdate adelete amlen arange ameq mapOf akeq pl V.mapT V.mapTs Option.bind stepK runK guardD stepE runD callD compact selB callK evS ofVal ofVals scalar aop ares mkRes V.rn V.rns V.cells? cellsAt Go.Ai.part aload astore setL V.atom abin aun intBin shiftBin aconv fieldOf aindexAddr aindex bound? aslice aarr abuild afill alen nilP nilS nilF aeq eqCells eqCell Go.Ai.known strBin abuiltin aappend abuildSlice arowsFill amakeSlice acopy aclear minmax rowsOf numsT notStr isIntD isByte V.pz V.pzs T.toV frz1 frz scalT scalTs chunkT List.range List.range.loop ite_true ite_false if_true if_false ne_eq implies_true forall_const eq_self IntKind.bits kPostKF_ret kPostKF_normal kPostX_ret kPostX_normal bsl nil2K nil2 kPostFW_ret kPostFW_normal kPostKM_ret kPostKM_normal kPostXK_ret kPostXK_normal
abbrev bxF (f : Nat) : Blk := .box [.clo (.func f) [] []] false
theorem pk105 (x y : Mp) : AC Tryz.prog 105 [mpV y, .ptr 1 0 0, .ptr 0 0 0] [bxMp x, bxF 36] (eqS (vB (cmpMp x y == 0)) [bxMp x, bxF 36]) := by
  have hT : isAgg Tryz.prog 69 = some false := by kernel_rfl
  have h1 := pc36 x y
  generalize cmpMp x y = r at h1
  refine AC_heap orders [0, 1] Tryz.func105 rfl (by kernel_rfl) (by kernel_rfl) Tryz.ntmps105 (by simp) ?_
  unfold Tryz.f105
  (have hwq := trivial; repeat' (first | simp (maxSteps:=9999999)-implicitDefEqProofs only [go_sem,simprocAttr,hwq,FT3,FT4,FT32,FT69,List.length_map,List.getElem?_map,Int.natCast_nonneg,List.length_append,List.map_append,hT] | (refine condK_split ?_ ?_ <;> intro hwq) | (refine two_split ?_ ?_) | (refine guardK_split ?_ ?_ <;> intro hwq) | (refine guardE_split ?_ ?_ <;> intro hwq) | (refine awp_drawW [] (by decide +kernel) ?_; have hwq := trivial) | (refine call_plain h1 rfl rfl ?_; have hwq := trivial) | fail))
def Jx126 (x : Mp) (q : Mp → Bool) (L : List Mp) (k : Nat) (S : St) : Prop :=
  ∃ (j : Nat) (mv : List Nat), S = ⟨tms [(0, .own 2 0 L.length), (1, .clo (.func 105) [] [.ptr 1 0 0, .ptr 0 0 0]), (6, .own 2 0 L.length), (7, vI L.length), (8, vI j)], [bxMp x, bxF 36, .rows 3 (L.map mpT) false], mv⟩ ∧ (∀ t ∈ mv, 3 ≤ t) ∧ j ≤ L.length ∧ k = L.length - j ∧ ∀ y ∈ L.take j, q y = false
theorem pio126 (x : Mp) (L : List Mp) (hl : L.length ≤ 1000) (q : Mp → Bool) (hq : ∀ y, q y = (cmpMp x y == 0)) :
    AC Tryz.prog 126 [.own 2 0 L.length, .clo (.func 105) [] [.ptr 1 0 0, .ptr 0 0 0]] [bxMp x, bxF 36, .rows 3 (L.map mpT) false] (eqS (vI (ixZ q L)) [bxMp x, bxF 36, .rows 3 (L.map mpT) false]) := by
  refine AC_heap orders [0, 1, 2] Tryz.func126 rfl (by kernel_rfl) (by kernel_rfl) Tryz.ntmps126 (by simp) ?_
  unfold Tryz.f126
  (have hwq := trivial; repeat' (first | simp (maxSteps:=9999999)-implicitDefEqProofs only [go_sem,simprocAttr,hwq,FT3,FT25,FT32,FT101,List.length_map,List.getElem?_map,Int.natCast_nonneg,List.length_append,List.map_append] | (refine condK_split ?_ ?_ <;> intro hwq) | (refine two_split ?_ ?_) | (refine guardK_split ?_ ?_ <;> intro hwq) | (refine guardE_split ?_ ?_ <;> intro hwq) | (refine awp_drawW [] (by decide +kernel) ?_; have hwq := trivial) | fail))
  refine awp_loopK (Jx126 x q L) L.length _ (Weak.cutI 3 [0, 1, 6, 7, 8] ?_ ?_) ⟨0, _, rfl, by simp [List.mem_range'_1], by omega, rfl, by simp⟩ ?_
  · simp (maxSteps:=9999999)-implicitDefEqProofs only [simprocAttr,QH,Option.isSome,cond_true,cond_false,Option.bind,selB,V.rn,V.rns,Go.Ai.known,V.pz,V.pzs,T.toV,frz1,List.range,List.range.loop,ite_true,ite_false,if_true,if_false,ne_eq,implies_true,forall_const,eq_self,IntKind.bits,upd_tmsS,selT_cons,selT_nil,List.length_map,List.getElem?_map,Int.natCast_nonneg,List.length_append,List.map_append]
  · simp (maxSteps:=9999999)-implicitDefEqProofs only [simprocAttr,QH,Option.isSome,cond_true,cond_false,Option.bind,selB,V.rn,V.rns,Go.Ai.known,V.pz,V.pzs,T.toV,frz1,List.range,List.range.loop,ite_true,ite_false,if_true,if_false,ne_eq,implies_true,forall_const,eq_self,IntKind.bits,upd_tmsS,selT_cons,selT_nil]
  rintro kk S ⟨j, mv, rfl, hmv, hj, rfl, hno⟩
  have hfmv : mv.filter (fun x => decide (x < 3)) = [] := by
    rw [List.filter_eq_nil_iff]
    intro t ht
    have := hmv t ht
    simp
    try omega
  have hmv' : ∀ m t : Nat, t ∈ mv ++ List.range' 3 m → 3 ≤ t := by
    intro m t ht
    rcases List.mem_append.1 ht with h1 | h1
    · exact hmv t h1
    · exact (List.mem_range'_1.1 h1).1
  have wj := wj_of hj hl
  by_cases hjl : j < L.length
  · have hjl' : (j : Int) < (L.length : Int) := Int.ofNat_lt.2 hjl
    have hgj : L[j]? = some L[j] := List.getElem?_eq_getElem hjl
    obtain ⟨y, hy⟩ : ∃ y, L[j] = y := ⟨_, rfl⟩
    rw [hy] at hgj
    have hc := pk105 x y
    rw [← hq y] at hc
    cases hqx : q y with
    | true =>
      rw [hqx] at hc
      have hix := ix_some hno hgj hqx
      rw [hix]
      (have hwq := trivial; repeat' (first | simp (maxSteps:=9999999)-implicitDefEqProofs only [go_sem,simprocAttr,hwq,FT3,FT25,FT32,FT101,List.length_map,List.getElem?_map,Int.natCast_nonneg,List.length_append,List.map_append,hjl',hgj,wj,hfmv] | (refine condK_split ?_ ?_ <;> intro hwq) | (refine two_split ?_ ?_) | (refine guardK_split ?_ ?_ <;> intro hwq) | (refine guardE_split ?_ ?_ <;> intro hwq) | (refine awp_drawW [] (by decide +kernel) ?_; have hwq := trivial) | (refine call_at [0, 1] hc (by simp) (by decide) rfl rfl (by simp [mapT_box, V.mapTs, V.mapT, pl]) (by simp [V.les, V.le, V.mapTs, V.mapT, pl]) ?_; have hwq := trivial) | fail))
    | false =>
      rw [hqx] at hc
      (have hwq := trivial; repeat' (first | simp (maxSteps:=9999999)-implicitDefEqProofs only [go_sem,simprocAttr,hwq,FT3,FT25,FT32,FT101,List.length_map,List.getElem?_map,Int.natCast_nonneg,List.length_append,List.map_append,hjl',hgj,wj,hfmv] | (refine condK_split ?_ ?_ <;> intro hwq) | (refine two_split ?_ ?_) | (refine guardK_split ?_ ?_ <;> intro hwq) | (refine guardE_split ?_ ?_ <;> intro hwq) | (refine awp_drawW [] (by decide +kernel) ?_; have hwq := trivial) | (refine call_at [0, 1] hc (by simp) (by decide) rfl rfl (by simp [mapT_box, V.mapTs, V.mapT, pl]) (by simp [V.les, V.le, V.mapTs, V.mapT, pl]) ?_; have hwq := trivial) | fail))
      refine ⟨L.length - (j + 1), _, st_of hjl, Weak.cutI 3 [0, 1, 6, 7, 8] ?_ ?_, j + 1, _, rfl, hmv' _, hjl, rfl, ix_more hno hgj hqx⟩
      · simp (maxSteps:=9999999)-implicitDefEqProofs only [simprocAttr,QH,Option.isSome,cond_true,cond_false,Option.bind,selB,V.rn,V.rns,Go.Ai.known,V.pz,V.pzs,T.toV,frz1,List.range,List.range.loop,ite_true,ite_false,if_true,if_false,ne_eq,implies_true,forall_const,eq_self,IntKind.bits,upd_tmsS,selT_cons,selT_nil,List.length_map,List.getElem?_map,Int.natCast_nonneg,List.length_append,List.map_append]
      · simp (maxSteps:=9999999)-implicitDefEqProofs only [simprocAttr,QH,Option.isSome,cond_true,cond_false,Option.bind,selB,V.rn,V.rns,Go.Ai.known,V.pz,V.pzs,T.toV,frz1,List.range,List.range.loop,ite_true,ite_false,if_true,if_false,ne_eq,implies_true,forall_const,eq_self,IntKind.bits,upd_tmsS,selT_cons,selT_nil,List.length_map,List.getElem?_map,Int.natCast_nonneg,List.length_append,List.map_append]
  · have hjl' : ¬ (j : Int) < (L.length : Int) := fun h => hjl (Int.ofNat_lt.1 h)
    rw [List.take_of_length_le (Nat.le_of_not_lt hjl)] at hno
    have hix := ix_none hno
    rw [hix]
    (have hwq := trivial; repeat' (first | simp (maxSteps:=9999999)-implicitDefEqProofs only [go_sem,simprocAttr,hwq,FT3,FT25,FT32,FT101,List.length_map,List.getElem?_map,Int.natCast_nonneg,List.length_append,List.map_append,hjl',hfmv] | (refine condK_split ?_ ?_ <;> intro hwq) | (refine two_split ?_ ?_) | (refine guardK_split ?_ ?_ <;> intro hwq) | (refine guardE_split ?_ ?_ <;> intro hwq) | (refine awp_drawW [] (by decide +kernel) ?_; have hwq := trivial) | fail))
theorem pk110 (x y : Cr) : AC Tryz.prog 110 [crV y, .ptr 1 0 0, .ptr 0 0 0] [bxCr x, bxF 41] (eqS (vB (cmpZ x.s y.s == 0)) [bxCr x, bxF 41]) := by
  have hT : isAgg Tryz.prog 73 = some false := by kernel_rfl
  have h1 := pc41 x y
  generalize cmpZ x.s y.s = r at h1
  refine AC_heap orders [0, 1] Tryz.func110 rfl (by kernel_rfl) (by kernel_rfl) Tryz.ntmps110 (by simp) ?_
  unfold Tryz.f110
  (have hwq := trivial; repeat' (first | simp (maxSteps:=9999999)-implicitDefEqProofs only [go_sem,simprocAttr,hwq,FT3,FT4,FT34,FT73,List.length_map,List.getElem?_map,Int.natCast_nonneg,List.length_append,List.map_append,hT] | (refine condK_split ?_ ?_ <;> intro hwq) | (refine two_split ?_ ?_) | (refine guardK_split ?_ ?_ <;> intro hwq) | (refine guardE_split ?_ ?_ <;> intro hwq) | (refine awp_drawW [] (by decide +kernel) ?_; have hwq := trivial) | (refine call_plain h1 rfl rfl ?_; have hwq := trivial) | fail))
def Jx125 (x : Cr) (q : Cr → Bool) (L : List Cr) (k : Nat) (S : St) : Prop :=
  ∃ (j : Nat) (mv : List Nat), S = ⟨tms [(0, .own 2 0 L.length), (1, .clo (.func 110) [] [.ptr 1 0 0, .ptr 0 0 0]), (6, .own 2 0 L.length), (7, vI L.length), (8, vI j)], [bxCr x, bxF 41, .rows 2 (L.map crT) false], mv⟩ ∧ (∀ t ∈ mv, 3 ≤ t) ∧ j ≤ L.length ∧ k = L.length - j ∧ ∀ y ∈ L.take j, q y = false
theorem pio125 (x : Cr) (L : List Cr) (hl : L.length ≤ 1000) (q : Cr → Bool) (hq : ∀ y, q y = (cmpZ x.s y.s == 0)) :
    AC Tryz.prog 125 [.own 2 0 L.length, .clo (.func 110) [] [.ptr 1 0 0, .ptr 0 0 0]] [bxCr x, bxF 41, .rows 2 (L.map crT) false] (eqS (vI (ixZ q L)) [bxCr x, bxF 41, .rows 2 (L.map crT) false]) := by
  refine AC_heap orders [0, 1, 2] Tryz.func125 rfl (by kernel_rfl) (by kernel_rfl) Tryz.ntmps125 (by simp) ?_
  unfold Tryz.f125
  (have hwq := trivial; repeat' (first | simp (maxSteps:=9999999)-implicitDefEqProofs only [go_sem,simprocAttr,hwq,FT3,FT26,FT34,FT99,List.length_map,List.getElem?_map,Int.natCast_nonneg,List.length_append,List.map_append] | (refine condK_split ?_ ?_ <;> intro hwq) | (refine two_split ?_ ?_) | (refine guardK_split ?_ ?_ <;> intro hwq) | (refine guardE_split ?_ ?_ <;> intro hwq) | (refine awp_drawW [] (by decide +kernel) ?_; have hwq := trivial) | fail))
  refine awp_loopK (Jx125 x q L) L.length _ (Weak.cutI 3 [0, 1, 6, 7, 8] ?_ ?_) ⟨0, _, rfl, by simp [List.mem_range'_1], by omega, rfl, by simp⟩ ?_
  · simp (maxSteps:=9999999)-implicitDefEqProofs only [simprocAttr,QH,Option.isSome,cond_true,cond_false,Option.bind,selB,V.rn,V.rns,Go.Ai.known,V.pz,V.pzs,T.toV,frz1,List.range,List.range.loop,ite_true,ite_false,if_true,if_false,ne_eq,implies_true,forall_const,eq_self,IntKind.bits,upd_tmsS,selT_cons,selT_nil,List.length_map,List.getElem?_map,Int.natCast_nonneg,List.length_append,List.map_append]
  · simp (maxSteps:=9999999)-implicitDefEqProofs only [simprocAttr,QH,Option.isSome,cond_true,cond_false,Option.bind,selB,V.rn,V.rns,Go.Ai.known,V.pz,V.pzs,T.toV,frz1,List.range,List.range.loop,ite_true,ite_false,if_true,if_false,ne_eq,implies_true,forall_const,eq_self,IntKind.bits,upd_tmsS,selT_cons,selT_nil]
  rintro kk S ⟨j, mv, rfl, hmv, hj, rfl, hno⟩
  have hfmv : mv.filter (fun x => decide (x < 3)) = [] := by
    rw [List.filter_eq_nil_iff]
    intro t ht
    have := hmv t ht
    simp
    try omega
  have hmv' : ∀ m t : Nat, t ∈ mv ++ List.range' 3 m → 3 ≤ t := by
    intro m t ht
    rcases List.mem_append.1 ht with h1 | h1
    · exact hmv t h1
    · exact (List.mem_range'_1.1 h1).1
  have wj := wj_of hj hl
  by_cases hjl : j < L.length
  · have hjl' : (j : Int) < (L.length : Int) := Int.ofNat_lt.2 hjl
    have hgj : L[j]? = some L[j] := List.getElem?_eq_getElem hjl
    obtain ⟨y, hy⟩ : ∃ y, L[j] = y := ⟨_, rfl⟩
    rw [hy] at hgj
    have hc := pk110 x y
    rw [← hq y] at hc
    cases hqx : q y with
    | true =>
      rw [hqx] at hc
      have hix := ix_some hno hgj hqx
      rw [hix]
      (have hwq := trivial; repeat' (first | simp (maxSteps:=9999999)-implicitDefEqProofs only [go_sem,simprocAttr,hwq,FT3,FT26,FT34,FT99,List.length_map,List.getElem?_map,Int.natCast_nonneg,List.length_append,List.map_append,hjl',hgj,wj,hfmv] | (refine condK_split ?_ ?_ <;> intro hwq) | (refine two_split ?_ ?_) | (refine guardK_split ?_ ?_ <;> intro hwq) | (refine guardE_split ?_ ?_ <;> intro hwq) | (refine awp_drawW [] (by decide +kernel) ?_; have hwq := trivial) | (refine call_at [0, 1] hc (by simp) (by decide) rfl rfl (by simp [mapT_box, V.mapTs, V.mapT, pl]) (by simp [V.les, V.le, V.mapTs, V.mapT, pl]) ?_; have hwq := trivial) | fail))
    | false =>
      rw [hqx] at hc
      (have hwq := trivial; repeat' (first | simp (maxSteps:=9999999)-implicitDefEqProofs only [go_sem,simprocAttr,hwq,FT3,FT26,FT34,FT99,List.length_map,List.getElem?_map,Int.natCast_nonneg,List.length_append,List.map_append,hjl',hgj,wj,hfmv] | (refine condK_split ?_ ?_ <;> intro hwq) | (refine two_split ?_ ?_) | (refine guardK_split ?_ ?_ <;> intro hwq) | (refine guardE_split ?_ ?_ <;> intro hwq) | (refine awp_drawW [] (by decide +kernel) ?_; have hwq := trivial) | (refine call_at [0, 1] hc (by simp) (by decide) rfl rfl (by simp [mapT_box, V.mapTs, V.mapT, pl]) (by simp [V.les, V.le, V.mapTs, V.mapT, pl]) ?_; have hwq := trivial) | fail))
      refine ⟨L.length - (j + 1), _, st_of hjl, Weak.cutI 3 [0, 1, 6, 7, 8] ?_ ?_, j + 1, _, rfl, hmv' _, hjl, rfl, ix_more hno hgj hqx⟩
      · simp (maxSteps:=9999999)-implicitDefEqProofs only [simprocAttr,QH,Option.isSome,cond_true,cond_false,Option.bind,selB,V.rn,V.rns,Go.Ai.known,V.pz,V.pzs,T.toV,frz1,List.range,List.range.loop,ite_true,ite_false,if_true,if_false,ne_eq,implies_true,forall_const,eq_self,IntKind.bits,upd_tmsS,selT_cons,selT_nil,List.length_map,List.getElem?_map,Int.natCast_nonneg,List.length_append,List.map_append]
      · simp (maxSteps:=9999999)-implicitDefEqProofs only [simprocAttr,QH,Option.isSome,cond_true,cond_false,Option.bind,selB,V.rn,V.rns,Go.Ai.known,V.pz,V.pzs,T.toV,frz1,List.range,List.range.loop,ite_true,ite_false,if_true,if_false,ne_eq,implies_true,forall_const,eq_self,IntKind.bits,upd_tmsS,selT_cons,selT_nil,List.length_map,List.getElem?_map,Int.natCast_nonneg,List.length_append,List.map_append]
  · have hjl' : ¬ (j : Int) < (L.length : Int) := fun h => hjl (Int.ofNat_lt.1 h)
    rw [List.take_of_length_le (Nat.le_of_not_lt hjl)] at hno
    have hix := ix_none hno
    rw [hix]
    (have hwq := trivial; repeat' (first | simp (maxSteps:=9999999)-implicitDefEqProofs only [go_sem,simprocAttr,hwq,FT3,FT26,FT34,FT99,List.length_map,List.getElem?_map,Int.natCast_nonneg,List.length_append,List.map_append,hjl',hfmv] | (refine condK_split ?_ ?_ <;> intro hwq) | (refine two_split ?_ ?_) | (refine guardK_split ?_ ?_ <;> intro hwq) | (refine guardE_split ?_ ?_ <;> intro hwq) | (refine awp_drawW [] (by decide +kernel) ?_; have hwq := trivial) | fail))
theorem pk115 (x y : Mb) : AC Tryz.prog 115 [mbV y, .ptr 1 0 0, .ptr 0 0 0] [bxMb x, bxF 47] (eqS (vB (cmpZ x.v y.v == 0)) [bxMb x, bxF 47]) := by
  have hT : isAgg Tryz.prog 78 = some false := by kernel_rfl
  have h1 := pc47 x y
  generalize cmpZ x.v y.v = r at h1
  refine AC_heap orders [0, 1] Tryz.func115 rfl (by kernel_rfl) (by kernel_rfl) Tryz.ntmps115 (by simp) ?_
  unfold Tryz.f115
  (have hwq := trivial; repeat' (first | simp (maxSteps:=9999999)-implicitDefEqProofs only [go_sem,simprocAttr,hwq,FT3,FT4,FT35,FT37,FT78,List.length_map,List.getElem?_map,Int.natCast_nonneg,List.length_append,List.map_append,hT] | (refine condK_split ?_ ?_ <;> intro hwq) | (refine two_split ?_ ?_) | (refine guardK_split ?_ ?_ <;> intro hwq) | (refine guardE_split ?_ ?_ <;> intro hwq) | (refine awp_drawW [] (by decide +kernel) ?_; have hwq := trivial) | (refine call_plain h1 rfl rfl ?_; have hwq := trivial) | fail))
def Jx123 (x : Mb) (q : Mb → Bool) (L : List Mb) (k : Nat) (S : St) : Prop :=
  ∃ (j : Nat) (mv : List Nat), S = ⟨tms [(0, .own 2 0 L.length), (1, .clo (.func 115) [] [.ptr 1 0 0, .ptr 0 0 0]), (6, .own 2 0 L.length), (7, vI L.length), (8, vI j)], [bxMb x, bxF 47, .rows 2 (L.map mbT) false], mv⟩ ∧ (∀ t ∈ mv, 3 ≤ t) ∧ j ≤ L.length ∧ k = L.length - j ∧ ∀ y ∈ L.take j, q y = false
theorem pio123 (x : Mb) (L : List Mb) (hl : L.length ≤ 1000) (q : Mb → Bool) (hq : ∀ y, q y = (cmpZ x.v y.v == 0)) :
    AC Tryz.prog 123 [.own 2 0 L.length, .clo (.func 115) [] [.ptr 1 0 0, .ptr 0 0 0]] [bxMb x, bxF 47, .rows 2 (L.map mbT) false] (eqS (vI (ixZ q L)) [bxMb x, bxF 47, .rows 2 (L.map mbT) false]) := by
  refine AC_heap orders [0, 1, 2] Tryz.func123 rfl (by kernel_rfl) (by kernel_rfl) Tryz.ntmps123 (by simp) ?_
  unfold Tryz.f123
  (have hwq := trivial; repeat' (first | simp (maxSteps:=9999999)-implicitDefEqProofs only [go_sem,simprocAttr,hwq,FT3,FT27,FT35,FT37,FT97,List.length_map,List.getElem?_map,Int.natCast_nonneg,List.length_append,List.map_append] | (refine condK_split ?_ ?_ <;> intro hwq) | (refine two_split ?_ ?_) | (refine guardK_split ?_ ?_ <;> intro hwq) | (refine guardE_split ?_ ?_ <;> intro hwq) | (refine awp_drawW [] (by decide +kernel) ?_; have hwq := trivial) | fail))
  refine awp_loopK (Jx123 x q L) L.length _ (Weak.cutI 3 [0, 1, 6, 7, 8] ?_ ?_) ⟨0, _, rfl, by simp [List.mem_range'_1], by omega, rfl, by simp⟩ ?_
  · simp (maxSteps:=9999999)-implicitDefEqProofs only [simprocAttr,QH,Option.isSome,cond_true,cond_false,Option.bind,selB,V.rn,V.rns,Go.Ai.known,V.pz,V.pzs,T.toV,frz1,List.range,List.range.loop,ite_true,ite_false,if_true,if_false,ne_eq,implies_true,forall_const,eq_self,IntKind.bits,upd_tmsS,selT_cons,selT_nil,List.length_map,List.getElem?_map,Int.natCast_nonneg,List.length_append,List.map_append]
  · simp (maxSteps:=9999999)-implicitDefEqProofs only [simprocAttr,QH,Option.isSome,cond_true,cond_false,Option.bind,selB,V.rn,V.rns,Go.Ai.known,V.pz,V.pzs,T.toV,frz1,List.range,List.range.loop,ite_true,ite_false,if_true,if_false,ne_eq,implies_true,forall_const,eq_self,IntKind.bits,upd_tmsS,selT_cons,selT_nil]
  rintro kk S ⟨j, mv, rfl, hmv, hj, rfl, hno⟩
  have hfmv : mv.filter (fun x => decide (x < 3)) = [] := by
    rw [List.filter_eq_nil_iff]
    intro t ht
    have := hmv t ht
    simp
    try omega
  have hmv' : ∀ m t : Nat, t ∈ mv ++ List.range' 3 m → 3 ≤ t := by
    intro m t ht
    rcases List.mem_append.1 ht with h1 | h1
    · exact hmv t h1
    · exact (List.mem_range'_1.1 h1).1
  have wj := wj_of hj hl
  by_cases hjl : j < L.length
  · have hjl' : (j : Int) < (L.length : Int) := Int.ofNat_lt.2 hjl
    have hgj : L[j]? = some L[j] := List.getElem?_eq_getElem hjl
    obtain ⟨y, hy⟩ : ∃ y, L[j] = y := ⟨_, rfl⟩
    rw [hy] at hgj
    have hc := pk115 x y
    rw [← hq y] at hc
    cases hqx : q y with
    | true =>
      rw [hqx] at hc
      have hix := ix_some hno hgj hqx
      rw [hix]
      (have hwq := trivial; repeat' (first | simp (maxSteps:=9999999)-implicitDefEqProofs only [go_sem,simprocAttr,hwq,FT3,FT27,FT35,FT37,FT97,List.length_map,List.getElem?_map,Int.natCast_nonneg,List.length_append,List.map_append,hjl',hgj,wj,hfmv] | (refine condK_split ?_ ?_ <;> intro hwq) | (refine two_split ?_ ?_) | (refine guardK_split ?_ ?_ <;> intro hwq) | (refine guardE_split ?_ ?_ <;> intro hwq) | (refine awp_drawW [] (by decide +kernel) ?_; have hwq := trivial) | (refine call_at [0, 1] hc (by simp) (by decide) rfl rfl (by simp [mapT_box, V.mapTs, V.mapT, pl]) (by simp [V.les, V.le, V.mapTs, V.mapT, pl]) ?_; have hwq := trivial) | fail))
    | false =>
      rw [hqx] at hc
      (have hwq := trivial; repeat' (first | simp (maxSteps:=9999999)-implicitDefEqProofs only [go_sem,simprocAttr,hwq,FT3,FT27,FT35,FT37,FT97,List.length_map,List.getElem?_map,Int.natCast_nonneg,List.length_append,List.map_append,hjl',hgj,wj,hfmv] | (refine condK_split ?_ ?_ <;> intro hwq) | (refine two_split ?_ ?_) | (refine guardK_split ?_ ?_ <;> intro hwq) | (refine guardE_split ?_ ?_ <;> intro hwq) | (refine awp_drawW [] (by decide +kernel) ?_; have hwq := trivial) | (refine call_at [0, 1] hc (by simp) (by decide) rfl rfl (by simp [mapT_box, V.mapTs, V.mapT, pl]) (by simp [V.les, V.le, V.mapTs, V.mapT, pl]) ?_; have hwq := trivial) | fail))
      refine ⟨L.length - (j + 1), _, st_of hjl, Weak.cutI 3 [0, 1, 6, 7, 8] ?_ ?_, j + 1, _, rfl, hmv' _, hjl, rfl, ix_more hno hgj hqx⟩
      · simp (maxSteps:=9999999)-implicitDefEqProofs only [simprocAttr,QH,Option.isSome,cond_true,cond_false,Option.bind,selB,V.rn,V.rns,Go.Ai.known,V.pz,V.pzs,T.toV,frz1,List.range,List.range.loop,ite_true,ite_false,if_true,if_false,ne_eq,implies_true,forall_const,eq_self,IntKind.bits,upd_tmsS,selT_cons,selT_nil,List.length_map,List.getElem?_map,Int.natCast_nonneg,List.length_append,List.map_append]
      · simp (maxSteps:=9999999)-implicitDefEqProofs only [simprocAttr,QH,Option.isSome,cond_true,cond_false,Option.bind,selB,V.rn,V.rns,Go.Ai.known,V.pz,V.pzs,T.toV,frz1,List.range,List.range.loop,ite_true,ite_false,if_true,if_false,ne_eq,implies_true,forall_const,eq_self,IntKind.bits,upd_tmsS,selT_cons,selT_nil,List.length_map,List.getElem?_map,Int.natCast_nonneg,List.length_append,List.map_append]
  · have hjl' : ¬ (j : Int) < (L.length : Int) := fun h => hjl (Int.ofNat_lt.1 h)
    rw [List.take_of_length_le (Nat.le_of_not_lt hjl)] at hno
    have hix := ix_none hno
    rw [hix]
    (have hwq := trivial; repeat' (first | simp (maxSteps:=9999999)-implicitDefEqProofs only [go_sem,simprocAttr,hwq,FT3,FT27,FT35,FT37,FT97,List.length_map,List.getElem?_map,Int.natCast_nonneg,List.length_append,List.map_append,hjl',hfmv] | (refine condK_split ?_ ?_ <;> intro hwq) | (refine two_split ?_ ?_) | (refine guardK_split ?_ ?_ <;> intro hwq) | (refine guardE_split ?_ ?_ <;> intro hwq) | (refine awp_drawW [] (by decide +kernel) ?_; have hwq := trivial) | fail))
end Go.Ai

set_option linter.unusedVariables false
set_option linter.unusedSimpArgs false
set_option maxHeartbeats 4000000
set_option maxRecDepth 100000
namespace Go.Ai
open Go.Proofs
attribute [local go_sem] QH QR V.noimm V.noimms frzZs frzZ frzA frzV frzVs frzBox boxLen Option.isSome cond_true cond_false aopD calW flatV stepX amap stepY alookup afind aupdate adelete amlen arange ameq mapOf akeq pl V.mapT V.mapTs Option.bind stepK runK guardD stepE runD callD compact selB callK evS ofVal ofVals scalar aop ares mkRes V.rn V.rns V.cells? cellsAt Go.Ai.part aload astore setL V.atom abin aun intBin shiftBin aconv fieldOf aindexAddr aindex bound? aslice aarr abuild afill alen nilP nilS nilF aeq eqCells eqCell Go.Ai.known strBin abuiltin aappend abuildSlice arowsFill amakeSlice acopy aclear minmax rowsOf numsT notStr isIntD isByte V.pz V.pzs T.toV frz1 frz scalT scalTs chunkT List.range List.range.loop ite_true ite_false if_true if_false ne_eq implies_true forall_const eq_self IntKind.bits kPostKF_ret kPostKF_normal kPostX_ret kPostX_normal bsl nil2K nil2 kPostFW_ret kPostFW_normal kPostKM_ret kPostKM_normal kPostXK_ret kPostXK_normal
/-- How far the sweep is: what stays of the first j lies ahead, the rest as it was. -/
structure DelI {α : Type} (q : α → Bool) (L : List α) (i j : Nat) (D : List α) : Prop where
  len : D.length = L.length
  lo : D.take i = (L.take j).filter (fun y => !q y)
  hi : D.drop j = L.drop j
  ij : i < j
  jl : j ≤ L.length
theorem delI_at {α : Type} {q : α → Bool} {L D : List α} {i j : Nat} (h : DelI q L i j D) {y : α} (hy : L[j]? = some y) : D[j]? = some y := by
  have e : (D.drop j)[0]? = (L.drop j)[0]? := by rw [h.hi]
  rw [List.getElem?_drop, List.getElem?_drop] at e
  simpa [hy] using e
theorem delI_skip {α : Type} {q : α → Bool} {L D : List α} {i j : Nat} (h : DelI q L i j D) {y : α} (hy : L[j]? = some y) (hq : q y = true) : DelI q L i (j + 1) D := by
  have hj := (List.getElem?_eq_some_iff.1 hy).1
  refine ⟨h.len, ?_, ?_, by have := h.ij; omega, hj⟩
  · rw [h.lo, take_in hy, List.filter_append]; simp [hq]
  · have e : (D.drop j).drop 1 = (L.drop j).drop 1 := by rw [h.hi]
    rwa [List.drop_drop, List.drop_drop] at e
theorem delI_keep {α : Type} {q : α → Bool} {L D : List α} {i j : Nat} (h : DelI q L i j D) {y : α} (hy : L[j]? = some y) (hq : q y = false) : DelI q L (i + 1) (j + 1) (D.set i y) := by
  have hj := (List.getElem?_eq_some_iff.1 hy).1
  have hij := h.ij
  have hd : i < D.length := by rw [h.len]; omega
  refine ⟨by rw [List.length_set]; exact h.len, ?_, ?_, by omega, hj⟩
  · have e1 : (D.set i y)[i]? = some y := by rw [List.getElem?_set_self hd]
    rw [take_in e1, List.take_set_of_le (by omega), h.lo, take_in hy, List.filter_append]; simp [hq]
  · rw [List.drop_set_of_lt (by omega)]
    have e : (D.drop j).drop 1 = (L.drop j).drop 1 := by rw [h.hi]
    rwa [List.drop_drop, List.drop_drop] at e
theorem delI_start {α : Type} {q : α → Bool} {L : List α} {k : Nat} {y : α} (hno : ∀ z ∈ L.take k, q z = false) (hy : L[k]? = some y) (hq : q y = true) : DelI q L k (k + 1) L := by
  have hj := (List.getElem?_eq_some_iff.1 hy).1
  refine ⟨rfl, ?_, rfl, by omega, hj⟩
  rw [take_in hy, List.filter_append]
  have : (L.take k).filter (fun y => !q y) = L.take k := List.filter_eq_self.2 fun z hz => by rw [hno z hz]; rfl
  rw [this]; simp [hq]
theorem delI_end {α : Type} {q : α → Bool} {L D : List α} {i : Nat} (h : DelI q L i L.length D) : D.take i = L.filter (fun y => !q y) ∧ i = (L.filter (fun y => !q y)).length ∧ i < L.length := by
  have h1 := h.lo
  rw [List.take_length] at h1
  have hd : i < L.length := h.ij
  refine ⟨h1, ?_, hd⟩
  rw [← h1, List.length_take, h.len]
  omega
theorem ix_cases {α : Type} (q : α → Bool) (L : List α) : (ixZ q L = -1 ∧ L.filter (fun y => !q y) = L) ∨ ∃ (k : Nat) (y : α), ixZ q L = (k : Int) ∧ L[k]? = some y ∧ q y = true ∧ ∀ z ∈ L.take k, q z = false := by
  unfold ixZ
  cases h : L.findIdx? q with
  | none =>
    left
    rw [List.findIdx?_eq_none_iff] at h
    exact ⟨rfl, List.filter_eq_self.2 fun z hz => by rw [h z hz]; rfl⟩
  | some k =>
    right
    rw [List.findIdx?_eq_some_iff_getElem] at h
    obtain ⟨hk, h1, h2⟩ := h
    refine ⟨k, L[k], rfl, List.getElem?_eq_getElem hk, h1, fun z hz => ?_⟩
    obtain ⟨m, hm, rfl⟩ := List.getElem_of_mem hz
    have hm' : m < k := by simp at hm; omega
    have := h2 m hm'
    simpa using this
def Jd104 (x : Mp) (q : Mp → Bool) (L : List Mp) (k : Nat) (S : St) : Prop :=
  ∃ (i j : Nat) (D : List Mp) (mv : List Nat), S = ⟨tms [(0, .own 2 0 L.length), (1, .clo (.func 105) [] [.ptr 1 0 0, .ptr 0 0 0]), (5, vI i), (6, vI j)], [bxMp x, bxF 36, .rows 3 (D.map mpT) false], mv⟩ ∧ (∀ t ∈ mv, 3 ≤ t) ∧ k = L.length - j ∧ DelI q L i j D
theorem pdf104 (x : Mp) (L : List Mp) (hl : L.length ≤ 1000) (q : Mp → Bool) (hq : ∀ y, q y = (cmpMp x y == 0)) (F : List Mp) (hF : L.filter (fun y => !q y) = F) (Y : List (List T)) (hY : F.map mpT ++ List.replicate (L.length - F.length) [.s (.int .i64 0), .s (.int .i64 0), .s (.int .i64 0)] = Y) :
    AC Tryz.prog 104 [.own 2 0 L.length, .clo (.func 105) [] [.ptr 1 0 0, .ptr 0 0 0]] [bxMp x, bxF 36, .rows 3 (L.map mpT) false] (eqS (.own 2 0 F.length) [bxMp x, bxF 36, .rows 3 Y false]) := by
  have h1 := pio126 x L hl q hq
  refine AC_heap orders [0, 1, 2] Tryz.func104 rfl (by kernel_rfl) (by kernel_rfl) Tryz.ntmps104 (by simp) ?_
  unfold Tryz.f104
  rcases ix_cases q L with ⟨e1, e2⟩ | ⟨k0, y0, e1, hy0, hq0, hno⟩
  · rw [e1] at h1
    rw [e2] at hF
    subst hF
    have hY' : Y = L.map mpT := by rw [← hY]; simp
    subst hY'
    (have hwq := trivial; repeat' (first | simp (maxSteps:=9999999)-implicitDefEqProofs only [go_sem,simprocAttr,hwq,FT3,FT4,FT25,FT32,FT101,List.length_map,List.getElem?_map,Int.natCast_nonneg,List.length_append,List.map_append] | (refine condK_split ?_ ?_ <;> intro hwq) | (refine two_split ?_ ?_) | (refine guardK_split ?_ ?_ <;> intro hwq) | (refine guardE_split ?_ ?_ <;> intro hwq) | (refine awp_drawW [] (by decide +kernel) ?_; have hwq := trivial) | (refine call_here h1 ?_; have hwq := trivial) | fail))
  rw [e1] at h1
  have hk0 := (List.getElem?_eq_some_iff.1 hy0).1
  have w0 := wj_of (Nat.le_of_lt hk0) hl
  have n0 : ((k0 : Int) == -1) = false := beq_eq_false_iff_ne.2 (by omega)
  (have hwq := trivial; repeat' (first | simp (maxSteps:=9999999)-implicitDefEqProofs only [go_sem,simprocAttr,hwq,FT3,FT4,FT25,FT32,FT101,List.length_map,List.getElem?_map,Int.natCast_nonneg,List.length_append,List.map_append,w0,n0] | (refine condK_split ?_ ?_ <;> intro hwq) | (refine two_split ?_ ?_) | (refine guardK_split ?_ ?_ <;> intro hwq) | (refine guardE_split ?_ ?_ <;> intro hwq) | (refine awp_drawW [] (by decide +kernel) ?_; have hwq := trivial) | (refine call_here h1 ?_; have hwq := trivial) | fail))
  refine awp_loopK (Jd104 x q L) (L.length - (k0 + 1)) _ (Weak.cutI 3 [0, 1, 5, 6] ?_ ?_) ⟨k0, k0 + 1, L, _, rfl, by simp [List.mem_range'_1], rfl, delI_start hno hy0 hq0⟩ ?_
  · simp (maxSteps:=9999999)-implicitDefEqProofs only [simprocAttr,QH,Option.isSome,cond_true,cond_false,Option.bind,selB,V.rn,V.rns,Go.Ai.known,V.pz,V.pzs,T.toV,frz1,List.range,List.range.loop,ite_true,ite_false,if_true,if_false,ne_eq,implies_true,forall_const,eq_self,IntKind.bits,upd_tmsS,selT_cons,selT_nil,List.length_map,List.getElem?_map,Int.natCast_nonneg,List.length_append,List.map_append]
  · simp (maxSteps:=9999999)-implicitDefEqProofs only [simprocAttr,QH,Option.isSome,cond_true,cond_false,Option.bind,selB,V.rn,V.rns,Go.Ai.known,V.pz,V.pzs,T.toV,frz1,List.range,List.range.loop,ite_true,ite_false,if_true,if_false,ne_eq,implies_true,forall_const,eq_self,IntKind.bits,upd_tmsS,selT_cons,selT_nil]
  rintro kk S ⟨i, j, D, mv, rfl, hmv, rfl, hD⟩
  have hfmv : mv.filter (fun x => decide (x < 3)) = [] := by
    rw [List.filter_eq_nil_iff]
    intro t ht
    have := hmv t ht
    simp
    try omega
  have hmv' : ∀ m t : Nat, t ∈ mv ++ List.range' 3 m → 3 ≤ t := by
    intro m t ht
    rcases List.mem_append.1 ht with h1 | h1
    · exact hmv t h1
    · exact (List.mem_range'_1.1 h1).1
  have hj := hD.jl
  have hij := hD.ij
  have hDl := hD.len
  have wj := wj_of hj hl
  have wi := wj_of (Nat.le_trans (Nat.le_of_lt hij) hj) hl
  by_cases hjl : j < L.length
  · have hjl' : (j : Int) < (L.length : Int) := Int.ofNat_lt.2 hjl
    have hil' : (i : Int) < (L.length : Int) := Int.ofNat_lt.2 (Nat.lt_trans hij hjl)
    have hgj : L[j]? = some L[j] := List.getElem?_eq_getElem hjl
    obtain ⟨y, hy⟩ : ∃ y, L[j] = y := ⟨_, rfl⟩
    rw [hy] at hgj
    have hgD := delI_at hD hgj
    have hiD : i < D.length := by rw [hDl]; exact Nat.lt_trans hij hjl
    have hjD : j < D.length := by rw [hDl]; exact hjl
    obtain ⟨yi, hgi⟩ : ∃ yi, D[i]? = some yi := ⟨_, List.getElem?_eq_getElem hiD⟩
    have hc := pk105 x y
    rw [← hq y] at hc
    cases hqx : q y with
    | true =>
      rw [hqx] at hc
      have hD' := delI_skip hD hgj hqx
      (have hwq := trivial; repeat' (first | simp (maxSteps:=9999999)-implicitDefEqProofs only [go_sem,simprocAttr,hwq,FT3,FT4,FT25,FT32,FT101,List.length_map,List.getElem?_map,Int.natCast_nonneg,List.length_append,List.map_append,hjl',hjl,hDl,hgD,wj,hfmv] | (refine condK_split ?_ ?_ <;> intro hwq) | (refine two_split ?_ ?_) | (refine guardK_split ?_ ?_ <;> intro hwq) | (refine guardE_split ?_ ?_ <;> intro hwq) | (refine awp_drawW [] (by decide +kernel) ?_; have hwq := trivial) | (refine call_at [0, 1] hc (by simp) (by decide) rfl rfl (by simp [mapT_box, V.mapTs, V.mapT, pl]) (by simp [V.les, V.le, V.mapTs, V.mapT, pl]) ?_; have hwq := trivial) | fail))
      refine ⟨L.length - (j + 1), _, st_of hjl, Weak.cutI 3 [0, 1, 5, 6] ?_ ?_, i, j + 1, D, _, rfl, hmv' _, rfl, hD'⟩
      · simp (maxSteps:=9999999)-implicitDefEqProofs only [simprocAttr,QH,Option.isSome,cond_true,cond_false,Option.bind,selB,V.rn,V.rns,Go.Ai.known,V.pz,V.pzs,T.toV,frz1,List.range,List.range.loop,ite_true,ite_false,if_true,if_false,ne_eq,implies_true,forall_const,eq_self,IntKind.bits,upd_tmsS,selT_cons,selT_nil,List.length_map,List.getElem?_map,Int.natCast_nonneg,List.length_append,List.map_append]
      · simp (maxSteps:=9999999)-implicitDefEqProofs only [simprocAttr,QH,Option.isSome,cond_true,cond_false,Option.bind,selB,V.rn,V.rns,Go.Ai.known,V.pz,V.pzs,T.toV,frz1,List.range,List.range.loop,ite_true,ite_false,if_true,if_false,ne_eq,implies_true,forall_const,eq_self,IntKind.bits,upd_tmsS,selT_cons,selT_nil,List.length_map,List.getElem?_map,Int.natCast_nonneg,List.length_append,List.map_append]
    | false =>
      rw [hqx] at hc
      have hD' := delI_keep hD hgj hqx
      have hset : (D.map mpT).set i (mpT y) = (D.set i y).map mpT := by rw [List.map_set]
      (have hwq := trivial; repeat' (first | simp (maxSteps:=9999999)-implicitDefEqProofs only [go_sem,simprocAttr,hwq,FT3,FT4,FT25,FT32,FT101,List.length_map,List.getElem?_map,Int.natCast_nonneg,List.length_append,List.map_append,hjl',hjl,hil',hDl,hiD,hgD,hgi,wj,wi,hfmv,hset] | (refine condK_split ?_ ?_ <;> intro hwq) | (refine two_split ?_ ?_) | (refine guardK_split ?_ ?_ <;> intro hwq) | (refine guardE_split ?_ ?_ <;> intro hwq) | (refine awp_drawW [] (by decide +kernel) ?_; have hwq := trivial) | (refine call_at [0, 1] hc (by simp) (by decide) rfl rfl (by simp [mapT_box, V.mapTs, V.mapT, pl]) (by simp [V.les, V.le, V.mapTs, V.mapT, pl]) ?_; have hwq := trivial) | fail))
      refine ⟨L.length - (j + 1), _, st_of hjl, Weak.cutI 3 [0, 1, 5, 6] ?_ ?_, i + 1, j + 1, D.set i y, _, rfl, hmv' _, rfl, hD'⟩
      · simp (maxSteps:=9999999)-implicitDefEqProofs only [simprocAttr,QH,Option.isSome,cond_true,cond_false,Option.bind,selB,V.rn,V.rns,Go.Ai.known,V.pz,V.pzs,T.toV,frz1,List.range,List.range.loop,ite_true,ite_false,if_true,if_false,ne_eq,implies_true,forall_const,eq_self,IntKind.bits,upd_tmsS,selT_cons,selT_nil,List.length_map,List.getElem?_map,Int.natCast_nonneg,List.length_append,List.map_append]
      · simp (maxSteps:=9999999)-implicitDefEqProofs only [simprocAttr,QH,Option.isSome,cond_true,cond_false,Option.bind,selB,V.rn,V.rns,Go.Ai.known,V.pz,V.pzs,T.toV,frz1,List.range,List.range.loop,ite_true,ite_false,if_true,if_false,ne_eq,implies_true,forall_const,eq_self,IntKind.bits,upd_tmsS,selT_cons,selT_nil,List.length_map,List.getElem?_map,Int.natCast_nonneg,List.length_append,List.map_append]
  · have hjl' : ¬ (j : Int) < (L.length : Int) := fun h => hjl (Int.ofNat_lt.1 h)
    obtain rfl := nl_of hjl hj
    obtain ⟨e3, e4, e5⟩ := delI_end hD
    rw [hF] at e3 e4
    subst e4
    have e6 : F.length + (L.length - F.length) = L.length := by omega
    have e7 : F.length ≤ L.length := Nat.le_of_lt e5
    obtain ⟨M, hM⟩ : ∃ M, D.map mpT = M := ⟨_, rfl⟩
    have hMl : M.length = L.length := by rw [← hM, List.length_map, hDl]
    have e8 : M.take F.length = F.map mpT := by rw [← hM, ← List.map_take, e3]
    have e9 : M.drop L.length = [] := List.drop_eq_nil_of_le (by omega)
    have hYl : Y.length = L.length := by rw [← hY]; simp; omega
    rw [hM]
    (have hwq := trivial; repeat' (first | simp (maxSteps:=9999999)-implicitDefEqProofs only [go_sem,simprocAttr,hwq,FT3,FT4,FT25,FT32,FT101,List.length_map,List.getElem?_map,Int.natCast_nonneg,List.length_append,List.map_append,hjl',hfmv,hYl,Nat.zero_le,Nat.sub_zero,and_self,e6,e7,hMl,e8,e9,hY,List.length_replicate,List.append_nil,Nat.le_refl] | (refine condK_split ?_ ?_ <;> intro hwq) | (refine two_split ?_ ?_) | (refine guardK_split ?_ ?_ <;> intro hwq) | (refine guardE_split ?_ ?_ <;> intro hwq) | (refine awp_drawW [] (by decide +kernel) ?_; have hwq := trivial) | fail))
def Jd109 (x : Cr) (q : Cr → Bool) (L : List Cr) (k : Nat) (S : St) : Prop :=
  ∃ (i j : Nat) (D : List Cr) (mv : List Nat), S = ⟨tms [(0, .own 2 0 L.length), (1, .clo (.func 110) [] [.ptr 1 0 0, .ptr 0 0 0]), (5, vI i), (6, vI j)], [bxCr x, bxF 41, .rows 2 (D.map crT) false], mv⟩ ∧ (∀ t ∈ mv, 3 ≤ t) ∧ k = L.length - j ∧ DelI q L i j D
theorem pdf109 (x : Cr) (L : List Cr) (hl : L.length ≤ 1000) (q : Cr → Bool) (hq : ∀ y, q y = (cmpZ x.s y.s == 0)) (F : List Cr) (hF : L.filter (fun y => !q y) = F) (Y : List (List T)) (hY : F.map crT ++ List.replicate (L.length - F.length) [.s (.int .i64 0), .s (.int .i64 0)] = Y) :
    AC Tryz.prog 109 [.own 2 0 L.length, .clo (.func 110) [] [.ptr 1 0 0, .ptr 0 0 0]] [bxCr x, bxF 41, .rows 2 (L.map crT) false] (eqS (.own 2 0 F.length) [bxCr x, bxF 41, .rows 2 Y false]) := by
  have h1 := pio125 x L hl q hq
  refine AC_heap orders [0, 1, 2] Tryz.func109 rfl (by kernel_rfl) (by kernel_rfl) Tryz.ntmps109 (by simp) ?_
  unfold Tryz.f109
  rcases ix_cases q L with ⟨e1, e2⟩ | ⟨k0, y0, e1, hy0, hq0, hno⟩
  · rw [e1] at h1
    rw [e2] at hF
    subst hF
    have hY' : Y = L.map crT := by rw [← hY]; simp
    subst hY'
    (have hwq := trivial; repeat' (first | simp (maxSteps:=9999999)-implicitDefEqProofs only [go_sem,simprocAttr,hwq,FT3,FT4,FT26,FT34,FT99,List.length_map,List.getElem?_map,Int.natCast_nonneg,List.length_append,List.map_append] | (refine condK_split ?_ ?_ <;> intro hwq) | (refine two_split ?_ ?_) | (refine guardK_split ?_ ?_ <;> intro hwq) | (refine guardE_split ?_ ?_ <;> intro hwq) | (refine awp_drawW [] (by decide +kernel) ?_; have hwq := trivial) | (refine call_here h1 ?_; have hwq := trivial) | fail))
  rw [e1] at h1
  have hk0 := (List.getElem?_eq_some_iff.1 hy0).1
  have w0 := wj_of (Nat.le_of_lt hk0) hl
  have n0 : ((k0 : Int) == -1) = false := beq_eq_false_iff_ne.2 (by omega)
  (have hwq := trivial; repeat' (first | simp (maxSteps:=9999999)-implicitDefEqProofs only [go_sem,simprocAttr,hwq,FT3,FT4,FT26,FT34,FT99,List.length_map,List.getElem?_map,Int.natCast_nonneg,List.length_append,List.map_append,w0,n0] | (refine condK_split ?_ ?_ <;> intro hwq) | (refine two_split ?_ ?_) | (refine guardK_split ?_ ?_ <;> intro hwq) | (refine guardE_split ?_ ?_ <;> intro hwq) | (refine awp_drawW [] (by decide +kernel) ?_; have hwq := trivial) | (refine call_here h1 ?_; have hwq := trivial) | fail))
  refine awp_loopK (Jd109 x q L) (L.length - (k0 + 1)) _ (Weak.cutI 3 [0, 1, 5, 6] ?_ ?_) ⟨k0, k0 + 1, L, _, rfl, by simp [List.mem_range'_1], rfl, delI_start hno hy0 hq0⟩ ?_
  · simp (maxSteps:=9999999)-implicitDefEqProofs only [simprocAttr,QH,Option.isSome,cond_true,cond_false,Option.bind,selB,V.rn,V.rns,Go.Ai.known,V.pz,V.pzs,T.toV,frz1,List.range,List.range.loop,ite_true,ite_false,if_true,if_false,ne_eq,implies_true,forall_const,eq_self,IntKind.bits,upd_tmsS,selT_cons,selT_nil,List.length_map,List.getElem?_map,Int.natCast_nonneg,List.length_append,List.map_append]
  · simp (maxSteps:=9999999)-implicitDefEqProofs only [simprocAttr,QH,Option.isSome,cond_true,cond_false,Option.bind,selB,V.rn,V.rns,Go.Ai.known,V.pz,V.pzs,T.toV,frz1,List.range,List.range.loop,ite_true,ite_false,if_true,if_false,ne_eq,implies_true,forall_const,eq_self,IntKind.bits,upd_tmsS,selT_cons,selT_nil]
  rintro kk S ⟨i, j, D, mv, rfl, hmv, rfl, hD⟩
  have hfmv : mv.filter (fun x => decide (x < 3)) = [] := by
    rw [List.filter_eq_nil_iff]
    intro t ht
    have := hmv t ht
    simp
    try omega
  have hmv' : ∀ m t : Nat, t ∈ mv ++ List.range' 3 m → 3 ≤ t := by
    intro m t ht
    rcases List.mem_append.1 ht with h1 | h1
    · exact hmv t h1
    · exact (List.mem_range'_1.1 h1).1
  have hj := hD.jl
  have hij := hD.ij
  have hDl := hD.len
  have wj := wj_of hj hl
  have wi := wj_of (Nat.le_trans (Nat.le_of_lt hij) hj) hl
  by_cases hjl : j < L.length
  · have hjl' : (j : Int) < (L.length : Int) := Int.ofNat_lt.2 hjl
    have hil' : (i : Int) < (L.length : Int) := Int.ofNat_lt.2 (Nat.lt_trans hij hjl)
    have hgj : L[j]? = some L[j] := List.getElem?_eq_getElem hjl
    obtain ⟨y, hy⟩ : ∃ y, L[j] = y := ⟨_, rfl⟩
    rw [hy] at hgj
    have hgD := delI_at hD hgj
    have hiD : i < D.length := by rw [hDl]; exact Nat.lt_trans hij hjl
    have hjD : j < D.length := by rw [hDl]; exact hjl
    obtain ⟨yi, hgi⟩ : ∃ yi, D[i]? = some yi := ⟨_, List.getElem?_eq_getElem hiD⟩
    have hc := pk110 x y
    rw [← hq y] at hc
    cases hqx : q y with
    | true =>
      rw [hqx] at hc
      have hD' := delI_skip hD hgj hqx
      (have hwq := trivial; repeat' (first | simp (maxSteps:=9999999)-implicitDefEqProofs only [go_sem,simprocAttr,hwq,FT3,FT4,FT26,FT34,FT99,List.length_map,List.getElem?_map,Int.natCast_nonneg,List.length_append,List.map_append,hjl',hjl,hDl,hgD,wj,hfmv] | (refine condK_split ?_ ?_ <;> intro hwq) | (refine two_split ?_ ?_) | (refine guardK_split ?_ ?_ <;> intro hwq) | (refine guardE_split ?_ ?_ <;> intro hwq) | (refine awp_drawW [] (by decide +kernel) ?_; have hwq := trivial) | (refine call_at [0, 1] hc (by simp) (by decide) rfl rfl (by simp [mapT_box, V.mapTs, V.mapT, pl]) (by simp [V.les, V.le, V.mapTs, V.mapT, pl]) ?_; have hwq := trivial) | fail))
      refine ⟨L.length - (j + 1), _, st_of hjl, Weak.cutI 3 [0, 1, 5, 6] ?_ ?_, i, j + 1, D, _, rfl, hmv' _, rfl, hD'⟩
      · simp (maxSteps:=9999999)-implicitDefEqProofs only [simprocAttr,QH,Option.isSome,cond_true,cond_false,Option.bind,selB,V.rn,V.rns,Go.Ai.known,V.pz,V.pzs,T.toV,frz1,List.range,List.range.loop,ite_true,ite_false,if_true,if_false,ne_eq,implies_true,forall_const,eq_self,IntKind.bits,upd_tmsS,selT_cons,selT_nil,List.length_map,List.getElem?_map,Int.natCast_nonneg,List.length_append,List.map_append]
      · simp (maxSteps:=9999999)-implicitDefEqProofs only [simprocAttr,QH,Option.isSome,cond_true,cond_false,Option.bind,selB,V.rn,V.rns,Go.Ai.known,V.pz,V.pzs,T.toV,frz1,List.range,List.range.loop,ite_true,ite_false,if_true,if_false,ne_eq,implies_true,forall_const,eq_self,IntKind.bits,upd_tmsS,selT_cons,selT_nil,List.length_map,List.getElem?_map,Int.natCast_nonneg,List.length_append,List.map_append]
    | false =>
      rw [hqx] at hc
      have hD' := delI_keep hD hgj hqx
      have hset : (D.map crT).set i (crT y) = (D.set i y).map crT := by rw [List.map_set]
      (have hwq := trivial; repeat' (first | simp (maxSteps:=9999999)-implicitDefEqProofs only [go_sem,simprocAttr,hwq,FT3,FT4,FT26,FT34,FT99,List.length_map,List.getElem?_map,Int.natCast_nonneg,List.length_append,List.map_append,hjl',hjl,hil',hDl,hiD,hgD,hgi,wj,wi,hfmv,hset] | (refine condK_split ?_ ?_ <;> intro hwq) | (refine two_split ?_ ?_) | (refine guardK_split ?_ ?_ <;> intro hwq) | (refine guardE_split ?_ ?_ <;> intro hwq) | (refine awp_drawW [] (by decide +kernel) ?_; have hwq := trivial) | (refine call_at [0, 1] hc (by simp) (by decide) rfl rfl (by simp [mapT_box, V.mapTs, V.mapT, pl]) (by simp [V.les, V.le, V.mapTs, V.mapT, pl]) ?_; have hwq := trivial) | fail))
      refine ⟨L.length - (j + 1), _, st_of hjl, Weak.cutI 3 [0, 1, 5, 6] ?_ ?_, i + 1, j + 1, D.set i y, _, rfl, hmv' _, rfl, hD'⟩
      · simp (maxSteps:=9999999)-implicitDefEqProofs only [simprocAttr,QH,Option.isSome,cond_true,cond_false,Option.bind,selB,V.rn,V.rns,Go.Ai.known,V.pz,V.pzs,T.toV,frz1,List.range,List.range.loop,ite_true,ite_false,if_true,if_false,ne_eq,implies_true,forall_const,eq_self,IntKind.bits,upd_tmsS,selT_cons,selT_nil,List.length_map,List.getElem?_map,Int.natCast_nonneg,List.length_append,List.map_append]
      · simp (maxSteps:=9999999)-implicitDefEqProofs only [simprocAttr,QH,Option.isSome,cond_true,cond_false,Option.bind,selB,V.rn,V.rns,Go.Ai.known,V.pz,V.pzs,T.toV,frz1,List.range,List.range.loop,ite_true,ite_false,if_true,if_false,ne_eq,implies_true,forall_const,eq_self,IntKind.bits,upd_tmsS,selT_cons,selT_nil,List.length_map,List.getElem?_map,Int.natCast_nonneg,List.length_append,List.map_append]
  · have hjl' : ¬ (j : Int) < (L.length : Int) := fun h => hjl (Int.ofNat_lt.1 h)
    obtain rfl := nl_of hjl hj
    obtain ⟨e3, e4, e5⟩ := delI_end hD
    rw [hF] at e3 e4
    subst e4
    have e6 : F.length + (L.length - F.length) = L.length := by omega
    have e7 : F.length ≤ L.length := Nat.le_of_lt e5
    obtain ⟨M, hM⟩ : ∃ M, D.map crT = M := ⟨_, rfl⟩
    have hMl : M.length = L.length := by rw [← hM, List.length_map, hDl]
    have e8 : M.take F.length = F.map crT := by rw [← hM, ← List.map_take, e3]
    have e9 : M.drop L.length = [] := List.drop_eq_nil_of_le (by omega)
    have hYl : Y.length = L.length := by rw [← hY]; simp; omega
    rw [hM]
    (have hwq := trivial; repeat' (first | simp (maxSteps:=9999999)-implicitDefEqProofs only [go_sem,simprocAttr,hwq,FT3,FT4,FT26,FT34,FT99,List.length_map,List.getElem?_map,Int.natCast_nonneg,List.length_append,List.map_append,hjl',hfmv,hYl,Nat.zero_le,Nat.sub_zero,and_self,e6,e7,hMl,e8,e9,hY,List.length_replicate,List.append_nil,Nat.le_refl] | (refine condK_split ?_ ?_ <;> intro hwq) | (refine two_split ?_ ?_) | (refine guardK_split ?_ ?_ <;> intro hwq) | (refine guardE_split ?_ ?_ <;> intro hwq) | (refine awp_drawW [] (by decide +kernel) ?_; have hwq := trivial) | fail))
def Jd114 (x : Mb) (q : Mb → Bool) (L : List Mb) (k : Nat) (S : St) : Prop :=
  ∃ (i j : Nat) (D : List Mb) (mv : List Nat), S = ⟨tms [(0, .own 2 0 L.length), (1, .clo (.func 115) [] [.ptr 1 0 0, .ptr 0 0 0]), (5, vI i), (6, vI j)], [bxMb x, bxF 47, .rows 2 (D.map mbT) false], mv⟩ ∧ (∀ t ∈ mv, 3 ≤ t) ∧ k = L.length - j ∧ DelI q L i j D
theorem pdf114 (x : Mb) (L : List Mb) (hl : L.length ≤ 1000) (q : Mb → Bool) (hq : ∀ y, q y = (cmpZ x.v y.v == 0)) (F : List Mb) (hF : L.filter (fun y => !q y) = F) (Y : List (List T)) (hY : F.map mbT ++ List.replicate (L.length - F.length) [.s (.int .i64 0), .s (.slice none 0 0)] = Y) :
    AC Tryz.prog 114 [.own 2 0 L.length, .clo (.func 115) [] [.ptr 1 0 0, .ptr 0 0 0]] [bxMb x, bxF 47, .rows 2 (L.map mbT) false] (eqS (.own 2 0 F.length) [bxMb x, bxF 47, .rows 2 Y false]) := by
  have h1 := pio123 x L hl q hq
  refine AC_heap orders [0, 1, 2] Tryz.func114 rfl (by kernel_rfl) (by kernel_rfl) Tryz.ntmps114 (by simp) ?_
  unfold Tryz.f114
  rcases ix_cases q L with ⟨e1, e2⟩ | ⟨k0, y0, e1, hy0, hq0, hno⟩
  · rw [e1] at h1
    rw [e2] at hF
    subst hF
    have hY' : Y = L.map mbT := by rw [← hY]; simp
    subst hY'
    (have hwq := trivial; repeat' (first | simp (maxSteps:=9999999)-implicitDefEqProofs only [go_sem,simprocAttr,hwq,FT3,FT4,FT27,FT35,FT37,FT97,List.length_map,List.getElem?_map,Int.natCast_nonneg,List.length_append,List.map_append] | (refine condK_split ?_ ?_ <;> intro hwq) | (refine two_split ?_ ?_) | (refine guardK_split ?_ ?_ <;> intro hwq) | (refine guardE_split ?_ ?_ <;> intro hwq) | (refine awp_drawW [] (by decide +kernel) ?_; have hwq := trivial) | (refine call_here h1 ?_; have hwq := trivial) | fail))
  rw [e1] at h1
  have hk0 := (List.getElem?_eq_some_iff.1 hy0).1
  have w0 := wj_of (Nat.le_of_lt hk0) hl
  have n0 : ((k0 : Int) == -1) = false := beq_eq_false_iff_ne.2 (by omega)
  (have hwq := trivial; repeat' (first | simp (maxSteps:=9999999)-implicitDefEqProofs only [go_sem,simprocAttr,hwq,FT3,FT4,FT27,FT35,FT37,FT97,List.length_map,List.getElem?_map,Int.natCast_nonneg,List.length_append,List.map_append,w0,n0] | (refine condK_split ?_ ?_ <;> intro hwq) | (refine two_split ?_ ?_) | (refine guardK_split ?_ ?_ <;> intro hwq) | (refine guardE_split ?_ ?_ <;> intro hwq) | (refine awp_drawW [] (by decide +kernel) ?_; have hwq := trivial) | (refine call_here h1 ?_; have hwq := trivial) | fail))
  refine awp_loopK (Jd114 x q L) (L.length - (k0 + 1)) _ (Weak.cutI 3 [0, 1, 5, 6] ?_ ?_) ⟨k0, k0 + 1, L, _, rfl, by simp [List.mem_range'_1], rfl, delI_start hno hy0 hq0⟩ ?_
  · simp (maxSteps:=9999999)-implicitDefEqProofs only [simprocAttr,QH,Option.isSome,cond_true,cond_false,Option.bind,selB,V.rn,V.rns,Go.Ai.known,V.pz,V.pzs,T.toV,frz1,List.range,List.range.loop,ite_true,ite_false,if_true,if_false,ne_eq,implies_true,forall_const,eq_self,IntKind.bits,upd_tmsS,selT_cons,selT_nil,List.length_map,List.getElem?_map,Int.natCast_nonneg,List.length_append,List.map_append]
  · simp (maxSteps:=9999999)-implicitDefEqProofs only [simprocAttr,QH,Option.isSome,cond_true,cond_false,Option.bind,selB,V.rn,V.rns,Go.Ai.known,V.pz,V.pzs,T.toV,frz1,List.range,List.range.loop,ite_true,ite_false,if_true,if_false,ne_eq,implies_true,forall_const,eq_self,IntKind.bits,upd_tmsS,selT_cons,selT_nil]
  rintro kk S ⟨i, j, D, mv, rfl, hmv, rfl, hD⟩
  have hfmv : mv.filter (fun x => decide (x < 3)) = [] := by
    rw [List.filter_eq_nil_iff]
    intro t ht
    have := hmv t ht
    simp
    try omega
  have hmv' : ∀ m t : Nat, t ∈ mv ++ List.range' 3 m → 3 ≤ t := by
    intro m t ht
    rcases List.mem_append.1 ht with h1 | h1
    · exact hmv t h1
    · exact (List.mem_range'_1.1 h1).1
  have hj := hD.jl
  have hij := hD.ij
  have hDl := hD.len
  have wj := wj_of hj hl
  have wi := wj_of (Nat.le_trans (Nat.le_of_lt hij) hj) hl
  by_cases hjl : j < L.length
  · have hjl' : (j : Int) < (L.length : Int) := Int.ofNat_lt.2 hjl
    have hil' : (i : Int) < (L.length : Int) := Int.ofNat_lt.2 (Nat.lt_trans hij hjl)
    have hgj : L[j]? = some L[j] := List.getElem?_eq_getElem hjl
    obtain ⟨y, hy⟩ : ∃ y, L[j] = y := ⟨_, rfl⟩
    rw [hy] at hgj
    have hgD := delI_at hD hgj
    have hiD : i < D.length := by rw [hDl]; exact Nat.lt_trans hij hjl
    have hjD : j < D.length := by rw [hDl]; exact hjl
    obtain ⟨yi, hgi⟩ : ∃ yi, D[i]? = some yi := ⟨_, List.getElem?_eq_getElem hiD⟩
    have hc := pk115 x y
    rw [← hq y] at hc
    cases hqx : q y with
    | true =>
      rw [hqx] at hc
      have hD' := delI_skip hD hgj hqx
      (have hwq := trivial; repeat' (first | simp (maxSteps:=9999999)-implicitDefEqProofs only [go_sem,simprocAttr,hwq,FT3,FT4,FT27,FT35,FT37,FT97,List.length_map,List.getElem?_map,Int.natCast_nonneg,List.length_append,List.map_append,hjl',hjl,hDl,hgD,wj,hfmv] | (refine condK_split ?_ ?_ <;> intro hwq) | (refine two_split ?_ ?_) | (refine guardK_split ?_ ?_ <;> intro hwq) | (refine guardE_split ?_ ?_ <;> intro hwq) | (refine awp_drawW [] (by decide +kernel) ?_; have hwq := trivial) | (refine call_at [0, 1] hc (by simp) (by decide) rfl rfl (by simp [mapT_box, V.mapTs, V.mapT, pl]) (by simp [V.les, V.le, V.mapTs, V.mapT, pl]) ?_; have hwq := trivial) | fail))
      refine ⟨L.length - (j + 1), _, st_of hjl, Weak.cutI 3 [0, 1, 5, 6] ?_ ?_, i, j + 1, D, _, rfl, hmv' _, rfl, hD'⟩
      · simp (maxSteps:=9999999)-implicitDefEqProofs only [simprocAttr,QH,Option.isSome,cond_true,cond_false,Option.bind,selB,V.rn,V.rns,Go.Ai.known,V.pz,V.pzs,T.toV,frz1,List.range,List.range.loop,ite_true,ite_false,if_true,if_false,ne_eq,implies_true,forall_const,eq_self,IntKind.bits,upd_tmsS,selT_cons,selT_nil,List.length_map,List.getElem?_map,Int.natCast_nonneg,List.length_append,List.map_append]
      · simp (maxSteps:=9999999)-implicitDefEqProofs only [simprocAttr,QH,Option.isSome,cond_true,cond_false,Option.bind,selB,V.rn,V.rns,Go.Ai.known,V.pz,V.pzs,T.toV,frz1,List.range,List.range.loop,ite_true,ite_false,if_true,if_false,ne_eq,implies_true,forall_const,eq_self,IntKind.bits,upd_tmsS,selT_cons,selT_nil,List.length_map,List.getElem?_map,Int.natCast_nonneg,List.length_append,List.map_append]
    | false =>
      rw [hqx] at hc
      have hD' := delI_keep hD hgj hqx
      have hset : (D.map mbT).set i (mbT y) = (D.set i y).map mbT := by rw [List.map_set]
      (have hwq := trivial; repeat' (first | simp (maxSteps:=9999999)-implicitDefEqProofs only [go_sem,simprocAttr,hwq,FT3,FT4,FT27,FT35,FT37,FT97,List.length_map,List.getElem?_map,Int.natCast_nonneg,List.length_append,List.map_append,hjl',hjl,hil',hDl,hiD,hgD,hgi,wj,wi,hfmv,hset] | (refine condK_split ?_ ?_ <;> intro hwq) | (refine two_split ?_ ?_) | (refine guardK_split ?_ ?_ <;> intro hwq) | (refine guardE_split ?_ ?_ <;> intro hwq) | (refine awp_drawW [] (by decide +kernel) ?_; have hwq := trivial) | (refine call_at [0, 1] hc (by simp) (by decide) rfl rfl (by simp [mapT_box, V.mapTs, V.mapT, pl]) (by simp [V.les, V.le, V.mapTs, V.mapT, pl]) ?_; have hwq := trivial) | fail))
      refine ⟨L.length - (j + 1), _, st_of hjl, Weak.cutI 3 [0, 1, 5, 6] ?_ ?_, i + 1, j + 1, D.set i y, _, rfl, hmv' _, rfl, hD'⟩
      · simp (maxSteps:=9999999)-implicitDefEqProofs only [simprocAttr,QH,Option.isSome,cond_true,cond_false,Option.bind,selB,V.rn,V.rns,Go.Ai.known,V.pz,V.pzs,T.toV,frz1,List.range,List.range.loop,ite_true,ite_false,if_true,if_false,ne_eq,implies_true,forall_const,eq_self,IntKind.bits,upd_tmsS,selT_cons,selT_nil,List.length_map,List.getElem?_map,Int.natCast_nonneg,List.length_append,List.map_append]
      · simp (maxSteps:=9999999)-implicitDefEqProofs only [simprocAttr,QH,Option.isSome,cond_true,cond_false,Option.bind,selB,V.rn,V.rns,Go.Ai.known,V.pz,V.pzs,T.toV,frz1,List.range,List.range.loop,ite_true,ite_false,if_true,if_false,ne_eq,implies_true,forall_const,eq_self,IntKind.bits,upd_tmsS,selT_cons,selT_nil,List.length_map,List.getElem?_map,Int.natCast_nonneg,List.length_append,List.map_append]
  · have hjl' : ¬ (j : Int) < (L.length : Int) := fun h => hjl (Int.ofNat_lt.1 h)
    obtain rfl := nl_of hjl hj
    obtain ⟨e3, e4, e5⟩ := delI_end hD
    rw [hF] at e3 e4
    subst e4
    have e6 : F.length + (L.length - F.length) = L.length := by omega
    have e7 : F.length ≤ L.length := Nat.le_of_lt e5
    obtain ⟨M, hM⟩ : ∃ M, D.map mbT = M := ⟨_, rfl⟩
    have hMl : M.length = L.length := by rw [← hM, List.length_map, hDl]
    have e8 : M.take F.length = F.map mbT := by rw [← hM, ← List.map_take, e3]
    have e9 : M.drop L.length = [] := List.drop_eq_nil_of_le (by omega)
    have hYl : Y.length = L.length := by rw [← hY]; simp; omega
    rw [hM]
    (have hwq := trivial; repeat' (first | simp (maxSteps:=9999999)-implicitDefEqProofs only [go_sem,simprocAttr,hwq,FT3,FT4,FT27,FT35,FT37,FT97,List.length_map,List.getElem?_map,Int.natCast_nonneg,List.length_append,List.map_append,hjl',hfmv,hYl,Nat.zero_le,Nat.sub_zero,and_self,e6,e7,hMl,e8,e9,hY,List.length_replicate,List.append_nil,Nat.le_refl] | (refine condK_split ?_ ?_ <;> intro hwq) | (refine two_split ?_ ?_) | (refine guardK_split ?_ ?_ <;> intro hwq) | (refine guardE_split ?_ ?_ <;> intro hwq) | (refine awp_drawW [] (by decide +kernel) ?_; have hwq := trivial) | fail))
end Go.Ai

set_option linter.unusedVariables false
set_option linter.unusedSimpArgs false
namespace Go.Ai
/-! ## slices.Insert in the middle of a row of one's own: the walk's end in plain worlds, and its contract -/
section
variable {P : Program}
/-- copy, of rows of whatever width. -/
theorem run_copyZ {w : World} {t e ty : TypeId} (hu : P.underlying t = some (.slice e)) {z : Nat} (hz : ∀ w, (Go.sizeOf e).run P w = .ok z w) {b o dl dc : Nat} {cs : Array Value} {eb : TypeId} (hb : w.heap[b]? = some (.cells cs eb (0, 0)))
    {sb so sl sc m : Nat} {us : List Value} (hm : min sl dl = m) (hul : us.length = m * z) (hus : ∀ j v, us[j]? = some v → w.cell? ⟨sb, so + j, none⟩ = some v) (h1 : ∀ v ∈ us, v.oneCell' = true) (hfit : o + us.length ≤ cs.size) :
    (Builtin.copy_ #[t, t] ty #[.slice (some ⟨b, o, none⟩) dl dc, .slice (some ⟨sb, so, none⟩) sl sc]).run P w = .ok (goInt m) (w.setRow b (setL cs.toList o us).toArray) := by
  have hst := run_storeCells_at (P := P) b o eb us 0 cs w hb (by simpa using hfit) h1
  simp only [Nat.add_zero] at hst
  have hld := run_loadCells_list (P := P) w ⟨sb, so, none⟩ us (fun j v hv => by rw [addr_add]; exact hus j v hv)
  rw [hul] at hld
  have hf : (Builtin.firstCells z (Nat.min sl dl) (.slice (some ⟨sb, so, none⟩) sl sc)).run P w = .ok us.toArray w := by
    rw [show Nat.min sl dl = m from hm]
    simp [Builtin.firstCells, hld]
  have hlo : (Builtin.lenOf (.slice (some ⟨sb, so, none⟩) sl sc)).run P w = .ok sl w := by simp [Builtin.lenOf]
  simp only [Builtin.copy_, List.getElem?_toArray, List.getElem?_cons_zero, List.getElem?_cons_succ, Sem.run_bind, run_und hu, Result.andThen_ok, hlo, hz, hf, hst, Sem.run_pure]
  rw [show Nat.min sl dl = m from hm]
  rfl
/-- append(s[:i], make([]T, k)...) where there is no room: a new row. -/
theorem run_appendZ {w : World} {t tn e : TypeId} {kq kn : IntKind} (ht : P.underlying t = some (.slice e)) (htn : P.underlying tn = some (.int kn)) (hk : zok P e = true) (hc : 0 < P.cellsOf e) (hby : 0 < P.bytesOf e) {b s k cap : Nat} {cs : Array Value} {eb : TypeId} (hb : w.heap[b]? = some (.cells cs eb (0, 0)))
    (h0 : 0 < k) (hs : s * P.cellsOf e ≤ cs.size) (hg : cap < s + k) (hbig : (s + k) * P.bytesOf e ≤ 140737488355328) :
    ∃ G CE, s + k ≤ G ∧ G ≤ maxLen ∧ CE.size = G * P.cellsOf e ∧ CE.toList.take (s * P.cellsOf e) = cs.toList.take (s * P.cellsOf e) ∧
      ∀ ty, (Builtin.append_ #[t, tn] ty #[.slice (some ⟨b, 0, none⟩) s cap, .int kq k]).run P w = .ok (.slice (some ⟨w.heap.size, 0, none⟩) (s + k) G) (w.drew.alloc (.cells CE e)) := by
  unfold zok at hk
  cases hzi : (P.info? e).bind (·.zero) with
  | none => simp [hzi] at hk
  | some zv =>
    simp only [hzi, beq_iff_eq] at hk
    obtain ⟨i, hi, hz0⟩ := Option.bind_eq_some_iff.1 hzi
    have hci : P.cellsOf e = i.size := by simp [Program.cellsOf, hi]
    have hbi : P.bytesOf e = i.bytes := by simp [Program.bytesOf, hi]
    rw [hci] at hs hk hc ⊢
    rw [hbi] at hbig hby
    have hm : s + k ≤ maxLen := by
      have : s + k ≤ (s + k) * i.bytes := Nat.le_mul_of_pos_right _ hby
      simp only [maxLen]
      omega
    have hkb : k * i.bytes ≤ (s + k) * i.bytes := Nat.mul_le_mul_right _ (by omega)
    have hold : (Builtin.firstCells i.size s (.slice (some ⟨b, 0, none⟩) s cap)).run P w.drew = .ok (cs.toList.take (s * i.size)).toArray w.drew := by
      have := run_loadCells_list (P := P) w.drew ⟨b, 0, none⟩ (cs.toList.take (s * i.size)) (fun j v hv => by
        rw [addr_add, Nat.zero_add, cell_drew]
        rw [List.getElem?_take] at hv
        split at hv
        · simp [World.cell?, hb, ← Array.getElem?_toList, hv]
        · simp at hv)
      have hl : (cs.toList.take (s * i.size)).length = s * i.size := by simp; omega
      rw [hl] at this
      simpa [Builtin.firstCells] using this
    have hrun := fun ty => Lib.run_append_grow_zeros w t tn ty e i zv kq kn ht htn hi hz0 (some ⟨b, 0, none⟩) s cap _ hold k h0 hc hg (by simp only [maxLen] at hm; omega) (by omega) (growslice_fits hg hbig)
    have hge := grownCap_ge w (s + k) cap e
    refine ⟨_, _, hge, grownCap_le_maxLen _ _ _ _ hm, ?_, ?_, hrun⟩
    · have hl : (cs.toList.take (s * i.size)).length = s * i.size := by simp; omega
      simp only [Array.size_append, List.size_toArray, size_zeroCells, hk, hl, ← Nat.add_mul]
      congr 1
      omega
    · have hl : (cs.toList.take (s * i.size)).length = s * i.size := by simp; omega
      simp only [Array.toList_append, List.append_assoc]
      rw [List.take_append_of_le_length (by rw [hl]; exact Nat.le_refl _)]
      rw [List.take_of_length_le (by rw [hl]; exact Nat.le_refl _)]
theorem setL_take_le {α : Type} {L u : List α} {o a : Nat} (h : a ≤ o) (ho : o ≤ L.length) : (setL L o u).take a = L.take a := by
  unfold setL
  rw [List.append_assoc, List.take_append_of_le_length (by simp; omega), List.take_take, Nat.min_eq_left h]
theorem setL_drop_at {α : Type} {L u : List α} {o : Nat} (ho : o ≤ L.length) : (setL L o u).drop o = u ++ L.drop (o + u.length) := by
  unfold setL
  have : (L.take o).length = o := by simp; omega
  rw [List.append_assoc]
  conv => lhs; arg 1; rw [← this]
  rw [List.drop_left]
theorem insC1 {α : Type} {L u1 u2 : List α} {a : Nat} (h : a + u2.length + u1.length ≤ L.length) : (setL (setL L (a + u2.length) u1) a u2).take (a + u2.length + u1.length) = L.take a ++ u2 ++ u1 := by
  have e1 := setL_take_le (L := L) (u := u1) (o := a + u2.length) (a := a) (by omega) (by omega)
  have e2 := setL_drop_at (L := L) (u := u1) (o := a + u2.length) (by omega)
  show ((setL L (a + u2.length) u1).take a ++ u2 ++ (setL L (a + u2.length) u1).drop (a + u2.length)).take _ = _
  rw [e1, e2, ← List.append_assoc]
  have : (L.take a ++ u2 ++ u1).length = a + u2.length + u1.length := by simp; omega
  rw [← this, List.take_left]
theorem insC2 {α : Type} {L u1 u2 : List α} {a : Nat} (h : a + u2.length + u1.length ≤ L.length) : (setL (setL L a u2) (a + u2.length) u1).take (a + u2.length + u1.length) = L.take a ++ u2 ++ u1 := by
  have hl : (setL L a u2).length = L.length := setL_length (by omega)
  have e1 : (setL L a u2).take (a + u2.length) = L.take a ++ u2 := by
    unfold setL
    have : (L.take a ++ u2).length = a + u2.length := by simp; omega
    rw [← this, List.take_left]
  show ((setL L a u2).take (a + u2.length) ++ u1 ++ (setL L a u2).drop (a + u2.length + u1.length)).take _ = _
  rw [e1]
  have : (L.take a ++ u2 ++ u1).length = a + u2.length + u1.length := by simp; omega
  rw [← this, List.take_left]
/-- What Insert leaves of a row: one more in its place, where it lay or in a new block. -/
def InsPost (z n i b : Nat) (cs us : Array Value) (w : World) (ex : Ending) (w' : World) : Prop :=
  ∃ nb ncap C et, ex = .returned (.slice (some ⟨nb, 0, none⟩) (n + 1) ncap) ∧ (nb = b ∨ w.heap.size ≤ nb) ∧ n + 1 ≤ ncap ∧ ncap ≤ maxLen ∧ w'.heap[nb]? = some (.cells C et (0, 0)) ∧ C.size = ncap * z ∧
    C.toList.take ((n + 1) * z) = cs.toList.take (i * z) ++ us.toList.take z ++ (cs.toList.drop (i * z)).take ((n - i) * z) ∧
    (∀ b', b' < w.heap.size → b' ≠ b → w'.heap[b']? = w.heap[b']?) ∧ w.heap.size ≤ w'.heap.size ∧ w'.os = w.os ∧ w'.tape = w.tape ∧ w'.output = w.output ∧ w.drawn ≤ w'.drawn
def InsAt (P : Program) (f z : Nat) : Prop :=
  ∀ (w : World) (b cap n i vb vc : Nat) (cs : Array Value) (eb : TypeId) (us : Array Value) (eu : TypeId), i < n → n ≤ cap → cap ≤ maxLen → n ≤ 1000 → w.heap[b]? = some (.cells cs eb (0, 0)) → cs.size = cap * z →
    w.heap[vb]? = some (.cells us eu (0, 0)) → us.size = vc * z → 1 ≤ vc → vb ≠ b → (∀ v ∈ cs.toList.take (n * z), v.oneCell' = true) → (∀ v ∈ us.toList.take z, v.oneCell' = true) →
    Calls P f #[.slice (some ⟨b, 0, none⟩) n cap, .int .i64 i, .slice (some ⟨vb, 0, none⟩) 1 vc] w (InsPost z n i b cs us w)
theorem insPost_room {z n i b cap : Nat} {cs us : Array Value} {w : World} {eb : TypeId} (hi : i < n) (hroom : n + 1 ≤ cap) (hcm : cap ≤ maxLen) (hb : w.heap[b]? = some (.cells cs eb (0, 0))) (hcs : cs.size = cap * z) (hu : z ≤ us.size) :
    InsPost z n i b cs us w (.returned (.slice (some ⟨b, 0, none⟩) (n + 1) cap)) ((w.drew.setRow b (setL cs.toList ((i + 1) * z) ((cs.toList.drop (i * z)).take ((n - i) * z))).toArray).setRow b
        (setL (setL cs.toList ((i + 1) * z) ((cs.toList.drop (i * z)).take ((n - i) * z))) (i * z) (us.toList.take (1 * z))).toArray) := by
  obtain ⟨u1, hu1⟩ : ∃ u1, (cs.toList.drop (i * z)).take ((n - i) * z) = u1 := ⟨_, rfl⟩
  obtain ⟨u2, hu2⟩ : ∃ u2, us.toList.take z = u2 := ⟨_, rfl⟩
  have hL : (n + 1) * z ≤ cs.toList.length := by rw [Array.length_toList, hcs]; exact Nat.mul_le_mul_right _ hroom
  have e1 : (n + 1) * z = i * z + z + (n - i) * z := by rw [← Nat.add_one_mul, ← Nat.add_mul]; congr 1; omega
  have hl1 : u1.length = (n - i) * z := by rw [← hu1]; simp; rw [e1] at hL; rw [Array.length_toList] at hL; omega
  have hl2 : u2.length = z := by rw [← hu2]; simp; omega
  simp only [Nat.one_mul, hu1, hu2]
  have hc := insC1 (L := cs.toList) (u1 := u1) (u2 := u2) (a := i * z) (by rw [hl1, hl2, ← e1]; exact hL)
  rw [hl2, hl1, ← e1, ← Nat.add_one_mul] at hc
  have hA1 : (setL cs.toList ((i + 1) * z) u1).length = cs.size := by rw [setL_length (by rw [hl1, Nat.add_one_mul, ← e1]; exact hL), Array.length_toList]
  have hA2 : (setL (setL cs.toList ((i + 1) * z) u1) (i * z) u2).length = cs.size := by rw [setL_length (by rw [hA1, hl2]; rw [Array.length_toList] at hL; omega), hA1]
  have h0 : (w.drew).heap[b]? = some (.cells cs eb (0, 0)) := hb
  refine ⟨b, cap, _, eb, rfl, .inl rfl, hroom, hcm, setRow_heap _ b _ _ eb (0, 0) (setRow_heap w.drew b cs _ eb (0, 0) h0), by rw [List.size_toArray, hA2, hcs], ?_, fun b' _ hn => by rw [setRow_other _ _ _ _ hn, setRow_other _ _ _ _ hn]; rfl, by simp, rfl, rfl, rfl, Nat.le_succ _⟩
  rw [hu1, hu2]
  exact hc
theorem insPost_grow {z n i b G : Nat} {cs us CE : Array Value} {w w' : World} {e : TypeId} (hi : i < n) (hG : n + 1 ≤ G) (hGm : G ≤ maxLen) (hC : CE.size = G * z) (hcs : n * z ≤ cs.size) (hCi : CE.toList.take (i * z) = cs.toList.take (i * z)) (hu : z ≤ us.size)
    (hh : w'.heap = (((w.drew.alloc (.cells CE e)).setRow w.heap.size (setL CE.toList (i * z) (us.toList.take (1 * z))).toArray).setRow w.heap.size (setL (setL CE.toList (i * z) (us.toList.take (1 * z))) ((i + 1) * z) ((cs.toList.drop (i * z)).take ((n - i) * z))).toArray).heap)
    (ho : w'.os = w.os) (ht : w'.tape = w.tape) (hp : w'.output = w.output) (hd : w.drawn ≤ w'.drawn) :
    InsPost z n i b cs us w (.returned (.slice (some ⟨w.heap.size, 0, none⟩) (n + 1) G)) w' := by
  obtain ⟨u1, hu1⟩ : ∃ u1, (cs.toList.drop (i * z)).take ((n - i) * z) = u1 := ⟨_, rfl⟩
  obtain ⟨u2, hu2⟩ : ∃ u2, us.toList.take z = u2 := ⟨_, rfl⟩
  have hL : (n + 1) * z ≤ CE.toList.length := by rw [Array.length_toList, hC]; exact Nat.mul_le_mul_right _ hG
  have e1 : (n + 1) * z = i * z + z + (n - i) * z := by rw [← Nat.add_one_mul, ← Nat.add_mul]; congr 1; omega
  have e2 : n * z = i * z + (n - i) * z := by rw [← Nat.add_mul]; congr 1; omega
  have hl1 : u1.length = (n - i) * z := by rw [← hu1]; simp; omega
  have hl2 : u2.length = z := by rw [← hu2]; simp; omega
  simp only [Nat.one_mul, hu1, hu2] at hh
  have hc := insC2 (L := CE.toList) (u1 := u1) (u2 := u2) (a := i * z) (by rw [hl1, hl2, ← e1]; exact hL)
  rw [hl2, hl1, ← e1, ← Nat.add_one_mul] at hc
  have hA1 : (setL CE.toList (i * z) u2).length = CE.size := by rw [setL_length (by rw [hl2]; omega), Array.length_toList]
  have hA2 : (setL (setL CE.toList (i * z) u2) ((i + 1) * z) u1).length = CE.size := by rw [setL_length (by rw [hA1, hl1, Nat.add_one_mul, ← e1]; simpa using hL), hA1]
  have h0 : (w.drew.alloc (.cells CE e)).heap[w.heap.size]? = some (.cells CE e (0, 0)) := alloc_new w.drew _
  refine ⟨w.heap.size, G, _, e, rfl, .inr (Nat.le_refl _), hG, hGm, by rw [hh]; exact setRow_heap _ _ _ _ e (0, 0) (setRow_heap _ _ CE _ e (0, 0) h0), by rw [List.size_toArray, hA2, hC], ?_, fun b' hb' hn => ?_, by rw [hh]; simp, ho, ht, hp, hd⟩
  · rw [hu1, hu2]
    rw [hc, hCi]
  · rw [hh, setRow_other _ _ _ _ (by omega), setRow_other _ _ _ _ (by omega)]
    exact alloc_old w.drew _ hb'
theorem AC_ins {f z : Nat} (hc : callable P f = true) (S : InsAt P f z) (hz : 0 < z) (y : List T) (l : List (List T)) (hl : l.length ≤ 1000) (i : Nat) (hi' : i < l.length) (b0 : Blk) (hb0 : b0.pz [1] = b0) :
    AC P f [.own 1 0 l.length, .s (.int .i64 i), .own 2 0 1] [b0, .rows z l false, .rows z [y] false] (fun r s mv => r = .own 1 0 (l.length + 1) ∧ s = [b0, .rows z (l.take i ++ y :: l.drop i) false, .rows z [y] false] ∧ mv = [1]) := by
  refine ⟨hc, fun β I w vs hi hv => ?_⟩
  match vs, hv with
  | [c1, c2, c3], hv =>
    simp only [VRs, VR] at hv
    obtain ⟨h1, ⟨rfl, _⟩, h3, _⟩ := hv
    have hk1 := hi.blk 1 _ rfl
    have hk2 := hi.blk 2 _ rfl
    simp only [BlkR] at hk1 hk2
    rcases hk1 with ⟨_, hk1⟩ | ⟨b, cap, cs, e, hb1, hb2, hb3, hb4, hb5, hb6, hb7, hb8⟩
    · subst hk1; simp at hi'
    rcases hk2 with ⟨_, hk2⟩ | ⟨vb, vc, us, eu, hu1, hu2, hu3, hu4, hu5, hu6, hu7, hu8⟩
    · simp at hk2
    simp only [List.length_cons, List.length_nil, Nat.zero_add, Nat.one_mul] at hu4 hu7
    simp only [List.flatten_cons, List.flatten_nil, List.append_nil] at hu7
    have hc1 : c1 = .slice (some ⟨b, 0, none⟩) l.length cap := by
      rcases h1 with ⟨x, g1, g2⟩ | ⟨g1, _, g3, _⟩
      · rw [hb1] at g1
        cases g1
        rcases g2 with ⟨_, g2⟩ | ⟨g2, _⟩
        · simpa using g2
        · omega
      · omega
    have hc3 : c3 = .slice (some ⟨vb, 0, none⟩) 1 vc := by
      rcases h3 with ⟨x, g1, g2⟩ | ⟨g1, _, g3, _⟩
      · rw [hu1] at g1
        cases g1
        rcases g2 with ⟨_, g2⟩ | ⟨g2, _⟩
        · simpa using g2
        · omega
      · omega
    subst hc1 hc3
    have hne : vb ≠ b := fun e => by
      have := hi.inj 1 2 _ _ hb1 hu1 e.symm
      omega
    refine (S w b cap l.length i vb vc cs e us eu hi' hb4 hb5 hl hb2 hb3 hu2 hu3 hu4 hne hb7.ones hu7.ones).mono fun ex w' hp => ?_
    obtain ⟨nb, ncap, C, et, rfl, hnb, hn1, hn2, hC, hCs, hCt, hold, hsz, hos, htp, hout, hdr⟩ := hp
    have hnlt : nb < w'.heap.size := (Array.getElem?_eq_some_iff.1 hC).1
    refine ⟨_, ext β 1 (.real ⟨nb, ncap, z⟩), I, _, _, _, rfl, ⟨rfl, rfl, rfl⟩, ?_, ?_, ?_, Keeps.extMv⟩
    · simp only [VR]
      exact .inl ⟨_, ext_self _ _ _, .inl ⟨by simpa using hn1, by simp⟩⟩
    · have hm := hi.move (t := 1) (w' := w') (by simp) (.rows z (l.take i ++ y :: l.drop i) false) (.real ⟨nb, ncap, z⟩) hsz (fun b' hb' hn => hold b' hb' (fun e => hn _ hb1 e.symm)) (fun x o v hx hv => by
        rw [hb1] at hx
        cases hx
        have := hb8 o (.inl trivial)
        rw [this] at hv; cases hv) (fun y' hy' => by
        injection hy' with hy'; subst hy'
        exact ⟨hnb.imp (fun e => ⟨_, hb1, e⟩) id, hnlt⟩) ?_
      · have e1 : (([b0, .rows z l false, .rows z [y] false] : List Blk).set 1 (.rows z (l.take i ++ y :: l.drop i) false)).map (Blk.pz [1]) = [b0, .rows z (l.take i ++ y :: l.drop i) false, .rows z [y] false] := by
          simp only [List.set, List.map_cons, List.map_nil, hb0]
          rfl
        rw [e1] at hm
        exact hm
      · simp only [Blk.pz, BlkR]
        have hlen : (l.take i ++ y :: l.drop i).length = l.length + 1 := by simp; omega
        have hyl : y.length = z := hu6 y (by simp)
        refine .inr ⟨nb, ncap, C, et, ext_self _ _ _, hC, hCs, by rw [hlen]; exact hn1, hn2, fun r hr => ?_, ?_, fun o _ => ?_⟩
        · simp only [List.mem_append, List.mem_cons] at hr
          rcases hr with hr | rfl | hr
          · exact hb6 r (List.mem_of_mem_take hr)
          · exact hyl
          · exact hb6 r (List.mem_of_mem_drop hr)
        · rw [hlen, hCt, List.flatten_append, List.flatten_cons, List.append_assoc]
          have t1 := hb7.take (i * z)
          have t2 := hb7.drop (i * z)
          have hiz : i * z ≤ l.length * z := Nat.mul_le_mul_right _ (by omega)
          rw [flatten_take i hb6, List.take_take, Nat.min_eq_left hiz] at t1
          rw [flatten_drop i hb6, List.drop_take, ← Nat.sub_mul] at t2
          exact t1.append (hu7.append t2)
        · rcases hnb with rfl | hge
          · exact hb8 o (.inl trivial)
          · cases hv : I nb o with
            | none => rfl
            | some v => have := hi.ilt hv; omega
    · refine Step.move (w' := w') hi _ hos htp hout hsz (fun b' hb' hn => hold b' hb' (fun e => hn _ hb1 e.symm)) (fun y' hy' => ?_) hdr
      injection hy' with hy'; subst hy'
      exact hnb.imp (fun e => ⟨_, hb1, e⟩) id
end
end Go.Ai
