/- Contracts of functions of the loaded program: called with data in the ranges that each names, it returns this value and writes to no old memory. -/
import Derived.Test.YtbiolkmddpkheaaPvmZd
import Derived.Lib.Overlaps
import Derived.Lib.AppendZerosOnto
import Derived.Shelf.Spec.SlicesInsertGrow
set_option linter.unusedVariables false
set_option linter.unusedSimpArgs false
set_option maxHeartbeats 4000000
set_option maxRecDepth 100000
namespace Go.Ai
open Go.Proofs
attribute [local go_sem] QH QR V.noimm V.noimms frzZs frzZ frzA frzV frzVs frzBox boxLen Option.isSome cond_true cond_false aopD calW flatV stepX amap stepY alookup afind aupdate adelete amlen arange ameq mapOf akeq pl V.mapT V.mapTs Option.bind stepK runK guardD stepE runD callD compact selB callK evS ofVal ofVals scalar aop ares mkRes V.rn V.rns V.cells? cellsAt Go.Ai.part aload astore setL V.atom abin aun intBin shiftBin aconv fieldOf aindexAddr aindex bound? aslice aarr abuild afill alen nilP nilS nilF aeq eqCells eqCell Go.Ai.known strBin abuiltin aappend abuildSlice arowsFill amakeSlice acopy aclear minmax rowsOf numsT notStr isIntD isByte V.pz V.pzs T.toV frz1 frz scalT scalTs chunkT List.range List.range.loop ite_true ite_false if_true if_false ne_eq implies_true forall_const eq_self IntKind.bits kPostKF_ret kPostKF_normal kPostX_ret kPostX_normal bsl nil2K nil2 kPostFW_ret kPostFW_normal kPostKM_ret kPostKM_normal kPostXK_ret kPostXK_normal
/-- How far the sweep is: what stays of the first j lies ahead, the rest as it was. -/
structure DelI {α : Type} (q : α → Bool) (L : List α) (i j : Nat) (D : List α) : Prop where
  len : D.length = L.length
  lo : D.take i = (L.take j).filter (fun y => !q y)
  hi : D.drop j = L.drop j
  ij : i < j
  jl : j ≤ L.length
theorem delI_at {α : Type} {q : α → Bool} {L D : List α} {i j : Nat} (h : DelI q L i j D) {y : α} (hy : L[j]? = some y) : D[j]? = some y := by
  have e : (D.drop j)[0]? = (L.drop j)[0]? := by rw [h.hi]
  rw [List.getElem?_drop, List.getElem?_drop] at e
  simpa [hy] using e
theorem delI_skip {α : Type} {q : α → Bool} {L D : List α} {i j : Nat} (h : DelI q L i j D) {y : α} (hy : L[j]? = some y) (hq : q y = true) : DelI q L i (j + 1) D := by
  have hj := (List.getElem?_eq_some_iff.1 hy).1
  refine ⟨h.len, ?_, ?_, by have := h.ij; omega, hj⟩
  · rw [h.lo, take_in hy, List.filter_append]; simp [hq]
  · have e : (D.drop j).drop 1 = (L.drop j).drop 1 := by rw [h.hi]
    rwa [List.drop_drop, List.drop_drop] at e
theorem delI_keep {α : Type} {q : α → Bool} {L D : List α} {i j : Nat} (h : DelI q L i j D) {y : α} (hy : L[j]? = some y) (hq : q y = false) : DelI q L (i + 1) (j + 1) (D.set i y) := by
  have hj := (List.getElem?_eq_some_iff.1 hy).1
  have hij := h.ij
  have hd : i < D.length := by rw [h.len]; omega
  refine ⟨by rw [List.length_set]; exact h.len, ?_, ?_, by omega, hj⟩
  · have e1 : (D.set i y)[i]? = some y := by rw [List.getElem?_set_self hd]
    rw [take_in e1, List.take_set_of_le (by omega), h.lo, take_in hy, List.filter_append]; simp [hq]
  · rw [List.drop_set_of_lt (by omega)]
    have e : (D.drop j).drop 1 = (L.drop j).drop 1 := by rw [h.hi]
    rwa [List.drop_drop, List.drop_drop] at e
theorem delI_start {α : Type} {q : α → Bool} {L : List α} {k : Nat} {y : α} (hno : ∀ z ∈ L.take k, q z = false) (hy : L[k]? = some y) (hq : q y = true) : DelI q L k (k + 1) L := by
  have hj := (List.getElem?_eq_some_iff.1 hy).1
  refine ⟨rfl, ?_, rfl, by omega, hj⟩
  rw [take_in hy, List.filter_append]
  have : (L.take k).filter (fun y => !q y) = L.take k := List.filter_eq_self.2 fun z hz => by rw [hno z hz]; rfl
  rw [this]; simp [hq]
theorem delI_end {α : Type} {q : α → Bool} {L D : List α} {i : Nat} (h : DelI q L i L.length D) : D.take i = L.filter (fun y => !q y) ∧ i = (L.filter (fun y => !q y)).length ∧ i < L.length := by
  have h1 := h.lo
  rw [List.take_length] at h1
  have hd : i < L.length := h.ij
  refine ⟨h1, ?_, hd⟩
  rw [← h1, List.length_take, h.len]
  omega
theorem ix_cases {α : Type} (q : α → Bool) (L : List α) : (ixZ q L = -1 ∧ L.filter (fun y => !q y) = L) ∨ ∃ (k : Nat) (y : α), ixZ q L = (k : Int) ∧ L[k]? = some y ∧ q y = true ∧ ∀ z ∈ L.take k, q z = false := by
  unfold ixZ
  cases h : L.findIdx? q with
  | none =>
    left
    rw [List.findIdx?_eq_none_iff] at h
    exact ⟨rfl, List.filter_eq_self.2 fun z hz => by rw [h z hz]; rfl⟩
  | some k =>
    right
    rw [List.findIdx?_eq_some_iff_getElem] at h
    obtain ⟨hk, h1, h2⟩ := h
    refine ⟨k, L[k], rfl, List.getElem?_eq_getElem hk, h1, fun z hz => ?_⟩
    obtain ⟨m, hm, rfl⟩ := List.getElem_of_mem hz
    have hm' : m < k := by simp at hm; omega
    have := h2 m hm'
    simpa using this
def Jd104 (x : Mp) (q : Mp → Bool) (L : List Mp) (k : Nat) (S : St) : Prop :=
  ∃ (i j : Nat) (D : List Mp) (mv : List Nat), S = ⟨tms [(0, .own 2 0 L.length), (1, .clo (.func 58) [] [.ptr 1 0 0, .ptr 0 0 0]), (5, vI i), (6, vI j)], [bxMp x, bxF 11, .rows 3 (D.map mpT) false], mv⟩ ∧ (∀ t ∈ mv, 3 ≤ t) ∧ k = L.length - j ∧ DelI q L i j D
theorem pdf104 (x : Mp) (L : List Mp) (hl : L.length ≤ 1000) (q : Mp → Bool) (hq : ∀ y, q y = (cmpMp x y == 0)) (F : List Mp) (hF : L.filter (fun y => !q y) = F) (Y : List (List T)) (hY : F.map mpT ++ List.replicate (L.length - F.length) [.s (.int .i64 0), .s (.int .i64 0), .s (.int .i64 0)] = Y) :
    AC Try.prog 57 [.own 2 0 L.length, .clo (.func 58) [] [.ptr 1 0 0, .ptr 0 0 0]] [bxMp x, bxF 11, .rows 3 (L.map mpT) false] (eqS (.own 2 0 F.length) [bxMp x, bxF 11, .rows 3 Y false]) := by
  have h1 := pio126 x L hl q hq
  refine AC_heap orders [0, 1, 2] Try.func57 rfl (by kernel_rfl) (by kernel_rfl) Try.ntmps57 (by simp) ?_
  unfold Try.f57
  rcases ix_cases q L with ⟨e1, e2⟩ | ⟨k0, y0, e1, hy0, hq0, hno⟩
  · rw [e1] at h1
    rw [e2] at hF
    subst hF
    have hY' : Y = L.map mpT := by rw [← hY]; simp
    subst hY'
    (have hwq := trivial; repeat' (first | simp (maxSteps:=9999999)-implicitDefEqProofs only [go_sem,simprocAttr,hwq,FT3,FT4,FT25,FT40,FT88,List.length_map,List.getElem?_map,Int.natCast_nonneg,List.length_append,List.map_append] | (refine condK_split ?_ ?_ <;> intro hwq) | (refine two_split ?_ ?_) | (refine guardK_split ?_ ?_ <;> intro hwq) | (refine guardE_split ?_ ?_ <;> intro hwq) | (refine awp_drawW [] (by decide +kernel) ?_; have hwq := trivial) | (refine call_here h1 ?_; have hwq := trivial) | fail))
  rw [e1] at h1
  have hk0 := (List.getElem?_eq_some_iff.1 hy0).1
  have w0 := wj_of (Nat.le_of_lt hk0) hl
  have n0 : ((k0 : Int) == -1) = false := beq_eq_false_iff_ne.2 (by omega)
  (have hwq := trivial; repeat' (first | simp (maxSteps:=9999999)-implicitDefEqProofs only [go_sem,simprocAttr,hwq,FT3,FT4,FT25,FT40,FT88,List.length_map,List.getElem?_map,Int.natCast_nonneg,List.length_append,List.map_append,w0,n0] | (refine condK_split ?_ ?_ <;> intro hwq) | (refine two_split ?_ ?_) | (refine guardK_split ?_ ?_ <;> intro hwq) | (refine guardE_split ?_ ?_ <;> intro hwq) | (refine awp_drawW [] (by decide +kernel) ?_; have hwq := trivial) | (refine call_here h1 ?_; have hwq := trivial) | fail))
  refine awp_loopK (Jd104 x q L) (L.length - (k0 + 1)) _ (Weak.cutI 3 [0, 1, 5, 6] ?_ ?_) ⟨k0, k0 + 1, L, _, rfl, by simp [List.mem_range'_1], rfl, delI_start hno hy0 hq0⟩ ?_
  · simp (maxSteps:=9999999)-implicitDefEqProofs only [simprocAttr,QH,Option.isSome,cond_true,cond_false,Option.bind,selB,V.rn,V.rns,Go.Ai.known,V.pz,V.pzs,T.toV,frz1,List.range,List.range.loop,ite_true,ite_false,if_true,if_false,ne_eq,implies_true,forall_const,eq_self,IntKind.bits,upd_tmsS,selT_cons,selT_nil,List.length_map,List.getElem?_map,Int.natCast_nonneg,List.length_append,List.map_append]
  · simp (maxSteps:=9999999)-implicitDefEqProofs only [simprocAttr,QH,Option.isSome,cond_true,cond_false,Option.bind,selB,V.rn,V.rns,Go.Ai.known,V.pz,V.pzs,T.toV,frz1,List.range,List.range.loop,ite_true,ite_false,if_true,if_false,ne_eq,implies_true,forall_const,eq_self,IntKind.bits,upd_tmsS,selT_cons,selT_nil]
  rintro kk S ⟨i, j, D, mv, rfl, hmv, rfl, hD⟩
  have hfmv : mv.filter (fun x => decide (x < 3)) = [] := by
    rw [List.filter_eq_nil_iff]
    intro t ht
    have := hmv t ht
    simp
    try omega
  have hmv' : ∀ m t : Nat, t ∈ mv ++ List.range' 3 m → 3 ≤ t := by
    intro m t ht
    rcases List.mem_append.1 ht with h1 | h1
    · exact hmv t h1
    · exact (List.mem_range'_1.1 h1).1
  have hj := hD.jl
  have hij := hD.ij
  have hDl := hD.len
  have wj := wj_of hj hl
  have wi := wj_of (Nat.le_trans (Nat.le_of_lt hij) hj) hl
  by_cases hjl : j < L.length
  · have hjl' : (j : Int) < (L.length : Int) := Int.ofNat_lt.2 hjl
    have hil' : (i : Int) < (L.length : Int) := Int.ofNat_lt.2 (Nat.lt_trans hij hjl)
    have hgj : L[j]? = some L[j] := List.getElem?_eq_getElem hjl
    obtain ⟨y, hy⟩ : ∃ y, L[j] = y := ⟨_, rfl⟩
    rw [hy] at hgj
    have hgD := delI_at hD hgj
    have hiD : i < D.length := by rw [hDl]; exact Nat.lt_trans hij hjl
    have hjD : j < D.length := by rw [hDl]; exact hjl
    obtain ⟨yi, hgi⟩ : ∃ yi, D[i]? = some yi := ⟨_, List.getElem?_eq_getElem hiD⟩
    have hc := pk105 x y
    rw [← hq y] at hc
    cases hqx : q y with
    | true =>
      rw [hqx] at hc
      have hD' := delI_skip hD hgj hqx
      (have hwq := trivial; repeat' (first | simp (maxSteps:=9999999)-implicitDefEqProofs only [go_sem,simprocAttr,hwq,FT3,FT4,FT25,FT40,FT88,List.length_map,List.getElem?_map,Int.natCast_nonneg,List.length_append,List.map_append,hjl',hjl,hDl,hgD,wj,hfmv] | (refine condK_split ?_ ?_ <;> intro hwq) | (refine two_split ?_ ?_) | (refine guardK_split ?_ ?_ <;> intro hwq) | (refine guardE_split ?_ ?_ <;> intro hwq) | (refine awp_drawW [] (by decide +kernel) ?_; have hwq := trivial) | (refine call_at [0, 1] hc (by simp) (by decide) rfl rfl (by simp [mapT_box, V.mapTs, V.mapT, pl]) (by simp [V.les, V.le, V.mapTs, V.mapT, pl]) ?_; have hwq := trivial) | fail))
      refine ⟨L.length - (j + 1), _, st_of hjl, Weak.cutI 3 [0, 1, 5, 6] ?_ ?_, i, j + 1, D, _, rfl, hmv' _, rfl, hD'⟩
      · simp (maxSteps:=9999999)-implicitDefEqProofs only [simprocAttr,QH,Option.isSome,cond_true,cond_false,Option.bind,selB,V.rn,V.rns,Go.Ai.known,V.pz,V.pzs,T.toV,frz1,List.range,List.range.loop,ite_true,ite_false,if_true,if_false,ne_eq,implies_true,forall_const,eq_self,IntKind.bits,upd_tmsS,selT_cons,selT_nil,List.length_map,List.getElem?_map,Int.natCast_nonneg,List.length_append,List.map_append]
      · simp (maxSteps:=9999999)-implicitDefEqProofs only [simprocAttr,QH,Option.isSome,cond_true,cond_false,Option.bind,selB,V.rn,V.rns,Go.Ai.known,V.pz,V.pzs,T.toV,frz1,List.range,List.range.loop,ite_true,ite_false,if_true,if_false,ne_eq,implies_true,forall_const,eq_self,IntKind.bits,upd_tmsS,selT_cons,selT_nil,List.length_map,List.getElem?_map,Int.natCast_nonneg,List.length_append,List.map_append]
    | false =>
      rw [hqx] at hc
      have hD' := delI_keep hD hgj hqx
      have hset : (D.map mpT).set i (mpT y) = (D.set i y).map mpT := by rw [List.map_set]
      (have hwq := trivial; repeat' (first | simp (maxSteps:=9999999)-implicitDefEqProofs only [go_sem,simprocAttr,hwq,FT3,FT4,FT25,FT40,FT88,List.length_map,List.getElem?_map,Int.natCast_nonneg,List.length_append,List.map_append,hjl',hjl,hil',hDl,hiD,hgD,hgi,wj,wi,hfmv,hset] | (refine condK_split ?_ ?_ <;> intro hwq) | (refine two_split ?_ ?_) | (refine guardK_split ?_ ?_ <;> intro hwq) | (refine guardE_split ?_ ?_ <;> intro hwq) | (refine awp_drawW [] (by decide +kernel) ?_; have hwq := trivial) | (refine call_at [0, 1] hc (by simp) (by decide) rfl rfl (by simp [mapT_box, V.mapTs, V.mapT, pl]) (by simp [V.les, V.le, V.mapTs, V.mapT, pl]) ?_; have hwq := trivial) | fail))
      refine ⟨L.length - (j + 1), _, st_of hjl, Weak.cutI 3 [0, 1, 5, 6] ?_ ?_, i + 1, j + 1, D.set i y, _, rfl, hmv' _, rfl, hD'⟩
      · simp (maxSteps:=9999999)-implicitDefEqProofs only [simprocAttr,QH,Option.isSome,cond_true,cond_false,Option.bind,selB,V.rn,V.rns,Go.Ai.known,V.pz,V.pzs,T.toV,frz1,List.range,List.range.loop,ite_true,ite_false,if_true,if_false,ne_eq,implies_true,forall_const,eq_self,IntKind.bits,upd_tmsS,selT_cons,selT_nil,List.length_map,List.getElem?_map,Int.natCast_nonneg,List.length_append,List.map_append]
      · simp (maxSteps:=9999999)-implicitDefEqProofs only [simprocAttr,QH,Option.isSome,cond_true,cond_false,Option.bind,selB,V.rn,V.rns,Go.Ai.known,V.pz,V.pzs,T.toV,frz1,List.range,List.range.loop,ite_true,ite_false,if_true,if_false,ne_eq,implies_true,forall_const,eq_self,IntKind.bits,upd_tmsS,selT_cons,selT_nil,List.length_map,List.getElem?_map,Int.natCast_nonneg,List.length_append,List.map_append]
  · have hjl' : ¬ (j : Int) < (L.length : Int) := fun h => hjl (Int.ofNat_lt.1 h)
    obtain rfl := nl_of hjl hj
    obtain ⟨e3, e4, e5⟩ := delI_end hD
    rw [hF] at e3 e4
    subst e4
    have e6 : F.length + (L.length - F.length) = L.length := by omega
    have e7 : F.length ≤ L.length := Nat.le_of_lt e5
    obtain ⟨M, hM⟩ : ∃ M, D.map mpT = M := ⟨_, rfl⟩
    have hMl : M.length = L.length := by rw [← hM, List.length_map, hDl]
    have e8 : M.take F.length = F.map mpT := by rw [← hM, ← List.map_take, e3]
    have e9 : M.drop L.length = [] := List.drop_eq_nil_of_le (by omega)
    have hYl : Y.length = L.length := by rw [← hY]; simp; omega
    rw [hM]
    (have hwq := trivial; repeat' (first | simp (maxSteps:=9999999)-implicitDefEqProofs only [go_sem,simprocAttr,hwq,FT3,FT4,FT25,FT40,FT88,List.length_map,List.getElem?_map,Int.natCast_nonneg,List.length_append,List.map_append,hjl',hfmv,hYl,Nat.zero_le,Nat.sub_zero,and_self,e6,e7,hMl,e8,e9,hY,List.length_replicate,List.append_nil,Nat.le_refl] | (refine condK_split ?_ ?_ <;> intro hwq) | (refine two_split ?_ ?_) | (refine guardK_split ?_ ?_ <;> intro hwq) | (refine guardE_split ?_ ?_ <;> intro hwq) | (refine awp_drawW [] (by decide +kernel) ?_; have hwq := trivial) | fail))
def Jd109 (x : Cr) (q : Cr → Bool) (L : List Cr) (k : Nat) (S : St) : Prop :=
  ∃ (i j : Nat) (D : List Cr) (mv : List Nat), S = ⟨tms [(0, .own 2 0 L.length), (1, .clo (.func 63) [] [.ptr 1 0 0, .ptr 0 0 0]), (5, vI i), (6, vI j)], [bxCr x, bxF 16, .rows 2 (D.map crT) false], mv⟩ ∧ (∀ t ∈ mv, 3 ≤ t) ∧ k = L.length - j ∧ DelI q L i j D
theorem pdf109 (x : Cr) (L : List Cr) (hl : L.length ≤ 1000) (q : Cr → Bool) (hq : ∀ y, q y = (cmpZ x.s y.s == 0)) (F : List Cr) (hF : L.filter (fun y => !q y) = F) (Y : List (List T)) (hY : F.map crT ++ List.replicate (L.length - F.length) [.s (.int .i64 0), .s (.int .i64 0)] = Y) :
    AC Try.prog 62 [.own 2 0 L.length, .clo (.func 63) [] [.ptr 1 0 0, .ptr 0 0 0]] [bxCr x, bxF 16, .rows 2 (L.map crT) false] (eqS (.own 2 0 F.length) [bxCr x, bxF 16, .rows 2 Y false]) := by
  have h1 := pio125 x L hl q hq
  refine AC_heap orders [0, 1, 2] Try.func62 rfl (by kernel_rfl) (by kernel_rfl) Try.ntmps62 (by simp) ?_
  unfold Try.f62
  rcases ix_cases q L with ⟨e1, e2⟩ | ⟨k0, y0, e1, hy0, hq0, hno⟩
  · rw [e1] at h1
    rw [e2] at hF
    subst hF
    have hY' : Y = L.map crT := by rw [← hY]; simp
    subst hY'
    (have hwq := trivial; repeat' (first | simp (maxSteps:=9999999)-implicitDefEqProofs only [go_sem,simprocAttr,hwq,FT3,FT4,FT26,FT42,FT86,List.length_map,List.getElem?_map,Int.natCast_nonneg,List.length_append,List.map_append] | (refine condK_split ?_ ?_ <;> intro hwq) | (refine two_split ?_ ?_) | (refine guardK_split ?_ ?_ <;> intro hwq) | (refine guardE_split ?_ ?_ <;> intro hwq) | (refine awp_drawW [] (by decide +kernel) ?_; have hwq := trivial) | (refine call_here h1 ?_; have hwq := trivial) | fail))
  rw [e1] at h1
  have hk0 := (List.getElem?_eq_some_iff.1 hy0).1
  have w0 := wj_of (Nat.le_of_lt hk0) hl
  have n0 : ((k0 : Int) == -1) = false := beq_eq_false_iff_ne.2 (by omega)
  (have hwq := trivial; repeat' (first | simp (maxSteps:=9999999)-implicitDefEqProofs only [go_sem,simprocAttr,hwq,FT3,FT4,FT26,FT42,FT86,List.length_map,List.getElem?_map,Int.natCast_nonneg,List.length_append,List.map_append,w0,n0] | (refine condK_split ?_ ?_ <;> intro hwq) | (refine two_split ?_ ?_) | (refine guardK_split ?_ ?_ <;> intro hwq) | (refine guardE_split ?_ ?_ <;> intro hwq) | (refine awp_drawW [] (by decide +kernel) ?_; have hwq := trivial) | (refine call_here h1 ?_; have hwq := trivial) | fail))
  refine awp_loopK (Jd109 x q L) (L.length - (k0 + 1)) _ (Weak.cutI 3 [0, 1, 5, 6] ?_ ?_) ⟨k0, k0 + 1, L, _, rfl, by simp [List.mem_range'_1], rfl, delI_start hno hy0 hq0⟩ ?_
  · simp (maxSteps:=9999999)-implicitDefEqProofs only [simprocAttr,QH,Option.isSome,cond_true,cond_false,Option.bind,selB,V.rn,V.rns,Go.Ai.known,V.pz,V.pzs,T.toV,frz1,List.range,List.range.loop,ite_true,ite_false,if_true,if_false,ne_eq,implies_true,forall_const,eq_self,IntKind.bits,upd_tmsS,selT_cons,selT_nil,List.length_map,List.getElem?_map,Int.natCast_nonneg,List.length_append,List.map_append]
  · simp (maxSteps:=9999999)-implicitDefEqProofs only [simprocAttr,QH,Option.isSome,cond_true,cond_false,Option.bind,selB,V.rn,V.rns,Go.Ai.known,V.pz,V.pzs,T.toV,frz1,List.range,List.range.loop,ite_true,ite_false,if_true,if_false,ne_eq,implies_true,forall_const,eq_self,IntKind.bits,upd_tmsS,selT_cons,selT_nil]
  rintro kk S ⟨i, j, D, mv, rfl, hmv, rfl, hD⟩
  have hfmv : mv.filter (fun x => decide (x < 3)) = [] := by
    rw [List.filter_eq_nil_iff]
    intro t ht
    have := hmv t ht
    simp
    try omega
  have hmv' : ∀ m t : Nat, t ∈ mv ++ List.range' 3 m → 3 ≤ t := by
    intro m t ht
    rcases List.mem_append.1 ht with h1 | h1
    · exact hmv t h1
    · exact (List.mem_range'_1.1 h1).1
  have hj := hD.jl
  have hij := hD.ij
  have hDl := hD.len
  have wj := wj_of hj hl
  have wi := wj_of (Nat.le_trans (Nat.le_of_lt hij) hj) hl
  by_cases hjl : j < L.length
  · have hjl' : (j : Int) < (L.length : Int) := Int.ofNat_lt.2 hjl
    have hil' : (i : Int) < (L.length : Int) := Int.ofNat_lt.2 (Nat.lt_trans hij hjl)
    have hgj : L[j]? = some L[j] := List.getElem?_eq_getElem hjl
    obtain ⟨y, hy⟩ : ∃ y, L[j] = y := ⟨_, rfl⟩
    rw [hy] at hgj
    have hgD := delI_at hD hgj
    have hiD : i < D.length := by rw [hDl]; exact Nat.lt_trans hij hjl
    have hjD : j < D.length := by rw [hDl]; exact hjl
    obtain ⟨yi, hgi⟩ : ∃ yi, D[i]? = some yi := ⟨_, List.getElem?_eq_getElem hiD⟩
    have hc := pk110 x y
    rw [← hq y] at hc
    cases hqx : q y with
    | true =>
      rw [hqx] at hc
      have hD' := delI_skip hD hgj hqx
      (have hwq := trivial; repeat' (first | simp (maxSteps:=9999999)-implicitDefEqProofs only [go_sem,simprocAttr,hwq,FT3,FT4,FT26,FT42,FT86,List.length_map,List.getElem?_map,Int.natCast_nonneg,List.length_append,List.map_append,hjl',hjl,hDl,hgD,wj,hfmv] | (refine condK_split ?_ ?_ <;> intro hwq) | (refine two_split ?_ ?_) | (refine guardK_split ?_ ?_ <;> intro hwq) | (refine guardE_split ?_ ?_ <;> intro hwq) | (refine awp_drawW [] (by decide +kernel) ?_; have hwq := trivial) | (refine call_at [0, 1] hc (by simp) (by decide) rfl rfl (by simp [mapT_box, V.mapTs, V.mapT, pl]) (by simp [V.les, V.le, V.mapTs, V.mapT, pl]) ?_; have hwq := trivial) | fail))
      refine ⟨L.length - (j + 1), _, st_of hjl, Weak.cutI 3 [0, 1, 5, 6] ?_ ?_, i, j + 1, D, _, rfl, hmv' _, rfl, hD'⟩
      · simp (maxSteps:=9999999)-implicitDefEqProofs only [simprocAttr,QH,Option.isSome,cond_true,cond_false,Option.bind,selB,V.rn,V.rns,Go.Ai.known,V.pz,V.pzs,T.toV,frz1,List.range,List.range.loop,ite_true,ite_false,if_true,if_false,ne_eq,implies_true,forall_const,eq_self,IntKind.bits,upd_tmsS,selT_cons,selT_nil,List.length_map,List.getElem?_map,Int.natCast_nonneg,List.length_append,List.map_append]
      · simp (maxSteps:=9999999)-implicitDefEqProofs only [simprocAttr,QH,Option.isSome,cond_true,cond_false,Option.bind,selB,V.rn,V.rns,Go.Ai.known,V.pz,V.pzs,T.toV,frz1,List.range,List.range.loop,ite_true,ite_false,if_true,if_false,ne_eq,implies_true,forall_const,eq_self,IntKind.bits,upd_tmsS,selT_cons,selT_nil,List.length_map,List.getElem?_map,Int.natCast_nonneg,List.length_append,List.map_append]
    | false =>
      rw [hqx] at hc
      have hD' := delI_keep hD hgj hqx
      have hset : (D.map crT).set i (crT y) = (D.set i y).map crT := by rw [List.map_set]
      (have hwq := trivial; repeat' (first | simp (maxSteps:=9999999)-implicitDefEqProofs only [go_sem,simprocAttr,hwq,FT3,FT4,FT26,FT42,FT86,List.length_map,List.getElem?_map,Int.natCast_nonneg,List.length_append,List.map_append,hjl',hjl,hil',hDl,hiD,hgD,hgi,wj,wi,hfmv,hset] | (refine condK_split ?_ ?_ <;> intro hwq) | (refine two_split ?_ ?_) | (refine guardK_split ?_ ?_ <;> intro hwq) | (refine guardE_split ?_ ?_ <;> intro hwq) | (refine awp_drawW [] (by decide +kernel) ?_; have hwq := trivial) | (refine call_at [0, 1] hc (by simp) (by decide) rfl rfl (by simp [mapT_box, V.mapTs, V.mapT, pl]) (by simp [V.les, V.le, V.mapTs, V.mapT, pl]) ?_; have hwq := trivial) | fail))
      refine ⟨L.length - (j + 1), _, st_of hjl, Weak.cutI 3 [0, 1, 5, 6] ?_ ?_, i + 1, j + 1, D.set i y, _, rfl, hmv' _, rfl, hD'⟩
      · simp (maxSteps:=9999999)-implicitDefEqProofs only [simprocAttr,QH,Option.isSome,cond_true,cond_false,Option.bind,selB,V.rn,V.rns,Go.Ai.known,V.pz,V.pzs,T.toV,frz1,List.range,List.range.loop,ite_true,ite_false,if_true,if_false,ne_eq,implies_true,forall_const,eq_self,IntKind.bits,upd_tmsS,selT_cons,selT_nil,List.length_map,List.getElem?_map,Int.natCast_nonneg,List.length_append,List.map_append]
      · simp (maxSteps:=9999999)-implicitDefEqProofs only [simprocAttr,QH,Option.isSome,cond_true,cond_false,Option.bind,selB,V.rn,V.rns,Go.Ai.known,V.pz,V.pzs,T.toV,frz1,List.range,List.range.loop,ite_true,ite_false,if_true,if_false,ne_eq,implies_true,forall_const,eq_self,IntKind.bits,upd_tmsS,selT_cons,selT_nil,List.length_map,List.getElem?_map,Int.natCast_nonneg,List.length_append,List.map_append]
  · have hjl' : ¬ (j : Int) < (L.length : Int) := fun h => hjl (Int.ofNat_lt.1 h)
    obtain rfl := nl_of hjl hj
    obtain ⟨e3, e4, e5⟩ := delI_end hD
    rw [hF] at e3 e4
    subst e4
    have e6 : F.length + (L.length - F.length) = L.length := by omega
    have e7 : F.length ≤ L.length := Nat.le_of_lt e5
    obtain ⟨M, hM⟩ : ∃ M, D.map crT = M := ⟨_, rfl⟩
    have hMl : M.length = L.length := by rw [← hM, List.length_map, hDl]
    have e8 : M.take F.length = F.map crT := by rw [← hM, ← List.map_take, e3]
    have e9 : M.drop L.length = [] := List.drop_eq_nil_of_le (by omega)
    have hYl : Y.length = L.length := by rw [← hY]; simp; omega
    rw [hM]
    (have hwq := trivial; repeat' (first | simp (maxSteps:=9999999)-implicitDefEqProofs only [go_sem,simprocAttr,hwq,FT3,FT4,FT26,FT42,FT86,List.length_map,List.getElem?_map,Int.natCast_nonneg,List.length_append,List.map_append,hjl',hfmv,hYl,Nat.zero_le,Nat.sub_zero,and_self,e6,e7,hMl,e8,e9,hY,List.length_replicate,List.append_nil,Nat.le_refl] | (refine condK_split ?_ ?_ <;> intro hwq) | (refine two_split ?_ ?_) | (refine guardK_split ?_ ?_ <;> intro hwq) | (refine guardE_split ?_ ?_ <;> intro hwq) | (refine awp_drawW [] (by decide +kernel) ?_; have hwq := trivial) | fail))
def Jd114 (x : Mb) (q : Mb → Bool) (L : List Mb) (k : Nat) (S : St) : Prop :=
  ∃ (i j : Nat) (D : List Mb) (mv : List Nat), S = ⟨tms [(0, .own 2 0 L.length), (1, .clo (.func 68) [] [.ptr 1 0 0, .ptr 0 0 0]), (5, vI i), (6, vI j)], [bxMb x, bxF 23, .rows 2 (D.map mbT) false], mv⟩ ∧ (∀ t ∈ mv, 3 ≤ t) ∧ k = L.length - j ∧ DelI q L i j D
theorem pdf114 (x : Mb) (L : List Mb) (hl : L.length ≤ 1000) (q : Mb → Bool) (hq : ∀ y, q y = (cmpZ x.v y.v == 0)) (F : List Mb) (hF : L.filter (fun y => !q y) = F) (Y : List (List T)) (hY : F.map mbT ++ List.replicate (L.length - F.length) [.s (.int .i64 0), .s (.slice none 0 0)] = Y) :
    AC Try.prog 67 [.own 2 0 L.length, .clo (.func 68) [] [.ptr 1 0 0, .ptr 0 0 0]] [bxMb x, bxF 23, .rows 2 (L.map mbT) false] (eqS (.own 2 0 F.length) [bxMb x, bxF 23, .rows 2 Y false]) := by
  have h1 := pio123 x L hl q hq
  refine AC_heap orders [0, 1, 2] Try.func67 rfl (by kernel_rfl) (by kernel_rfl) Try.ntmps67 (by simp) ?_
  unfold Try.f67
  rcases ix_cases q L with ⟨e1, e2⟩ | ⟨k0, y0, e1, hy0, hq0, hno⟩
  · rw [e1] at h1
    rw [e2] at hF
    subst hF
    have hY' : Y = L.map mbT := by rw [← hY]; simp
    subst hY'
    (have hwq := trivial; repeat' (first | simp (maxSteps:=9999999)-implicitDefEqProofs only [go_sem,simprocAttr,hwq,FT3,FT4,FT27,FT36,FT38,FT84,List.length_map,List.getElem?_map,Int.natCast_nonneg,List.length_append,List.map_append] | (refine condK_split ?_ ?_ <;> intro hwq) | (refine two_split ?_ ?_) | (refine guardK_split ?_ ?_ <;> intro hwq) | (refine guardE_split ?_ ?_ <;> intro hwq) | (refine awp_drawW [] (by decide +kernel) ?_; have hwq := trivial) | (refine call_here h1 ?_; have hwq := trivial) | fail))
  rw [e1] at h1
  have hk0 := (List.getElem?_eq_some_iff.1 hy0).1
  have w0 := wj_of (Nat.le_of_lt hk0) hl
  have n0 : ((k0 : Int) == -1) = false := beq_eq_false_iff_ne.2 (by omega)
  (have hwq := trivial; repeat' (first | simp (maxSteps:=9999999)-implicitDefEqProofs only [go_sem,simprocAttr,hwq,FT3,FT4,FT27,FT36,FT38,FT84,List.length_map,List.getElem?_map,Int.natCast_nonneg,List.length_append,List.map_append,w0,n0] | (refine condK_split ?_ ?_ <;> intro hwq) | (refine two_split ?_ ?_) | (refine guardK_split ?_ ?_ <;> intro hwq) | (refine guardE_split ?_ ?_ <;> intro hwq) | (refine awp_drawW [] (by decide +kernel) ?_; have hwq := trivial) | (refine call_here h1 ?_; have hwq := trivial) | fail))
  refine awp_loopK (Jd114 x q L) (L.length - (k0 + 1)) _ (Weak.cutI 3 [0, 1, 5, 6] ?_ ?_) ⟨k0, k0 + 1, L, _, rfl, by simp [List.mem_range'_1], rfl, delI_start hno hy0 hq0⟩ ?_
  · simp (maxSteps:=9999999)-implicitDefEqProofs only [simprocAttr,QH,Option.isSome,cond_true,cond_false,Option.bind,selB,V.rn,V.rns,Go.Ai.known,V.pz,V.pzs,T.toV,frz1,List.range,List.range.loop,ite_true,ite_false,if_true,if_false,ne_eq,implies_true,forall_const,eq_self,IntKind.bits,upd_tmsS,selT_cons,selT_nil,List.length_map,List.getElem?_map,Int.natCast_nonneg,List.length_append,List.map_append]
  · simp (maxSteps:=9999999)-implicitDefEqProofs only [simprocAttr,QH,Option.isSome,cond_true,cond_false,Option.bind,selB,V.rn,V.rns,Go.Ai.known,V.pz,V.pzs,T.toV,frz1,List.range,List.range.loop,ite_true,ite_false,if_true,if_false,ne_eq,implies_true,forall_const,eq_self,IntKind.bits,upd_tmsS,selT_cons,selT_nil]
  rintro kk S ⟨i, j, D, mv, rfl, hmv, rfl, hD⟩
  have hfmv : mv.filter (fun x => decide (x < 3)) = [] := by
    rw [List.filter_eq_nil_iff]
    intro t ht
    have := hmv t ht
    simp
    try omega
  have hmv' : ∀ m t : Nat, t ∈ mv ++ List.range' 3 m → 3 ≤ t := by
    intro m t ht
    rcases List.mem_append.1 ht with h1 | h1
    · exact hmv t h1
    · exact (List.mem_range'_1.1 h1).1
  have hj := hD.jl
  have hij := hD.ij
  have hDl := hD.len
  have wj := wj_of hj hl
  have wi := wj_of (Nat.le_trans (Nat.le_of_lt hij) hj) hl
  by_cases hjl : j < L.length
  · have hjl' : (j : Int) < (L.length : Int) := Int.ofNat_lt.2 hjl
    have hil' : (i : Int) < (L.length : Int) := Int.ofNat_lt.2 (Nat.lt_trans hij hjl)
    have hgj : L[j]? = some L[j] := List.getElem?_eq_getElem hjl
    obtain ⟨y, hy⟩ : ∃ y, L[j] = y := ⟨_, rfl⟩
    rw [hy] at hgj
    have hgD := delI_at hD hgj
    have hiD : i < D.length := by rw [hDl]; exact Nat.lt_trans hij hjl
    have hjD : j < D.length := by rw [hDl]; exact hjl
    obtain ⟨yi, hgi⟩ : ∃ yi, D[i]? = some yi := ⟨_, List.getElem?_eq_getElem hiD⟩
    have hc := pk115 x y
    rw [← hq y] at hc
    cases hqx : q y with
    | true =>
      rw [hqx] at hc
      have hD' := delI_skip hD hgj hqx
      (have hwq := trivial; repeat' (first | simp (maxSteps:=9999999)-implicitDefEqProofs only [go_sem,simprocAttr,hwq,FT3,FT4,FT27,FT36,FT38,FT84,List.length_map,List.getElem?_map,Int.natCast_nonneg,List.length_append,List.map_append,hjl',hjl,hDl,hgD,wj,hfmv] | (refine condK_split ?_ ?_ <;> intro hwq) | (refine two_split ?_ ?_) | (refine guardK_split ?_ ?_ <;> intro hwq) | (refine guardE_split ?_ ?_ <;> intro hwq) | (refine awp_drawW [] (by decide +kernel) ?_; have hwq := trivial) | (refine call_at [0, 1] hc (by simp) (by decide) rfl rfl (by simp [mapT_box, V.mapTs, V.mapT, pl]) (by simp [V.les, V.le, V.mapTs, V.mapT, pl]) ?_; have hwq := trivial) | fail))
      refine ⟨L.length - (j + 1), _, st_of hjl, Weak.cutI 3 [0, 1, 5, 6] ?_ ?_, i, j + 1, D, _, rfl, hmv' _, rfl, hD'⟩
      · simp (maxSteps:=9999999)-implicitDefEqProofs only [simprocAttr,QH,Option.isSome,cond_true,cond_false,Option.bind,selB,V.rn,V.rns,Go.Ai.known,V.pz,V.pzs,T.toV,frz1,List.range,List.range.loop,ite_true,ite_false,if_true,if_false,ne_eq,implies_true,forall_const,eq_self,IntKind.bits,upd_tmsS,selT_cons,selT_nil,List.length_map,List.getElem?_map,Int.natCast_nonneg,List.length_append,List.map_append]
      · simp (maxSteps:=9999999)-implicitDefEqProofs only [simprocAttr,QH,Option.isSome,cond_true,cond_false,Option.bind,selB,V.rn,V.rns,Go.Ai.known,V.pz,V.pzs,T.toV,frz1,List.range,List.range.loop,ite_true,ite_false,if_true,if_false,ne_eq,implies_true,forall_const,eq_self,IntKind.bits,upd_tmsS,selT_cons,selT_nil,List.length_map,List.getElem?_map,Int.natCast_nonneg,List.length_append,List.map_append]
    | false =>
      rw [hqx] at hc
      have hD' := delI_keep hD hgj hqx
      have hset : (D.map mbT).set i (mbT y) = (D.set i y).map mbT := by rw [List.map_set]
      (have hwq := trivial; repeat' (first | simp (maxSteps:=9999999)-implicitDefEqProofs only [go_sem,simprocAttr,hwq,FT3,FT4,FT27,FT36,FT38,FT84,List.length_map,List.getElem?_map,Int.natCast_nonneg,List.length_append,List.map_append,hjl',hjl,hil',hDl,hiD,hgD,hgi,wj,wi,hfmv,hset] | (refine condK_split ?_ ?_ <;> intro hwq) | (refine two_split ?_ ?_) | (refine guardK_split ?_ ?_ <;> intro hwq) | (refine guardE_split ?_ ?_ <;> intro hwq) | (refine awp_drawW [] (by decide +kernel) ?_; have hwq := trivial) | (refine call_at [0, 1] hc (by simp) (by decide) rfl rfl (by simp [mapT_box, V.mapTs, V.mapT, pl]) (by simp [V.les, V.le, V.mapTs, V.mapT, pl]) ?_; have hwq := trivial) | fail))
      refine ⟨L.length - (j + 1), _, st_of hjl, Weak.cutI 3 [0, 1, 5, 6] ?_ ?_, i + 1, j + 1, D.set i y, _, rfl, hmv' _, rfl, hD'⟩
      · simp (maxSteps:=9999999)-implicitDefEqProofs only [simprocAttr,QH,Option.isSome,cond_true,cond_false,Option.bind,selB,V.rn,V.rns,Go.Ai.known,V.pz,V.pzs,T.toV,frz1,List.range,List.range.loop,ite_true,ite_false,if_true,if_false,ne_eq,implies_true,forall_const,eq_self,IntKind.bits,upd_tmsS,selT_cons,selT_nil,List.length_map,List.getElem?_map,Int.natCast_nonneg,List.length_append,List.map_append]
      · simp (maxSteps:=9999999)-implicitDefEqProofs only [simprocAttr,QH,Option.isSome,cond_true,cond_false,Option.bind,selB,V.rn,V.rns,Go.Ai.known,V.pz,V.pzs,T.toV,frz1,List.range,List.range.loop,ite_true,ite_false,if_true,if_false,ne_eq,implies_true,forall_const,eq_self,IntKind.bits,upd_tmsS,selT_cons,selT_nil,List.length_map,List.getElem?_map,Int.natCast_nonneg,List.length_append,List.map_append]
  · have hjl' : ¬ (j : Int) < (L.length : Int) := fun h => hjl (Int.ofNat_lt.1 h)
    obtain rfl := nl_of hjl hj
    obtain ⟨e3, e4, e5⟩ := delI_end hD
    rw [hF] at e3 e4
    subst e4
    have e6 : F.length + (L.length - F.length) = L.length := by omega
    have e7 : F.length ≤ L.length := Nat.le_of_lt e5
    obtain ⟨M, hM⟩ : ∃ M, D.map mbT = M := ⟨_, rfl⟩
    have hMl : M.length = L.length := by rw [← hM, List.length_map, hDl]
    have e8 : M.take F.length = F.map mbT := by rw [← hM, ← List.map_take, e3]
    have e9 : M.drop L.length = [] := List.drop_eq_nil_of_le (by omega)
    have hYl : Y.length = L.length := by rw [← hY]; simp; omega
    rw [hM]
    (have hwq := trivial; repeat' (first | simp (maxSteps:=9999999)-implicitDefEqProofs only [go_sem,simprocAttr,hwq,FT3,FT4,FT27,FT36,FT38,FT84,List.length_map,List.getElem?_map,Int.natCast_nonneg,List.length_append,List.map_append,hjl',hfmv,hYl,Nat.zero_le,Nat.sub_zero,and_self,e6,e7,hMl,e8,e9,hY,List.length_replicate,List.append_nil,Nat.le_refl] | (refine condK_split ?_ ?_ <;> intro hwq) | (refine two_split ?_ ?_) | (refine guardK_split ?_ ?_ <;> intro hwq) | (refine guardE_split ?_ ?_ <;> intro hwq) | (refine awp_drawW [] (by decide +kernel) ?_; have hwq := trivial) | fail))
end Go.Ai

set_option linter.unusedVariables false
set_option linter.unusedSimpArgs false
namespace Go.Ai
/-! ## slices.Insert in the middle of a row of one's own: the walk's end in plain worlds, and its contract -/
section
variable {P : Program}
/-- copy, of rows of whatever width. -/
theorem run_copyZ {w : World} {t e ty : TypeId} (hu : P.underlying t = some (.slice e)) {z : Nat} (hz : ∀ w, (Go.sizeOf e).run P w = .ok z w) {b o dl dc : Nat} {cs : Array Value} {eb : TypeId} (hb : w.heap[b]? = some (.cells cs eb (0, 0)))
    {sb so sl sc m : Nat} {us : List Value} (hm : min sl dl = m) (hul : us.length = m * z) (hus : ∀ j v, us[j]? = some v → w.cell? ⟨sb, so + j, none⟩ = some v) (h1 : ∀ v ∈ us, v.oneCell' = true) (hfit : o + us.length ≤ cs.size) :
    (Builtin.copy_ #[t, t] ty #[.slice (some ⟨b, o, none⟩) dl dc, .slice (some ⟨sb, so, none⟩) sl sc]).run P w = .ok (goInt m) (w.setRow b (setL cs.toList o us).toArray) := by
  have hst := run_storeCells_at (P := P) b o eb us 0 cs w hb (by simpa using hfit) h1
  simp only [Nat.add_zero] at hst
  have hld := run_loadCells_list (P := P) w ⟨sb, so, none⟩ us (fun j v hv => by rw [addr_add]; exact hus j v hv)
  rw [hul] at hld
  have hf : (Builtin.firstCells z (Nat.min sl dl) (.slice (some ⟨sb, so, none⟩) sl sc)).run P w = .ok us.toArray w := by
    rw [show Nat.min sl dl = m from hm]
    simp [Builtin.firstCells, hld]
  have hlo : (Builtin.lenOf (.slice (some ⟨sb, so, none⟩) sl sc)).run P w = .ok sl w := by simp [Builtin.lenOf]
  simp only [Builtin.copy_, List.getElem?_toArray, List.getElem?_cons_zero, List.getElem?_cons_succ, Sem.run_bind, run_und hu, Result.andThen_ok, hlo, hz, hf, hst, Sem.run_pure]
  rw [show Nat.min sl dl = m from hm]
  rfl
/-- append(s[:i], make([]T, k)...) where there is no room: a new row. -/
theorem run_appendZ {w : World} {t tn e : TypeId} {kq kn : IntKind} (ht : P.underlying t = some (.slice e)) (htn : P.underlying tn = some (.int kn)) (hk : zok P e = true) (hc : 0 < P.cellsOf e) (hby : 0 < P.bytesOf e) {b s k cap : Nat} {cs : Array Value} {eb : TypeId} (hb : w.heap[b]? = some (.cells cs eb (0, 0)))
    (h0 : 0 < k) (hs : s * P.cellsOf e ≤ cs.size) (hg : cap < s + k) (hbig : (s + k) * P.bytesOf e ≤ 140737488355328) :
    ∃ G CE, s + k ≤ G ∧ G ≤ maxLen ∧ CE.size = G * P.cellsOf e ∧ CE.toList.take (s * P.cellsOf e) = cs.toList.take (s * P.cellsOf e) ∧
      ∀ ty, (Builtin.append_ #[t, tn] ty #[.slice (some ⟨b, 0, none⟩) s cap, .int kq k]).run P w = .ok (.slice (some ⟨w.heap.size, 0, none⟩) (s + k) G) (w.drew.alloc (.cells CE e)) := by
  unfold zok at hk
  cases hzi : (P.info? e).bind (·.zero) with
  | none => simp [hzi] at hk
  | some zv =>
    simp only [hzi, beq_iff_eq] at hk
    obtain ⟨i, hi, hz0⟩ := Option.bind_eq_some_iff.1 hzi
    have hci : P.cellsOf e = i.size := by simp [Program.cellsOf, hi]
    have hbi : P.bytesOf e = i.bytes := by simp [Program.bytesOf, hi]
    rw [hci] at hs hk hc ⊢
    rw [hbi] at hbig hby
    have hm : s + k ≤ maxLen := by
      have : s + k ≤ (s + k) * i.bytes := Nat.le_mul_of_pos_right _ hby
      simp only [maxLen]
      omega
    have hkb : k * i.bytes ≤ (s + k) * i.bytes := Nat.mul_le_mul_right _ (by omega)
    have hold : (Builtin.firstCells i.size s (.slice (some ⟨b, 0, none⟩) s cap)).run P w.drew = .ok (cs.toList.take (s * i.size)).toArray w.drew := by
      have := run_loadCells_list (P := P) w.drew ⟨b, 0, none⟩ (cs.toList.take (s * i.size)) (fun j v hv => by
        rw [addr_add, Nat.zero_add, cell_drew]
        rw [List.getElem?_take] at hv
        split at hv
        · simp [World.cell?, hb, ← Array.getElem?_toList, hv]
        · simp at hv)
      have hl : (cs.toList.take (s * i.size)).length = s * i.size := by simp; omega
      rw [hl] at this
      simpa [Builtin.firstCells] using this
    have hrun := fun ty => Lib.run_append_grow_zeros w t tn ty e i zv kq kn ht htn hi hz0 (some ⟨b, 0, none⟩) s cap _ hold k h0 hc hg (by simp only [maxLen] at hm; omega) (by omega) (growslice_fits hg hbig)
    have hge := grownCap_ge w (s + k) cap e
    refine ⟨_, _, hge, grownCap_le_maxLen _ _ _ _ hm, ?_, ?_, hrun⟩
    · have hl : (cs.toList.take (s * i.size)).length = s * i.size := by simp; omega
      simp only [Array.size_append, List.size_toArray, size_zeroCells, hk, hl, ← Nat.add_mul]
      congr 1
      omega
    · have hl : (cs.toList.take (s * i.size)).length = s * i.size := by simp; omega
      simp only [Array.toList_append, List.append_assoc]
      rw [List.take_append_of_le_length (by rw [hl]; exact Nat.le_refl _)]
      rw [List.take_of_length_le (by rw [hl]; exact Nat.le_refl _)]
theorem setL_take_le {α : Type} {L u : List α} {o a : Nat} (h : a ≤ o) (ho : o ≤ L.length) : (setL L o u).take a = L.take a := by
  unfold setL
  rw [List.append_assoc, List.take_append_of_le_length (by simp; omega), List.take_take, Nat.min_eq_left h]
theorem setL_drop_at {α : Type} {L u : List α} {o : Nat} (ho : o ≤ L.length) : (setL L o u).drop o = u ++ L.drop (o + u.length) := by
  unfold setL
  have : (L.take o).length = o := by simp; omega
  rw [List.append_assoc]
  conv => lhs; arg 1; rw [← this]
  rw [List.drop_left]
theorem insC1 {α : Type} {L u1 u2 : List α} {a : Nat} (h : a + u2.length + u1.length ≤ L.length) : (setL (setL L (a + u2.length) u1) a u2).take (a + u2.length + u1.length) = L.take a ++ u2 ++ u1 := by
  have e1 := setL_take_le (L := L) (u := u1) (o := a + u2.length) (a := a) (by omega) (by omega)
  have e2 := setL_drop_at (L := L) (u := u1) (o := a + u2.length) (by omega)
  show ((setL L (a + u2.length) u1).take a ++ u2 ++ (setL L (a + u2.length) u1).drop (a + u2.length)).take _ = _
  rw [e1, e2, ← List.append_assoc]
  have : (L.take a ++ u2 ++ u1).length = a + u2.length + u1.length := by simp; omega
  rw [← this, List.take_left]
theorem insC2 {α : Type} {L u1 u2 : List α} {a : Nat} (h : a + u2.length + u1.length ≤ L.length) : (setL (setL L a u2) (a + u2.length) u1).take (a + u2.length + u1.length) = L.take a ++ u2 ++ u1 := by
  have hl : (setL L a u2).length = L.length := setL_length (by omega)
  have e1 : (setL L a u2).take (a + u2.length) = L.take a ++ u2 := by
    unfold setL
    have : (L.take a ++ u2).length = a + u2.length := by simp; omega
    rw [← this, List.take_left]
  show ((setL L a u2).take (a + u2.length) ++ u1 ++ (setL L a u2).drop (a + u2.length + u1.length)).take _ = _
  rw [e1]
  have : (L.take a ++ u2 ++ u1).length = a + u2.length + u1.length := by simp; omega
  rw [← this, List.take_left]
/-- What Insert leaves of a row: one more in its place, where it lay or in a new block. -/
def InsPost (z n i b : Nat) (cs us : Array Value) (w : World) (ex : Ending) (w' : World) : Prop :=
  ∃ nb ncap C et, ex = .returned (.slice (some ⟨nb, 0, none⟩) (n + 1) ncap) ∧ (nb = b ∨ w.heap.size ≤ nb) ∧ n + 1 ≤ ncap ∧ ncap ≤ maxLen ∧ w'.heap[nb]? = some (.cells C et (0, 0)) ∧ C.size = ncap * z ∧
    C.toList.take ((n + 1) * z) = cs.toList.take (i * z) ++ us.toList.take z ++ (cs.toList.drop (i * z)).take ((n - i) * z) ∧
    (∀ b', b' < w.heap.size → b' ≠ b → w'.heap[b']? = w.heap[b']?) ∧ w.heap.size ≤ w'.heap.size ∧ w'.os = w.os ∧ w'.tape = w.tape ∧ w'.output = w.output ∧ w.drawn ≤ w'.drawn
def InsAt (P : Program) (f z : Nat) : Prop :=
  ∀ (w : World) (b cap n i vb vc : Nat) (cs : Array Value) (eb : TypeId) (us : Array Value) (eu : TypeId), i < n → n ≤ cap → cap ≤ maxLen → n ≤ 1000 → w.heap[b]? = some (.cells cs eb (0, 0)) → cs.size = cap * z →
    w.heap[vb]? = some (.cells us eu (0, 0)) → us.size = vc * z → 1 ≤ vc → vb ≠ b → (∀ v ∈ cs.toList.take (n * z), v.oneCell' = true) → (∀ v ∈ us.toList.take z, v.oneCell' = true) →
    Calls P f #[.slice (some ⟨b, 0, none⟩) n cap, .int .i64 i, .slice (some ⟨vb, 0, none⟩) 1 vc] w (InsPost z n i b cs us w)
theorem insPost_room {z n i b cap : Nat} {cs us : Array Value} {w : World} {eb : TypeId} (hi : i < n) (hroom : n + 1 ≤ cap) (hcm : cap ≤ maxLen) (hb : w.heap[b]? = some (.cells cs eb (0, 0))) (hcs : cs.size = cap * z) (hu : z ≤ us.size) :
    InsPost z n i b cs us w (.returned (.slice (some ⟨b, 0, none⟩) (n + 1) cap)) ((w.drew.setRow b (setL cs.toList ((i + 1) * z) ((cs.toList.drop (i * z)).take ((n - i) * z))).toArray).setRow b
        (setL (setL cs.toList ((i + 1) * z) ((cs.toList.drop (i * z)).take ((n - i) * z))) (i * z) (us.toList.take (1 * z))).toArray) := by
  obtain ⟨u1, hu1⟩ : ∃ u1, (cs.toList.drop (i * z)).take ((n - i) * z) = u1 := ⟨_, rfl⟩
  obtain ⟨u2, hu2⟩ : ∃ u2, us.toList.take z = u2 := ⟨_, rfl⟩
  have hL : (n + 1) * z ≤ cs.toList.length := by rw [Array.length_toList, hcs]; exact Nat.mul_le_mul_right _ hroom
  have e1 : (n + 1) * z = i * z + z + (n - i) * z := by rw [← Nat.add_one_mul, ← Nat.add_mul]; congr 1; omega
  have hl1 : u1.length = (n - i) * z := by rw [← hu1]; simp; rw [e1] at hL; rw [Array.length_toList] at hL; omega
  have hl2 : u2.length = z := by rw [← hu2]; simp; omega
  simp only [Nat.one_mul, hu1, hu2]
  have hc := insC1 (L := cs.toList) (u1 := u1) (u2 := u2) (a := i * z) (by rw [hl1, hl2, ← e1]; exact hL)
  rw [hl2, hl1, ← e1, ← Nat.add_one_mul] at hc
  have hA1 : (setL cs.toList ((i + 1) * z) u1).length = cs.size := by rw [setL_length (by rw [hl1, Nat.add_one_mul, ← e1]; exact hL), Array.length_toList]
  have hA2 : (setL (setL cs.toList ((i + 1) * z) u1) (i * z) u2).length = cs.size := by rw [setL_length (by rw [hA1, hl2]; rw [Array.length_toList] at hL; omega), hA1]
  have h0 : (w.drew).heap[b]? = some (.cells cs eb (0, 0)) := hb
  refine ⟨b, cap, _, eb, rfl, .inl rfl, hroom, hcm, setRow_heap _ b _ _ eb (0, 0) (setRow_heap w.drew b cs _ eb (0, 0) h0), by rw [List.size_toArray, hA2, hcs], ?_, fun b' _ hn => by rw [setRow_other _ _ _ _ hn, setRow_other _ _ _ _ hn]; rfl, by simp, rfl, rfl, rfl, Nat.le_succ _⟩
  rw [hu1, hu2]
  exact hc
theorem insPost_grow {z n i b G : Nat} {cs us CE : Array Value} {w w' : World} {e : TypeId} (hi : i < n) (hG : n + 1 ≤ G) (hGm : G ≤ maxLen) (hC : CE.size = G * z) (hcs : n * z ≤ cs.size) (hCi : CE.toList.take (i * z) = cs.toList.take (i * z)) (hu : z ≤ us.size)
    (hh : w'.heap = (((w.drew.alloc (.cells CE e)).setRow w.heap.size (setL CE.toList (i * z) (us.toList.take (1 * z))).toArray).setRow w.heap.size (setL (setL CE.toList (i * z) (us.toList.take (1 * z))) ((i + 1) * z) ((cs.toList.drop (i * z)).take ((n - i) * z))).toArray).heap)
    (ho : w'.os = w.os) (ht : w'.tape = w.tape) (hp : w'.output = w.output) (hd : w.drawn ≤ w'.drawn) :
    InsPost z n i b cs us w (.returned (.slice (some ⟨w.heap.size, 0, none⟩) (n + 1) G)) w' := by
  obtain ⟨u1, hu1⟩ : ∃ u1, (cs.toList.drop (i * z)).take ((n - i) * z) = u1 := ⟨_, rfl⟩
  obtain ⟨u2, hu2⟩ : ∃ u2, us.toList.take z = u2 := ⟨_, rfl⟩
  have hL : (n + 1) * z ≤ CE.toList.length := by rw [Array.length_toList, hC]; exact Nat.mul_le_mul_right _ hG
  have e1 : (n + 1) * z = i * z + z + (n - i) * z := by rw [← Nat.add_one_mul, ← Nat.add_mul]; congr 1; omega
  have e2 : n * z = i * z + (n - i) * z := by rw [← Nat.add_mul]; congr 1; omega
  have hl1 : u1.length = (n - i) * z := by rw [← hu1]; simp; omega
  have hl2 : u2.length = z := by rw [← hu2]; simp; omega
  simp only [Nat.one_mul, hu1, hu2] at hh
  have hc := insC2 (L := CE.toList) (u1 := u1) (u2 := u2) (a := i * z) (by rw [hl1, hl2, ← e1]; exact hL)
  rw [hl2, hl1, ← e1, ← Nat.add_one_mul] at hc
  have hA1 : (setL CE.toList (i * z) u2).length = CE.size := by rw [setL_length (by rw [hl2]; omega), Array.length_toList]
  have hA2 : (setL (setL CE.toList (i * z) u2) ((i + 1) * z) u1).length = CE.size := by rw [setL_length (by rw [hA1, hl1, Nat.add_one_mul, ← e1]; simpa using hL), hA1]
  have h0 : (w.drew.alloc (.cells CE e)).heap[w.heap.size]? = some (.cells CE e (0, 0)) := alloc_new w.drew _
  refine ⟨w.heap.size, G, _, e, rfl, .inr (Nat.le_refl _), hG, hGm, by rw [hh]; exact setRow_heap _ _ _ _ e (0, 0) (setRow_heap _ _ CE _ e (0, 0) h0), by rw [List.size_toArray, hA2, hC], ?_, fun b' hb' hn => ?_, by rw [hh]; simp, ho, ht, hp, hd⟩
  · rw [hu1, hu2]
    rw [hc, hCi]
  · rw [hh, setRow_other _ _ _ _ (by omega), setRow_other _ _ _ _ (by omega)]
    exact alloc_old w.drew _ hb'
theorem AC_ins {f z : Nat} (hc : callable P f = true) (S : InsAt P f z) (hz : 0 < z) (y : List T) (l : List (List T)) (hl : l.length ≤ 1000) (i : Nat) (hi' : i < l.length) (b0 : Blk) (hb0 : b0.pz [1] = b0) :
    AC P f [.own 1 0 l.length, .s (.int .i64 i), .own 2 0 1] [b0, .rows z l false, .rows z [y] false] (fun r s mv => r = .own 1 0 (l.length + 1) ∧ s = [b0, .rows z (l.take i ++ y :: l.drop i) false, .rows z [y] false] ∧ mv = [1]) := by
  refine ⟨hc, fun β I w vs hi hv => ?_⟩
  match vs, hv with
  | [c1, c2, c3], hv =>
    simp only [VRs, VR] at hv
    obtain ⟨h1, ⟨rfl, _⟩, h3, _⟩ := hv
    have hk1 := hi.blk 1 _ rfl
    have hk2 := hi.blk 2 _ rfl
    simp only [BlkR] at hk1 hk2
    rcases hk1 with ⟨_, hk1⟩ | ⟨b, cap, cs, e, hb1, hb2, hb3, hb4, hb5, hb6, hb7, hb8⟩
    · subst hk1; simp at hi'
    rcases hk2 with ⟨_, hk2⟩ | ⟨vb, vc, us, eu, hu1, hu2, hu3, hu4, hu5, hu6, hu7, hu8⟩
    · simp at hk2
    simp only [List.length_cons, List.length_nil, Nat.zero_add, Nat.one_mul] at hu4 hu7
    simp only [List.flatten_cons, List.flatten_nil, List.append_nil] at hu7
    have hc1 : c1 = .slice (some ⟨b, 0, none⟩) l.length cap := by
      rcases h1 with ⟨x, g1, g2⟩ | ⟨g1, _, g3, _⟩
      · rw [hb1] at g1
        cases g1
        rcases g2 with ⟨_, g2⟩ | ⟨g2, _⟩
        · simpa using g2
        · omega
      · omega
    have hc3 : c3 = .slice (some ⟨vb, 0, none⟩) 1 vc := by
      rcases h3 with ⟨x, g1, g2⟩ | ⟨g1, _, g3, _⟩
      · rw [hu1] at g1
        cases g1
        rcases g2 with ⟨_, g2⟩ | ⟨g2, _⟩
        · simpa using g2
        · omega
      · omega
    subst hc1 hc3
    have hne : vb ≠ b := fun e => by
      have := hi.inj 1 2 _ _ hb1 hu1 e.symm
      omega
    refine (S w b cap l.length i vb vc cs e us eu hi' hb4 hb5 hl hb2 hb3 hu2 hu3 hu4 hne hb7.ones hu7.ones).mono fun ex w' hp => ?_
    obtain ⟨nb, ncap, C, et, rfl, hnb, hn1, hn2, hC, hCs, hCt, hold, hsz, hos, htp, hout, hdr⟩ := hp
    have hnlt : nb < w'.heap.size := (Array.getElem?_eq_some_iff.1 hC).1
    refine ⟨_, ext β 1 (.real ⟨nb, ncap, z⟩), I, _, _, _, rfl, ⟨rfl, rfl, rfl⟩, ?_, ?_, ?_, Keeps.extMv⟩
    · simp only [VR]
      exact .inl ⟨_, ext_self _ _ _, .inl ⟨by simpa using hn1, by simp⟩⟩
    · have hm := hi.move (t := 1) (w' := w') (by simp) (.rows z (l.take i ++ y :: l.drop i) false) (.real ⟨nb, ncap, z⟩) hsz (fun b' hb' hn => hold b' hb' (fun e => hn _ hb1 e.symm)) (fun x o v hx hv => by
        rw [hb1] at hx
        cases hx
        have := hb8 o (.inl trivial)
        rw [this] at hv; cases hv) (fun y' hy' => by
        injection hy' with hy'; subst hy'
        exact ⟨hnb.imp (fun e => ⟨_, hb1, e⟩) id, hnlt⟩) ?_
      · have e1 : (([b0, .rows z l false, .rows z [y] false] : List Blk).set 1 (.rows z (l.take i ++ y :: l.drop i) false)).map (Blk.pz [1]) = [b0, .rows z (l.take i ++ y :: l.drop i) false, .rows z [y] false] := by
          simp only [List.set, List.map_cons, List.map_nil, hb0]
          rfl
        rw [e1] at hm
        exact hm
      · simp only [Blk.pz, BlkR]
        have hlen : (l.take i ++ y :: l.drop i).length = l.length + 1 := by simp; omega
        have hyl : y.length = z := hu6 y (by simp)
        refine .inr ⟨nb, ncap, C, et, ext_self _ _ _, hC, hCs, by rw [hlen]; exact hn1, hn2, fun r hr => ?_, ?_, fun o _ => ?_⟩
        · simp only [List.mem_append, List.mem_cons] at hr
          rcases hr with hr | rfl | hr
          · exact hb6 r (List.mem_of_mem_take hr)
          · exact hyl
          · exact hb6 r (List.mem_of_mem_drop hr)
        · rw [hlen, hCt, List.flatten_append, List.flatten_cons, List.append_assoc]
          have t1 := hb7.take (i * z)
          have t2 := hb7.drop (i * z)
          have hiz : i * z ≤ l.length * z := Nat.mul_le_mul_right _ (by omega)
          rw [flatten_take i hb6, List.take_take, Nat.min_eq_left hiz] at t1
          rw [flatten_drop i hb6, List.drop_take, ← Nat.sub_mul] at t2
          exact t1.append (hu7.append t2)
        · rcases hnb with rfl | hge
          · exact hb8 o (.inl trivial)
          · cases hv : I nb o with
            | none => rfl
            | some v => have := hi.ilt hv; omega
    · refine Step.move (w' := w') hi _ hos htp hout hsz (fun b' hb' hn => hold b' hb' (fun e => hn _ hb1 e.symm)) (fun y' hy' => ?_) hdr
      injection hy' with hy'; subst hy'
      exact hnb.imp (fun e => ⟨_, hb1, e⟩) id
end
end Go.Ai

set_option linter.unusedVariables false
set_option linter.unusedSimpArgs false
namespace Go.Ai
open Go.Proofs Go.Shelf Go.RowKit Go.Lib
set_option maxHeartbeats 4000000 in
set_option maxRecDepth 100000 in
theorem ins100_room (w : World) (b cap n i m vb vc : Nat) (cs us : Array Value) (eb eu : TypeId) (hi : i < n) (hm : 0 < m) (hroom : n + m ≤ cap) (hc63 : cap ≤ 9223372036854775807)
    (hb : w.heap[b]? = some (.cells cs eb (0, 0))) (hcs : cs.size = cap * 3) (hvb : w.heap[vb]? = some (.cells us eu (0, 0))) (hus : us.size = vc * 3) (hmv : m ≤ vc) (hne : vb ≠ b)
    (h1c : ∀ v ∈ cs.toList.take (n * 3), v.oneCell' = true) (h1v : ∀ v ∈ us.toList.take (m * 3), v.oneCell' = true) :
    Calls Try.prog 53 #[.slice (some ⟨b, 0, none⟩) n cap, .int .i64 i, .slice (some ⟨vb, 0, none⟩) m vc] w fun ex w' =>
      ex = .returned (.slice (some ⟨b, 0, none⟩) (n + m) cap) ∧ w' = (w.drew.setRow b (setL cs.toList ((i + m) * 3) ((cs.toList.drop (i * 3)).take ((n - i) * 3))).toArray).setRow b
        (setL (setL cs.toList ((i + m) * 3) ((cs.toList.drop (i * 3)).take ((n - i) * 3))) (i * 3) (us.toList.take (m * 3))).toArray := by
  have mixed := orders
  have hz1 : ¬ ((m : Int) = 0) := by omega
  have hz2 : ¬ ((i : Int) = (n : Int)) := by omega
  have hw1 : IntKind.i64.wrap ((i : Int) + (m : Int)) = (i : Int) + (m : Int) := by rw [IntKind.wrap_i64]; omega
  have hb1 : (0 : Int) ≤ (i : Int) + (m : Int) := by omega
  have hin : i ≤ n := by omega
  have htn : ((i : Int) + (m : Int)).toNat = i + m := by omega
  have hb2 : ¬ (cap = i + m) := by omega
  have hb3 : (i : Int) ≤ (n : Int) + (m : Int) := by omega
  have hb4 : ¬ (cap = i) := by omega
  have hsz : ∀ w, (Go.sizeOf 40).run Try.prog w = .ok 3 w := fun w => by
    have := run_siz' (P := Try.prog) (t := 40) (by rw [c40]; decide) w
    rwa [c40] at this
  have hfz : ∀ k, w.frozen? ⟨vb, k, none⟩ = false := fun k => by simp [World.frozen?, hvb]
  have hov : ∀ lb cb, (callFunc 78 #[.slice (some ⟨vb, 0, none⟩) m vc, .slice (some ⟨b, (i + m) * 3, none⟩) lb cb]).run Try.prog w = .ok (.value (.bool false)) w := fun lb cb => by
    rw [run_callFunc_extern Try.func78 (by kernel_rfl) (by kernel_rfl) (by kernel_rfl) (e := Extern.SlicesOverlaps.overlaps #[25, 25] #[4]) (by kernel_rfl),
      Lib.run_overlaps_apart w 25 4 40 u25 3 hsz ⟨vb, 0, none⟩ ⟨b, (i + m) * 3, none⟩ m vc lb cb hne eu eb us.size cs.size (by simp [World.shape?, hvb]) (by simp [World.shape?, hb]) (by omega) (hfz _) (hfz _)]
    rfl
  have hA0 : (w.drew).heap[b]? = some (.cells cs eb (0, 0)) := hb
  obtain ⟨u1, hu1⟩ : ∃ u1, (cs.toList.drop (i * 3)).take ((n - i) * 3) = u1 := ⟨_, rfl⟩
  obtain ⟨u2, hu2⟩ : ∃ u2, us.toList.take (m * 3) = u2 := ⟨_, rfl⟩
  have hl1 : u1.length = (n - i) * 3 := by rw [← hu1]; simp; omega
  have hl2 : u2.length = m * 3 := by rw [← hu2]; simp; omega
  have h11 : ∀ v ∈ u1, v.oneCell' = true := fun v hv => h1c v (by
    rw [← hu1, show (n - i) * 3 = n * 3 - i * 3 by omega, ← List.drop_take] at hv
    exact List.mem_of_mem_drop hv)
  rw [hu2] at h1v
  rw [hu1, hu2]
  obtain ⟨A, hA⟩ : ∃ A, setL cs.toList ((i + m) * 3) u1 = A := ⟨_, rfl⟩
  have hcp1 : ∀ ty dc sc, (Builtin.copy_ #[25, 25] ty #[.slice (some ⟨b, (i + m) * 3, none⟩) (n + m - (i + m)) dc, .slice (some ⟨b, i * 3, none⟩) (n + m - i) sc]).run Try.prog w.drew = .ok (goInt ((n - i : Nat) : Int)) (w.drew.setRow b A.toArray) := fun ty dc sc => by
    rw [← hA]
    refine run_copyZ (sl := n + m - i) (dl := n + m - (i + m)) (m := n - i) (o := (i + m) * 3) (sb := b) (so := i * 3) (us := u1) u25 hsz hA0 (by omega) hl1 (fun j v hj => ?_) h11 (by rw [hl1]; omega)
    rw [← hu1, List.getElem?_take] at hj
    split at hj
    · rw [List.getElem?_drop] at hj
      simp only [World.cell?, hA0, ← Array.getElem?_toList]
      simpa using hj
    · cases hj
  obtain ⟨W1, hW1⟩ : ∃ W1, W1 = w.drew.setRow b A.toArray := ⟨_, rfl⟩
  rw [hA, ← hW1]
  have hA1 : W1.heap[b]? = some (.cells A.toArray eb (0, 0)) := by rw [hW1]; exact setRow_heap w.drew b cs _ eb (0, 0) hA0
  have hA2 : W1.heap[vb]? = some (.cells us eu (0, 0)) := by rw [hW1, setRow_other _ _ _ _ hne]; exact hvb
  have hAl : A.length = cs.size := by rw [← hA, setL_length (by rw [hl1, Array.length_toList]; omega), Array.length_toList]
  have hcp2 : ∀ ty dc, (Builtin.copy_ #[25, 25] ty #[.slice (some ⟨b, i * 3, none⟩) (n + m - i) dc, .slice (some ⟨vb, 0, none⟩) m vc]).run Try.prog W1 = .ok (goInt m) (W1.setRow b (setL A (i * 3) u2).toArray) := fun ty dc => by
    have := run_copyZ (P := Try.prog) (ty := ty) (dc := dc) (dl := n + m - i) (sc := vc) u25 hsz hA1 (o := i * 3) (sb := vb) (so := 0) (sl := m) (m := m) (us := u2) (by omega) hl2 (fun j v hj => by
      rw [← hu2, List.getElem?_take] at hj
      split at hj
      · simp only [World.cell?, hA2, ← Array.getElem?_toList]
        simpa using hj
      · cases hj) h1v (by rw [hl2, List.size_toArray, hAl]; omega)
    exact this
  rw [← hW1] at hcp1
  clear hA0 hA1 hA2 hW1 hb hcs hvb hus h1c h1v hfz hl1 hl2 h11 hAl hu1 hu2
  go_enter Try.func53, Try.ntmps53
  go_wp2_with (simp only [hov])
  go_region_law_o (refine step_copy_runI rfl _ _ 25 25 rfl _ _ (by simp [Act.eval, Act.put]) (by simp [Act.eval, Act.put]) (hcp1 _ _ _) ?_)
  go_wp2_with (at_builtin; refine wpList_copy_runI _ rfl _ _ 25 25 rfl _ _ rfl rfl (hcp2 _ _) ?_)
  go_ret
  exact ⟨rfl, rfl⟩
set_option maxHeartbeats 4000000 in
set_option maxRecDepth 100000 in
theorem ins100_grow (w : World) (b cap n i m vb vc : Nat) (cs us : Array Value) (eb eu : TypeId) (hi : i < n) (hm : 0 < m) (hnc : n ≤ cap) (hroom : cap < n + m) (hbig : (n + m) * 24 ≤ 140737488355328)
    (hb : w.heap[b]? = some (.cells cs eb (0, 0))) (hcs : cs.size = cap * 3) (hvb : w.heap[vb]? = some (.cells us eu (0, 0))) (hus : us.size = vc * 3) (hmv : m ≤ vc) (hne : vb ≠ b)
    (h1c : ∀ v ∈ cs.toList.take (n * 3), v.oneCell' = true) (h1v : ∀ v ∈ us.toList.take (m * 3), v.oneCell' = true) :
    Calls Try.prog 53 #[.slice (some ⟨b, 0, none⟩) n cap, .int .i64 i, .slice (some ⟨vb, 0, none⟩) m vc] w fun ex w' =>
      ∃ G CE, n + m ≤ G ∧ G ≤ maxLen ∧ CE.size = G * 3 ∧ CE.toList.take (i * 3) = cs.toList.take (i * 3) ∧ ex = .returned (.slice (some ⟨w.heap.size, 0, none⟩) (n + m) G) ∧
        w'.heap = (((w.drew.alloc (.cells CE 40)).setRow w.heap.size (setL CE.toList (i * 3) (us.toList.take (m * 3))).toArray).setRow w.heap.size (setL (setL CE.toList (i * 3) (us.toList.take (m * 3))) ((i + m) * 3) ((cs.toList.drop (i * 3)).take ((n - i) * 3))).toArray).heap ∧
        w'.os = w.os ∧ w'.tape = w.tape ∧ w'.output = w.output ∧ w.drawn ≤ w'.drawn := by
  have mixed := orders
  have hz1 : ¬ ((m : Int) = 0) := by omega
  have hz2 : ¬ ((i : Int) = (n : Int)) := by omega
  have hz3 : (cap : Int) < (n : Int) + (m : Int) := by omega
  have hsz : ∀ w, (Go.sizeOf 40).run Try.prog w = .ok 3 w := fun w => by
    have := run_siz' (P := Try.prog) (t := 40) (by rw [c40]; decide) w
    rwa [c40] at this
  obtain ⟨G, CE, hG1, hG2, hG3, hG4, hrz⟩ := run_appendZ (w := w) (kq := .i64) (s := i) (k := n + m - i) (cap := cap) u25 u3 k40 (by rw [c40]; decide) (by rw [b40]; decide) hb (by omega) (by rw [c40]; omega) (by omega) (by rw [b40]; omega)
  rw [c40] at hG3 hG4
  rw [show i + (n + m - i) = n + m by omega] at hG1 hrz
  rw [show ((n + m - i : Nat) : Int) = (n : Int) + (m : Int) - (i : Int) by omega] at hrz
  have hbw : b < w.heap.size := (Array.getElem?_eq_some_iff.1 hb).1
  have hvw : vb < w.heap.size := (Array.getElem?_eq_some_iff.1 hvb).1
  obtain ⟨nb, hnb⟩ : ∃ nb, w.heap.size = nb := ⟨_, rfl⟩
  obtain ⟨W1, hW1⟩ : ∃ W1, W1 = w.drew.alloc (.cells CE 40) := ⟨_, rfl⟩
  obtain ⟨u1, hu1⟩ : ∃ u1, (cs.toList.drop (i * 3)).take ((n - i) * 3) = u1 := ⟨_, rfl⟩
  obtain ⟨u2, hu2⟩ : ∃ u2, us.toList.take (m * 3) = u2 := ⟨_, rfl⟩
  have hl1 : u1.length = (n - i) * 3 := by rw [← hu1]; simp; omega
  have hl2 : u2.length = m * 3 := by rw [← hu2]; simp; omega
  have h11 : ∀ v ∈ u1, v.oneCell' = true := fun v hv => h1c v (by
    rw [← hu1, show (n - i) * 3 = n * 3 - i * 3 by omega, ← List.drop_take] at hv
    exact List.mem_of_mem_drop hv)
  rw [hu2] at h1v
  have hA0 : W1.heap[nb]? = some (.cells CE 40 (0, 0)) := by rw [hW1, ← hnb]; exact alloc_new w.drew _
  have hAb : W1.heap[b]? = some (.cells cs eb (0, 0)) := by rw [hW1, ← hb]; exact alloc_old w.drew _ hbw
  have hAv : W1.heap[vb]? = some (.cells us eu (0, 0)) := by rw [hW1, ← hvb]; exact alloc_old w.drew _ hvw
  obtain ⟨A, hA⟩ : ∃ A, setL CE.toList (i * 3) u2 = A := ⟨_, rfl⟩
  obtain ⟨B, hB⟩ : ∃ B, setL A ((i + m) * 3) u1 = B := ⟨_, rfl⟩
  have hAl : A.length = CE.size := by rw [← hA, setL_length (by rw [hl2, Array.length_toList]; omega), Array.length_toList]
  have hcpA : ∀ (W : World), W.heap = W1.heap → ∀ ty dc, (Builtin.copy_ #[25, 25] ty #[.slice (some ⟨nb, i * 3, none⟩) (n + m - i) dc, .slice (some ⟨vb, 0, none⟩) m vc]).run Try.prog W = .ok (goInt (m : Int)) (W.setRow nb A.toArray) := fun W hW ty dc => by
    rw [← hA]
    refine run_copyZ (sl := m) (dl := n + m - i) (m := m) (o := i * 3) (sb := vb) (so := 0) (us := u2) u25 hsz (by rw [hW]; exact hA0) (by omega) hl2 (fun j v hj => ?_) h1v (by rw [hl2]; omega)
    rw [← hu2, List.getElem?_take] at hj
    split at hj
    · simp only [World.cell?, hW, hAv, ← Array.getElem?_toList]
      simpa using hj
    · cases hj
  have hcpB : ∀ (W : World), W.heap = (W1.setRow nb A.toArray).heap → ∀ ty dc sc, (Builtin.copy_ #[25, 25] ty #[.slice (some ⟨nb, (i + m) * 3, none⟩) (n + m - (i + m)) dc, .slice (some ⟨b, i * 3, none⟩) (n - i) sc]).run Try.prog W = .ok (goInt ((n - i : Nat) : Int)) (W.setRow nb B.toArray) := fun W hW ty dc sc => by
    rw [← hB]
    have hC := run_copyZ (P := Try.prog) (w := W) (t := 25) (ty := ty) (dc := dc) (sc := sc) (sl := n - i) (dl := n + m - (i + m)) (m := n - i) (o := (i + m) * 3) (sb := b) (so := i * 3) (us := u1) u25 hsz (b := nb) (cs := A.toArray) (eb := 40) (by rw [hW]; exact setRow_heap W1 nb CE _ 40 (0, 0) hA0) (by omega) hl1 (fun j v hj => by
      rw [← hu1, List.getElem?_take] at hj
      split at hj
      · rw [List.getElem?_drop] at hj
        simp only [World.cell?, hW]
        rw [setRow_other _ _ _ _ (by omega), hAb]
        simp only [← Array.getElem?_toList]
        simpa using hj
      · cases hj) h11 (by rw [hl1, List.size_toArray, hAl]; omega)
    exact hC
  rw [hnb, ← hW1] at hrz
  rw [hu1, hu2]
  have hfin : ∀ (ex : Ending) (w' : World), (ex = .returned (.slice (some ⟨nb, 0, none⟩) (n + m) G) ∧ w'.heap = ((W1.setRow nb A.toArray).setRow nb B.toArray).heap ∧ w'.os = w.os ∧ w'.tape = w.tape ∧ w'.output = w.output ∧ w.drawn ≤ w'.drawn) → ∃ G CE, n + m ≤ G ∧ G ≤ maxLen ∧ CE.size = G * 3 ∧ CE.toList.take (i * 3) = cs.toList.take (i * 3) ∧ ex = .returned (.slice (some ⟨w.heap.size, 0, none⟩) (n + m) G) ∧
        w'.heap = (((w.drew.alloc (.cells CE 40)).setRow w.heap.size (setL CE.toList (i * 3) u2).toArray).setRow w.heap.size (setL (setL CE.toList (i * 3) u2) ((i + m) * 3) u1).toArray).heap ∧
        w'.os = w.os ∧ w'.tape = w.tape ∧ w'.output = w.output ∧ w.drawn ≤ w'.drawn := fun ex w' hp => ⟨G, CE, hG1, hG2, hG3, hG4, by rw [hnb]; exact hp.1, by rw [hnb, hA, hB, ← hW1]; exact hp.2.1, hp.2.2⟩
  refine Calls.mono ?_ hfin
  have hd0 : w.os = W1.os ∧ w.tape = W1.tape ∧ w.output = W1.output ∧ w.drawn + 1 = W1.drawn := by rw [hW1]; exact ⟨rfl, rfl, rfl, rfl⟩
  obtain ⟨hd1, hd2, hd3, hd4⟩ := hd0
  rw [hd1, hd2, hd3]
  have hd5 : w.drawn ≤ W1.drawn := by omega
  have hGi : ¬ (G = i) := by omega
  have hGim : ¬ (G = i + m) := by omega
  have hci : ¬ (cap = i) := by omega
  have hGn : n + m ≤ G := hG1
  have hG63 : G ≤ 9223372036854775807 := by simp only [maxLen] at hG2; omega
  have hw1 : IntKind.i64.wrap ((i : Int) + (m : Int)) = (i : Int) + (m : Int) := by rw [IntKind.wrap_i64]; omega
  have hb1 : (0 : Int) ≤ (i : Int) + (m : Int) := by omega
  have hin : i ≤ n := by omega
  have htn : ((i : Int) + (m : Int)).toNat = i + m := by omega
  have hb3 : (i : Int) ≤ (n : Int) := by omega
  have hb5 : (i : Int) ≤ (n : Int) + (m : Int) := by omega
  clear hfin hG1 hG2 hG3 hG4 hnb hd1 hd2 hd3 hd4 hA0 hAb hAv hAl hW1 hb hcs hvb hus h1c h1v hl1 hl2 h11 hu1 hu2 hA hB hbig hsz
  go_enter Try.func53, Try.ntmps53
  go_wp2_with (first
    | (at_builtin; refine Lib.wpList_append_run _ rfl _ _ _ _ rfl _ _ rfl rfl _ _ (hrz _) ?_)
    | (at_builtin; refine wpList_copy_runI _ rfl _ _ 25 25 rfl _ _ rfl rfl (hcpA _ rfl _ _) ?_)
    | (at_builtin; refine wpList_copy_runI _ rfl _ _ 25 25 rfl _ _ rfl rfl (hcpB _ rfl _ _ _) ?_))
  go_region_law_o (refine step_copy_runI rfl _ _ 25 25 rfl (.slice (some ⟨nb, (i + m) * 3, none⟩) (n + m - (i + m)) (G - (i + m))) (.slice (some ⟨b, i * 3, none⟩) (n - i) (cap - i)) (by simp [Act.eval, Act.put]) (by simp [Act.eval, Act.put]) (hcpB (W1.setRow nb A.toArray).drew rfl _ _ _) ?_)
  go_wp2
  go_ret
  exact ⟨rfl, rfl, rfl, rfl, rfl, Nat.le_succ_of_le hd5⟩
theorem insAt100 : InsAt Try.prog 53 3 := by
  intro w b cap n i vb vc cs eb us eu hi hnc hcm hn hb hcs hvb hus hv1 hne h1c h1v
  by_cases hroom : n + 1 ≤ cap
  · refine (ins100_room w b cap n i 1 vb vc cs us eb eu hi (by omega) hroom (by simp only [maxLen] at hcm; omega) hb hcs hvb hus hv1 hne h1c (by simpa using h1v)).mono fun ex w' hp => ?_
    obtain ⟨rfl, rfl⟩ := hp
    exact insPost_room hi hroom hcm hb hcs (by omega)
  · refine (ins100_grow w b cap n i 1 vb vc cs us eb eu hi (by omega) hnc (by omega) (by omega) hb hcs hvb hus hv1 hne h1c (by simpa using h1v)).mono fun ex w' hp => ?_
    obtain ⟨G, CE, hG1, hG2, hG3, hG4, rfl, hh, ho, ht, hp, hd⟩ := hp
    exact insPost_grow hi hG1 hG2 hG3 (by omega) hG4 (by omega) hh ho ht hp hd
set_option maxHeartbeats 4000000 in
set_option maxRecDepth 100000 in
theorem ins107_room (w : World) (b cap n i m vb vc : Nat) (cs us : Array Value) (eb eu : TypeId) (hi : i < n) (hm : 0 < m) (hroom : n + m ≤ cap) (hc63 : cap ≤ 9223372036854775807)
    (hb : w.heap[b]? = some (.cells cs eb (0, 0))) (hcs : cs.size = cap * 2) (hvb : w.heap[vb]? = some (.cells us eu (0, 0))) (hus : us.size = vc * 2) (hmv : m ≤ vc) (hne : vb ≠ b)
    (h1c : ∀ v ∈ cs.toList.take (n * 2), v.oneCell' = true) (h1v : ∀ v ∈ us.toList.take (m * 2), v.oneCell' = true) :
    Calls Try.prog 60 #[.slice (some ⟨b, 0, none⟩) n cap, .int .i64 i, .slice (some ⟨vb, 0, none⟩) m vc] w fun ex w' =>
      ex = .returned (.slice (some ⟨b, 0, none⟩) (n + m) cap) ∧ w' = (w.drew.setRow b (setL cs.toList ((i + m) * 2) ((cs.toList.drop (i * 2)).take ((n - i) * 2))).toArray).setRow b
        (setL (setL cs.toList ((i + m) * 2) ((cs.toList.drop (i * 2)).take ((n - i) * 2))) (i * 2) (us.toList.take (m * 2))).toArray := by
  have mixed := orders
  have hz1 : ¬ ((m : Int) = 0) := by omega
  have hz2 : ¬ ((i : Int) = (n : Int)) := by omega
  have hw1 : IntKind.i64.wrap ((i : Int) + (m : Int)) = (i : Int) + (m : Int) := by rw [IntKind.wrap_i64]; omega
  have hb1 : (0 : Int) ≤ (i : Int) + (m : Int) := by omega
  have hin : i ≤ n := by omega
  have htn : ((i : Int) + (m : Int)).toNat = i + m := by omega
  have hb2 : ¬ (cap = i + m) := by omega
  have hb3 : (i : Int) ≤ (n : Int) + (m : Int) := by omega
  have hb4 : ¬ (cap = i) := by omega
  have hsz : ∀ w, (Go.sizeOf 42).run Try.prog w = .ok 2 w := fun w => by
    have := run_siz' (P := Try.prog) (t := 42) (by rw [c42]; decide) w
    rwa [c42] at this
  have hfz : ∀ k, w.frozen? ⟨vb, k, none⟩ = false := fun k => by simp [World.frozen?, hvb]
  have hov : ∀ lb cb, (callFunc 81 #[.slice (some ⟨vb, 0, none⟩) m vc, .slice (some ⟨b, (i + m) * 2, none⟩) lb cb]).run Try.prog w = .ok (.value (.bool false)) w := fun lb cb => by
    rw [run_callFunc_extern Try.func81 (by kernel_rfl) (by kernel_rfl) (by kernel_rfl) (e := Extern.SlicesOverlaps.overlaps #[26, 26] #[4]) (by kernel_rfl),
      Lib.run_overlaps_apart w 26 4 42 u26 2 hsz ⟨vb, 0, none⟩ ⟨b, (i + m) * 2, none⟩ m vc lb cb hne eu eb us.size cs.size (by simp [World.shape?, hvb]) (by simp [World.shape?, hb]) (by omega) (hfz _) (hfz _)]
    rfl
  have hA0 : (w.drew).heap[b]? = some (.cells cs eb (0, 0)) := hb
  obtain ⟨u1, hu1⟩ : ∃ u1, (cs.toList.drop (i * 2)).take ((n - i) * 2) = u1 := ⟨_, rfl⟩
  obtain ⟨u2, hu2⟩ : ∃ u2, us.toList.take (m * 2) = u2 := ⟨_, rfl⟩
  have hl1 : u1.length = (n - i) * 2 := by rw [← hu1]; simp; omega
  have hl2 : u2.length = m * 2 := by rw [← hu2]; simp; omega
  have h11 : ∀ v ∈ u1, v.oneCell' = true := fun v hv => h1c v (by
    rw [← hu1, show (n - i) * 2 = n * 2 - i * 2 by omega, ← List.drop_take] at hv
    exact List.mem_of_mem_drop hv)
  rw [hu2] at h1v
  rw [hu1, hu2]
  obtain ⟨A, hA⟩ : ∃ A, setL cs.toList ((i + m) * 2) u1 = A := ⟨_, rfl⟩
  have hcp1 : ∀ ty dc sc, (Builtin.copy_ #[26, 26] ty #[.slice (some ⟨b, (i + m) * 2, none⟩) (n + m - (i + m)) dc, .slice (some ⟨b, i * 2, none⟩) (n + m - i) sc]).run Try.prog w.drew = .ok (goInt ((n - i : Nat) : Int)) (w.drew.setRow b A.toArray) := fun ty dc sc => by
    rw [← hA]
    refine run_copyZ (sl := n + m - i) (dl := n + m - (i + m)) (m := n - i) (o := (i + m) * 2) (sb := b) (so := i * 2) (us := u1) u26 hsz hA0 (by omega) hl1 (fun j v hj => ?_) h11 (by rw [hl1]; omega)
    rw [← hu1, List.getElem?_take] at hj
    split at hj
    · rw [List.getElem?_drop] at hj
      simp only [World.cell?, hA0, ← Array.getElem?_toList]
      simpa using hj
    · cases hj
  obtain ⟨W1, hW1⟩ : ∃ W1, W1 = w.drew.setRow b A.toArray := ⟨_, rfl⟩
  rw [hA, ← hW1]
  have hA1 : W1.heap[b]? = some (.cells A.toArray eb (0, 0)) := by rw [hW1]; exact setRow_heap w.drew b cs _ eb (0, 0) hA0
  have hA2 : W1.heap[vb]? = some (.cells us eu (0, 0)) := by rw [hW1, setRow_other _ _ _ _ hne]; exact hvb
  have hAl : A.length = cs.size := by rw [← hA, setL_length (by rw [hl1, Array.length_toList]; omega), Array.length_toList]
  have hcp2 : ∀ ty dc, (Builtin.copy_ #[26, 26] ty #[.slice (some ⟨b, i * 2, none⟩) (n + m - i) dc, .slice (some ⟨vb, 0, none⟩) m vc]).run Try.prog W1 = .ok (goInt m) (W1.setRow b (setL A (i * 2) u2).toArray) := fun ty dc => by
    have := run_copyZ (P := Try.prog) (ty := ty) (dc := dc) (dl := n + m - i) (sc := vc) u26 hsz hA1 (o := i * 2) (sb := vb) (so := 0) (sl := m) (m := m) (us := u2) (by omega) hl2 (fun j v hj => by
      rw [← hu2, List.getElem?_take] at hj
      split at hj
      · simp only [World.cell?, hA2, ← Array.getElem?_toList]
        simpa using hj
      · cases hj) h1v (by rw [hl2, List.size_toArray, hAl]; omega)
    exact this
  rw [← hW1] at hcp1
  clear hA0 hA1 hA2 hW1 hb hcs hvb hus h1c h1v hfz hl1 hl2 h11 hAl hu1 hu2
  go_enter Try.func60, Try.ntmps60
  go_wp2_with (simp only [hov])
  go_region_law_o (refine step_copy_runI rfl _ _ 26 26 rfl _ _ (by simp [Act.eval, Act.put]) (by simp [Act.eval, Act.put]) (hcp1 _ _ _) ?_)
  go_wp2_with (at_builtin; refine wpList_copy_runI _ rfl _ _ 26 26 rfl _ _ rfl rfl (hcp2 _ _) ?_)
  go_ret
  exact ⟨rfl, rfl⟩
set_option maxHeartbeats 4000000 in
set_option maxRecDepth 100000 in
theorem ins107_grow (w : World) (b cap n i m vb vc : Nat) (cs us : Array Value) (eb eu : TypeId) (hi : i < n) (hm : 0 < m) (hnc : n ≤ cap) (hroom : cap < n + m) (hbig : (n + m) * 16 ≤ 140737488355328)
    (hb : w.heap[b]? = some (.cells cs eb (0, 0))) (hcs : cs.size = cap * 2) (hvb : w.heap[vb]? = some (.cells us eu (0, 0))) (hus : us.size = vc * 2) (hmv : m ≤ vc) (hne : vb ≠ b)
    (h1c : ∀ v ∈ cs.toList.take (n * 2), v.oneCell' = true) (h1v : ∀ v ∈ us.toList.take (m * 2), v.oneCell' = true) :
    Calls Try.prog 60 #[.slice (some ⟨b, 0, none⟩) n cap, .int .i64 i, .slice (some ⟨vb, 0, none⟩) m vc] w fun ex w' =>
      ∃ G CE, n + m ≤ G ∧ G ≤ maxLen ∧ CE.size = G * 2 ∧ CE.toList.take (i * 2) = cs.toList.take (i * 2) ∧ ex = .returned (.slice (some ⟨w.heap.size, 0, none⟩) (n + m) G) ∧
        w'.heap = (((w.drew.alloc (.cells CE 42)).setRow w.heap.size (setL CE.toList (i * 2) (us.toList.take (m * 2))).toArray).setRow w.heap.size (setL (setL CE.toList (i * 2) (us.toList.take (m * 2))) ((i + m) * 2) ((cs.toList.drop (i * 2)).take ((n - i) * 2))).toArray).heap ∧
        w'.os = w.os ∧ w'.tape = w.tape ∧ w'.output = w.output ∧ w.drawn ≤ w'.drawn := by
  have mixed := orders
  have hz1 : ¬ ((m : Int) = 0) := by omega
  have hz2 : ¬ ((i : Int) = (n : Int)) := by omega
  have hz3 : (cap : Int) < (n : Int) + (m : Int) := by omega
  have hsz : ∀ w, (Go.sizeOf 42).run Try.prog w = .ok 2 w := fun w => by
    have := run_siz' (P := Try.prog) (t := 42) (by rw [c42]; decide) w
    rwa [c42] at this
  obtain ⟨G, CE, hG1, hG2, hG3, hG4, hrz⟩ := run_appendZ (w := w) (kq := .i64) (s := i) (k := n + m - i) (cap := cap) u26 u3 k42 (by rw [c42]; decide) (by rw [b42]; decide) hb (by omega) (by rw [c42]; omega) (by omega) (by rw [b42]; omega)
  rw [c42] at hG3 hG4
  rw [show i + (n + m - i) = n + m by omega] at hG1 hrz
  rw [show ((n + m - i : Nat) : Int) = (n : Int) + (m : Int) - (i : Int) by omega] at hrz
  have hbw : b < w.heap.size := (Array.getElem?_eq_some_iff.1 hb).1
  have hvw : vb < w.heap.size := (Array.getElem?_eq_some_iff.1 hvb).1
  obtain ⟨nb, hnb⟩ : ∃ nb, w.heap.size = nb := ⟨_, rfl⟩
  obtain ⟨W1, hW1⟩ : ∃ W1, W1 = w.drew.alloc (.cells CE 42) := ⟨_, rfl⟩
  obtain ⟨u1, hu1⟩ : ∃ u1, (cs.toList.drop (i * 2)).take ((n - i) * 2) = u1 := ⟨_, rfl⟩
  obtain ⟨u2, hu2⟩ : ∃ u2, us.toList.take (m * 2) = u2 := ⟨_, rfl⟩
  have hl1 : u1.length = (n - i) * 2 := by rw [← hu1]; simp; omega
  have hl2 : u2.length = m * 2 := by rw [← hu2]; simp; omega
  have h11 : ∀ v ∈ u1, v.oneCell' = true := fun v hv => h1c v (by
    rw [← hu1, show (n - i) * 2 = n * 2 - i * 2 by omega, ← List.drop_take] at hv
    exact List.mem_of_mem_drop hv)
  rw [hu2] at h1v
  have hA0 : W1.heap[nb]? = some (.cells CE 42 (0, 0)) := by rw [hW1, ← hnb]; exact alloc_new w.drew _
  have hAb : W1.heap[b]? = some (.cells cs eb (0, 0)) := by rw [hW1, ← hb]; exact alloc_old w.drew _ hbw
  have hAv : W1.heap[vb]? = some (.cells us eu (0, 0)) := by rw [hW1, ← hvb]; exact alloc_old w.drew _ hvw
  obtain ⟨A, hA⟩ : ∃ A, setL CE.toList (i * 2) u2 = A := ⟨_, rfl⟩
  obtain ⟨B, hB⟩ : ∃ B, setL A ((i + m) * 2) u1 = B := ⟨_, rfl⟩
  have hAl : A.length = CE.size := by rw [← hA, setL_length (by rw [hl2, Array.length_toList]; omega), Array.length_toList]
  have hcpA : ∀ (W : World), W.heap = W1.heap → ∀ ty dc, (Builtin.copy_ #[26, 26] ty #[.slice (some ⟨nb, i * 2, none⟩) (n + m - i) dc, .slice (some ⟨vb, 0, none⟩) m vc]).run Try.prog W = .ok (goInt (m : Int)) (W.setRow nb A.toArray) := fun W hW ty dc => by
    rw [← hA]
    refine run_copyZ (sl := m) (dl := n + m - i) (m := m) (o := i * 2) (sb := vb) (so := 0) (us := u2) u26 hsz (by rw [hW]; exact hA0) (by omega) hl2 (fun j v hj => ?_) h1v (by rw [hl2]; omega)
    rw [← hu2, List.getElem?_take] at hj
    split at hj
    · simp only [World.cell?, hW, hAv, ← Array.getElem?_toList]
      simpa using hj
    · cases hj
  have hcpB : ∀ (W : World), W.heap = (W1.setRow nb A.toArray).heap → ∀ ty dc sc, (Builtin.copy_ #[26, 26] ty #[.slice (some ⟨nb, (i + m) * 2, none⟩) (n + m - (i + m)) dc, .slice (some ⟨b, i * 2, none⟩) (n - i) sc]).run Try.prog W = .ok (goInt ((n - i : Nat) : Int)) (W.setRow nb B.toArray) := fun W hW ty dc sc => by
    rw [← hB]
    have hC := run_copyZ (P := Try.prog) (w := W) (t := 26) (ty := ty) (dc := dc) (sc := sc) (sl := n - i) (dl := n + m - (i + m)) (m := n - i) (o := (i + m) * 2) (sb := b) (so := i * 2) (us := u1) u26 hsz (b := nb) (cs := A.toArray) (eb := 42) (by rw [hW]; exact setRow_heap W1 nb CE _ 42 (0, 0) hA0) (by omega) hl1 (fun j v hj => by
      rw [← hu1, List.getElem?_take] at hj
      split at hj
      · rw [List.getElem?_drop] at hj
        simp only [World.cell?, hW]
        rw [setRow_other _ _ _ _ (by omega), hAb]
        simp only [← Array.getElem?_toList]
        simpa using hj
      · cases hj) h11 (by rw [hl1, List.size_toArray, hAl]; omega)
    exact hC
  rw [hnb, ← hW1] at hrz
  rw [hu1, hu2]
  have hfin : ∀ (ex : Ending) (w' : World), (ex = .returned (.slice (some ⟨nb, 0, none⟩) (n + m) G) ∧ w'.heap = ((W1.setRow nb A.toArray).setRow nb B.toArray).heap ∧ w'.os = w.os ∧ w'.tape = w.tape ∧ w'.output = w.output ∧ w.drawn ≤ w'.drawn) → ∃ G CE, n + m ≤ G ∧ G ≤ maxLen ∧ CE.size = G * 2 ∧ CE.toList.take (i * 2) = cs.toList.take (i * 2) ∧ ex = .returned (.slice (some ⟨w.heap.size, 0, none⟩) (n + m) G) ∧
        w'.heap = (((w.drew.alloc (.cells CE 42)).setRow w.heap.size (setL CE.toList (i * 2) u2).toArray).setRow w.heap.size (setL (setL CE.toList (i * 2) u2) ((i + m) * 2) u1).toArray).heap ∧
        w'.os = w.os ∧ w'.tape = w.tape ∧ w'.output = w.output ∧ w.drawn ≤ w'.drawn := fun ex w' hp => ⟨G, CE, hG1, hG2, hG3, hG4, by rw [hnb]; exact hp.1, by rw [hnb, hA, hB, ← hW1]; exact hp.2.1, hp.2.2⟩
  refine Calls.mono ?_ hfin
  have hd0 : w.os = W1.os ∧ w.tape = W1.tape ∧ w.output = W1.output ∧ w.drawn + 1 = W1.drawn := by rw [hW1]; exact ⟨rfl, rfl, rfl, rfl⟩
  obtain ⟨hd1, hd2, hd3, hd4⟩ := hd0
  rw [hd1, hd2, hd3]
  have hd5 : w.drawn ≤ W1.drawn := by omega
  have hGi : ¬ (G = i) := by omega
  have hGim : ¬ (G = i + m) := by omega
  have hci : ¬ (cap = i) := by omega
  have hGn : n + m ≤ G := hG1
  have hG63 : G ≤ 9223372036854775807 := by simp only [maxLen] at hG2; omega
  have hw1 : IntKind.i64.wrap ((i : Int) + (m : Int)) = (i : Int) + (m : Int) := by rw [IntKind.wrap_i64]; omega
  have hb1 : (0 : Int) ≤ (i : Int) + (m : Int) := by omega
  have hin : i ≤ n := by omega
  have htn : ((i : Int) + (m : Int)).toNat = i + m := by omega
  have hb3 : (i : Int) ≤ (n : Int) := by omega
  have hb5 : (i : Int) ≤ (n : Int) + (m : Int) := by omega
  clear hfin hG1 hG2 hG3 hG4 hnb hd1 hd2 hd3 hd4 hA0 hAb hAv hAl hW1 hb hcs hvb hus h1c h1v hl1 hl2 h11 hu1 hu2 hA hB hbig hsz
  go_enter Try.func60, Try.ntmps60
  go_wp2_with (first
    | (at_builtin; refine Lib.wpList_append_run _ rfl _ _ _ _ rfl _ _ rfl rfl _ _ (hrz _) ?_)
    | (at_builtin; refine wpList_copy_runI _ rfl _ _ 26 26 rfl _ _ rfl rfl (hcpA _ rfl _ _) ?_)
    | (at_builtin; refine wpList_copy_runI _ rfl _ _ 26 26 rfl _ _ rfl rfl (hcpB _ rfl _ _ _) ?_))
  go_region_law_o (refine step_copy_runI rfl _ _ 26 26 rfl (.slice (some ⟨nb, (i + m) * 2, none⟩) (n + m - (i + m)) (G - (i + m))) (.slice (some ⟨b, i * 2, none⟩) (n - i) (cap - i)) (by simp [Act.eval, Act.put]) (by simp [Act.eval, Act.put]) (hcpB (W1.setRow nb A.toArray).drew rfl _ _ _) ?_)
  go_wp2
  go_ret
  exact ⟨rfl, rfl, rfl, rfl, rfl, Nat.le_succ_of_le hd5⟩
theorem insAt107 : InsAt Try.prog 60 2 := by
  intro w b cap n i vb vc cs eb us eu hi hnc hcm hn hb hcs hvb hus hv1 hne h1c h1v
  by_cases hroom : n + 1 ≤ cap
  · refine (ins107_room w b cap n i 1 vb vc cs us eb eu hi (by omega) hroom (by simp only [maxLen] at hcm; omega) hb hcs hvb hus hv1 hne h1c (by simpa using h1v)).mono fun ex w' hp => ?_
    obtain ⟨rfl, rfl⟩ := hp
    exact insPost_room hi hroom hcm hb hcs (by omega)
  · refine (ins107_grow w b cap n i 1 vb vc cs us eb eu hi (by omega) hnc (by omega) (by omega) hb hcs hvb hus hv1 hne h1c (by simpa using h1v)).mono fun ex w' hp => ?_
    obtain ⟨G, CE, hG1, hG2, hG3, hG4, rfl, hh, ho, ht, hp, hd⟩ := hp
    exact insPost_grow hi hG1 hG2 hG3 (by omega) hG4 (by omega) hh ho ht hp hd
set_option maxHeartbeats 4000000 in
set_option maxRecDepth 100000 in
theorem ins112_room (w : World) (b cap n i m vb vc : Nat) (cs us : Array Value) (eb eu : TypeId) (hi : i < n) (hm : 0 < m) (hroom : n + m ≤ cap) (hc63 : cap ≤ 9223372036854775807)
    (hb : w.heap[b]? = some (.cells cs eb (0, 0))) (hcs : cs.size = cap * 2) (hvb : w.heap[vb]? = some (.cells us eu (0, 0))) (hus : us.size = vc * 2) (hmv : m ≤ vc) (hne : vb ≠ b)
    (h1c : ∀ v ∈ cs.toList.take (n * 2), v.oneCell' = true) (h1v : ∀ v ∈ us.toList.take (m * 2), v.oneCell' = true) :
    Calls Try.prog 65 #[.slice (some ⟨b, 0, none⟩) n cap, .int .i64 i, .slice (some ⟨vb, 0, none⟩) m vc] w fun ex w' =>
      ex = .returned (.slice (some ⟨b, 0, none⟩) (n + m) cap) ∧ w' = (w.drew.setRow b (setL cs.toList ((i + m) * 2) ((cs.toList.drop (i * 2)).take ((n - i) * 2))).toArray).setRow b
        (setL (setL cs.toList ((i + m) * 2) ((cs.toList.drop (i * 2)).take ((n - i) * 2))) (i * 2) (us.toList.take (m * 2))).toArray := by
  have mixed := orders
  have hz1 : ¬ ((m : Int) = 0) := by omega
  have hz2 : ¬ ((i : Int) = (n : Int)) := by omega
  have hw1 : IntKind.i64.wrap ((i : Int) + (m : Int)) = (i : Int) + (m : Int) := by rw [IntKind.wrap_i64]; omega
  have hb1 : (0 : Int) ≤ (i : Int) + (m : Int) := by omega
  have hin : i ≤ n := by omega
  have htn : ((i : Int) + (m : Int)).toNat = i + m := by omega
  have hb2 : ¬ (cap = i + m) := by omega
  have hb3 : (i : Int) ≤ (n : Int) + (m : Int) := by omega
  have hb4 : ¬ (cap = i) := by omega
  have hsz : ∀ w, (Go.sizeOf 38).run Try.prog w = .ok 2 w := fun w => by
    have := run_siz' (P := Try.prog) (t := 38) (by rw [c38]; decide) w
    rwa [c38] at this
  have hfz : ∀ k, w.frozen? ⟨vb, k, none⟩ = false := fun k => by simp [World.frozen?, hvb]
  have hov : ∀ lb cb, (callFunc 83 #[.slice (some ⟨vb, 0, none⟩) m vc, .slice (some ⟨b, (i + m) * 2, none⟩) lb cb]).run Try.prog w = .ok (.value (.bool false)) w := fun lb cb => by
    rw [run_callFunc_extern Try.func83 (by kernel_rfl) (by kernel_rfl) (by kernel_rfl) (e := Extern.SlicesOverlaps.overlaps #[27, 27] #[4]) (by kernel_rfl),
      Lib.run_overlaps_apart w 27 4 38 u27 2 hsz ⟨vb, 0, none⟩ ⟨b, (i + m) * 2, none⟩ m vc lb cb hne eu eb us.size cs.size (by simp [World.shape?, hvb]) (by simp [World.shape?, hb]) (by omega) (hfz _) (hfz _)]
    rfl
  have hA0 : (w.drew).heap[b]? = some (.cells cs eb (0, 0)) := hb
  obtain ⟨u1, hu1⟩ : ∃ u1, (cs.toList.drop (i * 2)).take ((n - i) * 2) = u1 := ⟨_, rfl⟩
  obtain ⟨u2, hu2⟩ : ∃ u2, us.toList.take (m * 2) = u2 := ⟨_, rfl⟩
  have hl1 : u1.length = (n - i) * 2 := by rw [← hu1]; simp; omega
  have hl2 : u2.length = m * 2 := by rw [← hu2]; simp; omega
  have h11 : ∀ v ∈ u1, v.oneCell' = true := fun v hv => h1c v (by
    rw [← hu1, show (n - i) * 2 = n * 2 - i * 2 by omega, ← List.drop_take] at hv
    exact List.mem_of_mem_drop hv)
  rw [hu2] at h1v
  rw [hu1, hu2]
  obtain ⟨A, hA⟩ : ∃ A, setL cs.toList ((i + m) * 2) u1 = A := ⟨_, rfl⟩
  have hcp1 : ∀ ty dc sc, (Builtin.copy_ #[27, 27] ty #[.slice (some ⟨b, (i + m) * 2, none⟩) (n + m - (i + m)) dc, .slice (some ⟨b, i * 2, none⟩) (n + m - i) sc]).run Try.prog w.drew = .ok (goInt ((n - i : Nat) : Int)) (w.drew.setRow b A.toArray) := fun ty dc sc => by
    rw [← hA]
    refine run_copyZ (sl := n + m - i) (dl := n + m - (i + m)) (m := n - i) (o := (i + m) * 2) (sb := b) (so := i * 2) (us := u1) u27 hsz hA0 (by omega) hl1 (fun j v hj => ?_) h11 (by rw [hl1]; omega)
    rw [← hu1, List.getElem?_take] at hj
    split at hj
    · rw [List.getElem?_drop] at hj
      simp only [World.cell?, hA0, ← Array.getElem?_toList]
      simpa using hj
    · cases hj
  obtain ⟨W1, hW1⟩ : ∃ W1, W1 = w.drew.setRow b A.toArray := ⟨_, rfl⟩
  rw [hA, ← hW1]
  have hA1 : W1.heap[b]? = some (.cells A.toArray eb (0, 0)) := by rw [hW1]; exact setRow_heap w.drew b cs _ eb (0, 0) hA0
  have hA2 : W1.heap[vb]? = some (.cells us eu (0, 0)) := by rw [hW1, setRow_other _ _ _ _ hne]; exact hvb
  have hAl : A.length = cs.size := by rw [← hA, setL_length (by rw [hl1, Array.length_toList]; omega), Array.length_toList]
  have hcp2 : ∀ ty dc, (Builtin.copy_ #[27, 27] ty #[.slice (some ⟨b, i * 2, none⟩) (n + m - i) dc, .slice (some ⟨vb, 0, none⟩) m vc]).run Try.prog W1 = .ok (goInt m) (W1.setRow b (setL A (i * 2) u2).toArray) := fun ty dc => by
    have := run_copyZ (P := Try.prog) (ty := ty) (dc := dc) (dl := n + m - i) (sc := vc) u27 hsz hA1 (o := i * 2) (sb := vb) (so := 0) (sl := m) (m := m) (us := u2) (by omega) hl2 (fun j v hj => by
      rw [← hu2, List.getElem?_take] at hj
      split at hj
      · simp only [World.cell?, hA2, ← Array.getElem?_toList]
        simpa using hj
      · cases hj) h1v (by rw [hl2, List.size_toArray, hAl]; omega)
    exact this
  rw [← hW1] at hcp1
  clear hA0 hA1 hA2 hW1 hb hcs hvb hus h1c h1v hfz hl1 hl2 h11 hAl hu1 hu2
  go_enter Try.func65, Try.ntmps65
  go_wp2_with (simp only [hov])
  go_region_law_o (refine step_copy_runI rfl _ _ 27 27 rfl _ _ (by simp [Act.eval, Act.put]) (by simp [Act.eval, Act.put]) (hcp1 _ _ _) ?_)
  go_wp2_with (at_builtin; refine wpList_copy_runI _ rfl _ _ 27 27 rfl _ _ rfl rfl (hcp2 _ _) ?_)
  go_ret
  exact ⟨rfl, rfl⟩
set_option maxHeartbeats 4000000 in
set_option maxRecDepth 100000 in
theorem ins112_grow (w : World) (b cap n i m vb vc : Nat) (cs us : Array Value) (eb eu : TypeId) (hi : i < n) (hm : 0 < m) (hnc : n ≤ cap) (hroom : cap < n + m) (hbig : (n + m) * 32 ≤ 140737488355328)
    (hb : w.heap[b]? = some (.cells cs eb (0, 0))) (hcs : cs.size = cap * 2) (hvb : w.heap[vb]? = some (.cells us eu (0, 0))) (hus : us.size = vc * 2) (hmv : m ≤ vc) (hne : vb ≠ b)
    (h1c : ∀ v ∈ cs.toList.take (n * 2), v.oneCell' = true) (h1v : ∀ v ∈ us.toList.take (m * 2), v.oneCell' = true) :
    Calls Try.prog 65 #[.slice (some ⟨b, 0, none⟩) n cap, .int .i64 i, .slice (some ⟨vb, 0, none⟩) m vc] w fun ex w' =>
      ∃ G CE, n + m ≤ G ∧ G ≤ maxLen ∧ CE.size = G * 2 ∧ CE.toList.take (i * 2) = cs.toList.take (i * 2) ∧ ex = .returned (.slice (some ⟨w.heap.size, 0, none⟩) (n + m) G) ∧
        w'.heap = (((w.drew.alloc (.cells CE 38)).setRow w.heap.size (setL CE.toList (i * 2) (us.toList.take (m * 2))).toArray).setRow w.heap.size (setL (setL CE.toList (i * 2) (us.toList.take (m * 2))) ((i + m) * 2) ((cs.toList.drop (i * 2)).take ((n - i) * 2))).toArray).heap ∧
        w'.os = w.os ∧ w'.tape = w.tape ∧ w'.output = w.output ∧ w.drawn ≤ w'.drawn := by
  have mixed := orders
  have hz1 : ¬ ((m : Int) = 0) := by omega
  have hz2 : ¬ ((i : Int) = (n : Int)) := by omega
  have hz3 : (cap : Int) < (n : Int) + (m : Int) := by omega
  have hsz : ∀ w, (Go.sizeOf 38).run Try.prog w = .ok 2 w := fun w => by
    have := run_siz' (P := Try.prog) (t := 38) (by rw [c38]; decide) w
    rwa [c38] at this
  obtain ⟨G, CE, hG1, hG2, hG3, hG4, hrz⟩ := run_appendZ (w := w) (kq := .i64) (s := i) (k := n + m - i) (cap := cap) u27 u3 k38 (by rw [c38]; decide) (by rw [b38]; decide) hb (by omega) (by rw [c38]; omega) (by omega) (by rw [b38]; omega)
  rw [c38] at hG3 hG4
  rw [show i + (n + m - i) = n + m by omega] at hG1 hrz
  rw [show ((n + m - i : Nat) : Int) = (n : Int) + (m : Int) - (i : Int) by omega] at hrz
  have hbw : b < w.heap.size := (Array.getElem?_eq_some_iff.1 hb).1
  have hvw : vb < w.heap.size := (Array.getElem?_eq_some_iff.1 hvb).1
  obtain ⟨nb, hnb⟩ : ∃ nb, w.heap.size = nb := ⟨_, rfl⟩
  obtain ⟨W1, hW1⟩ : ∃ W1, W1 = w.drew.alloc (.cells CE 38) := ⟨_, rfl⟩
  obtain ⟨u1, hu1⟩ : ∃ u1, (cs.toList.drop (i * 2)).take ((n - i) * 2) = u1 := ⟨_, rfl⟩
  obtain ⟨u2, hu2⟩ : ∃ u2, us.toList.take (m * 2) = u2 := ⟨_, rfl⟩
  have hl1 : u1.length = (n - i) * 2 := by rw [← hu1]; simp; omega
  have hl2 : u2.length = m * 2 := by rw [← hu2]; simp; omega
  have h11 : ∀ v ∈ u1, v.oneCell' = true := fun v hv => h1c v (by
    rw [← hu1, show (n - i) * 2 = n * 2 - i * 2 by omega, ← List.drop_take] at hv
    exact List.mem_of_mem_drop hv)
  rw [hu2] at h1v
  have hA0 : W1.heap[nb]? = some (.cells CE 38 (0, 0)) := by rw [hW1, ← hnb]; exact alloc_new w.drew _
  have hAb : W1.heap[b]? = some (.cells cs eb (0, 0)) := by rw [hW1, ← hb]; exact alloc_old w.drew _ hbw
  have hAv : W1.heap[vb]? = some (.cells us eu (0, 0)) := by rw [hW1, ← hvb]; exact alloc_old w.drew _ hvw
  obtain ⟨A, hA⟩ : ∃ A, setL CE.toList (i * 2) u2 = A := ⟨_, rfl⟩
  obtain ⟨B, hB⟩ : ∃ B, setL A ((i + m) * 2) u1 = B := ⟨_, rfl⟩
  have hAl : A.length = CE.size := by rw [← hA, setL_length (by rw [hl2, Array.length_toList]; omega), Array.length_toList]
  have hcpA : ∀ (W : World), W.heap = W1.heap → ∀ ty dc, (Builtin.copy_ #[27, 27] ty #[.slice (some ⟨nb, i * 2, none⟩) (n + m - i) dc, .slice (some ⟨vb, 0, none⟩) m vc]).run Try.prog W = .ok (goInt (m : Int)) (W.setRow nb A.toArray) := fun W hW ty dc => by
    rw [← hA]
    refine run_copyZ (sl := m) (dl := n + m - i) (m := m) (o := i * 2) (sb := vb) (so := 0) (us := u2) u27 hsz (by rw [hW]; exact hA0) (by omega) hl2 (fun j v hj => ?_) h1v (by rw [hl2]; omega)
    rw [← hu2, List.getElem?_take] at hj
    split at hj
    · simp only [World.cell?, hW, hAv, ← Array.getElem?_toList]
      simpa using hj
    · cases hj
  have hcpB : ∀ (W : World), W.heap = (W1.setRow nb A.toArray).heap → ∀ ty dc sc, (Builtin.copy_ #[27, 27] ty #[.slice (some ⟨nb, (i + m) * 2, none⟩) (n + m - (i + m)) dc, .slice (some ⟨b, i * 2, none⟩) (n - i) sc]).run Try.prog W = .ok (goInt ((n - i : Nat) : Int)) (W.setRow nb B.toArray) := fun W hW ty dc sc => by
    rw [← hB]
    have hC := run_copyZ (P := Try.prog) (w := W) (t := 27) (ty := ty) (dc := dc) (sc := sc) (sl := n - i) (dl := n + m - (i + m)) (m := n - i) (o := (i + m) * 2) (sb := b) (so := i * 2) (us := u1) u27 hsz (b := nb) (cs := A.toArray) (eb := 38) (by rw [hW]; exact setRow_heap W1 nb CE _ 38 (0, 0) hA0) (by omega) hl1 (fun j v hj => by
      rw [← hu1, List.getElem?_take] at hj
      split at hj
      · rw [List.getElem?_drop] at hj
        simp only [World.cell?, hW]
        rw [setRow_other _ _ _ _ (by omega), hAb]
        simp only [← Array.getElem?_toList]
        simpa using hj
      · cases hj) h11 (by rw [hl1, List.size_toArray, hAl]; omega)
    exact hC
  rw [hnb, ← hW1] at hrz
  rw [hu1, hu2]
  have hfin : ∀ (ex : Ending) (w' : World), (ex = .returned (.slice (some ⟨nb, 0, none⟩) (n + m) G) ∧ w'.heap = ((W1.setRow nb A.toArray).setRow nb B.toArray).heap ∧ w'.os = w.os ∧ w'.tape = w.tape ∧ w'.output = w.output ∧ w.drawn ≤ w'.drawn) → ∃ G CE, n + m ≤ G ∧ G ≤ maxLen ∧ CE.size = G * 2 ∧ CE.toList.take (i * 2) = cs.toList.take (i * 2) ∧ ex = .returned (.slice (some ⟨w.heap.size, 0, none⟩) (n + m) G) ∧
        w'.heap = (((w.drew.alloc (.cells CE 38)).setRow w.heap.size (setL CE.toList (i * 2) u2).toArray).setRow w.heap.size (setL (setL CE.toList (i * 2) u2) ((i + m) * 2) u1).toArray).heap ∧
        w'.os = w.os ∧ w'.tape = w.tape ∧ w'.output = w.output ∧ w.drawn ≤ w'.drawn := fun ex w' hp => ⟨G, CE, hG1, hG2, hG3, hG4, by rw [hnb]; exact hp.1, by rw [hnb, hA, hB, ← hW1]; exact hp.2.1, hp.2.2⟩
  refine Calls.mono ?_ hfin
  have hd0 : w.os = W1.os ∧ w.tape = W1.tape ∧ w.output = W1.output ∧ w.drawn + 1 = W1.drawn := by rw [hW1]; exact ⟨rfl, rfl, rfl, rfl⟩
  obtain ⟨hd1, hd2, hd3, hd4⟩ := hd0
  rw [hd1, hd2, hd3]
  have hd5 : w.drawn ≤ W1.drawn := by omega
  have hGi : ¬ (G = i) := by omega
  have hGim : ¬ (G = i + m) := by omega
  have hci : ¬ (cap = i) := by omega
  have hGn : n + m ≤ G := hG1
  have hG63 : G ≤ 9223372036854775807 := by simp only [maxLen] at hG2; omega
  have hw1 : IntKind.i64.wrap ((i : Int) + (m : Int)) = (i : Int) + (m : Int) := by rw [IntKind.wrap_i64]; omega
  have hb1 : (0 : Int) ≤ (i : Int) + (m : Int) := by omega
  have hin : i ≤ n := by omega
  have htn : ((i : Int) + (m : Int)).toNat = i + m := by omega
  have hb3 : (i : Int) ≤ (n : Int) := by omega
  have hb5 : (i : Int) ≤ (n : Int) + (m : Int) := by omega
  clear hfin hG1 hG2 hG3 hG4 hnb hd1 hd2 hd3 hd4 hA0 hAb hAv hAl hW1 hb hcs hvb hus h1c h1v hl1 hl2 h11 hu1 hu2 hA hB hbig hsz
  go_enter Try.func65, Try.ntmps65
  go_wp2_with (first
    | (at_builtin; refine Lib.wpList_append_run _ rfl _ _ _ _ rfl _ _ rfl rfl _ _ (hrz _) ?_)
    | (at_builtin; refine wpList_copy_runI _ rfl _ _ 27 27 rfl _ _ rfl rfl (hcpA _ rfl _ _) ?_)
    | (at_builtin; refine wpList_copy_runI _ rfl _ _ 27 27 rfl _ _ rfl rfl (hcpB _ rfl _ _ _) ?_))
  go_region_law_o (refine step_copy_runI rfl _ _ 27 27 rfl (.slice (some ⟨nb, (i + m) * 2, none⟩) (n + m - (i + m)) (G - (i + m))) (.slice (some ⟨b, i * 2, none⟩) (n - i) (cap - i)) (by simp [Act.eval, Act.put]) (by simp [Act.eval, Act.put]) (hcpB (W1.setRow nb A.toArray).drew rfl _ _ _) ?_)
  go_wp2
  go_ret
  exact ⟨rfl, rfl, rfl, rfl, rfl, Nat.le_succ_of_le hd5⟩
theorem insAt112 : InsAt Try.prog 65 2 := by
  intro w b cap n i vb vc cs eb us eu hi hnc hcm hn hb hcs hvb hus hv1 hne h1c h1v
  by_cases hroom : n + 1 ≤ cap
  · refine (ins112_room w b cap n i 1 vb vc cs us eb eu hi (by omega) hroom (by simp only [maxLen] at hcm; omega) hb hcs hvb hus hv1 hne h1c (by simpa using h1v)).mono fun ex w' hp => ?_
    obtain ⟨rfl, rfl⟩ := hp
    exact insPost_room hi hroom hcm hb hcs (by omega)
  · refine (ins112_grow w b cap n i 1 vb vc cs us eb eu hi (by omega) hnc (by omega) (by omega) hb hcs hvb hus hv1 hne h1c (by simpa using h1v)).mono fun ex w' hp => ?_
    obtain ⟨G, CE, hG1, hG2, hG3, hG4, rfl, hh, ho, ht, hp, hd⟩ := hp
    exact insPost_grow hi hG1 hG2 hG3 (by omega) hG4 (by omega) hh ho ht hp hd
end Go.Ai

set_option linter.unusedVariables false
set_option linter.unusedSimpArgs false
set_option maxHeartbeats 4000000
set_option maxRecDepth 100000
namespace Go.Ai
open Go.Proofs
theorem stepM_mem {w y : Mb} {s : List Mb × Bool} {b : Mb} (h : b ∈ (stepM w s y).1) : b ∈ s.1 ∨ b = w ∨ b = y := by
  unfold stepM at h
  by_cases h1 : s.2 = false ∧ w.v ≤ y.v <;> by_cases h2 : w.v = y.v <;> simp [h1, h2] at h <;> grind
theorem setF_mem {w b : Mb} : ∀ {L : List Mb} {s : List Mb × Bool}, b ∈ (L.foldl (stepM w) s).1 → b ∈ s.1 ∨ b = w ∨ b ∈ L
  | [], s, h => .inl h
  | y :: l, s, h => by
    rw [List.foldl_cons] at h
    rcases setF_mem h with h1 | h1 | h1
    · rcases stepM_mem h1 with h2 | h2 | h2
      · exact .inl h2
      · exact .inr (.inl h2)
      · exact .inr (.inr (h2 ▸ List.mem_cons_self ..))
    · exact .inr (.inl h1)
    · exact .inr (.inr (List.mem_cons_of_mem _ h1))
theorem setMb_mem {w b : Mb} {L : List Mb} (h : b ∈ setMbL w L) : b = w ∨ b ∈ L := by
  unfold setMbL at h
  have key : b ∈ (setF w L).1 → b = w ∨ b ∈ L := fun h1 => by
    rcases setF_mem (w := w) (L := L) (s := ([], false)) h1 with h2 | h2 | h2
    · cases h2
    · exact .inl h2
    · exact .inr h2
  by_cases hb : (setF w L).2 = true
  · rw [if_pos hb] at h; exact key h
  · rw [if_neg hb] at h
    rcases List.mem_append.1 h with h1 | h1
    · exact key h1
    · exact .inl (by simpa using h1)
/-- Do's answer is not much longer. -/
theorem refDo_ok {p : Pv} {x : Cm} (h1 : p.ks.length ≤ 1000) (h2 : p.ms.length ≤ 999) (h3 : p.cs.length ≤ 999) (h4 : p.bs.length ≤ 999) (h5 : ∀ b ∈ p.bs, b.l.length ≤ 1000) (hw : x.w.l.length ≤ 1000) : okL (refDo p x).1 := by
  have h0 : okL p := ⟨h1, by omega, by omega, by omega, h5⟩
  unfold refDo
  split
  · exact h0
  split
  · unfold refMap
    dsimp only
    split
    · exact ⟨h1, by rw [insL_len]; omega, by dsimp only; omega, by dsimp only; omega, h5⟩
    · exact h0
  split
  · unfold refMapD
    dsimp only
    split
    · exact ⟨h1, Nat.le_trans (List.length_filter_le _ _) (by omega), by dsimp only; omega, by dsimp only; omega, h5⟩
    · exact h0
  split
  · unfold refCar
    dsimp only
    split
    · exact ⟨h1, by dsimp only; omega, by rw [insL_len]; omega, by dsimp only; omega, h5⟩
    · exact h0
  split
  · unfold refCarD
    dsimp only
    split
    · exact ⟨h1, by dsimp only; omega, Nat.le_trans (List.length_filter_le _ _) (by omega), by dsimp only; omega, h5⟩
    · exact h0
  split
  · unfold refMem
    dsimp only
    split
    · refine ⟨h1, by dsimp only; omega, by dsimp only; omega, ?_, ?_⟩
      · dsimp only
        rw [setMb_len]
        have := List.length_filter_le (fun y : Mb => y.v != x.w.v) p.bs
        omega
      · intro b hb
        rcases setMb_mem hb with rfl | hb
        · exact hw
        · exact h5 b hb
    · exact h0
  split
  · unfold refMemD
    dsimp only
    split
    · exact ⟨h1, by dsimp only; omega, by dsimp only; omega, Nat.le_trans (List.length_filter_le _ _) (by omega), fun b hb => h5 b (List.mem_filter.1 hb).1⟩
    · exact h0
  · exact h0
end Go.Ai

set_option linter.unusedVariables false
set_option linter.unusedSimpArgs false
set_option maxHeartbeats 4000000
set_option maxRecDepth 100000
namespace Go.Ai
open Go.Proofs
/-- Do answers as the reference's, if put and drop give these rows. -/
theorem pdo_ref (p : Pv) (hp : okL p) (ho : isB p.own.a) (x : Cm) (hw : x.w.l.length ≤ 1000)
    (h35 : checkE p = 0 → addMapE p x.m = 0 → AC Try.prog 10 [msV p.ms, mpV x.m, .clo (.func 11) [] []] [] (eqR (msV (insL beforeB x.m p.ms))))
    (h38 : checkE p = 0 → x.m ∈ p.ms → AC Try.prog 13 [msV p.ms, mpV x.m, .clo (.func 11) [] []] [] (eqR (msV (p.ms.filter (fun y : Mp => !decide (y = x.m))))))
    (h40 : checkE p = 0 → addCarryE p x.c = 0 → AC Try.prog 15 [csV p.cs, crV x.c, .clo (.func 16) [] []] [] (eqR (csV (insL ltCr x.c p.cs))))
    (h43 : checkE p = 0 → x.c ∈ p.cs → AC Try.prog 19 [csV p.cs, crV x.c, .clo (.func 16) [] []] [] (eqR (csV (p.cs.filter (fun y : Cr => !decide (y = x.c))))))
    (h45 : checkE p = 0 → setMemberE p x.w = 0 → AC Try.prog 21 [bsV p.bs, mbV x.w, .clo (.func 23) [] []] [] (eqR (bsV (setMbL x.w p.bs))))
    (h49 : checkE p = 0 → hasM p.bs x.w.v = true → AC Try.prog 26 [bsV p.bs, mbV x.w, .clo (.func 23) [] []] [] (eqR (bsV (p.bs.filter (fun y : Mb => y.v != x.w.v))))) :
    AC Try.prog 5 [pvV p, cmV x] [] (eqR (.tuple [pvV (refDo p x).1, vI (refDo p x).2])) := by
  have h := pdo p hp ho x hw _ _ _ _ _ _ h35 h38 h40 h43 h45 h49
  rw [doL_ref] at h
  exact h
/-- What Check says of the rows. -/
theorem rows_ok {p : Pv} (h : checkE p = 0) : okB p = true ∧ risB beforeB p.ms = true ∧ risB ltCr p.cs = true ∧ risB ltMb p.bs = true := by
  have hok : okB p = true := by
    unfold checkE at h
    cases ho : okB p with
    | true => rfl
    | false => rw [ho] at h; exact absurd h (by decide)
  refine ⟨hok, ?_⟩
  unfold okB at hok
  simp only [Bool.and_eq_true] at hok
  have h2 := hok.2.1
  unfold okR at h2
  simp only [Bool.and_eq_true] at h2
  exact ⟨h2.2.2, h2.2.1, h2.1⟩
/-- Where put lays a map: the cut of the row, and no map of that key is there. -/
theorem put_ms {p : Pv} (h : checkE p = 0) {m : Mp} (he : addMapE p m = 0) : ∃ n0, n0 ≤ p.ms.length ∧ insL beforeB m p.ms = p.ms.take n0 ++ m :: p.ms.drop n0 ∧ AC Try.prog 52 [msV p.ms, mpV m, .clo (.func 11) [] []] [] (eqR (.tuple [vI n0, vB false])) := by
  obtain ⟨hok, hr, _, _⟩ := rows_ok h
  have hl : p.ms.length ≤ 64 := by
    unfold okB at hok
    simp only [Bool.and_eq_true] at hok
    have h1 := hok.1
    unfold okA at h1
    simp only [Bool.and_eq_true, decide_eq_true_eq] at h1
    have := h1.2.2.1
    omega
  have hno : ∀ y ∈ p.ms, ¬ cmpMp y m = 0 := by
    intro y hy hc
    unfold addMapE aMap at he
    have : (p.ms.any fun x => x.p == m.p && (x.v == m.v || x.s == m.s)) = true := by
      rw [List.any_eq_true]
      refine ⟨y, hy, ?_⟩
      unfold cmpMp at hc
      have h1 : cmpZ y.p m.p = 0 := by
        by_cases hz : cmpZ y.p m.p = 0
        · exact hz
        · rw [if_pos hz] at hc; exact hc
      rw [if_neg (by rw [h1]; simp)] at hc
      have h2 := (cmpZ_zero _ _).1 h1
      have h3 := (cmpZ_zero _ _).1 hc
      simp [h2, h3]
    rw [this] at he
    (repeat' split at he) <;> simp_all
  have key : ∀ a b : Mp, beforeB a b = true ↔ cmpMp a b < 0 := by
    intro a b
    unfold beforeB cmpMp cmpZ
    simp only [Bool.or_eq_true, Bool.and_eq_true, decide_eq_true_eq, beq_iff_eq]
    (repeat' split) <;> omega
  have anti : ∀ a b : Mp, ¬ cmpMp a b < 0 → ¬ cmpMp a b = 0 → cmpMp b a < 0 := by
    intro a b h1 h2
    unfold cmpMp cmpZ at *
    (repeat' split at h1) <;> (repeat' split at h2) <;> (repeat' split) <;> omega
  obtain ⟨n0, hn, hlo, hhi⟩ := cut_of (lt := beforeB) (c := fun y => cmpMp y m) (fun a b hab hb => (key a m).1 (before_tr a b m hab ((key b m).2 hb))) hr
  refine ⟨n0, hn, insL_at hn ?_ ?_, pc99 m p.ms (by omega) n0 hn hlo hhi false ?_⟩
  · intro k y hy hk
    have h1 := hlo k y hy hk
    cases hb : beforeB m y with
    | false => rfl
    | true =>
      have h2 := before_tr _ _ _ hb ((key y m).2 h1)
      have h3 := (key m m).1 h2
      rw [cmpMp_self] at h3
      exact absurd h3 (by decide)
  · intro y hy
    exact (key m y).2 (anti y m (hhi n0 y hy (Nat.le_refl _)) (hno y (List.mem_of_getElem? hy)))
  · cases hy : p.ms[n0]? with
    | none => rfl
    | some y =>
      have h1 := hno y (List.mem_of_getElem? hy)
      simp [h1]
end Go.Ai

set_option linter.unusedVariables false
set_option linter.unusedSimpArgs false
set_option maxHeartbeats 4000000
set_option maxRecDepth 100000
namespace Go.Ai
open Go.Proofs
theorem cmpZ_neg (a b : Int) : cmpZ a b < 0 ↔ a < b := by unfold cmpZ; (repeat' split) <;> omega
theorem rows_len {p : Pv} (h : checkE p = 0) : p.ms.length ≤ 64 ∧ p.cs.length ≤ 64 ∧ p.bs.length ≤ 64 := by
  have hok := (rows_ok h).1
  unfold okB at hok
  simp only [Bool.and_eq_true] at hok
  have h1 := hok.1
  unfold okA at h1
  simp only [Bool.and_eq_true, decide_eq_true_eq] at h1
  have h2 := h1.2.2
  omega
/-- Where put lays a carry. -/
theorem put_cs {p : Pv} (h : checkE p = 0) {m : Cr} (he : addCarryE p m = 0) : ∃ n0, n0 ≤ p.cs.length ∧ insL ltCr m p.cs = p.cs.take n0 ++ m :: p.cs.drop n0 ∧ AC Try.prog 59 [csV p.cs, crV m, .clo (.func 16) [] []] [] (eqR (.tuple [vI n0, vB false])) := by
  obtain ⟨hok, _, hr, _⟩ := rows_ok h
  have hl := (rows_len h).2.1
  have hno : ∀ y ∈ p.cs, ¬ y.s = m.s := by
    intro y hy hc
    have : hasC p.cs m.s = true := by
      unfold hasC
      rw [List.any_eq_true]
      exact ⟨y, hy, by simp [hc]⟩
    unfold addCarryE aCar at he
    rw [this] at he
    (repeat' split at he) <;> simp_all
  have key : ∀ a b : Cr, ltCr a b = true ↔ a.s < b.s := fun a b => by unfold ltCr; exact decide_eq_true_iff
  obtain ⟨n0, hn, hlo, hhi⟩ := cut_of (lt := ltCr) (c := fun y => cmpZ y.s m.s) (fun a b hab hb => (cmpZ_neg _ _).2 (Int.lt_trans ((key a b).1 hab) ((cmpZ_neg _ _).1 hb))) hr
  refine ⟨n0, hn, insL_at hn ?_ ?_, pc106 m p.cs (by omega) n0 hn hlo hhi false ?_⟩
  · intro k y hy hk
    have h1 := (cmpZ_neg _ _).1 (hlo k y hy hk)
    cases hb : ltCr m y with
    | false => rfl
    | true => have h2 := (key m y).1 hb; omega
  · intro y hy
    have h1 : ¬ y.s < m.s := fun hh => hhi n0 y hy (Nat.le_refl _) ((cmpZ_neg _ _).2 hh)
    have h2 := hno y (List.mem_of_getElem? hy)
    exact (key m y).2 (by omega)
  · cases hy : p.cs[n0]? with
    | none => rfl
    | some y =>
      have h1 : ¬ cmpZ y.s m.s = 0 := fun hh => hno y (List.mem_of_getElem? hy) ((cmpZ_zero _ _).1 hh)
      simp [h1]
/-- Where put lays a member: over the one that is there, or at the cut. -/
theorem put_bs {p : Pv} (h : checkE p = 0) (m : Mb) : (∃ n0 y, p.bs[n0]? = some y ∧ setMbL m p.bs = p.bs.take n0 ++ m :: p.bs.drop (n0 + 1) ∧ AC Try.prog 64 [bsV p.bs, mbV m, .clo (.func 23) [] []] [] (eqR (.tuple [vI n0, vB true]))) ∨ (∃ n0, n0 ≤ p.bs.length ∧ setMbL m p.bs = p.bs.take n0 ++ m :: p.bs.drop n0 ∧ AC Try.prog 64 [bsV p.bs, mbV m, .clo (.func 23) [] []] [] (eqR (.tuple [vI n0, vB false]))) := by
  obtain ⟨hok, _, _, hr⟩ := rows_ok h
  have hl := (rows_len h).2.2
  have key : ∀ a b : Mb, ltMb a b = true ↔ a.v < b.v := fun a b => by unfold ltMb; exact decide_eq_true_iff
  obtain ⟨n0, hn, hlo, hhi⟩ := cut_of (lt := ltMb) (c := fun y => cmpZ y.v m.v) (fun a b hab hb => (cmpZ_neg _ _).2 (Int.lt_trans ((key a b).1 hab) ((cmpZ_neg _ _).1 hb))) hr
  have lo : ∀ (k : Nat) (z : Mb), p.bs[k]? = some z → k < n0 → z.v < m.v := fun k z hz hk => (cmpZ_neg _ _).1 (hlo k z hz hk)
  have hi : ∀ (k : Nat) (z : Mb), p.bs[k]? = some z → n0 ≤ k → ¬ z.v < m.v := fun k z hz hk hh => hhi k z hz hk ((cmpZ_neg _ _).2 hh)
  by_cases hf : ∃ y, p.bs[n0]? = some y ∧ m.v = y.v
  · obtain ⟨y, hy, hv⟩ := hf
    refine .inl ⟨n0, y, hy, setMb_found hr lo hy hv, pc111 m p.bs (by omega) n0 hn hlo hhi true ?_⟩
    rw [hy]
    have : cmpZ y.v m.v = 0 := (cmpZ_zero _ _).2 hv.symm
    simp [this]
  · have hno : ∀ z ∈ p.bs, ¬ m.v = z.v := by
      intro z hz hv
      obtain ⟨k, hk⟩ := List.getElem?_of_mem hz
      by_cases hlt : k < n0
      · have := lo k z hk hlt; omega
      · have hn0 : n0 < p.bs.length := by have := (List.getElem?_eq_some_iff.1 hk).1; omega
        have hg := List.getElem?_eq_getElem hn0
        have h1 := hi n0 _ hg (Nat.le_refl _)
        have h2 : ¬ m.v = p.bs[n0].v := fun hh => hf ⟨_, hg, hh⟩
        have hzin : z ∈ p.bs := hz
        rcases one_of (lt := ltMb) (fun a b c ha hb => (key a c).2 (Int.lt_trans ((key a b).1 ha) ((key b c).1 hb))) hr p.bs[n0] (List.getElem_mem hn0) z hz with h3 | h3 | h3
        · rw [h3] at h2; exact h2 hv
        · have := (key _ _).1 h3; omega
        · have h4 := (key _ _).1 h3
          -- z stands behind n0 and is smaller: against the order
          have hle : n0 ≤ k := by omega
          have mono : ∀ d : Nat, ∀ w : Mb, p.bs[n0 + d]? = some w → p.bs[n0].v ≤ w.v := by
            intro d
            induction d with
            | zero => intro w hw; rw [Nat.add_zero, hg] at hw; cases hw; exact Int.le_refl _
            | succ d ih =>
              intro w hw
              have hd : n0 + d < p.bs.length := by have := (List.getElem?_eq_some_iff.1 hw).1; omega
              have hgd := List.getElem?_eq_getElem hd
              have h5 := ih _ hgd
              have h6 := (key _ _).1 ((risB_iff ltMb p.bs).1 hr (n0 + d) _ w hgd hw)
              omega
          have h7 := mono (k - n0) z (by rw [show n0 + (k - n0) = k from by omega]; exact hk)
          omega
    refine .inr ⟨n0, hn, setMb_new lo hi hno, pc111 m p.bs (by omega) n0 hn hlo hhi false ?_⟩
    cases hy : p.bs[n0]? with
    | none => rfl
    | some y =>
      have h1 : ¬ cmpZ y.v m.v = 0 := fun hh => hf ⟨y, hy, ((cmpZ_zero _ _).1 hh).symm⟩
      simp [h1]
end Go.Ai
