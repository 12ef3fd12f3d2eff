/- Contracts of functions of the loaded program: called with data in the ranges that each names, it returns this value and writes to no old memory. -/
import Derived.Test.YtbiolkmddpkheaaGreatPrvK
set_option linter.unusedVariables false
set_option linter.unusedSimpArgs false
set_option maxHeartbeats 8000000
set_option maxRecDepth 100000
namespace Go.Ai
open Go.Proofs
attribute [local go_sem] QH QR V.noimm V.noimms frzZs frzZ frzA frzV frzVs frzBox boxLen Option.isSome cond_true cond_false aopD calW flatV stepX amap stepY alookup afind aupdate adelete amlen arange ameq mapOf akeq pl V.mapT V.mapTs Option.bind stepK runK guardD stepE runD callD compact selB callK evS ofVal ofVals scalar aop ares mkRes V.rn V.rns V.cells? cellsAt Go.Ai.part aload astore setL V.atom abin aun intBin shiftBin aconv fieldOf aindexAddr aindex bound? aslice aarr abuild afill alen nilP nilS nilF aeq eqCells eqCell Go.Ai.known strBin abuiltin aappend abuildSlice arowsFill amakeSlice acopy aclear minmax rowsOf numsT notStr isIntD isByte V.pz V.pzs T.toV frz1 frz scalT scalTs chunkT List.range List.range.loop ite_true ite_false if_true if_false ne_eq implies_true forall_const eq_self IntKind.bits kPostKF_ret kPostKF_normal kPostX_ret kPostX_normal bsl nil2K nil2 kPostFW_ret kPostFW_normal kPostKM_ret kPostKM_normal kPostXK_ret kPostXK_normal
def refMap (p : Pv) (m : Mp) : Pv × Int := (if refMapE p m = 0 then { p with ms := insL beforeB m p.ms } else p, refMapE p m)
def refMapD (p : Pv) (m : Mp) : Pv × Int := (if delE51 p m = 0 then { p with ms := p.ms.filter (fun y : Mp => !decide (y = m)) } else p, delE51 p m)
def refCar (p : Pv) (m : Cr) : Pv × Int := (if refCarE p m = 0 then { p with cs := insL ltCr m p.cs } else p, refCarE p m)
def refCarD (p : Pv) (m : Cr) : Pv × Int := (if delE53 p m = 0 then { p with cs := p.cs.filter (fun y : Cr => !decide (y = m)) } else p, delE53 p m)
def refMem (p : Pv) (m : Mb) : Pv × Int := (if refMemE p m = 0 then { p with bs := setMbL m p.bs } else p, refMemE p m)
def refMemD (p : Pv) (m : Int) : Pv × Int := (if delE55 p m = 0 then { p with bs := p.bs.filter (fun y : Mb => y.v != m) } else p, delE55 p m)
/-- What the reference's Do answers. -/
def refDo (p : Pv) (x : Cm) : Pv × Int :=
  if checkE p != 0 then (p, checkE p) else if x.k == 1 then refMap p x.m else if x.k == 2 then refMapD p x.m else if x.k == 3 then refCar p x.c else if x.k == 4 then refCarD p x.c else if x.k == 5 then refMem p x.w else if x.k == 6 then refMemD p x.w.v else (p, 1)
theorem pc13 (p : Pv) (hp : okL p) (ho : isB p.own.a) (x : Cm) (hw : x.w.l.length ≤ 1000) : AC Tryz.prog 13 [pvV p, cmV x] [] (eqR (.tuple [pvV (refDo p x).1, vI (refDo p x).2])) := by
  have n31 := pc31 p hp ho
  have n50 : AC Tryz.prog 50 [pvV p, mpV x.m] [] (eqR (.tuple [pvV (refMap p x.m).1, vI (refMap p x.m).2])) := pc50 p hp x.m
  generalize h50 : refMap p x.m = r50 at n50
  have n51 : AC Tryz.prog 51 [pvV p, mpV x.m] [] (eqR (.tuple [pvV (refMapD p x.m).1, vI (refMapD p x.m).2])) := pc51 p hp x.m
  generalize h51 : refMapD p x.m = r51 at n51
  have n52 : AC Tryz.prog 52 [pvV p, crV x.c] [] (eqR (.tuple [pvV (refCar p x.c).1, vI (refCar p x.c).2])) := pc52 p hp x.c
  generalize h52 : refCar p x.c = r52 at n52
  have n53 : AC Tryz.prog 53 [pvV p, crV x.c] [] (eqR (.tuple [pvV (refCarD p x.c).1, vI (refCarD p x.c).2])) := pc53 p hp x.c
  generalize h53 : refCarD p x.c = r53 at n53
  have n54 : AC Tryz.prog 54 [pvV p, mbV x.w] [] (eqR (.tuple [pvV (refMem p x.w).1, vI (refMem p x.w).2])) := pc54 p hp x.w hw
  generalize h54 : refMem p x.w = r54 at n54
  have n55 : AC Tryz.prog 55 [pvV p, vI x.w.v] [] (eqR (.tuple [pvV (refMemD p x.w.v).1, vI (refMemD p x.w.v).2])) := pc55 p hp x.w.v
  generalize h55 : refMemD p x.w.v = r55 at n55
  have hD : refDo p x = if checkE p != 0 then (p, checkE p) else if x.k == 1 then r50 else if x.k == 2 then r51 else if x.k == 3 then r52 else if x.k == 4 then r53 else if x.k == 5 then r54 else if x.k == 6 then r55 else (p, 1) := by
    unfold refDo; rw [h50, h51, h52, h53, h54, h55]
  generalize refDo p x = D at hD
  generalize checkE p = e at n31 hD
  refine AC_frozen orders Tryz.func13 rfl (by kernel_rfl) (by kernel_rfl) Tryz.ntmps13 (by simp) ?_
  unfold Tryz.f13
  cases he : (e != 0) with
  | true =>
    rw [he, if_pos rfl] at hD
    subst hD
    (have hwq := trivial; repeat' (first | simp (maxSteps:=9999999)-implicitDefEqProofs only [go_sem,simprocAttr,hwq,FT3,FT4,FT5,FT23,FT24,FT25,FT26,FT27,FT29,FT30,FT32,FT34,FT35,FT37,FT39,FT40,FT41,FT43,FT46,FT59,List.length_map,List.getElem?_map,Int.natCast_nonneg,List.length_append,List.map_append,he] | (refine condK_split ?_ ?_ <;> intro hwq) | (refine two_split ?_ ?_) | (refine guardK_split ?_ ?_ <;> intro hwq) | (refine guardE_split ?_ ?_ <;> intro hwq) | (refine awp_drawW [] (by decide +kernel) ?_; have hwq := trivial) | (refine call_plain n31 rfl rfl ?_; have hwq := trivial) | fail))
  | false =>
    rw [he, if_neg (by simp)] at hD
    cases q1 : (x.k == 1) with
    | true =>
      rw [q1, if_pos rfl] at hD
      subst hD
      (have hwq := trivial; repeat' (first | simp (maxSteps:=9999999)-implicitDefEqProofs only [go_sem,simprocAttr,hwq,FT3,FT4,FT5,FT23,FT24,FT25,FT26,FT27,FT29,FT30,FT32,FT34,FT35,FT37,FT39,FT40,FT41,FT43,FT46,FT59,List.length_map,List.getElem?_map,Int.natCast_nonneg,List.length_append,List.map_append,he,q1] | (refine condK_split ?_ ?_ <;> intro hwq) | (refine two_split ?_ ?_) | (refine guardK_split ?_ ?_ <;> intro hwq) | (refine guardE_split ?_ ?_ <;> intro hwq) | (refine awp_drawW [] (by decide +kernel) ?_; have hwq := trivial) | (refine call_plain n31 rfl rfl ?_; have hwq := trivial) | (refine call_plain n50 rfl rfl ?_; have hwq := trivial) | fail))
    | false =>
      rw [q1, if_neg (by simp)] at hD
      cases q2 : (x.k == 2) with
      | true =>
        rw [q2, if_pos rfl] at hD
        subst hD
        (have hwq := trivial; repeat' (first | simp (maxSteps:=9999999)-implicitDefEqProofs only [go_sem,simprocAttr,hwq,FT3,FT4,FT5,FT23,FT24,FT25,FT26,FT27,FT29,FT30,FT32,FT34,FT35,FT37,FT39,FT40,FT41,FT43,FT46,FT59,List.length_map,List.getElem?_map,Int.natCast_nonneg,List.length_append,List.map_append,he,q1,q2] | (refine condK_split ?_ ?_ <;> intro hwq) | (refine two_split ?_ ?_) | (refine guardK_split ?_ ?_ <;> intro hwq) | (refine guardE_split ?_ ?_ <;> intro hwq) | (refine awp_drawW [] (by decide +kernel) ?_; have hwq := trivial) | (refine call_plain n31 rfl rfl ?_; have hwq := trivial) | (refine call_plain n51 rfl rfl ?_; have hwq := trivial) | fail))
      | false =>
        rw [q2, if_neg (by simp)] at hD
        cases q3 : (x.k == 3) with
        | true =>
          rw [q3, if_pos rfl] at hD
          subst hD
          (have hwq := trivial; repeat' (first | simp (maxSteps:=9999999)-implicitDefEqProofs only [go_sem,simprocAttr,hwq,FT3,FT4,FT5,FT23,FT24,FT25,FT26,FT27,FT29,FT30,FT32,FT34,FT35,FT37,FT39,FT40,FT41,FT43,FT46,FT59,List.length_map,List.getElem?_map,Int.natCast_nonneg,List.length_append,List.map_append,he,q1,q2,q3] | (refine condK_split ?_ ?_ <;> intro hwq) | (refine two_split ?_ ?_) | (refine guardK_split ?_ ?_ <;> intro hwq) | (refine guardE_split ?_ ?_ <;> intro hwq) | (refine awp_drawW [] (by decide +kernel) ?_; have hwq := trivial) | (refine call_plain n31 rfl rfl ?_; have hwq := trivial) | (refine call_plain n52 rfl rfl ?_; have hwq := trivial) | fail))
        | false =>
          rw [q3, if_neg (by simp)] at hD
          cases q4 : (x.k == 4) with
          | true =>
            rw [q4, if_pos rfl] at hD
            subst hD
            (have hwq := trivial; repeat' (first | simp (maxSteps:=9999999)-implicitDefEqProofs only [go_sem,simprocAttr,hwq,FT3,FT4,FT5,FT23,FT24,FT25,FT26,FT27,FT29,FT30,FT32,FT34,FT35,FT37,FT39,FT40,FT41,FT43,FT46,FT59,List.length_map,List.getElem?_map,Int.natCast_nonneg,List.length_append,List.map_append,he,q1,q2,q3,q4] | (refine condK_split ?_ ?_ <;> intro hwq) | (refine two_split ?_ ?_) | (refine guardK_split ?_ ?_ <;> intro hwq) | (refine guardE_split ?_ ?_ <;> intro hwq) | (refine awp_drawW [] (by decide +kernel) ?_; have hwq := trivial) | (refine call_plain n31 rfl rfl ?_; have hwq := trivial) | (refine call_plain n53 rfl rfl ?_; have hwq := trivial) | fail))
          | false =>
            rw [q4, if_neg (by simp)] at hD
            cases q5 : (x.k == 5) with
            | true =>
              rw [q5, if_pos rfl] at hD
              subst hD
              (have hwq := trivial; repeat' (first | simp (maxSteps:=9999999)-implicitDefEqProofs only [go_sem,simprocAttr,hwq,FT3,FT4,FT5,FT23,FT24,FT25,FT26,FT27,FT29,FT30,FT32,FT34,FT35,FT37,FT39,FT40,FT41,FT43,FT46,FT59,List.length_map,List.getElem?_map,Int.natCast_nonneg,List.length_append,List.map_append,he,q1,q2,q3,q4,q5] | (refine condK_split ?_ ?_ <;> intro hwq) | (refine two_split ?_ ?_) | (refine guardK_split ?_ ?_ <;> intro hwq) | (refine guardE_split ?_ ?_ <;> intro hwq) | (refine awp_drawW [] (by decide +kernel) ?_; have hwq := trivial) | (refine call_plain n31 rfl rfl ?_; have hwq := trivial) | (refine call_plain n54 rfl rfl ?_; have hwq := trivial) | fail))
            | false =>
              rw [q5, if_neg (by simp)] at hD
              cases q6 : (x.k == 6) with
              | true =>
                rw [q6, if_pos rfl] at hD
                subst hD
                (have hwq := trivial; repeat' (first | simp (maxSteps:=9999999)-implicitDefEqProofs only [go_sem,simprocAttr,hwq,FT3,FT4,FT5,FT23,FT24,FT25,FT26,FT27,FT29,FT30,FT32,FT34,FT35,FT37,FT39,FT40,FT41,FT43,FT46,FT59,List.length_map,List.getElem?_map,Int.natCast_nonneg,List.length_append,List.map_append,he,q1,q2,q3,q4,q5,q6] | (refine condK_split ?_ ?_ <;> intro hwq) | (refine two_split ?_ ?_) | (refine guardK_split ?_ ?_ <;> intro hwq) | (refine guardE_split ?_ ?_ <;> intro hwq) | (refine awp_drawW [] (by decide +kernel) ?_; have hwq := trivial) | (refine call_plain n31 rfl rfl ?_; have hwq := trivial) | (refine call_plain n55 rfl rfl ?_; have hwq := trivial) | fail))
              | false =>
                rw [q6, if_neg (by simp)] at hD
                subst hD
                (have hwq := trivial; repeat' (first | simp (maxSteps:=9999999)-implicitDefEqProofs only [go_sem,simprocAttr,hwq,FT3,FT4,FT5,FT23,FT24,FT25,FT26,FT27,FT29,FT30,FT32,FT34,FT35,FT37,FT39,FT40,FT41,FT43,FT46,FT59,List.length_map,List.getElem?_map,Int.natCast_nonneg,List.length_append,List.map_append,he,q1,q2,q3,q4,q5,q6] | (refine condK_split ?_ ?_ <;> intro hwq) | (refine two_split ?_ ?_) | (refine guardK_split ?_ ?_ <;> intro hwq) | (refine guardE_split ?_ ?_ <;> intro hwq) | (refine awp_drawW [] (by decide +kernel) ?_; have hwq := trivial) | (refine call_plain n31 rfl rfl ?_; have hwq := trivial) | fail))
end Go.Ai

set_option linter.unusedVariables false
set_option linter.unusedSimpArgs false
set_option maxHeartbeats 8000000
set_option maxRecDepth 100000
namespace Go.Ai
open Go.Proofs
attribute [local go_sem] QH QR V.noimm V.noimms frzZs frzZ frzA frzV frzVs frzBox boxLen Option.isSome cond_true cond_false aopD calW flatV stepX amap stepY alookup afind aupdate adelete amlen arange ameq mapOf akeq pl V.mapT V.mapTs Option.bind stepK runK guardD stepE runD callD compact selB callK evS ofVal ofVals scalar aop ares mkRes V.rn V.rns V.cells? cellsAt Go.Ai.part aload astore setL V.atom abin aun intBin shiftBin aconv fieldOf aindexAddr aindex bound? aslice aarr abuild afill alen nilP nilS nilF aeq eqCells eqCell Go.Ai.known strBin abuiltin aappend abuildSlice arowsFill amakeSlice acopy aclear minmax rowsOf numsT notStr isIntD isByte V.pz V.pzs T.toV frz1 frz scalT scalTs chunkT List.range List.range.loop ite_true ite_false if_true if_false ne_eq implies_true forall_const eq_self IntKind.bits kPostKF_ret kPostKF_normal kPostX_ret kPostX_normal bsl nil2K nil2 kPostFW_ret kPostFW_normal kPostKM_ret kPostKM_normal kPostXK_ret kPostXK_normal
/-- Where slices.Index finds x. -/
def idxFrom {α : Type} [DecidableEq α] (x : α) : List α → Nat → Int
  | [], _ => -1
  | y :: l, n => if x = y then (n : Int) else idxFrom x l (n + 1)
theorem idx_here {α : Type} [DecidableEq α] {x : α} : ∀ {L : List α} {j n : Nat}, (∀ y ∈ L.take j, x ≠ y) → L[j]? = some x → idxFrom x L n = ((n + j : Nat) : Int)
  | [], j, n, _, h => by simp at h
  | y :: l, 0, n, _, h => by
    simp only [List.getElem?_cons_zero, Option.some.injEq] at h
    rw [idxFrom, if_pos h.symm]; rfl
  | y :: l, j + 1, n, hn, h => by
    simp only [List.getElem?_cons_succ] at h
    rw [List.take_succ_cons] at hn
    rw [idxFrom, if_neg (hn y (List.mem_cons_self ..)), idx_here (fun z hz => hn z (List.mem_cons_of_mem _ hz)) h]
    congr 1; omega
theorem idx_none {α : Type} [DecidableEq α] {x : α} : ∀ {L : List α} {n : Nat}, (∀ y ∈ L, x ≠ y) → idxFrom x L n = -1
  | [], n, _ => rfl
  | y :: l, n, h => by
    rw [idxFrom, if_neg (h y (List.mem_cons_self ..)), idx_none fun z hz => h z (List.mem_cons_of_mem _ hz)]
theorem idx_pos {α : Type} [DecidableEq α] {x : α} : ∀ {L : List α} {n : Nat}, decide (0 ≤ idxFrom x L n) = decide (x ∈ L)
  | [], n => rfl
  | y :: l, n => by
    rw [idxFrom]
    by_cases h : x = y
    · rw [if_pos h]; simp [h]
    · rw [if_neg h, idx_pos]; simp [h]
theorem ne_more {α : Type} {x y : α} {L : List α} {j : Nat} (h : ∀ z ∈ L.take j, x ≠ z) (hg : L[j]? = some y) (hn : x ≠ y) : ∀ z ∈ L.take (j + 1), x ≠ z := by
  rw [take_in hg]
  intro z hz
  rcases List.mem_append.1 hz with h1 | h1
  · exact h z h1
  · rw [List.mem_singleton.1 h1]; exact hn
def Ix103 (x : Mp) (L : List Mp) (n : Nat) (S : St) : Prop :=
  ∃ (j : Nat) (mv : List Nat), S = ⟨tms [(0, msV L), (3, .ptr 0 0 0), (4, vI 0), (7, vI L.length), (8, vI j)], [bxMp x], mv⟩ ∧ (∀ y ∈ L.take j, x ≠ y) ∧ j ≤ L.length ∧ n = L.length - j
theorem pc103 (x : Mp) (L : List Mp) (hL : L.length ≤ 1000) : AC Tryz.prog 103 [msV L, mpV x] [] (eqR (vI (idxFrom x L 0))) := by
  obtain ⟨R, hR⟩ : ∃ R, idxFrom x L 0 = R := ⟨_, rfl⟩
  rw [hR]
  refine AC_plain orders Tryz.func103 rfl (by kernel_rfl) (by kernel_rfl) Tryz.ntmps103 (by simp) ?_
  unfold Tryz.f103
  (have hwq := trivial; repeat' (first | simp (maxSteps:=9999999)-implicitDefEqProofs only [go_sem,simprocAttr,hwq,FT3,FT25,FT32,List.length_map,List.getElem?_map,Int.natCast_nonneg,List.length_append,List.map_append] | (refine condK_split ?_ ?_ <;> intro hwq) | (refine two_split ?_ ?_) | (refine guardK_split ?_ ?_ <;> intro hwq) | (refine guardE_split ?_ ?_ <;> intro hwq) | (refine awp_drawW [] (by decide +kernel) ?_; have hwq := trivial) | fail))
  refine awp_loopK (Ix103 x L) L.length _ (Weak.cutI 1 [0, 3, 4, 7, 8] ?_ ?_) ⟨0, _, rfl, by simp, Nat.zero_le _, rfl⟩ ?_
  · simp (maxSteps:=9999999)-implicitDefEqProofs only [simprocAttr,QH,Option.isSome,cond_true,cond_false,Option.bind,selB,V.rn,V.rns,Go.Ai.known,V.pz,V.pzs,T.toV,frz1,List.range,List.range.loop,ite_true,ite_false,if_true,if_false,ne_eq,implies_true,forall_const,eq_self,IntKind.bits,upd_tmsS,selT_cons,selT_nil,List.length_map,List.getElem?_map,Int.natCast_nonneg,List.length_append,List.map_append]
  · simp (maxSteps:=9999999)-implicitDefEqProofs only [simprocAttr,QH,Option.isSome,cond_true,cond_false,Option.bind,selB,V.rn,V.rns,Go.Ai.known,V.pz,V.pzs,T.toV,frz1,List.range,List.range.loop,ite_true,ite_false,if_true,if_false,ne_eq,implies_true,forall_const,eq_self,IntKind.bits,upd_tmsS,selT_cons,selT_nil]
  rintro kk S ⟨j, mv, rfl, hno, hj, rfl⟩
  have wj := wj_of hj hL
  by_cases hjl : j < L.length
  · have hjl' : (j : Int) < (L.length : Int) := Int.ofNat_lt.2 hjl
    have hgj : L[j]? = some L[j] := List.getElem?_eq_getElem hjl
    obtain ⟨y, hy⟩ : ∃ y, L[j] = y := ⟨_, rfl⟩
    rw [hy] at hgj
    have hee := mp_eq x y
    by_cases hq : x = y
    · have hq' : decide (x = y) = true := decide_eq_true hq
      have hres : R = (j : Int) := by rw [← hR, idx_here hno (hq ▸ hgj), Nat.zero_add]
      rw [hres]
      (have hwq := trivial; repeat' (first | simp (maxSteps:=9999999)-implicitDefEqProofs only [go_sem,simprocAttr,hwq,FT3,FT25,FT32,List.length_map,List.getElem?_map,Int.natCast_nonneg,List.length_append,List.map_append,hjl',hgj,wj,hee,hq'] | (refine condK_split ?_ ?_ <;> intro hwq) | (refine two_split ?_ ?_) | (refine guardK_split ?_ ?_ <;> intro hwq) | (refine guardE_split ?_ ?_ <;> intro hwq) | (refine awp_drawW [] (by decide +kernel) ?_; have hwq := trivial) | fail))
    · have hq' : decide (x = y) = false := decide_eq_false hq
      (have hwq := trivial; repeat' (first | simp (maxSteps:=9999999)-implicitDefEqProofs only [go_sem,simprocAttr,hwq,FT3,FT25,FT32,List.length_map,List.getElem?_map,Int.natCast_nonneg,List.length_append,List.map_append,hjl',hgj,wj,hee,hq'] | (refine condK_split ?_ ?_ <;> intro hwq) | (refine two_split ?_ ?_) | (refine guardK_split ?_ ?_ <;> intro hwq) | (refine guardE_split ?_ ?_ <;> intro hwq) | (refine awp_drawW [] (by decide +kernel) ?_; have hwq := trivial) | fail))
      refine ⟨L.length - (j + 1), _, st_of hjl, Weak.cutI 1 [0, 3, 4, 7, 8] ?_ ?_, j + 1, _, rfl, ne_more hno hgj hq, hjl, rfl⟩
      · simp (maxSteps:=9999999)-implicitDefEqProofs only [simprocAttr,QH,Option.isSome,cond_true,cond_false,Option.bind,selB,V.rn,V.rns,Go.Ai.known,V.pz,V.pzs,T.toV,frz1,List.range,List.range.loop,ite_true,ite_false,if_true,if_false,ne_eq,implies_true,forall_const,eq_self,IntKind.bits,upd_tmsS,selT_cons,selT_nil,List.length_map,List.getElem?_map,Int.natCast_nonneg,List.length_append,List.map_append]
      · simp (maxSteps:=9999999)-implicitDefEqProofs only [simprocAttr,QH,Option.isSome,cond_true,cond_false,Option.bind,selB,V.rn,V.rns,Go.Ai.known,V.pz,V.pzs,T.toV,frz1,List.range,List.range.loop,ite_true,ite_false,if_true,if_false,ne_eq,implies_true,forall_const,eq_self,IntKind.bits,upd_tmsS,selT_cons,selT_nil,List.length_map,List.getElem?_map,Int.natCast_nonneg,List.length_append,List.map_append]
  · have hjl' : ¬ (j : Int) < (L.length : Int) := fun h => hjl (Int.ofNat_lt.1 h)
    rw [List.take_of_length_le (Nat.le_of_not_lt hjl)] at hno
    have hres : R = -1 := by rw [← hR, idx_none hno]
    rw [hres]
    (have hwq := trivial; repeat' (first | simp (maxSteps:=9999999)-implicitDefEqProofs only [go_sem,simprocAttr,hwq,FT3,FT25,FT32,List.length_map,List.getElem?_map,Int.natCast_nonneg,List.length_append,List.map_append,hjl'] | (refine condK_split ?_ ?_ <;> intro hwq) | (refine two_split ?_ ?_) | (refine guardK_split ?_ ?_ <;> intro hwq) | (refine guardE_split ?_ ?_ <;> intro hwq) | (refine awp_drawW [] (by decide +kernel) ?_; have hwq := trivial) | fail))
theorem pc37 (x : Mp) (L : List Mp) (hL : L.length ≤ 1000) : AC Tryz.prog 37 [msV L, mpV x] [] (eqR (vB (decide (x ∈ L)))) := by
  have h1 := pc103 x L hL
  have h2 := idx_pos (x := x) (L := L) (n := 0)
  generalize idxFrom x L 0 = i at h1 h2
  rw [← h2]
  refine AC_plain orders Tryz.func37 rfl (by kernel_rfl) (by kernel_rfl) Tryz.ntmps37 (by simp) ?_
  unfold Tryz.f37
  (have hwq := trivial; repeat' (first | simp (maxSteps:=9999999)-implicitDefEqProofs only [go_sem,simprocAttr,hwq,FT3,FT4,FT25,FT32,List.length_map,List.getElem?_map,Int.natCast_nonneg,List.length_append,List.map_append] | (refine condK_split ?_ ?_ <;> intro hwq) | (refine two_split ?_ ?_) | (refine guardK_split ?_ ?_ <;> intro hwq) | (refine guardE_split ?_ ?_ <;> intro hwq) | (refine awp_drawW [] (by decide +kernel) ?_; have hwq := trivial) | (refine call_plain h1 rfl rfl ?_; have hwq := trivial) | fail))
def Ix108 (x : Cr) (L : List Cr) (n : Nat) (S : St) : Prop :=
  ∃ (j : Nat) (mv : List Nat), S = ⟨tms [(0, csV L), (3, .ptr 0 0 0), (4, vI 0), (7, vI L.length), (8, vI j)], [bxCr x], mv⟩ ∧ (∀ y ∈ L.take j, x ≠ y) ∧ j ≤ L.length ∧ n = L.length - j
theorem pc108 (x : Cr) (L : List Cr) (hL : L.length ≤ 1000) : AC Tryz.prog 108 [csV L, crV x] [] (eqR (vI (idxFrom x L 0))) := by
  obtain ⟨R, hR⟩ : ∃ R, idxFrom x L 0 = R := ⟨_, rfl⟩
  rw [hR]
  refine AC_plain orders Tryz.func108 rfl (by kernel_rfl) (by kernel_rfl) Tryz.ntmps108 (by simp) ?_
  unfold Tryz.f108
  (have hwq := trivial; repeat' (first | simp (maxSteps:=9999999)-implicitDefEqProofs only [go_sem,simprocAttr,hwq,FT3,FT26,FT34,List.length_map,List.getElem?_map,Int.natCast_nonneg,List.length_append,List.map_append] | (refine condK_split ?_ ?_ <;> intro hwq) | (refine two_split ?_ ?_) | (refine guardK_split ?_ ?_ <;> intro hwq) | (refine guardE_split ?_ ?_ <;> intro hwq) | (refine awp_drawW [] (by decide +kernel) ?_; have hwq := trivial) | fail))
  refine awp_loopK (Ix108 x L) L.length _ (Weak.cutI 1 [0, 3, 4, 7, 8] ?_ ?_) ⟨0, _, rfl, by simp, Nat.zero_le _, rfl⟩ ?_
  · simp (maxSteps:=9999999)-implicitDefEqProofs only [simprocAttr,QH,Option.isSome,cond_true,cond_false,Option.bind,selB,V.rn,V.rns,Go.Ai.known,V.pz,V.pzs,T.toV,frz1,List.range,List.range.loop,ite_true,ite_false,if_true,if_false,ne_eq,implies_true,forall_const,eq_self,IntKind.bits,upd_tmsS,selT_cons,selT_nil,List.length_map,List.getElem?_map,Int.natCast_nonneg,List.length_append,List.map_append]
  · simp (maxSteps:=9999999)-implicitDefEqProofs only [simprocAttr,QH,Option.isSome,cond_true,cond_false,Option.bind,selB,V.rn,V.rns,Go.Ai.known,V.pz,V.pzs,T.toV,frz1,List.range,List.range.loop,ite_true,ite_false,if_true,if_false,ne_eq,implies_true,forall_const,eq_self,IntKind.bits,upd_tmsS,selT_cons,selT_nil]
  rintro kk S ⟨j, mv, rfl, hno, hj, rfl⟩
  have wj := wj_of hj hL
  by_cases hjl : j < L.length
  · have hjl' : (j : Int) < (L.length : Int) := Int.ofNat_lt.2 hjl
    have hgj : L[j]? = some L[j] := List.getElem?_eq_getElem hjl
    obtain ⟨y, hy⟩ : ∃ y, L[j] = y := ⟨_, rfl⟩
    rw [hy] at hgj
    have hee := cr_eq x y
    by_cases hq : x = y
    · have hq' : decide (x = y) = true := decide_eq_true hq
      have hres : R = (j : Int) := by rw [← hR, idx_here hno (hq ▸ hgj), Nat.zero_add]
      rw [hres]
      (have hwq := trivial; repeat' (first | simp (maxSteps:=9999999)-implicitDefEqProofs only [go_sem,simprocAttr,hwq,FT3,FT26,FT34,List.length_map,List.getElem?_map,Int.natCast_nonneg,List.length_append,List.map_append,hjl',hgj,wj,hee,hq'] | (refine condK_split ?_ ?_ <;> intro hwq) | (refine two_split ?_ ?_) | (refine guardK_split ?_ ?_ <;> intro hwq) | (refine guardE_split ?_ ?_ <;> intro hwq) | (refine awp_drawW [] (by decide +kernel) ?_; have hwq := trivial) | fail))
    · have hq' : decide (x = y) = false := decide_eq_false hq
      (have hwq := trivial; repeat' (first | simp (maxSteps:=9999999)-implicitDefEqProofs only [go_sem,simprocAttr,hwq,FT3,FT26,FT34,List.length_map,List.getElem?_map,Int.natCast_nonneg,List.length_append,List.map_append,hjl',hgj,wj,hee,hq'] | (refine condK_split ?_ ?_ <;> intro hwq) | (refine two_split ?_ ?_) | (refine guardK_split ?_ ?_ <;> intro hwq) | (refine guardE_split ?_ ?_ <;> intro hwq) | (refine awp_drawW [] (by decide +kernel) ?_; have hwq := trivial) | fail))
      refine ⟨L.length - (j + 1), _, st_of hjl, Weak.cutI 1 [0, 3, 4, 7, 8] ?_ ?_, j + 1, _, rfl, ne_more hno hgj hq, hjl, rfl⟩
      · simp (maxSteps:=9999999)-implicitDefEqProofs only [simprocAttr,QH,Option.isSome,cond_true,cond_false,Option.bind,selB,V.rn,V.rns,Go.Ai.known,V.pz,V.pzs,T.toV,frz1,List.range,List.range.loop,ite_true,ite_false,if_true,if_false,ne_eq,implies_true,forall_const,eq_self,IntKind.bits,upd_tmsS,selT_cons,selT_nil,List.length_map,List.getElem?_map,Int.natCast_nonneg,List.length_append,List.map_append]
      · simp (maxSteps:=9999999)-implicitDefEqProofs only [simprocAttr,QH,Option.isSome,cond_true,cond_false,Option.bind,selB,V.rn,V.rns,Go.Ai.known,V.pz,V.pzs,T.toV,frz1,List.range,List.range.loop,ite_true,ite_false,if_true,if_false,ne_eq,implies_true,forall_const,eq_self,IntKind.bits,upd_tmsS,selT_cons,selT_nil,List.length_map,List.getElem?_map,Int.natCast_nonneg,List.length_append,List.map_append]
  · have hjl' : ¬ (j : Int) < (L.length : Int) := fun h => hjl (Int.ofNat_lt.1 h)
    rw [List.take_of_length_le (Nat.le_of_not_lt hjl)] at hno
    have hres : R = -1 := by rw [← hR, idx_none hno]
    rw [hres]
    (have hwq := trivial; repeat' (first | simp (maxSteps:=9999999)-implicitDefEqProofs only [go_sem,simprocAttr,hwq,FT3,FT26,FT34,List.length_map,List.getElem?_map,Int.natCast_nonneg,List.length_append,List.map_append,hjl'] | (refine condK_split ?_ ?_ <;> intro hwq) | (refine two_split ?_ ?_) | (refine guardK_split ?_ ?_ <;> intro hwq) | (refine guardE_split ?_ ?_ <;> intro hwq) | (refine awp_drawW [] (by decide +kernel) ?_; have hwq := trivial) | fail))
theorem pc42 (x : Cr) (L : List Cr) (hL : L.length ≤ 1000) : AC Tryz.prog 42 [csV L, crV x] [] (eqR (vB (decide (x ∈ L)))) := by
  have h1 := pc108 x L hL
  have h2 := idx_pos (x := x) (L := L) (n := 0)
  generalize idxFrom x L 0 = i at h1 h2
  rw [← h2]
  refine AC_plain orders Tryz.func42 rfl (by kernel_rfl) (by kernel_rfl) Tryz.ntmps42 (by simp) ?_
  unfold Tryz.f42
  (have hwq := trivial; repeat' (first | simp (maxSteps:=9999999)-implicitDefEqProofs only [go_sem,simprocAttr,hwq,FT3,FT4,FT26,FT34,List.length_map,List.getElem?_map,Int.natCast_nonneg,List.length_append,List.map_append] | (refine condK_split ?_ ?_ <;> intro hwq) | (refine two_split ?_ ?_) | (refine guardK_split ?_ ?_ <;> intro hwq) | (refine guardE_split ?_ ?_ <;> intro hwq) | (refine awp_drawW [] (by decide +kernel) ?_; have hwq := trivial) | (refine call_plain h1 rfl rfl ?_; have hwq := trivial) | fail))
end Go.Ai

set_option linter.unusedVariables false
set_option linter.unusedSimpArgs false
set_option maxHeartbeats 8000000
set_option maxRecDepth 100000
namespace Go.Ai
open Go.Proofs
attribute [local go_sem] QH QR V.noimm V.noimms frzZs frzZ frzA frzV frzVs frzBox boxLen Option.isSome cond_true cond_false aopD calW flatV stepX amap stepY alookup afind aupdate adelete amlen arange ameq mapOf akeq pl V.mapT V.mapTs Option.bind stepK runK guardD stepE runD callD compact selB callK evS ofVal ofVals scalar aop ares mkRes V.rn V.rns V.cells? cellsAt Go.Ai.part aload astore setL V.atom abin aun intBin shiftBin aconv fieldOf aindexAddr aindex bound? aslice aarr abuild afill alen nilP nilS nilF aeq eqCells eqCell Go.Ai.known strBin abuiltin aappend abuildSlice arowsFill amakeSlice acopy aclear minmax rowsOf numsT notStr isIntD isByte V.pz V.pzs T.toV frz1 frz scalT scalTs chunkT List.range List.range.loop ite_true ite_false if_true if_false ne_eq implies_true forall_const eq_self IntKind.bits kPostKF_ret kPostKF_normal kPostX_ret kPostX_normal bsl nil2K nil2 kPostFW_ret kPostFW_normal kPostKM_ret kPostKM_normal kPostXK_ret kPostXK_normal
theorem half_of {i j l : Nat} (h : i < j) (h2 : j ≤ l) (h3 : l ≤ 1000) : ∃ h : Nat, (i + j) / 2 = h ∧ i ≤ h ∧ h < j ∧ h < l ∧ IntKind.i64.wrap (IntKind.u64.wrap (IntKind.i64.wrap ((i : Int) + (j : Int))) / 2) = (h : Int) ∧ IntKind.i64.wrap ((h : Int) + 1) = (h : Int) + 1 ∧ (0 : Int) ≤ (h : Int) ∧ (h : Int) < (l : Int) := by
  refine ⟨(i + j) / 2, rfl, by omega, by omega, by omega, ?_, wI64 _ (by omega) (by omega), by omega, by omega⟩
  have h1 : IntKind.u64.wrap ((i : Int) + (j : Int)) = (i : Int) + (j : Int) := by
    unfold IntKind.wrap; simp [IntKind.signed, IntKind.bits]; omega
  have h0 : IntKind.i64.wrap ((i : Int) + (j : Int)) = (i : Int) + (j : Int) := wI64 _ (by omega) (by omega)
  rw [h0, h1, wI64 _ (by omega) (by omega)]
  omega
def Bs99 (x : Mp) (L : List Mp) (n0 : Nat) (n : Nat) (S : St) : Prop :=
  ∃ (i j : Nat) (mv : List Nat), S = ⟨tms [(0, msV L), (2, .clo (.func 36) [] []), (4, .ptr 0 0 0), (6, vI 0), (7, vB false), (8, vI L.length), (9, vI i), (10, vI j)], [bxMp x], mv⟩ ∧ i ≤ n0 ∧ n0 ≤ j ∧ j ≤ L.length ∧ n = j - i
theorem pc99 (x : Mp) (L : List Mp) (hL : L.length ≤ 1000) (n0 : Nat) (hn0 : n0 ≤ L.length) (hlo : ∀ (k : Nat) (y : Mp), L[k]? = some y → k < n0 → cmpMp y x < 0) (hhi : ∀ (k : Nat) (y : Mp), L[k]? = some y → n0 ≤ k → ¬ cmpMp y x < 0) (fd : Bool) (hfd : fd = match L[n0]? with | some y => (cmpMp y x == 0) | none => false) :
    AC Tryz.prog 99 [msV L, mpV x, .clo (.func 36) [] []] [] (eqR (.tuple [vI n0, vB fd])) := by
  refine AC_plain orders Tryz.func99 rfl (by kernel_rfl) (by kernel_rfl) Tryz.ntmps99 (by simp) ?_
  unfold Tryz.f99
  (have hwq := trivial; repeat' (first | simp (maxSteps:=9999999)-implicitDefEqProofs only [go_sem,simprocAttr,hwq,FT3,FT4,FT25,FT32,FT69,FT85,List.length_map,List.getElem?_map,Int.natCast_nonneg,List.length_append,List.map_append] | (refine condK_split ?_ ?_ <;> intro hwq) | (refine two_split ?_ ?_) | (refine guardK_split ?_ ?_ <;> intro hwq) | (refine guardE_split ?_ ?_ <;> intro hwq) | (refine awp_drawI 8 [] (List.range 16) [0, 0, 0, 6, 14, 30, 30, 30, 222, 478, 30, 2046, 4094, 8190, 4095, 32767] (by decide +kernel) ?_; have hwq := trivial) | (refine awp_drawW [] (by decide +kernel) ?_; have hwq := trivial) | fail))
  refine awp_loopK (Bs99 x L n0) L.length _ (Weak.cutI 1 [0, 2, 4, 6, 7, 8, 9, 10] ?_ ?_) ⟨0, L.length, _, rfl, Nat.zero_le _, hn0, Nat.le_refl _, rfl⟩ ?_
  · simp (maxSteps:=9999999)-implicitDefEqProofs only [simprocAttr,QH,Option.isSome,cond_true,cond_false,Option.bind,selB,V.rn,V.rns,Go.Ai.known,V.pz,V.pzs,T.toV,frz1,List.range,List.range.loop,ite_true,ite_false,if_true,if_false,ne_eq,implies_true,forall_const,eq_self,IntKind.bits,upd_tmsS,selT_cons,selT_nil,List.length_map,List.getElem?_map,Int.natCast_nonneg,List.length_append,List.map_append]
  · simp (maxSteps:=9999999)-implicitDefEqProofs only [simprocAttr,QH,Option.isSome,cond_true,cond_false,Option.bind,selB,V.rn,V.rns,Go.Ai.known,V.pz,V.pzs,T.toV,frz1,List.range,List.range.loop,ite_true,ite_false,if_true,if_false,ne_eq,implies_true,forall_const,eq_self,IntKind.bits,upd_tmsS,selT_cons,selT_nil]
  rintro kk S ⟨i, j, mv, rfl, hi, hj, hjL, rfl⟩
  by_cases hij : i < j
  · have hij' : (i : Int) < (j : Int) := Int.ofNat_lt.2 hij
    obtain ⟨h, e0, e1, e2, e3, w1, w2, w3, w4⟩ := half_of hij hjL hL
    have hgh : L[h]? = some L[h] := List.getElem?_eq_getElem e3
    obtain ⟨y, hy⟩ : ∃ y, L[h] = y := ⟨_, rfl⟩
    rw [hy] at hgh
    have hc := pc36 y x
    have hl1 := hlo h y hgh
    have hh1 := hhi h y hgh
    generalize cmpMp y x = r at hc hl1 hh1
    by_cases hr : r < 0
    · have hhn : h + 1 ≤ n0 := Nat.lt_of_not_le fun hk => hh1 hk hr
      (have hwq := trivial; repeat' (first | simp (maxSteps:=9999999)-implicitDefEqProofs only [go_sem,simprocAttr,hwq,FT3,FT4,FT25,FT32,FT69,FT85,List.length_map,List.getElem?_map,Int.natCast_nonneg,List.length_append,List.map_append,hij',hgh,w1,w2,w3,w4,hr] | (refine condK_split ?_ ?_ <;> intro hwq) | (refine two_split ?_ ?_) | (refine guardK_split ?_ ?_ <;> intro hwq) | (refine guardE_split ?_ ?_ <;> intro hwq) | (refine awp_drawI 8 [] (List.range 16) [0, 0, 0, 6, 14, 30, 30, 30, 222, 478, 30, 2046, 4094, 8190, 4095, 32767] (by decide +kernel) ?_; have hwq := trivial) | (refine awp_drawW [] (by decide +kernel) ?_; have hwq := trivial) | (refine draw_plain hc rfl (fun _ => rfl) ?_; have hwq := trivial) | fail))
      refine ⟨j - (h + 1), _, by omega, Weak.cutI 1 [0, 2, 4, 6, 7, 8, 9, 10] ?_ ?_, h + 1, j, _, rfl, hhn, hj, hjL, rfl⟩
      · simp (maxSteps:=9999999)-implicitDefEqProofs only [simprocAttr,QH,Option.isSome,cond_true,cond_false,Option.bind,selB,V.rn,V.rns,Go.Ai.known,V.pz,V.pzs,T.toV,frz1,List.range,List.range.loop,ite_true,ite_false,if_true,if_false,ne_eq,implies_true,forall_const,eq_self,IntKind.bits,upd_tmsS,selT_cons,selT_nil,List.length_map,List.getElem?_map,Int.natCast_nonneg,List.length_append,List.map_append]
      · simp (maxSteps:=9999999)-implicitDefEqProofs only [simprocAttr,QH,Option.isSome,cond_true,cond_false,Option.bind,selB,V.rn,V.rns,Go.Ai.known,V.pz,V.pzs,T.toV,frz1,List.range,List.range.loop,ite_true,ite_false,if_true,if_false,ne_eq,implies_true,forall_const,eq_self,IntKind.bits,upd_tmsS,selT_cons,selT_nil,List.length_map,List.getElem?_map,Int.natCast_nonneg,List.length_append,List.map_append]
    · have hhn : n0 ≤ h := Nat.le_of_not_lt fun hk => hr (hl1 hk)
      (have hwq := trivial; repeat' (first | simp (maxSteps:=9999999)-implicitDefEqProofs only [go_sem,simprocAttr,hwq,FT3,FT4,FT25,FT32,FT69,FT85,List.length_map,List.getElem?_map,Int.natCast_nonneg,List.length_append,List.map_append,hij',hgh,w1,w2,w3,w4,hr] | (refine condK_split ?_ ?_ <;> intro hwq) | (refine two_split ?_ ?_) | (refine guardK_split ?_ ?_ <;> intro hwq) | (refine guardE_split ?_ ?_ <;> intro hwq) | (refine awp_drawI 8 [] (List.range 16) [0, 0, 0, 6, 14, 30, 30, 30, 222, 478, 30, 2046, 4094, 8190, 4095, 32767] (by decide +kernel) ?_; have hwq := trivial) | (refine awp_drawW [] (by decide +kernel) ?_; have hwq := trivial) | (refine draw_plain hc rfl (fun _ => rfl) ?_; have hwq := trivial) | fail))
      refine ⟨h - i, _, by omega, Weak.cutI 1 [0, 2, 4, 6, 7, 8, 9, 10] ?_ ?_, i, h, _, rfl, hi, hhn, Nat.le_of_lt e3, rfl⟩
      · simp (maxSteps:=9999999)-implicitDefEqProofs only [simprocAttr,QH,Option.isSome,cond_true,cond_false,Option.bind,selB,V.rn,V.rns,Go.Ai.known,V.pz,V.pzs,T.toV,frz1,List.range,List.range.loop,ite_true,ite_false,if_true,if_false,ne_eq,implies_true,forall_const,eq_self,IntKind.bits,upd_tmsS,selT_cons,selT_nil,List.length_map,List.getElem?_map,Int.natCast_nonneg,List.length_append,List.map_append]
      · simp (maxSteps:=9999999)-implicitDefEqProofs only [simprocAttr,QH,Option.isSome,cond_true,cond_false,Option.bind,selB,V.rn,V.rns,Go.Ai.known,V.pz,V.pzs,T.toV,frz1,List.range,List.range.loop,ite_true,ite_false,if_true,if_false,ne_eq,implies_true,forall_const,eq_self,IntKind.bits,upd_tmsS,selT_cons,selT_nil,List.length_map,List.getElem?_map,Int.natCast_nonneg,List.length_append,List.map_append]
  · have hij' : ¬ (i : Int) < (j : Int) := fun h => hij (Int.ofNat_lt.1 h)
    obtain rfl : i = n0 := by omega
    by_cases hl : i < L.length
    · have hl' : (i : Int) < (L.length : Int) := Int.ofNat_lt.2 hl
      have hgh : L[i]? = some L[i] := List.getElem?_eq_getElem hl
      obtain ⟨y, hy⟩ : ∃ y, L[i] = y := ⟨_, rfl⟩
      rw [hy] at hgh
      rw [hgh] at hfd
      have hc := pc36 y x
      simp only at hfd
      generalize cmpMp y x = r at hc hfd
      (have hwq := trivial; repeat' (first | simp (maxSteps:=9999999)-implicitDefEqProofs only [go_sem,simprocAttr,hwq,FT3,FT4,FT25,FT32,FT69,FT85,List.length_map,List.getElem?_map,Int.natCast_nonneg,List.length_append,List.map_append,hij',hl',hgh,hfd] | (refine condK_split ?_ ?_ <;> intro hwq) | (refine two_split ?_ ?_) | (refine guardK_split ?_ ?_ <;> intro hwq) | (refine guardE_split ?_ ?_ <;> intro hwq) | (refine awp_drawI 8 [] (List.range 16) [0, 0, 0, 6, 14, 30, 30, 30, 222, 478, 30, 2046, 4094, 8190, 4095, 32767] (by decide +kernel) ?_; have hwq := trivial) | (refine awp_drawW [] (by decide +kernel) ?_; have hwq := trivial) | (refine draw_plain hc rfl (fun _ => rfl) ?_; have hwq := trivial) | fail))
    · have hl' : ¬ (i : Int) < (L.length : Int) := fun h => hl (Int.ofNat_lt.1 h)
      rw [List.getElem?_eq_none (Nat.le_of_not_lt hl)] at hfd
      simp only at hfd
      (have hwq := trivial; repeat' (first | simp (maxSteps:=9999999)-implicitDefEqProofs only [go_sem,simprocAttr,hwq,FT3,FT4,FT25,FT32,FT69,FT85,List.length_map,List.getElem?_map,Int.natCast_nonneg,List.length_append,List.map_append,hij',hl',hfd] | (refine condK_split ?_ ?_ <;> intro hwq) | (refine two_split ?_ ?_) | (refine guardK_split ?_ ?_ <;> intro hwq) | (refine guardE_split ?_ ?_ <;> intro hwq) | (refine awp_drawI 8 [] (List.range 16) [0, 0, 0, 6, 14, 30, 30, 30, 222, 478, 30, 2046, 4094, 8190, 4095, 32767] (by decide +kernel) ?_; have hwq := trivial) | (refine awp_drawW [] (by decide +kernel) ?_; have hwq := trivial) | fail))
def Bs106 (x : Cr) (L : List Cr) (n0 : Nat) (n : Nat) (S : St) : Prop :=
  ∃ (i j : Nat) (mv : List Nat), S = ⟨tms [(0, csV L), (2, .clo (.func 41) [] []), (4, .ptr 0 0 0), (6, vI 0), (7, vB false), (8, vI L.length), (9, vI i), (10, vI j)], [bxCr x], mv⟩ ∧ i ≤ n0 ∧ n0 ≤ j ∧ j ≤ L.length ∧ n = j - i
theorem pc106 (x : Cr) (L : List Cr) (hL : L.length ≤ 1000) (n0 : Nat) (hn0 : n0 ≤ L.length) (hlo : ∀ (k : Nat) (y : Cr), L[k]? = some y → k < n0 → cmpZ y.s x.s < 0) (hhi : ∀ (k : Nat) (y : Cr), L[k]? = some y → n0 ≤ k → ¬ cmpZ y.s x.s < 0) (fd : Bool) (hfd : fd = match L[n0]? with | some y => (cmpZ y.s x.s == 0) | none => false) :
    AC Tryz.prog 106 [csV L, crV x, .clo (.func 41) [] []] [] (eqR (.tuple [vI n0, vB fd])) := by
  refine AC_plain orders Tryz.func106 rfl (by kernel_rfl) (by kernel_rfl) Tryz.ntmps106 (by simp) ?_
  unfold Tryz.f106
  (have hwq := trivial; repeat' (first | simp (maxSteps:=9999999)-implicitDefEqProofs only [go_sem,simprocAttr,hwq,FT3,FT4,FT26,FT34,FT73,FT85,List.length_map,List.getElem?_map,Int.natCast_nonneg,List.length_append,List.map_append] | (refine condK_split ?_ ?_ <;> intro hwq) | (refine two_split ?_ ?_) | (refine guardK_split ?_ ?_ <;> intro hwq) | (refine guardE_split ?_ ?_ <;> intro hwq) | (refine awp_drawI 8 [] (List.range 16) [0, 0, 0, 6, 14, 30, 30, 30, 222, 478, 30, 2046, 4094, 8190, 4095, 32767] (by decide +kernel) ?_; have hwq := trivial) | (refine awp_drawW [] (by decide +kernel) ?_; have hwq := trivial) | fail))
  refine awp_loopK (Bs106 x L n0) L.length _ (Weak.cutI 1 [0, 2, 4, 6, 7, 8, 9, 10] ?_ ?_) ⟨0, L.length, _, rfl, Nat.zero_le _, hn0, Nat.le_refl _, rfl⟩ ?_
  · simp (maxSteps:=9999999)-implicitDefEqProofs only [simprocAttr,QH,Option.isSome,cond_true,cond_false,Option.bind,selB,V.rn,V.rns,Go.Ai.known,V.pz,V.pzs,T.toV,frz1,List.range,List.range.loop,ite_true,ite_false,if_true,if_false,ne_eq,implies_true,forall_const,eq_self,IntKind.bits,upd_tmsS,selT_cons,selT_nil,List.length_map,List.getElem?_map,Int.natCast_nonneg,List.length_append,List.map_append]
  · simp (maxSteps:=9999999)-implicitDefEqProofs only [simprocAttr,QH,Option.isSome,cond_true,cond_false,Option.bind,selB,V.rn,V.rns,Go.Ai.known,V.pz,V.pzs,T.toV,frz1,List.range,List.range.loop,ite_true,ite_false,if_true,if_false,ne_eq,implies_true,forall_const,eq_self,IntKind.bits,upd_tmsS,selT_cons,selT_nil]
  rintro kk S ⟨i, j, mv, rfl, hi, hj, hjL, rfl⟩
  by_cases hij : i < j
  · have hij' : (i : Int) < (j : Int) := Int.ofNat_lt.2 hij
    obtain ⟨h, e0, e1, e2, e3, w1, w2, w3, w4⟩ := half_of hij hjL hL
    have hgh : L[h]? = some L[h] := List.getElem?_eq_getElem e3
    obtain ⟨y, hy⟩ : ∃ y, L[h] = y := ⟨_, rfl⟩
    rw [hy] at hgh
    have hc := pc41 y x
    have hl1 := hlo h y hgh
    have hh1 := hhi h y hgh
    generalize cmpZ y.s x.s = r at hc hl1 hh1
    by_cases hr : r < 0
    · have hhn : h + 1 ≤ n0 := Nat.lt_of_not_le fun hk => hh1 hk hr
      (have hwq := trivial; repeat' (first | simp (maxSteps:=9999999)-implicitDefEqProofs only [go_sem,simprocAttr,hwq,FT3,FT4,FT26,FT34,FT73,FT85,List.length_map,List.getElem?_map,Int.natCast_nonneg,List.length_append,List.map_append,hij',hgh,w1,w2,w3,w4,hr] | (refine condK_split ?_ ?_ <;> intro hwq) | (refine two_split ?_ ?_) | (refine guardK_split ?_ ?_ <;> intro hwq) | (refine guardE_split ?_ ?_ <;> intro hwq) | (refine awp_drawI 8 [] (List.range 16) [0, 0, 0, 6, 14, 30, 30, 30, 222, 478, 30, 2046, 4094, 8190, 4095, 32767] (by decide +kernel) ?_; have hwq := trivial) | (refine awp_drawW [] (by decide +kernel) ?_; have hwq := trivial) | (refine draw_plain hc rfl (fun _ => rfl) ?_; have hwq := trivial) | fail))
      refine ⟨j - (h + 1), _, by omega, Weak.cutI 1 [0, 2, 4, 6, 7, 8, 9, 10] ?_ ?_, h + 1, j, _, rfl, hhn, hj, hjL, rfl⟩
      · simp (maxSteps:=9999999)-implicitDefEqProofs only [simprocAttr,QH,Option.isSome,cond_true,cond_false,Option.bind,selB,V.rn,V.rns,Go.Ai.known,V.pz,V.pzs,T.toV,frz1,List.range,List.range.loop,ite_true,ite_false,if_true,if_false,ne_eq,implies_true,forall_const,eq_self,IntKind.bits,upd_tmsS,selT_cons,selT_nil,List.length_map,List.getElem?_map,Int.natCast_nonneg,List.length_append,List.map_append]
      · simp (maxSteps:=9999999)-implicitDefEqProofs only [simprocAttr,QH,Option.isSome,cond_true,cond_false,Option.bind,selB,V.rn,V.rns,Go.Ai.known,V.pz,V.pzs,T.toV,frz1,List.range,List.range.loop,ite_true,ite_false,if_true,if_false,ne_eq,implies_true,forall_const,eq_self,IntKind.bits,upd_tmsS,selT_cons,selT_nil,List.length_map,List.getElem?_map,Int.natCast_nonneg,List.length_append,List.map_append]
    · have hhn : n0 ≤ h := Nat.le_of_not_lt fun hk => hr (hl1 hk)
      (have hwq := trivial; repeat' (first | simp (maxSteps:=9999999)-implicitDefEqProofs only [go_sem,simprocAttr,hwq,FT3,FT4,FT26,FT34,FT73,FT85,List.length_map,List.getElem?_map,Int.natCast_nonneg,List.length_append,List.map_append,hij',hgh,w1,w2,w3,w4,hr] | (refine condK_split ?_ ?_ <;> intro hwq) | (refine two_split ?_ ?_) | (refine guardK_split ?_ ?_ <;> intro hwq) | (refine guardE_split ?_ ?_ <;> intro hwq) | (refine awp_drawI 8 [] (List.range 16) [0, 0, 0, 6, 14, 30, 30, 30, 222, 478, 30, 2046, 4094, 8190, 4095, 32767] (by decide +kernel) ?_; have hwq := trivial) | (refine awp_drawW [] (by decide +kernel) ?_; have hwq := trivial) | (refine draw_plain hc rfl (fun _ => rfl) ?_; have hwq := trivial) | fail))
      refine ⟨h - i, _, by omega, Weak.cutI 1 [0, 2, 4, 6, 7, 8, 9, 10] ?_ ?_, i, h, _, rfl, hi, hhn, Nat.le_of_lt e3, rfl⟩
      · simp (maxSteps:=9999999)-implicitDefEqProofs only [simprocAttr,QH,Option.isSome,cond_true,cond_false,Option.bind,selB,V.rn,V.rns,Go.Ai.known,V.pz,V.pzs,T.toV,frz1,List.range,List.range.loop,ite_true,ite_false,if_true,if_false,ne_eq,implies_true,forall_const,eq_self,IntKind.bits,upd_tmsS,selT_cons,selT_nil,List.length_map,List.getElem?_map,Int.natCast_nonneg,List.length_append,List.map_append]
      · simp (maxSteps:=9999999)-implicitDefEqProofs only [simprocAttr,QH,Option.isSome,cond_true,cond_false,Option.bind,selB,V.rn,V.rns,Go.Ai.known,V.pz,V.pzs,T.toV,frz1,List.range,List.range.loop,ite_true,ite_false,if_true,if_false,ne_eq,implies_true,forall_const,eq_self,IntKind.bits,upd_tmsS,selT_cons,selT_nil,List.length_map,List.getElem?_map,Int.natCast_nonneg,List.length_append,List.map_append]
  · have hij' : ¬ (i : Int) < (j : Int) := fun h => hij (Int.ofNat_lt.1 h)
    obtain rfl : i = n0 := by omega
    by_cases hl : i < L.length
    · have hl' : (i : Int) < (L.length : Int) := Int.ofNat_lt.2 hl
      have hgh : L[i]? = some L[i] := List.getElem?_eq_getElem hl
      obtain ⟨y, hy⟩ : ∃ y, L[i] = y := ⟨_, rfl⟩
      rw [hy] at hgh
      rw [hgh] at hfd
      have hc := pc41 y x
      simp only at hfd
      generalize cmpZ y.s x.s = r at hc hfd
      (have hwq := trivial; repeat' (first | simp (maxSteps:=9999999)-implicitDefEqProofs only [go_sem,simprocAttr,hwq,FT3,FT4,FT26,FT34,FT73,FT85,List.length_map,List.getElem?_map,Int.natCast_nonneg,List.length_append,List.map_append,hij',hl',hgh,hfd] | (refine condK_split ?_ ?_ <;> intro hwq) | (refine two_split ?_ ?_) | (refine guardK_split ?_ ?_ <;> intro hwq) | (refine guardE_split ?_ ?_ <;> intro hwq) | (refine awp_drawI 8 [] (List.range 16) [0, 0, 0, 6, 14, 30, 30, 30, 222, 478, 30, 2046, 4094, 8190, 4095, 32767] (by decide +kernel) ?_; have hwq := trivial) | (refine awp_drawW [] (by decide +kernel) ?_; have hwq := trivial) | (refine draw_plain hc rfl (fun _ => rfl) ?_; have hwq := trivial) | fail))
    · have hl' : ¬ (i : Int) < (L.length : Int) := fun h => hl (Int.ofNat_lt.1 h)
      rw [List.getElem?_eq_none (Nat.le_of_not_lt hl)] at hfd
      simp only at hfd
      (have hwq := trivial; repeat' (first | simp (maxSteps:=9999999)-implicitDefEqProofs only [go_sem,simprocAttr,hwq,FT3,FT4,FT26,FT34,FT73,FT85,List.length_map,List.getElem?_map,Int.natCast_nonneg,List.length_append,List.map_append,hij',hl',hfd] | (refine condK_split ?_ ?_ <;> intro hwq) | (refine two_split ?_ ?_) | (refine guardK_split ?_ ?_ <;> intro hwq) | (refine guardE_split ?_ ?_ <;> intro hwq) | (refine awp_drawI 8 [] (List.range 16) [0, 0, 0, 6, 14, 30, 30, 30, 222, 478, 30, 2046, 4094, 8190, 4095, 32767] (by decide +kernel) ?_; have hwq := trivial) | (refine awp_drawW [] (by decide +kernel) ?_; have hwq := trivial) | fail))
abbrev bxMb (x : Mb) : Blk := .box [vI x.v, isV x.l] false
def Bs111 (x : Mb) (L : List Mb) (n0 : Nat) (n : Nat) (S : St) : Prop :=
  ∃ (i j : Nat) (mv : List Nat), S = ⟨tms [(0, bsV L), (2, .clo (.func 47) [] []), (4, .ptr 0 0 0), (6, vI 0), (7, vB false), (8, vI L.length), (9, vI i), (10, vI j)], [bxMb x], mv⟩ ∧ i ≤ n0 ∧ n0 ≤ j ∧ j ≤ L.length ∧ n = j - i
theorem pc111 (x : Mb) (L : List Mb) (hL : L.length ≤ 1000) (n0 : Nat) (hn0 : n0 ≤ L.length) (hlo : ∀ (k : Nat) (y : Mb), L[k]? = some y → k < n0 → cmpZ y.v x.v < 0) (hhi : ∀ (k : Nat) (y : Mb), L[k]? = some y → n0 ≤ k → ¬ cmpZ y.v x.v < 0) (fd : Bool) (hfd : fd = match L[n0]? with | some y => (cmpZ y.v x.v == 0) | none => false) :
    AC Tryz.prog 111 [bsV L, mbV x, .clo (.func 47) [] []] [] (eqR (.tuple [vI n0, vB fd])) := by
  refine AC_plain orders Tryz.func111 rfl (by kernel_rfl) (by kernel_rfl) Tryz.ntmps111 (by simp) ?_
  unfold Tryz.f111
  (have hwq := trivial; repeat' (first | simp (maxSteps:=9999999)-implicitDefEqProofs only [go_sem,simprocAttr,hwq,FT3,FT4,FT27,FT35,FT37,FT78,FT85,List.length_map,List.getElem?_map,Int.natCast_nonneg,List.length_append,List.map_append] | (refine condK_split ?_ ?_ <;> intro hwq) | (refine two_split ?_ ?_) | (refine guardK_split ?_ ?_ <;> intro hwq) | (refine guardE_split ?_ ?_ <;> intro hwq) | (refine awp_drawI 8 [] (List.range 16) [0, 0, 0, 6, 14, 30, 30, 30, 222, 478, 30, 2046, 4094, 8190, 4095, 32767] (by decide +kernel) ?_; have hwq := trivial) | (refine awp_drawW [] (by decide +kernel) ?_; have hwq := trivial) | fail))
  refine awp_loopK (Bs111 x L n0) L.length _ (Weak.cutI 1 [0, 2, 4, 6, 7, 8, 9, 10] ?_ ?_) ⟨0, L.length, _, rfl, Nat.zero_le _, hn0, Nat.le_refl _, rfl⟩ ?_
  · simp (maxSteps:=9999999)-implicitDefEqProofs only [simprocAttr,QH,Option.isSome,cond_true,cond_false,Option.bind,selB,V.rn,V.rns,Go.Ai.known,V.pz,V.pzs,T.toV,frz1,List.range,List.range.loop,ite_true,ite_false,if_true,if_false,ne_eq,implies_true,forall_const,eq_self,IntKind.bits,upd_tmsS,selT_cons,selT_nil,List.length_map,List.getElem?_map,Int.natCast_nonneg,List.length_append,List.map_append]
  · simp (maxSteps:=9999999)-implicitDefEqProofs only [simprocAttr,QH,Option.isSome,cond_true,cond_false,Option.bind,selB,V.rn,V.rns,Go.Ai.known,V.pz,V.pzs,T.toV,frz1,List.range,List.range.loop,ite_true,ite_false,if_true,if_false,ne_eq,implies_true,forall_const,eq_self,IntKind.bits,upd_tmsS,selT_cons,selT_nil]
  rintro kk S ⟨i, j, mv, rfl, hi, hj, hjL, rfl⟩
  by_cases hij : i < j
  · have hij' : (i : Int) < (j : Int) := Int.ofNat_lt.2 hij
    obtain ⟨h, e0, e1, e2, e3, w1, w2, w3, w4⟩ := half_of hij hjL hL
    have hgh : L[h]? = some L[h] := List.getElem?_eq_getElem e3
    obtain ⟨y, hy⟩ : ∃ y, L[h] = y := ⟨_, rfl⟩
    rw [hy] at hgh
    have hc := pc47 y x
    have hl1 := hlo h y hgh
    have hh1 := hhi h y hgh
    generalize cmpZ y.v x.v = r at hc hl1 hh1
    by_cases hr : r < 0
    · have hhn : h + 1 ≤ n0 := Nat.lt_of_not_le fun hk => hh1 hk hr
      (have hwq := trivial; repeat' (first | simp (maxSteps:=9999999)-implicitDefEqProofs only [go_sem,simprocAttr,hwq,FT3,FT4,FT27,FT35,FT37,FT78,FT85,List.length_map,List.getElem?_map,Int.natCast_nonneg,List.length_append,List.map_append,hij',hgh,w1,w2,w3,w4,hr] | (refine condK_split ?_ ?_ <;> intro hwq) | (refine two_split ?_ ?_) | (refine guardK_split ?_ ?_ <;> intro hwq) | (refine guardE_split ?_ ?_ <;> intro hwq) | (refine awp_drawI 8 [] (List.range 16) [0, 0, 0, 6, 14, 30, 30, 30, 222, 478, 30, 2046, 4094, 8190, 4095, 32767] (by decide +kernel) ?_; have hwq := trivial) | (refine awp_drawW [] (by decide +kernel) ?_; have hwq := trivial) | (refine draw_plain hc rfl (fun _ => rfl) ?_; have hwq := trivial) | fail))
      refine ⟨j - (h + 1), _, by omega, Weak.cutI 1 [0, 2, 4, 6, 7, 8, 9, 10] ?_ ?_, h + 1, j, _, rfl, hhn, hj, hjL, rfl⟩
      · simp (maxSteps:=9999999)-implicitDefEqProofs only [simprocAttr,QH,Option.isSome,cond_true,cond_false,Option.bind,selB,V.rn,V.rns,Go.Ai.known,V.pz,V.pzs,T.toV,frz1,List.range,List.range.loop,ite_true,ite_false,if_true,if_false,ne_eq,implies_true,forall_const,eq_self,IntKind.bits,upd_tmsS,selT_cons,selT_nil,List.length_map,List.getElem?_map,Int.natCast_nonneg,List.length_append,List.map_append]
      · simp (maxSteps:=9999999)-implicitDefEqProofs only [simprocAttr,QH,Option.isSome,cond_true,cond_false,Option.bind,selB,V.rn,V.rns,Go.Ai.known,V.pz,V.pzs,T.toV,frz1,List.range,List.range.loop,ite_true,ite_false,if_true,if_false,ne_eq,implies_true,forall_const,eq_self,IntKind.bits,upd_tmsS,selT_cons,selT_nil,List.length_map,List.getElem?_map,Int.natCast_nonneg,List.length_append,List.map_append]
    · have hhn : n0 ≤ h := Nat.le_of_not_lt fun hk => hr (hl1 hk)
      (have hwq := trivial; repeat' (first | simp (maxSteps:=9999999)-implicitDefEqProofs only [go_sem,simprocAttr,hwq,FT3,FT4,FT27,FT35,FT37,FT78,FT85,List.length_map,List.getElem?_map,Int.natCast_nonneg,List.length_append,List.map_append,hij',hgh,w1,w2,w3,w4,hr] | (refine condK_split ?_ ?_ <;> intro hwq) | (refine two_split ?_ ?_) | (refine guardK_split ?_ ?_ <;> intro hwq) | (refine guardE_split ?_ ?_ <;> intro hwq) | (refine awp_drawI 8 [] (List.range 16) [0, 0, 0, 6, 14, 30, 30, 30, 222, 478, 30, 2046, 4094, 8190, 4095, 32767] (by decide +kernel) ?_; have hwq := trivial) | (refine awp_drawW [] (by decide +kernel) ?_; have hwq := trivial) | (refine draw_plain hc rfl (fun _ => rfl) ?_; have hwq := trivial) | fail))
      refine ⟨h - i, _, by omega, Weak.cutI 1 [0, 2, 4, 6, 7, 8, 9, 10] ?_ ?_, i, h, _, rfl, hi, hhn, Nat.le_of_lt e3, rfl⟩
      · simp (maxSteps:=9999999)-implicitDefEqProofs only [simprocAttr,QH,Option.isSome,cond_true,cond_false,Option.bind,selB,V.rn,V.rns,Go.Ai.known,V.pz,V.pzs,T.toV,frz1,List.range,List.range.loop,ite_true,ite_false,if_true,if_false,ne_eq,implies_true,forall_const,eq_self,IntKind.bits,upd_tmsS,selT_cons,selT_nil,List.length_map,List.getElem?_map,Int.natCast_nonneg,List.length_append,List.map_append]
      · simp (maxSteps:=9999999)-implicitDefEqProofs only [simprocAttr,QH,Option.isSome,cond_true,cond_false,Option.bind,selB,V.rn,V.rns,Go.Ai.known,V.pz,V.pzs,T.toV,frz1,List.range,List.range.loop,ite_true,ite_false,if_true,if_false,ne_eq,implies_true,forall_const,eq_self,IntKind.bits,upd_tmsS,selT_cons,selT_nil,List.length_map,List.getElem?_map,Int.natCast_nonneg,List.length_append,List.map_append]
  · have hij' : ¬ (i : Int) < (j : Int) := fun h => hij (Int.ofNat_lt.1 h)
    obtain rfl : i = n0 := by omega
    by_cases hl : i < L.length
    · have hl' : (i : Int) < (L.length : Int) := Int.ofNat_lt.2 hl
      have hgh : L[i]? = some L[i] := List.getElem?_eq_getElem hl
      obtain ⟨y, hy⟩ : ∃ y, L[i] = y := ⟨_, rfl⟩
      rw [hy] at hgh
      rw [hgh] at hfd
      have hc := pc47 y x
      simp only at hfd
      generalize cmpZ y.v x.v = r at hc hfd
      (have hwq := trivial; repeat' (first | simp (maxSteps:=9999999)-implicitDefEqProofs only [go_sem,simprocAttr,hwq,FT3,FT4,FT27,FT35,FT37,FT78,FT85,List.length_map,List.getElem?_map,Int.natCast_nonneg,List.length_append,List.map_append,hij',hl',hgh,hfd] | (refine condK_split ?_ ?_ <;> intro hwq) | (refine two_split ?_ ?_) | (refine guardK_split ?_ ?_ <;> intro hwq) | (refine guardE_split ?_ ?_ <;> intro hwq) | (refine awp_drawI 8 [] (List.range 16) [0, 0, 0, 6, 14, 30, 30, 30, 222, 478, 30, 2046, 4094, 8190, 4095, 32767] (by decide +kernel) ?_; have hwq := trivial) | (refine awp_drawW [] (by decide +kernel) ?_; have hwq := trivial) | (refine draw_plain hc rfl (fun _ => rfl) ?_; have hwq := trivial) | fail))
    · have hl' : ¬ (i : Int) < (L.length : Int) := fun h => hl (Int.ofNat_lt.1 h)
      rw [List.getElem?_eq_none (Nat.le_of_not_lt hl)] at hfd
      simp only at hfd
      (have hwq := trivial; repeat' (first | simp (maxSteps:=9999999)-implicitDefEqProofs only [go_sem,simprocAttr,hwq,FT3,FT4,FT27,FT35,FT37,FT78,FT85,List.length_map,List.getElem?_map,Int.natCast_nonneg,List.length_append,List.map_append,hij',hl',hfd] | (refine condK_split ?_ ?_ <;> intro hwq) | (refine two_split ?_ ?_) | (refine guardK_split ?_ ?_ <;> intro hwq) | (refine guardE_split ?_ ?_ <;> intro hwq) | (refine awp_drawI 8 [] (List.range 16) [0, 0, 0, 6, 14, 30, 30, 30, 222, 478, 30, 2046, 4094, 8190, 4095, 32767] (by decide +kernel) ?_; have hwq := trivial) | (refine awp_drawW [] (by decide +kernel) ?_; have hwq := trivial) | fail))
end Go.Ai

set_option linter.unusedVariables false
set_option linter.unusedSimpArgs false
set_option maxHeartbeats 8000000
set_option maxRecDepth 100000
namespace Go.Ai
open Go.Proofs
attribute [local go_sem] QH QR V.noimm V.noimms frzZs frzZ frzA frzV frzVs frzBox boxLen Option.isSome cond_true cond_false aopD calW flatV stepX amap stepY alookup afind aupdate adelete amlen arange ameq mapOf akeq pl V.mapT V.mapTs Option.bind stepK runK guardD stepE runD callD compact selB callK evS ofVal ofVals scalar aop ares mkRes V.rn V.rns V.cells? cellsAt Go.Ai.part aload astore setL V.atom abin aun intBin shiftBin aconv fieldOf aindexAddr aindex bound? aslice aarr abuild afill alen nilP nilS nilF aeq eqCells eqCell Go.Ai.known strBin abuiltin aappend abuildSlice arowsFill amakeSlice acopy aclear minmax rowsOf numsT notStr isIntD isByte V.pz V.pzs T.toV frz1 frz scalT scalTs chunkT List.range List.range.loop ite_true ite_false if_true if_false ne_eq implies_true forall_const eq_self IntKind.bits kPostKF_ret kPostKF_normal kPostX_ret kPostX_normal bsl nil2K nil2 kPostFW_ret kPostFW_normal kPostKM_ret kPostKM_normal kPostXK_ret kPostXK_normal
def usedC (p : Pv) (s : Int) : List Int := (p.ms.filter (fun x => x.s == s)).map (·.p)
def usedM (p : Pv) (v : Int) : List Int := (p.cs.filter (fun x => x.v == v)).map (·.s)
/-- What Do answers, given what put and drop make of the rows. -/
def doL (p : Pv) (x : Cm) (l35 l38 : List Mp) (l40 l43 : List Cr) (l45 l49 : List Mb) : Pv × Int :=
  if checkE p != 0 then (p, checkE p)
  else if x.k == 1 then (if addMapE p x.m == 0 then ({ p with ms := l35 }, 0) else (p, addMapE p x.m))
  else if x.k == 2 then (if decide (x.m ∈ p.ms) then ({ p with ms := l38 }, 0) else (p, 182))
  else if x.k == 3 then (if addCarryE p x.c == 0 then ({ p with cs := l40 }, 0) else (p, addCarryE p x.c))
  else if x.k == 4 then (if decide (x.c ∈ p.cs) then (if decide ((0 : Int) < ((usedC p x.c.s).length : Int)) then (p, 183) else ({ p with cs := l43 }, 0)) else (p, 182))
  else if x.k == 5 then (if setMemberE p x.w == 0 then ({ p with bs := l45 }, 0) else (p, setMemberE p x.w))
  else if x.k == 6 then (if hasM p.bs x.w.v then (if decide ((0 : Int) < ((usedM p x.w.v).length : Int)) then (p, 183) else ({ p with bs := l49 }, 0)) else (p, 182))
  else (p, 1)
theorem pdo (p : Pv) (hp : okL p) (ho : isB p.own.a) (x : Cm) (hw : x.w.l.length ≤ 1000) (l35 l38 : List Mp) (l40 l43 : List Cr) (l45 l49 : List Mb)
    (h35 : checkE p = 0 → addMapE p x.m = 0 → AC Tryz.prog 35 [msV p.ms, mpV x.m, .clo (.func 36) [] []] [] (eqR (msV l35)))
    (h38 : checkE p = 0 → x.m ∈ p.ms → AC Tryz.prog 38 [msV p.ms, mpV x.m, .clo (.func 36) [] []] [] (eqR (msV l38)))
    (h40 : checkE p = 0 → addCarryE p x.c = 0 → AC Tryz.prog 40 [csV p.cs, crV x.c, .clo (.func 41) [] []] [] (eqR (csV l40)))
    (h43 : checkE p = 0 → x.c ∈ p.cs → AC Tryz.prog 43 [csV p.cs, crV x.c, .clo (.func 41) [] []] [] (eqR (csV l43)))
    (h45 : checkE p = 0 → setMemberE p x.w = 0 → AC Tryz.prog 45 [bsV p.bs, mbV x.w, .clo (.func 47) [] []] [] (eqR (bsV l45)))
    (h49 : checkE p = 0 → hasM p.bs x.w.v = true → AC Tryz.prog 49 [bsV p.bs, mbV x.w, .clo (.func 47) [] []] [] (eqR (bsV l49))) :
    AC Tryz.prog 12 [pvV p, cmV x] [] (eqR (.tuple [pvV (doL p x l35 l38 l40 l43 l45 l49).1, vI (doL p x l35 l38 l40 l43 l45 l49).2])) := by
  have n33 := pc33 p hp
  have n17 := pc17 p hp ho
  have n34 := pc34 p hp x.m
  have n37 := pc37 x.m p.ms hp.2.1
  have n39 := pc39 p hp x.c
  have n42 := pc42 x.c p.cs hp.2.2.1
  have n27 : AC Tryz.prog 27 [pvV p, vI x.c.s] [] (eqR (isV (usedC p x.c.s))) := pq27 p hp x.c.s
  have n44 := pc44 p hp x.w hw
  have n46 := pcl46 (x.w.l.map inT) (by simp; omega)
  have n48 := pc48 p hp x.w.v
  have n29 : AC Tryz.prog 29 [pvV p, vI x.w.v] [] (eqR (isV (usedM p x.w.v))) := pq29 p hp x.w.v
  have hD : doL p x l35 l38 l40 l43 l45 l49 = if checkE p != 0 then (p, checkE p)
    else if x.k == 1 then (if addMapE p x.m == 0 then ({ p with ms := l35 }, 0) else (p, addMapE p x.m))
    else if x.k == 2 then (if decide (x.m ∈ p.ms) then ({ p with ms := l38 }, 0) else (p, 182))
    else if x.k == 3 then (if addCarryE p x.c == 0 then ({ p with cs := l40 }, 0) else (p, addCarryE p x.c))
    else if x.k == 4 then (if decide (x.c ∈ p.cs) then (if decide ((0 : Int) < ((usedC p x.c.s).length : Int)) then (p, 183) else ({ p with cs := l43 }, 0)) else (p, 182))
    else if x.k == 5 then (if setMemberE p x.w == 0 then ({ p with bs := l45 }, 0) else (p, setMemberE p x.w))
    else if x.k == 6 then (if hasM p.bs x.w.v then (if decide ((0 : Int) < ((usedM p x.w.v).length : Int)) then (p, 183) else ({ p with bs := l49 }, 0)) else (p, 182))
    else (p, 1) := rfl
  generalize doL p x l35 l38 l40 l43 l45 l49 = D at hD
  have b38 : decide (x.m ∈ p.ms) = true → x.m ∈ p.ms := of_decide_eq_true
  have b43 : decide (x.c ∈ p.cs) = true → x.c ∈ p.cs := of_decide_eq_true
  generalize checkE p = e at n17 hD h35 h38 h40 h43 h45 h49
  generalize addMapE p x.m = e1 at n34 hD h35
  generalize decide (x.m ∈ p.ms) = e2 at n37 hD b38
  generalize addCarryE p x.c = e3 at n39 hD h40
  generalize decide (x.c ∈ p.cs) = e4 at n42 hD b43
  generalize usedC p x.c.s = U1 at n27 hD
  generalize setMemberE p x.w = e5 at n44 hD h45
  generalize hasM p.bs x.w.v = e6 at n48 hD h49
  generalize usedM p x.w.v = U2 at n29 hD
  refine AC_frozen orders Tryz.func12 rfl (by kernel_rfl) (by kernel_rfl) Tryz.ntmps12 (by simp) ?_
  unfold Tryz.f12
  cases he : (e != 0) with
  | true =>
    rw [he, if_pos rfl] at hD
    subst hD
    (have hwq := trivial; repeat' (first | simp (maxSteps:=9999999)-implicitDefEqProofs only [go_sem,simprocAttr,hwq,FT3,FT4,FT5,FT23,FT24,FT25,FT26,FT27,FT29,FT30,FT32,FT34,FT35,FT37,FT39,FT40,FT41,FT43,FT46,FT59,FT69,FT73,FT78,List.length_map,List.getElem?_map,Int.natCast_nonneg,List.length_append,List.map_append,he] | (refine condK_split ?_ ?_ <;> intro hwq) | (refine two_split ?_ ?_) | (refine guardK_split ?_ ?_ <;> intro hwq) | (refine guardE_split ?_ ?_ <;> intro hwq) | (refine awp_drawW [] (by decide +kernel) ?_; have hwq := trivial) | (refine call_plain n33 rfl rfl ?_; have hwq := trivial) | (refine call_plain n17 rfl rfl ?_; have hwq := trivial) | fail))
  | false =>
    rw [he, if_neg (by simp)] at hD
    have he0 : e = 0 := by simpa using he
    cases q1 : (x.k == 1) with
    | true =>
      rw [q1, if_pos rfl] at hD
      cases hz : (e1 == 0) with
      | true =>
        have hE : e1 = 0 := by simpa using hz
        have hput := h35 he0 hE
        have hz2 : (e1 != 0) = false := by simp [hE]
        rw [hz, if_pos rfl] at hD
        subst hE
        subst hD
        (have hwq := trivial; repeat' (first | simp (maxSteps:=9999999)-implicitDefEqProofs only [go_sem,simprocAttr,hwq,FT3,FT4,FT5,FT23,FT24,FT25,FT26,FT27,FT29,FT30,FT32,FT34,FT35,FT37,FT39,FT40,FT41,FT43,FT46,FT59,FT69,FT73,FT78,List.length_map,List.getElem?_map,Int.natCast_nonneg,List.length_append,List.map_append,he,q1] | (refine condK_split ?_ ?_ <;> intro hwq) | (refine two_split ?_ ?_) | (refine guardK_split ?_ ?_ <;> intro hwq) | (refine guardE_split ?_ ?_ <;> intro hwq) | (refine awp_drawW [] (by decide +kernel) ?_; have hwq := trivial) | (refine call_plain n33 rfl rfl ?_; have hwq := trivial) | (refine call_plain n17 rfl rfl ?_; have hwq := trivial) | (refine call_plain n34 rfl rfl ?_; have hwq := trivial) | (refine call_plain hput rfl rfl ?_; have hwq := trivial) | fail))
      | false =>
        have hz2 : (e1 != 0) = true := by simpa using hz
        rw [hz, if_neg (by simp)] at hD
        subst hD
        (have hwq := trivial; repeat' (first | simp (maxSteps:=9999999)-implicitDefEqProofs only [go_sem,simprocAttr,hwq,FT3,FT4,FT5,FT23,FT24,FT25,FT26,FT27,FT29,FT30,FT32,FT34,FT35,FT37,FT39,FT40,FT41,FT43,FT46,FT59,FT69,FT73,FT78,List.length_map,List.getElem?_map,Int.natCast_nonneg,List.length_append,List.map_append,he,q1,hz,hz2] | (refine condK_split ?_ ?_ <;> intro hwq) | (refine two_split ?_ ?_) | (refine guardK_split ?_ ?_ <;> intro hwq) | (refine guardE_split ?_ ?_ <;> intro hwq) | (refine awp_drawW [] (by decide +kernel) ?_; have hwq := trivial) | (refine call_plain n33 rfl rfl ?_; have hwq := trivial) | (refine call_plain n17 rfl rfl ?_; have hwq := trivial) | (refine call_plain n34 rfl rfl ?_; have hwq := trivial) | fail))
    | false =>
      rw [q1, if_neg (by simp)] at hD
      cases q2 : (x.k == 2) with
      | true =>
        rw [q2, if_pos rfl] at hD
        cases e2 with
        | false =>
          rw [if_neg (by simp)] at hD
          subst hD
          (have hwq := trivial; repeat' (first | simp (maxSteps:=9999999)-implicitDefEqProofs only [go_sem,simprocAttr,hwq,FT3,FT4,FT5,FT23,FT24,FT25,FT26,FT27,FT29,FT30,FT32,FT34,FT35,FT37,FT39,FT40,FT41,FT43,FT46,FT59,FT69,FT73,FT78,List.length_map,List.getElem?_map,Int.natCast_nonneg,List.length_append,List.map_append,he,q1,q2] | (refine condK_split ?_ ?_ <;> intro hwq) | (refine two_split ?_ ?_) | (refine guardK_split ?_ ?_ <;> intro hwq) | (refine guardE_split ?_ ?_ <;> intro hwq) | (refine awp_drawW [] (by decide +kernel) ?_; have hwq := trivial) | (refine call_plain n33 rfl rfl ?_; have hwq := trivial) | (refine call_plain n17 rfl rfl ?_; have hwq := trivial) | (refine call_plain n37 rfl rfl ?_; have hwq := trivial) | fail))
        | true =>
          have hput := h38 he0 (b38 rfl)
          rw [if_pos rfl] at hD
          subst hD
          (have hwq := trivial; repeat' (first | simp (maxSteps:=9999999)-implicitDefEqProofs only [go_sem,simprocAttr,hwq,FT3,FT4,FT5,FT23,FT24,FT25,FT26,FT27,FT29,FT30,FT32,FT34,FT35,FT37,FT39,FT40,FT41,FT43,FT46,FT59,FT69,FT73,FT78,List.length_map,List.getElem?_map,Int.natCast_nonneg,List.length_append,List.map_append,he,q1,q2] | (refine condK_split ?_ ?_ <;> intro hwq) | (refine two_split ?_ ?_) | (refine guardK_split ?_ ?_ <;> intro hwq) | (refine guardE_split ?_ ?_ <;> intro hwq) | (refine awp_drawW [] (by decide +kernel) ?_; have hwq := trivial) | (refine call_plain n33 rfl rfl ?_; have hwq := trivial) | (refine call_plain n17 rfl rfl ?_; have hwq := trivial) | (refine call_plain n37 rfl rfl ?_; have hwq := trivial) | (refine call_plain hput rfl rfl ?_; have hwq := trivial) | fail))
      | false =>
        rw [q2, if_neg (by simp)] at hD
        cases q3 : (x.k == 3) with
        | true =>
          rw [q3, if_pos rfl] at hD
          cases hz : (e3 == 0) with
          | true =>
            have hE : e3 = 0 := by simpa using hz
            have hput := h40 he0 hE
            have hz2 : (e3 != 0) = false := by simp [hE]
            rw [hz, if_pos rfl] at hD
            subst hE
            subst hD
            (have hwq := trivial; repeat' (first | simp (maxSteps:=9999999)-implicitDefEqProofs only [go_sem,simprocAttr,hwq,FT3,FT4,FT5,FT23,FT24,FT25,FT26,FT27,FT29,FT30,FT32,FT34,FT35,FT37,FT39,FT40,FT41,FT43,FT46,FT59,FT69,FT73,FT78,List.length_map,List.getElem?_map,Int.natCast_nonneg,List.length_append,List.map_append,he,q1,q2,q3] | (refine condK_split ?_ ?_ <;> intro hwq) | (refine two_split ?_ ?_) | (refine guardK_split ?_ ?_ <;> intro hwq) | (refine guardE_split ?_ ?_ <;> intro hwq) | (refine awp_drawW [] (by decide +kernel) ?_; have hwq := trivial) | (refine call_plain n33 rfl rfl ?_; have hwq := trivial) | (refine call_plain n17 rfl rfl ?_; have hwq := trivial) | (refine call_plain n39 rfl rfl ?_; have hwq := trivial) | (refine call_plain hput rfl rfl ?_; have hwq := trivial) | fail))
          | false =>
            have hz2 : (e3 != 0) = true := by simpa using hz
            rw [hz, if_neg (by simp)] at hD
            subst hD
            (have hwq := trivial; repeat' (first | simp (maxSteps:=9999999)-implicitDefEqProofs only [go_sem,simprocAttr,hwq,FT3,FT4,FT5,FT23,FT24,FT25,FT26,FT27,FT29,FT30,FT32,FT34,FT35,FT37,FT39,FT40,FT41,FT43,FT46,FT59,FT69,FT73,FT78,List.length_map,List.getElem?_map,Int.natCast_nonneg,List.length_append,List.map_append,he,q1,q2,q3,hz,hz2] | (refine condK_split ?_ ?_ <;> intro hwq) | (refine two_split ?_ ?_) | (refine guardK_split ?_ ?_ <;> intro hwq) | (refine guardE_split ?_ ?_ <;> intro hwq) | (refine awp_drawW [] (by decide +kernel) ?_; have hwq := trivial) | (refine call_plain n33 rfl rfl ?_; have hwq := trivial) | (refine call_plain n17 rfl rfl ?_; have hwq := trivial) | (refine call_plain n39 rfl rfl ?_; have hwq := trivial) | fail))
        | false =>
          rw [q3, if_neg (by simp)] at hD
          cases q4 : (x.k == 4) with
          | true =>
            rw [q4, if_pos rfl] at hD
            cases e4 with
            | false =>
              rw [if_neg (by simp)] at hD
              subst hD
              (have hwq := trivial; repeat' (first | simp (maxSteps:=9999999)-implicitDefEqProofs only [go_sem,simprocAttr,hwq,FT3,FT4,FT5,FT23,FT24,FT25,FT26,FT27,FT29,FT30,FT32,FT34,FT35,FT37,FT39,FT40,FT41,FT43,FT46,FT59,FT69,FT73,FT78,List.length_map,List.getElem?_map,Int.natCast_nonneg,List.length_append,List.map_append,he,q1,q2,q3,q4] | (refine condK_split ?_ ?_ <;> intro hwq) | (refine two_split ?_ ?_) | (refine guardK_split ?_ ?_ <;> intro hwq) | (refine guardE_split ?_ ?_ <;> intro hwq) | (refine awp_drawW [] (by decide +kernel) ?_; have hwq := trivial) | (refine call_plain n33 rfl rfl ?_; have hwq := trivial) | (refine call_plain n17 rfl rfl ?_; have hwq := trivial) | (refine call_plain n42 rfl rfl ?_; have hwq := trivial) | fail))
            | true =>
              have hput := h43 he0 (b43 rfl)
              rw [if_pos rfl] at hD
              by_cases hu : (0 : Int) < (U1.length : Int)
              · rw [decide_eq_true hu, if_pos rfl] at hD
                subst hD
                (have hwq := trivial; repeat' (first | simp (maxSteps:=9999999)-implicitDefEqProofs only [go_sem,simprocAttr,hwq,FT3,FT4,FT5,FT23,FT24,FT25,FT26,FT27,FT29,FT30,FT32,FT34,FT35,FT37,FT39,FT40,FT41,FT43,FT46,FT59,FT69,FT73,FT78,List.length_map,List.getElem?_map,Int.natCast_nonneg,List.length_append,List.map_append,he,q1,q2,q3,q4,hu] | (refine condK_split ?_ ?_ <;> intro hwq) | (refine two_split ?_ ?_) | (refine guardK_split ?_ ?_ <;> intro hwq) | (refine guardE_split ?_ ?_ <;> intro hwq) | (refine awp_drawW [] (by decide +kernel) ?_; have hwq := trivial) | (refine call_plain n33 rfl rfl ?_; have hwq := trivial) | (refine call_plain n17 rfl rfl ?_; have hwq := trivial) | (refine call_plain n42 rfl rfl ?_; have hwq := trivial) | (refine call_plain n27 rfl rfl ?_; have hwq := trivial) | fail))
              · rw [decide_eq_false hu, if_neg (by simp)] at hD
                subst hD
                (have hwq := trivial; repeat' (first | simp (maxSteps:=9999999)-implicitDefEqProofs only [go_sem,simprocAttr,hwq,FT3,FT4,FT5,FT23,FT24,FT25,FT26,FT27,FT29,FT30,FT32,FT34,FT35,FT37,FT39,FT40,FT41,FT43,FT46,FT59,FT69,FT73,FT78,List.length_map,List.getElem?_map,Int.natCast_nonneg,List.length_append,List.map_append,he,q1,q2,q3,q4,hu] | (refine condK_split ?_ ?_ <;> intro hwq) | (refine two_split ?_ ?_) | (refine guardK_split ?_ ?_ <;> intro hwq) | (refine guardE_split ?_ ?_ <;> intro hwq) | (refine awp_drawW [] (by decide +kernel) ?_; have hwq := trivial) | (refine call_plain n33 rfl rfl ?_; have hwq := trivial) | (refine call_plain n17 rfl rfl ?_; have hwq := trivial) | (refine call_plain n42 rfl rfl ?_; have hwq := trivial) | (refine call_plain n27 rfl rfl ?_; have hwq := trivial) | (refine call_plain hput rfl rfl ?_; have hwq := trivial) | fail))
          | false =>
            rw [q4, if_neg (by simp)] at hD
            cases q5 : (x.k == 5) with
            | true =>
              rw [q5, if_pos rfl] at hD
              cases hz : (e5 == 0) with
              | true =>
                have hE : e5 = 0 := by simpa using hz
                have hput := h45 he0 hE
                have hz2 : (e5 != 0) = false := by simp [hE]
                rw [hz, if_pos rfl] at hD
                subst hE
                subst hD
                (have hwq := trivial; repeat' (first | simp (maxSteps:=9999999)-implicitDefEqProofs only [go_sem,simprocAttr,hwq,FT3,FT4,FT5,FT23,FT24,FT25,FT26,FT27,FT29,FT30,FT32,FT34,FT35,FT37,FT39,FT40,FT41,FT43,FT46,FT59,FT69,FT73,FT78,List.length_map,List.getElem?_map,Int.natCast_nonneg,List.length_append,List.map_append,he,q1,q2,q3,q4,q5] | (refine condK_split ?_ ?_ <;> intro hwq) | (refine two_split ?_ ?_) | (refine guardK_split ?_ ?_ <;> intro hwq) | (refine guardE_split ?_ ?_ <;> intro hwq) | (refine awp_drawW [] (by decide +kernel) ?_; have hwq := trivial) | (refine call_plain n33 rfl rfl ?_; have hwq := trivial) | (refine call_plain n17 rfl rfl ?_; have hwq := trivial) | (refine call_plain n44 rfl rfl ?_; have hwq := trivial) | (refine call_plain hput rfl rfl ?_; have hwq := trivial) | (refine draw_plain n46 rfl (fun _ => rfl) ?_; have hwq := trivial) | (refine draw_plain hput rfl (fun _ => rfl) ?_; have hwq := trivial) | fail))
              | false =>
                have hz2 : (e5 != 0) = true := by simpa using hz
                rw [hz, if_neg (by simp)] at hD
                subst hD
                (have hwq := trivial; repeat' (first | simp (maxSteps:=9999999)-implicitDefEqProofs only [go_sem,simprocAttr,hwq,FT3,FT4,FT5,FT23,FT24,FT25,FT26,FT27,FT29,FT30,FT32,FT34,FT35,FT37,FT39,FT40,FT41,FT43,FT46,FT59,FT69,FT73,FT78,List.length_map,List.getElem?_map,Int.natCast_nonneg,List.length_append,List.map_append,he,q1,q2,q3,q4,q5,hz,hz2] | (refine condK_split ?_ ?_ <;> intro hwq) | (refine two_split ?_ ?_) | (refine guardK_split ?_ ?_ <;> intro hwq) | (refine guardE_split ?_ ?_ <;> intro hwq) | (refine awp_drawW [] (by decide +kernel) ?_; have hwq := trivial) | (refine call_plain n33 rfl rfl ?_; have hwq := trivial) | (refine call_plain n17 rfl rfl ?_; have hwq := trivial) | (refine call_plain n44 rfl rfl ?_; have hwq := trivial) | fail))
            | false =>
              rw [q5, if_neg (by simp)] at hD
              cases q6 : (x.k == 6) with
              | true =>
                rw [q6, if_pos rfl] at hD
                cases e6 with
                | false =>
                  rw [if_neg (by simp)] at hD
                  subst hD
                  (have hwq := trivial; repeat' (first | simp (maxSteps:=9999999)-implicitDefEqProofs only [go_sem,simprocAttr,hwq,FT3,FT4,FT5,FT23,FT24,FT25,FT26,FT27,FT29,FT30,FT32,FT34,FT35,FT37,FT39,FT40,FT41,FT43,FT46,FT59,FT69,FT73,FT78,List.length_map,List.getElem?_map,Int.natCast_nonneg,List.length_append,List.map_append,he,q1,q2,q3,q4,q5,q6] | (refine condK_split ?_ ?_ <;> intro hwq) | (refine two_split ?_ ?_) | (refine guardK_split ?_ ?_ <;> intro hwq) | (refine guardE_split ?_ ?_ <;> intro hwq) | (refine awp_drawW [] (by decide +kernel) ?_; have hwq := trivial) | (refine call_plain n33 rfl rfl ?_; have hwq := trivial) | (refine call_plain n17 rfl rfl ?_; have hwq := trivial) | (refine call_plain n48 rfl rfl ?_; have hwq := trivial) | fail))
                | true =>
                  have hput := h49 he0 rfl
                  rw [if_pos rfl] at hD
                  by_cases hu : (0 : Int) < (U2.length : Int)
                  · rw [decide_eq_true hu, if_pos rfl] at hD
                    subst hD
                    (have hwq := trivial; repeat' (first | simp (maxSteps:=9999999)-implicitDefEqProofs only [go_sem,simprocAttr,hwq,FT3,FT4,FT5,FT23,FT24,FT25,FT26,FT27,FT29,FT30,FT32,FT34,FT35,FT37,FT39,FT40,FT41,FT43,FT46,FT59,FT69,FT73,FT78,List.length_map,List.getElem?_map,Int.natCast_nonneg,List.length_append,List.map_append,he,q1,q2,q3,q4,q5,q6,hu] | (refine condK_split ?_ ?_ <;> intro hwq) | (refine two_split ?_ ?_) | (refine guardK_split ?_ ?_ <;> intro hwq) | (refine guardE_split ?_ ?_ <;> intro hwq) | (refine awp_drawW [] (by decide +kernel) ?_; have hwq := trivial) | (refine call_plain n33 rfl rfl ?_; have hwq := trivial) | (refine call_plain n17 rfl rfl ?_; have hwq := trivial) | (refine call_plain n48 rfl rfl ?_; have hwq := trivial) | (refine call_plain n29 rfl rfl ?_; have hwq := trivial) | fail))
                  · rw [decide_eq_false hu, if_neg (by simp)] at hD
                    subst hD
                    (have hwq := trivial; repeat' (first | simp (maxSteps:=9999999)-implicitDefEqProofs only [go_sem,simprocAttr,hwq,FT3,FT4,FT5,FT23,FT24,FT25,FT26,FT27,FT29,FT30,FT32,FT34,FT35,FT37,FT39,FT40,FT41,FT43,FT46,FT59,FT69,FT73,FT78,List.length_map,List.getElem?_map,Int.natCast_nonneg,List.length_append,List.map_append,he,q1,q2,q3,q4,q5,q6,hu] | (refine condK_split ?_ ?_ <;> intro hwq) | (refine two_split ?_ ?_) | (refine guardK_split ?_ ?_ <;> intro hwq) | (refine guardE_split ?_ ?_ <;> intro hwq) | (refine awp_drawW [] (by decide +kernel) ?_; have hwq := trivial) | (refine call_plain n33 rfl rfl ?_; have hwq := trivial) | (refine call_plain n17 rfl rfl ?_; have hwq := trivial) | (refine call_plain n48 rfl rfl ?_; have hwq := trivial) | (refine call_plain n29 rfl rfl ?_; have hwq := trivial) | (refine call_plain hput rfl rfl ?_; have hwq := trivial) | fail))
              | false =>
                rw [q6, if_neg (by simp)] at hD
                subst hD
                (have hwq := trivial; repeat' (first | simp (maxSteps:=9999999)-implicitDefEqProofs only [go_sem,simprocAttr,hwq,FT3,FT4,FT5,FT23,FT24,FT25,FT26,FT27,FT29,FT30,FT32,FT34,FT35,FT37,FT39,FT40,FT41,FT43,FT46,FT59,FT69,FT73,FT78,List.length_map,List.getElem?_map,Int.natCast_nonneg,List.length_append,List.map_append,he,q1,q2,q3,q4,q5,q6] | (refine condK_split ?_ ?_ <;> intro hwq) | (refine two_split ?_ ?_) | (refine guardK_split ?_ ?_ <;> intro hwq) | (refine guardE_split ?_ ?_ <;> intro hwq) | (refine awp_drawW [] (by decide +kernel) ?_; have hwq := trivial) | (refine call_plain n33 rfl rfl ?_; have hwq := trivial) | (refine call_plain n17 rfl rfl ?_; have hwq := trivial) | fail))
end Go.Ai

set_option linter.unusedVariables false
set_option linter.unusedSimpArgs false
set_option maxHeartbeats 1000000
set_option maxRecDepth 100000
namespace Go.Ai
open Go.Proofs
theorem find_any {α : Type} {q : α → Bool} : ∀ {L : List α}, (L.find? q).isSome = L.any q
  | [] => rfl
  | y :: l => by
    rw [List.find?_cons, List.any_cons]
    cases h : q y with
    | true => rfl
    | false => rw [Bool.false_or]; exact find_any
theorem any_or {α : Type} {a b c : α → Bool} : ∀ {L : List α}, (L.any fun x => a x && (b x || c x)) = ((L.any fun x => a x && b x) || (L.any fun x => a x && c x))
  | [] => rfl
  | y :: l => by
    rw [List.any_cons, List.any_cons, List.any_cons, any_or]
    cases a y <;> cases b y <;> cases c y <;> simp
theorem kind12 {p : Pv} (h : okB p = true) : ∀ x ∈ p.ks, x = 1 ∨ x = 2 := by
  unfold okB at h
  simp only [Bool.and_eq_true] at h
  have h1 := h.2.2.1
  unfold okQ at h1
  simp only [Bool.and_eq_true] at h1
  have h2 := h1.1
  intro x hx
  rw [Bool.not_eq_true', List.any_eq_false] at h2
  have h3 := h2 x hx
  simp at h3
  by_cases h4 : x = 1
  · exact .inl h4
  · exact .inr (h3 h4)
theorem kind_zero {ks : List Int} (h : ∀ x ∈ ks, x = 1 ∨ x = 2) (x : Int) : kindP ks x = 0 ↔ inK ks x = false := by
  unfold kindP inK
  by_cases h0 : 0 ≤ x
  · rw [if_pos h0]
    by_cases h1 : x < (ks.length : Int)
    · have h2 : x.toNat < ks.length := by omega
      have h3 : ks.getD x.toNat 0 = ks[x.toNat] := by simp [List.getD_eq_getElem?_getD, h2]
      rw [h3]
      have h4 := h _ (List.getElem_mem h2)
      simp only [h0, h1, and_self, decide_true, Bool.true_eq_false, iff_false]
      rcases h4 with h4 | h4 <;> rw [h4] <;> decide
    · have h2 : ks.length ≤ x.toNat := by omega
      have h3 : ks.getD x.toNat 0 = 0 := by simp [List.getD_eq_getElem?_getD, h2]
      rw [h3]
      simp [h1]
  · rw [if_neg h0]
    simp [h0]
theorem addMap_ref {p : Pv} (h : okB p = true) (m : Mp) : refMapE p m = addMapE p m := by
  have hk := kind_zero (kind12 h) m.p
  unfold refMapE addMapE rMap aMap fullZ hasC
  rw [find_any, find_any, find_any, any_or]
  by_cases h0 : inK p.ks m.p = false
  · rw [if_pos h0, if_pos (hk.2 h0)]
  · rw [if_neg h0, if_neg (fun hh => h0 (hk.1 hh))]
    simp only [Bool.or_eq_true]
theorem addCarry_ref (p : Pv) (c : Cr) : refCarE p c = addCarryE p c := by
  unfold refCarE addCarryE rCar aCar fullZ hasC hasM
  rw [find_any, find_any]
  by_cases h1 : decide (vidOk c.v) = false <;> by_cases h2 : decide (isidOk c.s) = false <;> simp only [h1, h2, or_self, or_true, true_or, if_true, or_false, false_or, if_false]
theorem setF_count (m : Mb) : ∀ (L : List Mb) (s : List Mb × Bool), (L.foldl (stepM m) s).1.length + (if (L.foldl (stepM m) s).2 = true then 0 else 1) = s.1.length + (L.filter (fun y => y.v != m.v)).length + (if s.2 = true then 0 else 1)
  | [], s => by obtain ⟨N, b⟩ := s; cases b <;> simp
  | y :: l, s => by
    rw [List.foldl_cons, setF_count m l (stepM m s y)]
    obtain ⟨N, b⟩ := s
    unfold stepM
    by_cases hv : m.v = y.v
    · have h1 : (y.v != m.v) = false := by simp [hv]
      rw [List.filter_cons_of_neg (p := fun y : Mb => y.v != m.v) (by rw [h1]; simp)]
      cases b <;> simp [hv] <;> omega
    · have h1 : (y.v != m.v) = true := by simp; exact fun h => hv h.symm
      rw [List.filter_cons_of_pos (p := fun y : Mb => y.v != m.v) h1]
      by_cases hl : m.v ≤ y.v <;> cases b <;> simp [hv, hl] <;> omega
theorem setMb_len (m : Mb) (L : List Mb) : (setMbL m L).length = (L.filter (fun y => y.v != m.v)).length + 1 := by
  have h := setF_count m L ([], false)
  unfold setMbL
  have e : L.foldl (stepM m) ([], false) = setF m L := rfl
  rw [e] at h
  simp only [List.length_nil, Nat.zero_add, Bool.false_eq_true, if_false] at h
  by_cases hb : (setF m L).2 = true
  · rw [if_pos hb] at h ⊢; omega
  · rw [if_neg hb] at h ⊢
    rw [List.length_append]
    exact h
/-- Of rows that rise, every later one is greater. -/
theorem ris_gt {α : Type} {f : α → Int} : ∀ {l : List α} {a : α}, risB (fun x y => decide (f x < f y)) (a :: l) = true → ∀ y ∈ l, f a < f y
  | [], a, _, y, hy => by cases hy
  | b :: l, a, h, y, hy => by
    rw [risB, Bool.and_eq_true] at h
    have h1 := of_decide_eq_true h.1
    rcases List.mem_cons.1 hy with rfl | hy
    · exact h1
    · exact Int.lt_trans h1 (ris_gt h.2 y hy)
theorem ris_tail {α : Type} {lt : α → α → Bool} {a : α} {l : List α} (h : risB lt (a :: l) = true) : risB lt l = true := by
  cases l with
  | nil => rfl
  | cons b l => rw [risB, Bool.and_eq_true] at h; exact h.2
theorem fil_all {L : List Mb} {v : Int} (h : ∀ y ∈ L, v < y.v) : L.filter (fun y => y.v != v) = L :=
  List.filter_eq_self.2 fun y hy => by have := h y hy; simp; omega
theorem fil_cnt {v : Int} : ∀ {L : List Mb}, risB ltMb L = true → (L.filter (fun y => y.v != v)).length + (if hasM L v = true then 1 else 0) = L.length
  | [], _ => rfl
  | y :: l, h => by
    have hg := ris_gt (f := fun x : Mb => x.v) h
    by_cases hv : y.v = v
    · have h1 : hasM (y :: l) v = true := by unfold hasM; simp [hv]
      rw [if_pos h1, List.filter_cons_of_neg (by simp [hv]), fil_all fun z hz => hv ▸ hg z hz]
      rfl
    · have h1 : hasM (y :: l) v = hasM l v := by unfold hasM; simp [hv]
      rw [h1, List.filter_cons_of_pos (by simp [hv]), List.length_cons, List.length_cons]
      have hf := fil_cnt (v := v) (ris_tail h)
      cases hm : hasM l v <;> simp [hm] at hf ⊢ <;> omega
theorem bsOk {p : Pv} (h : okB p = true) : risB ltMb p.bs = true ∧ p.bs.length ≤ 64 := by
  unfold okB at h
  simp only [Bool.and_eq_true] at h
  have h1 := h.1
  have h2 := h.2.1
  unfold okA at h1
  unfold okR at h2
  simp only [Bool.and_eq_true, decide_eq_true_eq] at h1 h2
  refine ⟨h2.1, ?_⟩
  have := h1.2.2.2.2
  omega
theorem any_cg {α : Type} {a b : α → Bool} : ∀ {L : List α}, (∀ x ∈ L, a x = b x) → L.any a = L.any b
  | [], _ => rfl
  | y :: l, h => by rw [List.any_cons, List.any_cons, h y (by simp), any_cg fun z hz => h z (by simp [hz])]
theorem setMem_ref {p : Pv} (h : okB p = true) (w : Mb) : refMemE p w = setMemberE p w := by
  obtain ⟨h1, h2⟩ := bsOk h
  have hk := kind_zero (kind12 h)
  have hc := fil_cnt (v := w.v) h1
  have hl := setMb_len w p.bs
  have ho : (w.l.any (outK p.ks)) = (w.l.any fun x => kindP p.ks x == 0) := any_cg fun x _ => by
    have := hk x
    unfold outK
    unfold inK at this
    rw [Bool.eq_iff_iff, beq_iff_eq, this]
    simp
    omega
  unfold refMemE setMemberE rMem sMem portsE fullZ
  rw [ho]
  generalize (w.l.any fun x => kindP p.ks x == 0) = o
  generalize (w.l.any fun x => kindP p.ks x != 2) = t
  generalize risB ltI w.l = r
  generalize decide (vidOk w.v) = d
  cases d <;> cases r <;> cases o <;> cases t <;> simp
  cases hm : hasM p.bs w.v with
  | true =>
    rw [hm, if_pos rfl] at hc
    simp
    omega
  | false =>
    rw [hm, if_neg (by simp)] at hc
    simp
    split <;> split <;> omega
theorem del_in {α : Type} [DecidableEq α] {x : α} {L : List α} : (L.filter (fun y => !decide (y = x))).length = L.length ↔ ¬ x ∈ L := by
  rw [List.length_filter_eq_length_iff]
  constructor
  · intro h hx; have := h x hx; simp at this
  · intro h y hy; simp; rintro rfl; exact h hy
theorem delM_in {v : Int} {L : List Mb} : (L.filter (fun y : Mb => y.v != v)).length = L.length ↔ hasM L v = false := by
  rw [List.length_filter_eq_length_iff]
  unfold hasM
  rw [List.any_eq_false]
  simp
/-- What Do answers is what the reference's Do answers, if put and drop give these rows. -/
theorem doL_ref (p : Pv) (x : Cm) : doL p x (insL beforeB x.m p.ms) (p.ms.filter (fun y : Mp => !decide (y = x.m))) (insL ltCr x.c p.cs) (p.cs.filter (fun y : Cr => !decide (y = x.c))) (setMbL x.w p.bs) (p.bs.filter (fun y : Mb => y.v != x.w.v)) = refDo p x := by
  unfold doL refDo
  cases hc : (checkE p != 0) with
  | true => rfl
  | false =>
    have hok : okB p = true := by
      unfold checkE at hc
      cases ho : okB p with
      | true => rfl
      | false => rw [ho] at hc; exact absurd hc (by decide)
    rw [if_neg Bool.false_ne_true, if_neg Bool.false_ne_true]
    have r1 : (if addMapE p x.m == 0 then ({ p with ms := insL beforeB x.m p.ms }, 0) else (p, addMapE p x.m)) = refMap p x.m := by
      unfold refMap
      rw [addMap_ref hok]
      by_cases h : addMapE p x.m = 0 <;> simp [h]
    have r3 : (if addCarryE p x.c == 0 then ({ p with cs := insL ltCr x.c p.cs }, 0) else (p, addCarryE p x.c)) = refCar p x.c := by
      unfold refCar
      rw [addCarry_ref]
      by_cases h : addCarryE p x.c = 0 <;> simp [h]
    have r5 : (if setMemberE p x.w == 0 then ({ p with bs := setMbL x.w p.bs }, 0) else (p, setMemberE p x.w)) = refMem p x.w := by
      unfold refMem
      rw [setMem_ref hok]
      by_cases h : setMemberE p x.w = 0 <;> simp [h]
    have r2 : (if decide (x.m ∈ p.ms) then ({ p with ms := p.ms.filter (fun y : Mp => !decide (y = x.m)) }, 0) else (p, 182)) = refMapD p x.m := by
      unfold refMapD delE51
      by_cases h : x.m ∈ p.ms
      · rw [if_neg (fun hh => (del_in.1 hh) h)]; simp [h]
      · rw [if_pos (del_in.2 h)]; simp [h]
    have r4 : (if decide (x.c ∈ p.cs) then (if decide ((0 : Int) < ((usedC p x.c.s).length : Int)) then (p, 183) else ({ p with cs := p.cs.filter (fun y : Cr => !decide (y = x.c)) }, 0)) else (p, 182)) = refCarD p x.c := by
      have hU : usedC p x.c.s = (p.ms.filter (fun y => y.s == x.c.s)).map (·.p) := rfl
      unfold refCarD delE53
      rw [← hU]
      by_cases h : x.c ∈ p.cs
      · rw [if_neg (fun hh => (del_in.1 hh) h)]
        by_cases hu : (usedC p x.c.s).length = 0
        · simp [h, hu]
        · have hu' : 0 < (usedC p x.c.s).length := Nat.pos_of_ne_zero hu
          simp only [h, decide_true, if_true, if_neg hu, Int.natCast_pos, hu']
          rfl
      · rw [if_pos (del_in.2 h)]; simp [h]
    have r6 : (if hasM p.bs x.w.v then (if decide ((0 : Int) < ((usedM p x.w.v).length : Int)) then (p, 183) else ({ p with bs := p.bs.filter (fun y : Mb => y.v != x.w.v) }, 0)) else (p, 182)) = refMemD p x.w.v := by
      have hU : usedM p x.w.v = (p.cs.filter (fun y => y.v == x.w.v)).map (·.s) := rfl
      have hd : delE55 p x.w.v = if (p.bs.filter (fun y : Mb => y.v != x.w.v)).length = p.bs.length then 182 else if (usedM p x.w.v).length = 0 then 0 else 183 := rfl
      unfold refMemD
      cases h : hasM p.bs x.w.v with
      | true =>
        rw [if_neg (fun hh => by have := delM_in.1 hh; rw [h] at this; cases this)] at hd
        by_cases hu : (usedM p x.w.v).length = 0
        · rw [if_pos hu] at hd
          rw [hd, if_pos rfl, if_pos rfl, hu]
          rfl
        · rw [if_neg hu] at hd
          have hu' : (0 : Int) < ((usedM p x.w.v).length : Int) := by omega
          rw [hd, if_pos rfl, decide_eq_true hu', if_pos rfl]
          rfl
      | false =>
        rw [if_pos (delM_in.2 h)] at hd
        rw [hd]
        rfl
    rw [r1, r2, r3, r4, r5, r6]
end Go.Ai

set_option linter.unusedVariables false
set_option linter.unusedSimpArgs false
set_option maxHeartbeats 1000000
set_option maxRecDepth 100000
namespace Go.Ai
open Go.Proofs
/-- Where rows that rise are cut by a key. -/
theorem cut_of {α : Type} {lt : α → α → Bool} {c : α → Int} (hlt : ∀ a b, lt a b = true → c b < 0 → c a < 0) : ∀ {L : List α}, risB lt L = true → ∃ n0, n0 ≤ L.length ∧ (∀ (k : Nat) (y : α), L[k]? = some y → k < n0 → c y < 0) ∧ (∀ (k : Nat) (y : α), L[k]? = some y → n0 ≤ k → ¬ c y < 0)
  | [], _ => ⟨0, by simp, by simp, by simp⟩
  | a :: l, h => by
    by_cases ha : c a < 0
    · obtain ⟨n, h1, h2, h3⟩ := cut_of hlt (ris_tail h)
      refine ⟨n + 1, by simp only [List.length_cons]; omega, ?_, ?_⟩
      · intro k y hy hk
        cases k with
        | zero => simp at hy; exact hy ▸ ha
        | succ k => exact h2 k y (by simpa using hy) (by omega)
      · intro k y hy hk
        cases k with
        | zero => omega
        | succ k => exact h3 k y (by simpa using hy) (by omega)
    · refine ⟨0, by simp, by simp, ?_⟩
      have hr := (risB_iff lt (a :: l)).1 h
      have main : ∀ (k : Nat) (y : α), (a :: l)[k]? = some y → ¬ c y < 0 := by
        intro k
        induction k with
        | zero => intro y hy; simp at hy; exact hy ▸ ha
        | succ k ih =>
          intro y hy hc
          have hk : k < (a :: l).length := by have := (List.getElem?_eq_some_iff.1 hy).1; omega
          have hz := List.getElem?_eq_getElem hk
          exact ih _ hz (hlt _ _ (hr k _ _ hz hy) hc)
      exact fun k y hy _ => main k y hy
theorem insL_at {α : Type} {lt : α → α → Bool} {x : α} : ∀ {L : List α} {n0 : Nat}, n0 ≤ L.length → (∀ (k : Nat) (y : α), L[k]? = some y → k < n0 → lt x y = false) → (∀ y, L[n0]? = some y → lt x y = true) → insL lt x L = L.take n0 ++ x :: L.drop n0
  | [], n0, h, _, _ => by
    obtain rfl : n0 = 0 := by simpa using h
    rfl
  | y :: l, 0, _, _, h => by rw [insL, if_pos (h y rfl)]; rfl
  | y :: l, n + 1, h, h1, h2 => by
    rw [insL, if_neg (by rw [h1 0 y rfl (by omega)]; simp), insL_at (n0 := n) (by simpa using h) (fun k z hz hk => h1 (k + 1) z (by simpa using hz) (by omega)) (fun z hz => h2 z (by simpa using hz))]
    rfl
theorem setF_lo {w : Mb} : ∀ {l : List Mb} {N : List Mb}, (∀ y ∈ l, ¬ w.v ≤ y.v) → l.foldl (stepM w) (N, false) = (N ++ l, false)
  | [], N, _ => by simp
  | y :: l, N, h => by
    have h1 := h y (by simp)
    have h2 : ¬ w.v = y.v := by omega
    rw [List.foldl_cons, show stepM w (N, false) y = (N ++ [y], false) by unfold stepM; simp [h1, h2], setF_lo fun z hz => h z (by simp [hz])]
    simp
theorem setF_hi {w : Mb} : ∀ {l : List Mb} {N : List Mb}, (∀ y ∈ l, ¬ w.v = y.v) → l.foldl (stepM w) (N, true) = (N ++ l, true)
  | [], N, _ => by simp
  | y :: l, N, h => by
    have h2 := h y (by simp)
    rw [List.foldl_cons, show stepM w (N, true) y = (N ++ [y], true) by unfold stepM; simp [h2], setF_hi fun z hz => h z (by simp [hz])]
    simp
theorem in_take {α : Type} {L : List α} {n : Nat} {y : α} (h : y ∈ L.take n) : ∃ k, k < n ∧ L[k]? = some y := by
  obtain ⟨k, hk⟩ := List.getElem?_of_mem h
  rw [List.getElem?_take] at hk
  split at hk
  · exact ⟨k, by assumption, hk⟩
  · cases hk
theorem in_drop {α : Type} {L : List α} {n : Nat} {y : α} (h : y ∈ L.drop n) : ∃ k, n ≤ k ∧ L[k]? = some y := by
  obtain ⟨k, hk⟩ := List.getElem?_of_mem h
  rw [List.getElem?_drop] at hk
  exact ⟨n + k, by omega, hk⟩
theorem at_cut {α : Type} {L : List α} {n : Nat} {y : α} (h : L[n]? = some y) : L = L.take n ++ y :: L.drop (n + 1) := by
  have h1 := (List.getElem?_eq_some_iff.1 h).1
  have h2 := (List.getElem?_eq_some_iff.1 h).2
  rw [← h2, List.getElem_cons_drop, List.take_append_drop]
/-- A member that is there is laid over. -/
theorem setMb_found {w y : Mb} {L : List Mb} {n0 : Nat} (hr : risB ltMb L = true) (h1 : ∀ (k : Nat) (z : Mb), L[k]? = some z → k < n0 → z.v < w.v) (hy : L[n0]? = some y) (hv : w.v = y.v) : setMbL w L = L.take n0 ++ w :: L.drop (n0 + 1) := by
  have hd : ∀ z ∈ L.drop (n0 + 1), ¬ w.v = z.v := by
    have h2 := at_cut hy
    have h3 : risB ltMb (y :: L.drop (n0 + 1)) = true := by
      have h4 : y :: L.drop (n0 + 1) = L.drop n0 := by
        obtain ⟨h5, h6⟩ := List.getElem?_eq_some_iff.1 hy
        rw [← h6, List.getElem_cons_drop]
      rw [h4]
      refine (risB_iff ltMb _).2 fun i a b ha hb => ?_
      rw [List.getElem?_drop] at ha hb
      exact (risB_iff ltMb L).1 hr (n0 + i) a b ha hb
    intro z hz he
    have : y.v < z.v := ris_gt (f := fun x : Mb => x.v) h3 z hz
    omega
  have e : setF w L = (L.take n0 ++ [w] ++ L.drop (n0 + 1), true) := by
    conv => lhs; rw [at_cut hy]
    unfold setF
    rw [List.foldl_append, setF_lo (l := L.take n0) fun z hz => by
      obtain ⟨k, hk, hg⟩ := in_take hz
      have := h1 k z hg hk
      omega]
    rw [List.foldl_cons, show stepM w ([] ++ L.take n0, false) y = (L.take n0 ++ [w], true) by unfold stepM; simp [hv], setF_hi hd]
  unfold setMbL
  rw [e, if_pos rfl]
  simp
/-- A member that is not there is laid in. -/
theorem setMb_new {w : Mb} {L : List Mb} {n0 : Nat} (h1 : ∀ (k : Nat) (z : Mb), L[k]? = some z → k < n0 → z.v < w.v) (h2 : ∀ (k : Nat) (z : Mb), L[k]? = some z → n0 ≤ k → ¬ z.v < w.v) (hn : ∀ z ∈ L, ¬ w.v = z.v) : setMbL w L = L.take n0 ++ w :: L.drop n0 := by
  have lo : ∀ z ∈ L.take n0, ¬ w.v ≤ z.v := fun z hz => by
    obtain ⟨k, hk, hg⟩ := in_take hz
    have := h1 k z hg hk
    omega
  cases hy : L[n0]? with
  | none =>
    have hl : L.length ≤ n0 := List.getElem?_eq_none_iff.1 hy
    rw [List.take_of_length_le hl] at lo ⊢
    have e : setF w L = ([] ++ L, false) := setF_lo lo
    unfold setMbL
    rw [e, List.drop_eq_nil_of_le hl]
    rfl
  | some y =>
    have h3 := h2 n0 y hy (Nat.le_refl _)
    have h4 := hn y (List.mem_of_getElem? hy)
    have hle : w.v ≤ y.v := by omega
    have e : setF w L = (L.take n0 ++ [w] ++ [y] ++ L.drop (n0 + 1), true) := by
      conv => lhs; rw [at_cut hy]
      unfold setF
      rw [List.foldl_append, setF_lo lo, List.foldl_cons, show stepM w ([] ++ L.take n0, false) y = (L.take n0 ++ [w] ++ [y], true) by unfold stepM; simp [hle, h4], setF_hi fun z hz => hn z (List.mem_of_mem_drop hz)]
    have h5 : L.drop n0 = y :: L.drop (n0 + 1) := by
      obtain ⟨h5, h6⟩ := List.getElem?_eq_some_iff.1 hy
      rw [← h6, List.getElem_cons_drop]
    unfold setMbL
    rw [e, if_pos rfl, h5]
    simp
theorem pair_of {α : Type} {lt : α → α → Bool} (tr : ∀ a b c, lt a b = true → lt b c = true → lt a c = true) : ∀ {l : List α} {a : α}, risB lt (a :: l) = true → ∀ y ∈ l, lt a y = true
  | [], a, _, y, hy => by cases hy
  | b :: l, a, h, y, hy => by
    rw [risB, Bool.and_eq_true] at h
    rcases List.mem_cons.1 hy with rfl | hy
    · exact h.1
    · exact tr _ _ _ h.1 (pair_of tr h.2 y hy)
theorem one_of {α : Type} {lt : α → α → Bool} (tr : ∀ a b c, lt a b = true → lt b c = true → lt a c = true) : ∀ {L : List α}, risB lt L = true → ∀ x ∈ L, ∀ y ∈ L, x = y ∨ lt x y = true ∨ lt y x = true
  | [], _, x, hx, _, _ => by cases hx
  | a :: l, h, x, hx, y, hy => by
    rcases List.mem_cons.1 hx with ex | hx <;> rcases List.mem_cons.1 hy with ey | hy
    · exact .inl (ex.trans ey.symm)
    · exact .inr (.inl (ex ▸ pair_of tr h y hy))
    · exact .inr (.inr (ey ▸ pair_of tr h x hx))
    · exact one_of tr (ris_tail h) x hx y hy
theorem before_tr (a b c : Mp) (h1 : beforeB a b = true) (h2 : beforeB b c = true) : beforeB a c = true := by
  unfold beforeB at *
  simp only [Bool.or_eq_true, Bool.and_eq_true, decide_eq_true_eq, beq_iff_eq] at *
  omega
theorem ltCr_tr (a b c : Cr) (h1 : ltCr a b = true) (h2 : ltCr b c = true) : ltCr a c = true := by
  unfold ltCr at *
  simp only [decide_eq_true_eq] at *
  omega
theorem before_cmp {a b : Mp} (h : beforeB a b = true) : cmpMp a b ≠ 0 ∧ cmpMp b a ≠ 0 := by
  unfold beforeB at h
  simp only [Bool.or_eq_true, Bool.and_eq_true, decide_eq_true_eq, beq_iff_eq] at h
  unfold cmpMp cmpZ
  constructor <;> (repeat' split) <;> omega
theorem cmpMp_self (a : Mp) : cmpMp a a = 0 := by unfold cmpMp cmpZ; simp
/-- What drop leaves of the maps. -/
theorem drop_ms {L : List Mp} (h : risB beforeB L = true) {m : Mp} (hm : m ∈ L) : L.filter (fun y => !(cmpMp m y == 0)) = L.filter (fun y => !decide (y = m)) :=
  List.filter_congr fun y hy => by
    rcases one_of before_tr h m hm y hy with rfl | h1 | h1
    · rw [cmpMp_self]; simp
    · have := (before_cmp h1).1
      have hn : ¬ y = m := by rintro rfl; exact this (cmpMp_self _)
      simp [this, hn]
    · have := (before_cmp h1).2
      have hn : ¬ y = m := by rintro rfl; exact this (cmpMp_self _)
      simp [this, hn]
theorem cmpZ_zero (a b : Int) : cmpZ a b = 0 ↔ a = b := by unfold cmpZ; (repeat' split) <;> omega
theorem drop_cs {L : List Cr} (h : risB ltCr L = true) {m : Cr} (hm : m ∈ L) : L.filter (fun y => !(cmpZ m.s y.s == 0)) = L.filter (fun y => !decide (y = m)) :=
  List.filter_congr fun y hy => by
    have hz := cmpZ_zero m.s y.s
    have key : ∀ {a b : Cr}, ltCr a b = true → a.s < b.s := fun h => of_decide_eq_true h
    rcases one_of ltCr_tr h m hm y hy with rfl | h1 | h1
    · have : cmpZ m.s m.s = 0 := hz.2 rfl
      rw [this]; simp
    · have h2 := key h1
      have hn : ¬ y = m := by rintro rfl; omega
      have h3 : ¬ cmpZ m.s y.s = 0 := fun h4 => by have := hz.1 h4; omega
      simp [h3, hn]
    · have h2 := key h1
      have hn : ¬ y = m := by rintro rfl; omega
      have h3 : ¬ cmpZ m.s y.s = 0 := fun h4 => by have := hz.1 h4; omega
      simp [h3, hn]
theorem drop_bs (L : List Mb) (v : Int) : L.filter (fun y => !(cmpZ v y.v == 0)) = L.filter (fun y : Mb => y.v != v) :=
  List.filter_congr fun y hy => by
    have hz := cmpZ_zero v y.v
    by_cases h : v = y.v
    · rw [hz.2 h]; simp [h]
    · have h3 : ¬ cmpZ v y.v = 0 := fun h4 => h (hz.1 h4)
      have h5 : ¬ y.v = v := fun h6 => h h6.symm
      have e1 : (cmpZ v y.v == 0) = false := by simpa using h3
      have e2 : (y.v != v) = true := by simpa using h5
      rw [e1, e2]; rfl
end Go.Ai

set_option linter.unusedVariables false
set_option linter.unusedSimpArgs false
set_option maxHeartbeats 4000000
set_option maxRecDepth 100000
namespace Go.Ai
open Go.Proofs
attribute [local go_sem] QH QR V.noimm V.noimms frzZs frzZ frzA frzV frzVs frzBox boxLen Option.isSome cond_true cond_false aopD calW flatV stepX amap stepY alookup afind aupdate adelete amlen arange ameq mapOf akeq pl V.mapT V.mapTs Option.bind stepK runK guardD stepE runD callD compact selB callK evS ofVal ofVals scalar aop ares mkRes V.rn V.rns V.cells? cellsAt Go.Ai.part aload astore setL V.atom abin aun intBin shiftBin aconv fieldOf aindexAddr aindex bound? aslice aarr abuild afill alen nilP nilS nilF aeq eqCells eqCell Go.Ai.known strBin abuiltin aappend abuildSlice arowsFill amakeSlice acopy aclear minmax rowsOf numsT notStr isIntD isByte V.pz V.pzs T.toV frz1 frz scalT scalTs chunkT List.range List.range.loop ite_true ite_false if_true if_false ne_eq implies_true forall_const eq_self IntKind.bits kPostKF_ret kPostKF_normal kPostX_ret kPostX_normal bsl nil2K nil2 kPostFW_ret kPostFW_normal kPostKM_ret kPostKM_normal kPostXK_ret kPostXK_normal
theorem set_cut {α : Type} {L : List α} {n : Nat} {x : α} (h : n < L.length) : L.set n x = L.take n ++ x :: L.drop (n + 1) := by
  rw [List.set_eq_take_append_cons_drop, if_pos h]
/-- put of a member that is there. -/
theorem put45_found (w : Mb) (L : List Mb) (hL : L.length ≤ 1000) (n0 : Nat) (y : Mb) (hy : L[n0]? = some y) (h1 : AC Tryz.prog 111 [bsV L, mbV w, .clo (.func 47) [] []] [] (eqR (.tuple [vI n0, vB true]))) :
    AC Tryz.prog 45 [bsV L, mbV w, .clo (.func 47) [] []] [] (eqR (bsV (L.take n0 ++ w :: L.drop (n0 + 1)))) := by
  have h2 := pco96 (L.map mbT) (by simp; omega)
  have hn := (List.getElem?_eq_some_iff.1 hy).1
  have hn' : (n0 : Int) < (L.length : Int) := Int.ofNat_lt.2 hn
  rw [← set_cut hn]
  obtain ⟨X, hX⟩ : ∃ X, (L.map mbT).set n0 (mbT w) = X := ⟨_, rfl⟩
  have hX2 : (L.set n0 w).map mbT = X := by rw [← hX, List.map_set]
  have hXl : X.length = L.length := by rw [← hX]; simp
  have tk : List.take L.length X = X := List.take_of_length_le (le_of_sl hXl)
  rw [show bsV (L.set n0 w) = .sl 2 X from by rw [← hX2]]
  refine AC_frozen orders Tryz.func45 rfl (by kernel_rfl) (by kernel_rfl) Tryz.ntmps45 (by simp) ?_
  unfold Tryz.f45
  (have hwq := trivial; repeat' (first | simp (maxSteps:=9999999)-implicitDefEqProofs only [go_sem,simprocAttr,hwq,FT3,FT27,FT35,FT37,FT78,List.length_map,List.getElem?_map,Int.natCast_nonneg,List.length_append,List.map_append,hn,hn',hy,hX,hXl,tk,Nat.le_refl] | (refine condK_split ?_ ?_ <;> intro hwq) | (refine two_split ?_ ?_) | (refine guardK_split ?_ ?_ <;> intro hwq) | (refine guardE_split ?_ ?_ <;> intro hwq) | (refine awp_drawW [] (by decide +kernel) ?_; have hwq := trivial) | (refine call_plain h1 rfl rfl ?_; have hwq := trivial) | (refine call_at [] h2 (by simp) (by simp) rfl rfl rfl (V.les_refl _) ?_; have hwq := trivial) | fail))
end Go.Ai

set_option linter.unusedVariables false
set_option linter.unusedSimpArgs false
set_option maxHeartbeats 4000000
set_option maxRecDepth 100000
namespace Go.Ai
open Go.Proofs
attribute [local go_sem] QH QR V.noimm V.noimms frzZs frzZ frzA frzV frzVs frzBox boxLen Option.isSome cond_true cond_false aopD calW flatV stepX amap stepY alookup afind aupdate adelete amlen arange ameq mapOf akeq pl V.mapT V.mapTs Option.bind stepK runK guardD stepE runD callD compact selB callK evS ofVal ofVals scalar aop ares mkRes V.rn V.rns V.cells? cellsAt Go.Ai.part aload astore setL V.atom abin aun intBin shiftBin aconv fieldOf aindexAddr aindex bound? aslice aarr abuild afill alen nilP nilS nilF aeq eqCells eqCell Go.Ai.known strBin abuiltin aappend abuildSlice arowsFill amakeSlice acopy aclear minmax rowsOf numsT notStr isIntD isByte V.pz V.pzs T.toV frz1 frz scalT scalTs chunkT List.range List.range.loop ite_true ite_false if_true if_false ne_eq implies_true forall_const eq_self IntKind.bits kPostKF_ret kPostKF_normal kPostX_ret kPostX_normal bsl nil2K nil2 kPostFW_ret kPostFW_normal kPostKM_ret kPostKM_normal kPostXK_ret kPostXK_normal
theorem zr_of {n k : Nat} (h : n ≤ 1000) (h3 : k ≤ 100) : (n + 1) * k ≤ 140737488355328 :=
  Nat.le_trans (Nat.mul_le_mul (by omega : n + 1 ≤ 1001) h3) (by omega)
theorem pin100_end (x : Mp) (l : List (List T)) (hl : l.length ≤ 1000) (b0 : Blk) (hb0 : FlatB b0) : AC Tryz.prog 100 [.own 1 0 l.length, vI l.length, .own 2 0 1] [b0, .rows 3 l false, .rows 3 [mpT x] false] (fun r s mv => r = .own 1 0 (l.length + 1) ∧ s = [b0, .rows 3 (l ++ [mpT x]) false, .rows 3 [mpT x] false] ∧ mv = [1]) := by
  have hff : List.filter (fun x => decide (x < 3)) [1] = [1] := rfl
  have zs : (l.length + 1) * 24 ≤ 140737488355328 := zr_of hl (by decide)
  have e1 : ((l.length : Int) == (l.length : Int)) = true := by simp
  refine AC_heapM orders [0, 1, 2] [1] Tryz.func100 rfl (by kernel_rfl) (by kernel_rfl) Tryz.ntmps100 (by simp) ?_
  unfold Tryz.f100
  (have hwq := trivial; repeat' (first | simp (maxSteps:=9999999)-implicitDefEqProofs only [go_sem,simprocAttr,hwq,FT3,FT4,FT25,FT32,List.length_map,List.getElem?_map,Int.natCast_nonneg,List.length_append,List.map_append,hb0.rn,hb0.pz,hff,zs,e1,Nat.le_refl,List.length_cons,List.length_nil] | (refine condK_split ?_ ?_ <;> intro hwq) | (refine two_split ?_ ?_) | (refine guardK_split ?_ ?_ <;> intro hwq) | (refine guardE_split ?_ ?_ <;> intro hwq) | (refine awp_drawW [] (by decide +kernel) ?_; have hwq := trivial) | fail))
theorem put35_end (x : Mp) (L : List Mp) (hL : L.length ≤ 1000) (h1 : AC Tryz.prog 99 [msV L, mpV x, .clo (.func 36) [] []] [] (eqR (.tuple [vI L.length, vB false]))) :
    AC Tryz.prog 35 [msV L, mpV x, .clo (.func 36) [] []] [] (eqR (msV (L ++ [x]))) := by
  obtain ⟨l, hl⟩ : ∃ l, L.map mpT = l := ⟨_, rfl⟩
  have hll : L.length = l.length := by rw [← hl]; simp
  rw [hll] at h1
  have h2 := pco94 l (by omega)
  have h3 := pin100_end x l (by omega) _ (flat1_Mp x)
  obtain ⟨X, hX⟩ : ∃ X, l ++ [mpT x] = X := ⟨_, rfl⟩
  have hX2 : (L ++ [x]).map mpT = X := by rw [← hX, List.map_append, hl]; rfl
  have hXl : X.length = l.length + 1 := by rw [← hX]; simp
  have tk : List.take (l.length + 1) X = X := List.take_of_length_le (le_of_sl hXl)
  rw [hX] at h3
  rw [show msV (L ++ [x]) = .sl 3 X from by rw [← hX2], show msV L = .sl 3 l from by rw [← hl]]
  rw [show msV L = .sl 3 l from by rw [← hl]] at h1
  refine AC_frozen orders Tryz.func35 rfl (by kernel_rfl) (by kernel_rfl) Tryz.ntmps35 (by simp) ?_
  unfold Tryz.f35
  (have hwq := trivial; repeat' (first | simp (maxSteps:=9999999)-implicitDefEqProofs only [go_sem,simprocAttr,hwq,FT3,FT25,FT32,FT69,List.length_map,List.getElem?_map,Int.natCast_nonneg,List.length_append,List.map_append,hXl,tk,Nat.le_refl] | (refine condK_split ?_ ?_ <;> intro hwq) | (refine two_split ?_ ?_) | (refine guardK_split ?_ ?_ <;> intro hwq) | (refine guardE_split ?_ ?_ <;> intro hwq) | (refine awp_drawW [] (by decide +kernel) ?_; have hwq := trivial) | (refine call_plain h1 rfl rfl ?_; have hwq := trivial) | (refine call_at [] h2 (by simp) (by simp) rfl rfl rfl (V.les_refl _) ?_; have hwq := trivial) | (refine call_here h3 ?_; have hwq := trivial) | fail))
theorem pin107_end (x : Cr) (l : List (List T)) (hl : l.length ≤ 1000) (b0 : Blk) (hb0 : FlatB b0) : AC Tryz.prog 107 [.own 1 0 l.length, vI l.length, .own 2 0 1] [b0, .rows 2 l false, .rows 2 [crT x] false] (fun r s mv => r = .own 1 0 (l.length + 1) ∧ s = [b0, .rows 2 (l ++ [crT x]) false, .rows 2 [crT x] false] ∧ mv = [1]) := by
  have hff : List.filter (fun x => decide (x < 3)) [1] = [1] := rfl
  have zs : (l.length + 1) * 16 ≤ 140737488355328 := zr_of hl (by decide)
  have e1 : ((l.length : Int) == (l.length : Int)) = true := by simp
  refine AC_heapM orders [0, 1, 2] [1] Tryz.func107 rfl (by kernel_rfl) (by kernel_rfl) Tryz.ntmps107 (by simp) ?_
  unfold Tryz.f107
  (have hwq := trivial; repeat' (first | simp (maxSteps:=9999999)-implicitDefEqProofs only [go_sem,simprocAttr,hwq,FT3,FT4,FT26,FT34,List.length_map,List.getElem?_map,Int.natCast_nonneg,List.length_append,List.map_append,hb0.rn,hb0.pz,hff,zs,e1,Nat.le_refl,List.length_cons,List.length_nil] | (refine condK_split ?_ ?_ <;> intro hwq) | (refine two_split ?_ ?_) | (refine guardK_split ?_ ?_ <;> intro hwq) | (refine guardE_split ?_ ?_ <;> intro hwq) | (refine awp_drawW [] (by decide +kernel) ?_; have hwq := trivial) | fail))
theorem put40_end (x : Cr) (L : List Cr) (hL : L.length ≤ 1000) (h1 : AC Tryz.prog 106 [csV L, crV x, .clo (.func 41) [] []] [] (eqR (.tuple [vI L.length, vB false]))) :
    AC Tryz.prog 40 [csV L, crV x, .clo (.func 41) [] []] [] (eqR (csV (L ++ [x]))) := by
  obtain ⟨l, hl⟩ : ∃ l, L.map crT = l := ⟨_, rfl⟩
  have hll : L.length = l.length := by rw [← hl]; simp
  rw [hll] at h1
  have h2 := pco95 l (by omega)
  have h3 := pin107_end x l (by omega) _ (flat1_Cr x)
  obtain ⟨X, hX⟩ : ∃ X, l ++ [crT x] = X := ⟨_, rfl⟩
  have hX2 : (L ++ [x]).map crT = X := by rw [← hX, List.map_append, hl]; rfl
  have hXl : X.length = l.length + 1 := by rw [← hX]; simp
  have tk : List.take (l.length + 1) X = X := List.take_of_length_le (le_of_sl hXl)
  rw [hX] at h3
  rw [show csV (L ++ [x]) = .sl 2 X from by rw [← hX2], show csV L = .sl 2 l from by rw [← hl]]
  rw [show csV L = .sl 2 l from by rw [← hl]] at h1
  refine AC_frozen orders Tryz.func40 rfl (by kernel_rfl) (by kernel_rfl) Tryz.ntmps40 (by simp) ?_
  unfold Tryz.f40
  (have hwq := trivial; repeat' (first | simp (maxSteps:=9999999)-implicitDefEqProofs only [go_sem,simprocAttr,hwq,FT3,FT26,FT34,FT73,List.length_map,List.getElem?_map,Int.natCast_nonneg,List.length_append,List.map_append,hXl,tk,Nat.le_refl] | (refine condK_split ?_ ?_ <;> intro hwq) | (refine two_split ?_ ?_) | (refine guardK_split ?_ ?_ <;> intro hwq) | (refine guardE_split ?_ ?_ <;> intro hwq) | (refine awp_drawW [] (by decide +kernel) ?_; have hwq := trivial) | (refine call_plain h1 rfl rfl ?_; have hwq := trivial) | (refine call_at [] h2 (by simp) (by simp) rfl rfl rfl (V.les_refl _) ?_; have hwq := trivial) | (refine call_here h3 ?_; have hwq := trivial) | fail))
theorem pin112_end (x : Mb) (l : List (List T)) (hl : l.length ≤ 1000) (b0 : Blk) (hb0 : FlatB b0) : AC Tryz.prog 112 [.own 1 0 l.length, vI l.length, .own 2 0 1] [b0, .rows 2 l false, .rows 2 [mbT x] false] (fun r s mv => r = .own 1 0 (l.length + 1) ∧ s = [b0, .rows 2 (l ++ [mbT x]) false, .rows 2 [mbT x] false] ∧ mv = [1]) := by
  have hff : List.filter (fun x => decide (x < 3)) [1] = [1] := rfl
  have zs : (l.length + 1) * 32 ≤ 140737488355328 := zr_of hl (by decide)
  have e1 : ((l.length : Int) == (l.length : Int)) = true := by simp
  refine AC_heapM orders [0, 1, 2] [1] Tryz.func112 rfl (by kernel_rfl) (by kernel_rfl) Tryz.ntmps112 (by simp) ?_
  unfold Tryz.f112
  (have hwq := trivial; repeat' (first | simp (maxSteps:=9999999)-implicitDefEqProofs only [go_sem,simprocAttr,hwq,FT3,FT4,FT27,FT35,FT37,List.length_map,List.getElem?_map,Int.natCast_nonneg,List.length_append,List.map_append,hb0.rn,hb0.pz,hff,zs,e1,Nat.le_refl,List.length_cons,List.length_nil] | (refine condK_split ?_ ?_ <;> intro hwq) | (refine two_split ?_ ?_) | (refine guardK_split ?_ ?_ <;> intro hwq) | (refine guardE_split ?_ ?_ <;> intro hwq) | (refine awp_drawW [] (by decide +kernel) ?_; have hwq := trivial) | fail))
theorem put45_end (x : Mb) (L : List Mb) (hL : L.length ≤ 1000) (h1 : AC Tryz.prog 111 [bsV L, mbV x, .clo (.func 47) [] []] [] (eqR (.tuple [vI L.length, vB false]))) :
    AC Tryz.prog 45 [bsV L, mbV x, .clo (.func 47) [] []] [] (eqR (bsV (L ++ [x]))) := by
  obtain ⟨l, hl⟩ : ∃ l, L.map mbT = l := ⟨_, rfl⟩
  have hll : L.length = l.length := by rw [← hl]; simp
  rw [hll] at h1
  have h2 := pco96 l (by omega)
  have h3 := pin112_end x l (by omega) _ (flat1_Mb x)
  obtain ⟨X, hX⟩ : ∃ X, l ++ [mbT x] = X := ⟨_, rfl⟩
  have hX2 : (L ++ [x]).map mbT = X := by rw [← hX, List.map_append, hl]; rfl
  have hXl : X.length = l.length + 1 := by rw [← hX]; simp
  have tk : List.take (l.length + 1) X = X := List.take_of_length_le (le_of_sl hXl)
  rw [hX] at h3
  rw [show bsV (L ++ [x]) = .sl 2 X from by rw [← hX2], show bsV L = .sl 2 l from by rw [← hl]]
  rw [show bsV L = .sl 2 l from by rw [← hl]] at h1
  refine AC_frozen orders Tryz.func45 rfl (by kernel_rfl) (by kernel_rfl) Tryz.ntmps45 (by simp) ?_
  unfold Tryz.f45
  (have hwq := trivial; repeat' (first | simp (maxSteps:=9999999)-implicitDefEqProofs only [go_sem,simprocAttr,hwq,FT3,FT27,FT35,FT37,FT78,List.length_map,List.getElem?_map,Int.natCast_nonneg,List.length_append,List.map_append,hXl,tk,Nat.le_refl] | (refine condK_split ?_ ?_ <;> intro hwq) | (refine two_split ?_ ?_) | (refine guardK_split ?_ ?_ <;> intro hwq) | (refine guardE_split ?_ ?_ <;> intro hwq) | (refine awp_drawW [] (by decide +kernel) ?_; have hwq := trivial) | (refine call_plain h1 rfl rfl ?_; have hwq := trivial) | (refine call_at [] h2 (by simp) (by simp) rfl rfl rfl (V.les_refl _) ?_; have hwq := trivial) | (refine call_here h3 ?_; have hwq := trivial) | fail))
end Go.Ai
