/- Contracts of functions of the loaded program: called with data in the ranges that each names, it returns this value and writes to no old memory. -/
import Derived.Test.YtbiolkmddpkheaaGreatAiZ
import Derived.Test.YtbiolkmddpkheaaGreatRows
set_option linter.unusedVariables false
set_option linter.unusedSimpArgs false
set_option maxHeartbeats 4000000
set_option maxRecDepth 100000
namespace Go.Ai
open Go.Proofs
attribute [local go_sem] QH QR V.noimm V.noimms frzZs frzZ frzA frzV frzVs frzBox boxLen Option.isSome cond_true cond_false aopD calW flatV stepX amap stepY alookup afind aupdate adelete amlen arange ameq mapOf akeq pl V.mapT V.mapTs Option.bind stepK runK guardD stepE runD callD compact selB callK evS ofVal ofVals scalar aop ares mkRes V.rn V.rns V.cells? cellsAt Go.Ai.part aload astore setL V.atom abin aun intBin shiftBin aconv fieldOf aindexAddr aindex bound? aslice aarr abuild afill alen nilP nilS nilF aeq eqCells eqCell Go.Ai.known strBin abuiltin aappend abuildSlice arowsFill amakeSlice acopy aclear minmax rowsOf numsT notStr isIntD isByte V.pz V.pzs T.toV frz1 frz scalT scalTs chunkT List.range List.range.loop ite_true ite_false if_true if_false ne_eq implies_true forall_const eq_self IntKind.bits kPostKF_ret kPostKF_normal kPostX_ret kPostX_normal bsl nil2K nil2 kPostFW_ret kPostFW_normal kPostKM_ret kPostKM_normal kPostXK_ret kPostXK_normal
abbrev vI (n : Int) : V := .s (.int .i64 n)
abbrev vB (b : Bool) : V := .s (.bool b)
abbrev M6 (a b c d e f : Int) : V := .agg [.s (.int .u8 a), .s (.int .u8 b), .s (.int .u8 c), .s (.int .u8 d), .s (.int .u8 e), .s (.int .u8 f)]
def isB (n : Int) : Prop := 0 ≤ n ∧ n ≤ 255
theorem and1 (a : Int) (h : isB a) : (bAnd .u8 a 1 == 1) = decide (a % 2 = 1) := by
  obtain ⟨h0, h1⟩ := h
  obtain ⟨n, rfl⟩ := Int.eq_ofNat_of_zero_le h0
  have key : ∀ n : Fin 256, (bAnd .u8 ((n.val : Nat) : Int) 1 == 1) = decide (((n.val : Nat) : Int) % 2 = 1) := by decide +kernel
  exact key ⟨n, by omega⟩
theorem pc121 (a b c d e f : Int) (ha : isB a) : AC Tryz.prog 121 [M6 a b c d e f] [] (eqR (.s (.bool (decide (a % 2 = 1))))) := by
  refine AC_plain orders Tryz.func121 rfl (by kernel_rfl) (by kernel_rfl) Tryz.ntmps121 (by simp) ?_
  unfold Tryz.f121
  (have hwq := trivial; repeat' (first | simp (maxSteps:=9999999)-implicitDefEqProofs only [go_sem,simprocAttr,hwq,FT4,FT5,FT23] | (refine awpL_loop 18 ?_; have hwq := trivial) | (refine condK_split ?_ ?_ <;> intro hwq) | (refine two_split ?_ ?_) | (refine guardK_split ?_ ?_ <;> intro hwq) | (refine guardE_split ?_ ?_ <;> intro hwq) | (refine awp_drawW [] (by decide +kernel) ?_; have hwq := trivial) | fail))
  rw [and1 a ha]
theorem pc128 (a b c d e f g : Int) : AC Tryz.prog 128 [M6 a b c d e f, .s (.int .u8 g)] [] (eqR (.s (.bool (decide (a = g ∧ b = g ∧ c = g ∧ d = g ∧ e = g ∧ f = g))))) := by
  refine AC_plain orders Tryz.func128 rfl (by kernel_rfl) (by kernel_rfl) Tryz.ntmps128 (by simp) ?_
  unfold Tryz.f128
  (have hwq := trivial; repeat' (first | simp (maxSteps:=9999999)-implicitDefEqProofs only [go_sem,simprocAttr,hwq,FT3,FT4,FT5,FT23] | (refine awpL_loop 18 ?_; have hwq := trivial) | (refine condK_split ?_ ?_ <;> intro hwq) | (refine two_split ?_ ?_) | (refine guardK_split ?_ ?_ <;> intro hwq) | (refine guardE_split ?_ ?_ <;> intro hwq) | (refine awp_drawW [] (by decide +kernel) ?_; have hwq := trivial) | fail))
  all_goals (simp only [bne_iff_ne, ne_eq, bne_eq_false_iff_eq] at *; simp_all)
def kindZ (a b c d e f : Int) : Int := if a = 0 ∧ b = 0 ∧ c = 0 ∧ d = 0 ∧ e = 0 ∧ f = 0 then 6 else if a = 255 ∧ b = 255 ∧ c = 255 ∧ d = 255 ∧ e = 255 ∧ f = 255 then 3 else if (a = 1 ∧ b = 128 ∧ c = 194 ∧ d = 0 ∧ e = 0) ∧ f < 16 then 4 else if a = 1 ∧ b = 30 ∧ c = 131 then 5 else if a % 2 = 1 then 2 else 1
theorem pc58 (a b c d e f : Int) (ha : isB a) : AC Tryz.prog 58 [M6 a b c d e f] [] (eqR (.s (.int .i64 (kindZ a b c d e f)))) := by
  refine AC_plain orders Tryz.func58 rfl (by kernel_rfl) (by kernel_rfl) Tryz.ntmps58 (by simp) ?_
  unfold Tryz.f58
  (have hwq := trivial; repeat' (first | simp (maxSteps:=9999999)-implicitDefEqProofs only [go_sem,simprocAttr,hwq,FT5,FT23,FT86,FT136,FT138] | (refine awpL_loop 18 ?_; have hwq := trivial) | (refine condK_split ?_ ?_ <;> intro hwq) | (refine two_split ?_ ?_) | (refine guardK_split ?_ ?_ <;> intro hwq) | (refine guardE_split ?_ ?_ <;> intro hwq) | (refine awp_drawW [] (by decide +kernel) ?_; have hwq := trivial) | (refine call_plain (pc121 _ _ _ _ _ _ ha) rfl rfl ?_; have hwq := trivial) | fail))
  all_goals (simp only [Bool.and_eq_true, Bool.and_eq_false_iff, beq_iff_eq, beq_eq_false_iff_ne, decide_eq_true_eq, decide_eq_false_iff_not, ne_eq] at *; unfold kindZ; repeat' split)
  all_goals omega
theorem pc83 (a b c d e f : Int) (ha : isB a) : AC Tryz.prog 83 [M6 a b c d e f] [] (eqR (.s (.int .i64 (kindZ a b c d e f)))) := by
  have t : a.tmod 2 = a % 2 := Int.tmod_eq_emod_of_nonneg ha.1
  refine AC_plain orders Tryz.func83 rfl (by kernel_rfl) (by kernel_rfl) Tryz.ntmps83 (by simp) ?_
  unfold Tryz.f83
  (have hwq := trivial; repeat' (first | simp (maxSteps:=9999999)-implicitDefEqProofs only [go_sem,simprocAttr,hwq,FT5,FT23,FT86,t] | (refine awpL_loop 18 ?_; have hwq := trivial) | (refine condK_split ?_ ?_ <;> intro hwq) | (refine two_split ?_ ?_) | (refine guardK_split ?_ ?_ <;> intro hwq) | (refine guardE_split ?_ ?_ <;> intro hwq) | (refine awp_drawW [] (by decide +kernel) ?_; have hwq := trivial) | (refine call_plain (pc128 _ _ _ _ _ _ _) rfl rfl ?_; have hwq := trivial) | fail))
  all_goals (simp only [Bool.and_eq_true, Bool.and_eq_false_iff, beq_iff_eq, beq_eq_false_iff_ne, decide_eq_true_eq, decide_eq_false_iff_not, ne_eq] at *; unfold kindZ; repeat' split)
  all_goals omega
end Go.Ai

set_option linter.unusedVariables false
set_option linter.unusedSimpArgs false
set_option maxHeartbeats 4000000
set_option maxRecDepth 100000
namespace Go.Ai
open Go.Proofs
attribute [local go_sem] QH QR V.noimm V.noimms frzZs frzZ frzA frzV frzVs frzBox boxLen Option.isSome cond_true cond_false aopD calW flatV stepX amap stepY alookup afind aupdate adelete amlen arange ameq mapOf akeq pl V.mapT V.mapTs Option.bind stepK runK guardD stepE runD callD compact selB callK evS ofVal ofVals scalar aop ares mkRes V.rn V.rns V.cells? cellsAt Go.Ai.part aload astore setL V.atom abin aun intBin shiftBin aconv fieldOf aindexAddr aindex bound? aslice aarr abuild afill alen nilP nilS nilF aeq eqCells eqCell Go.Ai.known strBin abuiltin aappend abuildSlice arowsFill amakeSlice acopy aclear minmax rowsOf numsT notStr isIntD isByte V.pz V.pzs T.toV frz1 frz scalT scalTs chunkT List.range List.range.loop ite_true ite_false if_true if_false ne_eq implies_true forall_const eq_self IntKind.bits kPostKF_ret kPostKF_normal kPostX_ret kPostX_normal bsl nil2K nil2 kPostFW_ret kPostFW_normal kPostKM_ret kPostKM_normal kPostXK_ret kPostXK_normal
/-- What is provisioned. -/
structure Mc where
  a : Int
  b : Int
  c : Int
  d : Int
  e : Int
  f : Int
  deriving DecidableEq, Inhabited
structure Mp where
  p : Int
  v : Int
  s : Int
  deriving DecidableEq, Inhabited
structure Cr where
  s : Int
  v : Int
  deriving DecidableEq, Inhabited
structure Mb where
  v : Int
  l : List Int
  deriving DecidableEq, Inhabited
structure Pv where
  own : Mc
  ks : List Int
  ms : List Mp
  cs : List Cr
  bs : List Mb
  deriving DecidableEq, Inhabited
abbrev inT (n : Int) : List T := [.s (.int .i64 n)]
abbrev mpT (x : Mp) : List T := [.s (.int .i64 x.p), .s (.int .i64 x.v), .s (.int .i64 x.s)]
abbrev crT (x : Cr) : List T := [.s (.int .i64 x.s), .s (.int .i64 x.v)]
abbrev mbT (x : Mb) : List T := [.s (.int .i64 x.v), .sl 1 (x.l.map inT)]
abbrev mpV (x : Mp) : V := .agg [vI x.p, vI x.v, vI x.s]
abbrev crV (x : Cr) : V := .agg [vI x.s, vI x.v]
abbrev mbV (x : Mb) : V := .agg [vI x.v, .sl 1 (x.l.map inT)]
abbrev isV (l : List Int) : V := .sl 1 (l.map inT)
abbrev msV (l : List Mp) : V := .sl 3 (l.map mpT)
abbrev csV (l : List Cr) : V := .sl 2 (l.map crT)
abbrev bsV (l : List Mb) : V := .sl 2 (l.map mbT)
abbrev pvV (p : Pv) : V := .agg [.s (.int .u8 p.own.a), .s (.int .u8 p.own.b), .s (.int .u8 p.own.c), .s (.int .u8 p.own.d), .s (.int .u8 p.own.e), .s (.int .u8 p.own.f), isV p.ks, msV p.ms, csV p.cs, bsV p.bs]
abbrev bxP (p : Pv) : Blk := .box [.s (.int .u8 p.own.a), .s (.int .u8 p.own.b), .s (.int .u8 p.own.c), .s (.int .u8 p.own.d), .s (.int .u8 p.own.e), .s (.int .u8 p.own.f), isV p.ks, msV p.ms, csV p.cs, bsV p.bs] false
def cmpZ (a b : Int) : Int := if a < b then -1 else if b < a then 1 else 0
theorem pc131 (a : Int) : AC Tryz.prog 131 [vI a] [] (eqR (vB false)) := by
  refine AC_plain orders Tryz.func131 rfl (by kernel_rfl) (by kernel_rfl) Tryz.ntmps131 (by simp) ?_
  unfold Tryz.f131
  (have hwq := trivial; repeat' (first | simp (maxSteps:=9999999)-implicitDefEqProofs only [go_sem,simprocAttr,hwq,FT3,FT4,bne_self_eq_false] | (refine awpL_loop 18 ?_; have hwq := trivial) | (refine condK_split ?_ ?_ <;> intro hwq) | (refine two_split ?_ ?_) | (refine guardK_split ?_ ?_ <;> intro hwq) | (refine guardE_split ?_ ?_ <;> intro hwq) | (refine awp_drawW [] (by decide +kernel) ?_; have hwq := trivial) | fail))
theorem pc102 (a b : Int) : AC Tryz.prog 102 [vI a, vI b] [] (eqR (vI (cmpZ a b))) := by
  refine AC_plain orders Tryz.func102 rfl (by kernel_rfl) (by kernel_rfl) Tryz.ntmps102 (by simp) ?_
  unfold Tryz.f102
  (have hwq := trivial; repeat' (first | simp (maxSteps:=9999999)-implicitDefEqProofs only [go_sem,simprocAttr,hwq,FT3] | (refine awpL_loop 18 ?_; have hwq := trivial) | (refine condK_split ?_ ?_ <;> intro hwq) | (refine two_split ?_ ?_) | (refine guardK_split ?_ ?_ <;> intro hwq) | (refine guardE_split ?_ ?_ <;> intro hwq) | (refine awp_drawW [] (by decide +kernel) ?_; have hwq := trivial) | (refine call_plain (pc131 _) rfl rfl ?_; have hwq := trivial) | fail))
  all_goals (simp only [decide_eq_true_eq, decide_eq_false_iff_not] at *; unfold cmpZ; omega)
theorem pc59 (a b c : Int) : AC Tryz.prog 59 [vI a, vI b, vI c] [] (eqR (vB (decide (b ≤ a ∧ a ≤ c)))) := by
  rw [Bool.decide_and]
  refine AC_plain orders Tryz.func59 rfl (by kernel_rfl) (by kernel_rfl) Tryz.ntmps59 (by simp) ?_
  unfold Tryz.f59
  (have hwq := trivial; repeat' (first | simp (maxSteps:=9999999)-implicitDefEqProofs only [go_sem,simprocAttr,hwq,FT3,FT4] | (refine awpL_loop 18 ?_; have hwq := trivial) | (refine condK_split ?_ ?_ <;> intro hwq) | (refine two_split ?_ ?_) | (refine guardK_split ?_ ?_ <;> intro hwq) | (refine guardE_split ?_ ?_ <;> intro hwq) | (refine awp_drawW [] (by decide +kernel) ?_; have hwq := trivial) | fail))
  all_goals simp_all
def vidOk (n : Int) : Prop := 1 ≤ n ∧ n ≤ 4094
def isidOk (n : Int) : Prop := 1 ≤ n ∧ n ≤ 16777215
instance vidDec (n : Int) : Decidable (vidOk n) := by unfold vidOk; infer_instance
instance isidDec (n : Int) : Decidable (isidOk n) := by unfold isidOk; infer_instance
theorem pc67 (a : Int) : AC Tryz.prog 67 [vI a] [] (eqR (vB (decide (vidOk a)))) := by
  have h := pc59 a 1 4094
  refine AC_plain orders Tryz.func67 rfl (by kernel_rfl) (by kernel_rfl) Tryz.ntmps67 (by simp) ?_
  unfold Tryz.f67
  (have hwq := trivial; repeat' (first | simp (maxSteps:=9999999)-implicitDefEqProofs only [go_sem,simprocAttr,hwq,FT3,FT4] | (refine awpL_loop 18 ?_; have hwq := trivial) | (refine condK_split ?_ ?_ <;> intro hwq) | (refine two_split ?_ ?_) | (refine guardK_split ?_ ?_ <;> intro hwq) | (refine guardE_split ?_ ?_ <;> intro hwq) | (refine awp_drawW [] (by decide +kernel) ?_; have hwq := trivial) | (refine call_plain h rfl rfl ?_; have hwq := trivial) | fail))
  rfl
theorem pc71 (a : Int) : AC Tryz.prog 71 [vI a] [] (eqR (vB (decide (isidOk a)))) := by
  have h := pc59 a 1 16777215
  refine AC_plain orders Tryz.func71 rfl (by kernel_rfl) (by kernel_rfl) Tryz.ntmps71 (by simp) ?_
  unfold Tryz.f71
  (have hwq := trivial; repeat' (first | simp (maxSteps:=9999999)-implicitDefEqProofs only [go_sem,simprocAttr,hwq,FT3,FT4] | (refine awpL_loop 18 ?_; have hwq := trivial) | (refine condK_split ?_ ?_ <;> intro hwq) | (refine two_split ?_ ?_) | (refine guardK_split ?_ ?_ <;> intro hwq) | (refine guardE_split ?_ ?_ <;> intro hwq) | (refine awp_drawW [] (by decide +kernel) ?_; have hwq := trivial) | (refine call_plain h rfl rfl ?_; have hwq := trivial) | fail))
  rfl
theorem pc116 (a : Int) : AC Tryz.prog 116 [vI a] [] (eqR (vB (decide (vidOk a)))) := by
  have hd : decide (vidOk a) = (decide (1 ≤ a) && decide (a ≤ 4094)) := Bool.eq_iff_iff.2 (by rw [decide_eq_true_iff, Bool.and_eq_true, decide_eq_true_iff, decide_eq_true_iff]; exact Iff.rfl)
  rw [hd]
  refine AC_plain orders Tryz.func116 rfl (by kernel_rfl) (by kernel_rfl) Tryz.ntmps116 (by simp) ?_
  unfold Tryz.f116
  (have hwq := trivial; repeat' (first | simp (maxSteps:=9999999)-implicitDefEqProofs only [go_sem,simprocAttr,hwq,FT3,FT4] | (refine awpL_loop 18 ?_; have hwq := trivial) | (refine condK_split ?_ ?_ <;> intro hwq) | (refine two_split ?_ ?_) | (refine guardK_split ?_ ?_ <;> intro hwq) | (refine guardE_split ?_ ?_ <;> intro hwq) | (refine awp_drawW [] (by decide +kernel) ?_; have hwq := trivial) | fail))
  all_goals simp_all
theorem pc117 (a : Int) : AC Tryz.prog 117 [vI a] [] (eqR (vB (decide (isidOk a)))) := by
  have hd : decide (isidOk a) = (decide (1 ≤ a) && decide (a ≤ 16777215)) := Bool.eq_iff_iff.2 (by rw [decide_eq_true_iff, Bool.and_eq_true, decide_eq_true_iff, decide_eq_true_iff]; exact Iff.rfl)
  rw [hd]
  refine AC_plain orders Tryz.func117 rfl (by kernel_rfl) (by kernel_rfl) Tryz.ntmps117 (by simp) ?_
  unfold Tryz.f117
  (have hwq := trivial; repeat' (first | simp (maxSteps:=9999999)-implicitDefEqProofs only [go_sem,simprocAttr,hwq,FT3,FT4] | (refine awpL_loop 18 ?_; have hwq := trivial) | (refine condK_split ?_ ?_ <;> intro hwq) | (refine two_split ?_ ?_) | (refine guardK_split ?_ ?_ <;> intro hwq) | (refine guardE_split ?_ ?_ <;> intro hwq) | (refine awp_drawW [] (by decide +kernel) ?_; have hwq := trivial) | fail))
  all_goals simp_all
theorem pc98 (n : Int) : AC Tryz.prog 98 [vI n] [] (eqR (vI (if 64 ≤ n then 3 else 0))) := by
  refine AC_plain orders Tryz.func98 rfl (by kernel_rfl) (by kernel_rfl) Tryz.ntmps98 (by simp) ?_
  unfold Tryz.f98
  (have hwq := trivial; repeat' (first | simp (maxSteps:=9999999)-implicitDefEqProofs only [go_sem,simprocAttr,hwq,FT3,FT46] | (refine awpL_loop 18 ?_; have hwq := trivial) | (refine condK_split ?_ ?_ <;> intro hwq) | (refine two_split ?_ ?_) | (refine guardK_split ?_ ?_ <;> intro hwq) | (refine guardE_split ?_ ?_ <;> intro hwq) | (refine awp_drawW [] (by decide +kernel) ?_; have hwq := trivial) | fail))
  all_goals simp_all
/-- A port's kind; 0: there is no such port. -/
def kindP (ks : List Int) (x : Int) : Int := if 0 ≤ x then ks.getD x.toNat 0 else 0
theorem pc74 (p : Pv) (hl : p.ks.length ≤ 100000) (x : Int) : AC Tryz.prog 74 [pvV p, vI x] [] (eqR (vI (kindP p.ks x))) := by
  have wl : IntKind.i64.wrap ((p.ks.length : Int) - 1) = (p.ks.length : Int) - 1 := wI64 _ (by omega) (by omega)
  have h := pc59 x 0 ((p.ks.length : Int) - 1)
  refine AC_plain orders Tryz.func74 rfl (by kernel_rfl) (by kernel_rfl) Tryz.ntmps74 (by simp) ?_
  unfold Tryz.f74
  by_cases hx : 0 ≤ x ∧ x ≤ (p.ks.length : Int) - 1
  · rw [decide_eq_true hx] at h
    obtain ⟨n, rfl⟩ := Int.eq_ofNat_of_zero_le hx.1
    have hn : n < p.ks.length := by omega
    have hn' : (n : Int) < (p.ks.length : Int) := by omega
    have hg : p.ks[n]? = some p.ks[n] := List.getElem?_eq_getElem hn
    have hk : kindP p.ks (n : Int) = p.ks[n] := by unfold kindP; rw [if_pos (by omega)]; simp [hn]
    rw [hk]
    (have hwq := trivial; repeat' (first | simp (maxSteps:=9999999)-implicitDefEqProofs only [go_sem,simprocAttr,hwq,FT3,FT4,FT5,FT23,FT24,FT25,FT26,FT27,FT29,FT32,FT34,FT35,FT37,FT59,List.length_map,List.getElem?_map,Int.natCast_nonneg,List.length_append,List.map_append,wl,hn',hg] | (refine awpL_loop 18 ?_; have hwq := trivial) | (refine condK_split ?_ ?_ <;> intro hwq) | (refine two_split ?_ ?_) | (refine guardK_split ?_ ?_ <;> intro hwq) | (refine guardE_split ?_ ?_ <;> intro hwq) | (refine awp_drawW [] (by decide +kernel) ?_; have hwq := trivial) | (refine call_plain h rfl rfl ?_; have hwq := trivial) | fail))
  · rw [decide_eq_false hx] at h
    have hk : kindP p.ks x = 0 := by
      unfold kindP
      split
      · rw [List.getD_eq_getElem?_getD, List.getElem?_eq_none (by omega)]; rfl
      · rfl
    rw [hk]
    (have hwq := trivial; repeat' (first | simp (maxSteps:=9999999)-implicitDefEqProofs only [go_sem,simprocAttr,hwq,FT3,FT4,FT5,FT23,FT24,FT25,FT26,FT27,FT29,FT32,FT34,FT35,FT37,FT59,List.length_map,List.getElem?_map,Int.natCast_nonneg,List.length_append,List.map_append,wl] | (refine awpL_loop 18 ?_; have hwq := trivial) | (refine condK_split ?_ ?_ <;> intro hwq) | (refine two_split ?_ ?_) | (refine guardK_split ?_ ?_ <;> intro hwq) | (refine guardE_split ?_ ?_ <;> intro hwq) | (refine awp_drawW [] (by decide +kernel) ?_; have hwq := trivial) | (refine call_plain h rfl rfl ?_; have hwq := trivial) | fail))
def cmpMp (a b : Mp) : Int := if cmpZ a.p b.p ≠ 0 then cmpZ a.p b.p else cmpZ a.v b.v
theorem pc101 (a b : Int) : AC Tryz.prog 101 [.sl 1 [inT a, inT b]] [] (eqR (vI (if a ≠ 0 then a else b))) := by
  refine AC_plain orders Tryz.func101 rfl (by kernel_rfl) (by kernel_rfl) Tryz.ntmps101 (by simp) ?_
  unfold Tryz.f101
  (have hwq := trivial; repeat' (first | simp (maxSteps:=9999999)-implicitDefEqProofs only [go_sem,simprocAttr,hwq,FT3,FT35] | (refine awpL_loop 18 ?_; have hwq := trivial) | (refine condK_split ?_ ?_ <;> intro hwq) | (refine two_split ?_ ?_) | (refine guardK_split ?_ ?_ <;> intro hwq) | (refine guardE_split ?_ ?_ <;> intro hwq) | (refine awp_drawW [] (by decide +kernel) ?_; have hwq := trivial) | fail))
  all_goals simp_all
theorem pc36 (x y : Mp) : AC Tryz.prog 36 [mpV x, mpV y] [] (eqR (vI (cmpMp x y))) := by
  have h1 := pc102 x.p y.p
  have h2 := pc102 x.v y.v
  have h3 := pc101 (cmpZ x.p y.p) (cmpZ x.v y.v)
  refine AC_plain orders Tryz.func36 rfl (by kernel_rfl) (by kernel_rfl) Tryz.ntmps36 (by simp) ?_
  unfold Tryz.f36
  (have hwq := trivial; repeat' (first | simp (maxSteps:=9999999)-implicitDefEqProofs only [go_sem,simprocAttr,hwq,FT3,FT32,FT35] | (refine awpL_loop 18 ?_; have hwq := trivial) | (refine condK_split ?_ ?_ <;> intro hwq) | (refine two_split ?_ ?_) | (refine guardK_split ?_ ?_ <;> intro hwq) | (refine guardE_split ?_ ?_ <;> intro hwq) | (refine awp_drawW [] (by decide +kernel) ?_; have hwq := trivial) | (refine draw_plain h1 rfl (fun _ => rfl) ?_; have hwq := trivial) | (refine draw_plain h2 rfl (fun _ => rfl) ?_; have hwq := trivial) | (refine draw_plain h3 rfl (fun _ => rfl) ?_; have hwq := trivial) | fail))
  rfl
theorem pc41 (x y : Cr) : AC Tryz.prog 41 [crV x, crV y] [] (eqR (vI (cmpZ x.s y.s))) := by
  have h1 := pc102 x.s y.s
  refine AC_plain orders Tryz.func41 rfl (by kernel_rfl) (by kernel_rfl) Tryz.ntmps41 (by simp) ?_
  unfold Tryz.f41
  (have hwq := trivial; repeat' (first | simp (maxSteps:=9999999)-implicitDefEqProofs only [go_sem,simprocAttr,hwq,FT3,FT34] | (refine awpL_loop 18 ?_; have hwq := trivial) | (refine condK_split ?_ ?_ <;> intro hwq) | (refine two_split ?_ ?_) | (refine guardK_split ?_ ?_ <;> intro hwq) | (refine guardE_split ?_ ?_ <;> intro hwq) | (refine awp_drawW [] (by decide +kernel) ?_; have hwq := trivial) | (refine call_plain h1 rfl rfl ?_; have hwq := trivial) | fail))
theorem pc47 (x y : Mb) : AC Tryz.prog 47 [mbV x, mbV y] [] (eqR (vI (cmpZ x.v y.v))) := by
  have h1 := pc102 x.v y.v
  refine AC_plain orders Tryz.func47 rfl (by kernel_rfl) (by kernel_rfl) Tryz.ntmps47 (by simp) ?_
  unfold Tryz.f47
  (have hwq := trivial; repeat' (first | simp (maxSteps:=9999999)-implicitDefEqProofs only [go_sem,simprocAttr,hwq,FT3,FT35,FT37] | (refine awpL_loop 18 ?_; have hwq := trivial) | (refine condK_split ?_ ?_ <;> intro hwq) | (refine two_split ?_ ?_) | (refine guardK_split ?_ ?_ <;> intro hwq) | (refine guardE_split ?_ ?_ <;> intro hwq) | (refine awp_drawW [] (by decide +kernel) ?_; have hwq := trivial) | (refine call_plain h1 rfl rfl ?_; have hwq := trivial) | fail))
def beforeB (a b : Mp) : Bool := decide (a.p < b.p) || (a.p == b.p && decide (a.v < b.v))
theorem pc118 (x y : Mp) : AC Tryz.prog 118 [mpV x, mpV y] [] (eqR (vB (beforeB x y))) := by
  unfold beforeB
  refine AC_plain orders Tryz.func118 rfl (by kernel_rfl) (by kernel_rfl) Tryz.ntmps118 (by simp) ?_
  unfold Tryz.f118
  (have hwq := trivial; repeat' (first | simp (maxSteps:=9999999)-implicitDefEqProofs only [go_sem,simprocAttr,hwq,FT3,FT4,FT32] | (refine awpL_loop 18 ?_; have hwq := trivial) | (refine condK_split ?_ ?_ <;> intro hwq) | (refine two_split ?_ ?_) | (refine guardK_split ?_ ?_ <;> intro hwq) | (refine guardE_split ?_ ?_ <;> intro hwq) | (refine awp_drawW [] (by decide +kernel) ?_; have hwq := trivial) | fail))
  all_goals simp_all
end Go.Ai

set_option linter.unusedVariables false
set_option maxRecDepth 100000
namespace Go.Proofs.YtbiolkmddpkheaaGreat
open Go.ChangeShapes Go.WideShapes Go.ChangeAt Go.RowKit Go.Ai
theorem own : ownKnob Tryz.prog.godebug = none := by kernel_rfl
theorem laidOut : laidOutB Tryz.prog = true := by kernel_rfl
theorem rdMac (W : World) : Rd Tryz.prog W 23 fun ts => ∃ m : Mc, isB m.a ∧ ts = [.s (.int .u8 m.a), .s (.int .u8 m.b), .s (.int .u8 m.c), .s (.int .u8 m.d), .s (.int .u8 m.e), .s (.int .u8 m.f)] :=
  Rd.mono (rd_array (n := 6) (e := 5) Tryz.underlying23 (by kernel_rfl) (rd_int Tryz.underlying5 (by kernel_rfl))) fun ts ⟨rows, e, hn, hr⟩ => by
    subst e
    match rows, hn, hr with
    | [a, b, c, d, e, f], _, hr =>
      obtain ⟨a, rfl, ha⟩ := hr a (by simp)
      obtain ⟨b, rfl, hb⟩ := hr b (by simp)
      obtain ⟨c, rfl, hc⟩ := hr c (by simp)
      obtain ⟨d, rfl, hd⟩ := hr d (by simp)
      obtain ⟨e, rfl, he⟩ := hr e (by simp)
      obtain ⟨f, rfl, hf⟩ := hr f (by simp)
      exact ⟨⟨a, b, c, d, e, f⟩, bounds_u8 ha, rfl⟩
theorem rows_of {α : Type} (f : α → List T) : ∀ {rows : List (List T)}, (∀ r ∈ rows, ∃ x : α, r = f x) → ∃ l : List α, rows = l.map f
  | [], _ => ⟨[], rfl⟩
  | r :: rows, h => by
    obtain ⟨x, rfl⟩ := h r (by simp)
    obtain ⟨l, rfl⟩ := rows_of f (rows := rows) (fun r hr => h r (by simp [hr]))
    exact ⟨x :: l, rfl⟩
theorem rdSl {W : World} {α : Type} {t e z : Nat} {f : α → List T} (ht : Tryz.prog.underlying t = some (.slice e)) (hc : Tryz.prog.cellsOf t = 1) (hz : Tryz.prog.cellsOf e = z) (hz0 : 0 < z) (he : Rd Tryz.prog W e fun ts => ∃ x : α, ts = f x) :
    Rd Tryz.prog W t fun ts => ∃ l : List α, ts = [.sl z (l.map f)] :=
  Rd.mono (rd_slice ht hc (by rw [hz]; exact hz0) he) fun ts ⟨rows, e1, _, hr⟩ => by
    obtain ⟨l, rfl⟩ := rows_of f (rows := rows) (fun r hr' => (hr r hr').2)
    exact ⟨l, by rw [e1, hz]⟩
theorem rdIn (W : World) : Rd Tryz.prog W 3 fun ts => ∃ n : Int, ts = inT n := Rd.mono (rd_int Tryz.underlying3 (by kernel_rfl)) fun ts ⟨n, e, _⟩ => ⟨n, e⟩
theorem rdIs (W : World) : Rd Tryz.prog W 35 fun ts => ∃ l : List Int, ts = [.sl 1 (l.map inT)] := rdSl Tryz.underlying35 (by kernel_rfl) (by kernel_rfl) (by decide) (rdIn W)
theorem rdMp (W : World) : Rd Tryz.prog W 32 fun ts => ∃ x : Mp, ts = mpT x := by
  refine Rd.mono (rd_struct Tryz.underlying32 (by kernel_rfl) (gs := [_, _, _]) ⟨by kernel_rfl, rdIn W, by kernel_rfl, rdIn W, by kernel_rfl, rdIn W, trivial⟩) fun ts h => ?_
  obtain ⟨_, _, rfl, ⟨a, rfl⟩, _, _, rfl, ⟨b, rfl⟩, _, _, rfl, ⟨c, rfl⟩, rfl⟩ := h
  exact ⟨⟨a, b, c⟩, rfl⟩
theorem rdCr (W : World) : Rd Tryz.prog W 34 fun ts => ∃ x : Cr, ts = crT x := by
  refine Rd.mono (rd_struct Tryz.underlying34 (by kernel_rfl) (gs := [_, _]) ⟨by kernel_rfl, rdIn W, by kernel_rfl, rdIn W, trivial⟩) fun ts h => ?_
  obtain ⟨_, _, rfl, ⟨a, rfl⟩, _, _, rfl, ⟨b, rfl⟩, rfl⟩ := h
  exact ⟨⟨a, b⟩, rfl⟩
theorem rdMb (W : World) : Rd Tryz.prog W 37 fun ts => ∃ x : Mb, ts = mbT x := by
  refine Rd.mono (rd_struct Tryz.underlying37 (by kernel_rfl) (gs := [_, _]) ⟨by kernel_rfl, rdIn W, by kernel_rfl, rdIs W, trivial⟩) fun ts h => ?_
  obtain ⟨_, _, rfl, ⟨a, rfl⟩, _, _, rfl, ⟨b, rfl⟩, rfl⟩ := h
  exact ⟨⟨a, b⟩, rfl⟩
end Go.Proofs.YtbiolkmddpkheaaGreat

set_option linter.unusedVariables false
set_option linter.unusedSimpArgs false
set_option maxHeartbeats 4000000
set_option maxRecDepth 100000
namespace Go.Ai
open Go.Proofs
attribute [local go_sem] QH QR V.noimm V.noimms frzZs frzZ frzA frzV frzVs frzBox boxLen Option.isSome cond_true cond_false aopD calW flatV stepX amap stepY alookup afind aupdate adelete amlen arange ameq mapOf akeq pl V.mapT V.mapTs Option.bind stepK runK guardD stepE runD callD compact selB callK evS ofVal ofVals scalar aop ares mkRes V.rn V.rns V.cells? cellsAt Go.Ai.part aload astore setL V.atom abin aun intBin shiftBin aconv fieldOf aindexAddr aindex bound? aslice aarr abuild afill alen nilP nilS nilF aeq eqCells eqCell Go.Ai.known strBin abuiltin aappend abuildSlice arowsFill amakeSlice acopy aclear minmax rowsOf numsT notStr isIntD isByte V.pz V.pzs T.toV frz1 frz scalT scalTs chunkT List.range List.range.loop ite_true ite_false if_true if_false ne_eq implies_true forall_const eq_self IntKind.bits kPostKF_ret kPostKF_normal kPostX_ret kPostX_normal bsl nil2K nil2 kPostFW_ret kPostFW_normal kPostKM_ret kPostKM_normal kPostXK_ret kPostXK_normal
theorem take_in {α : Type} {L : List α} {j : Nat} {x : α} (h : L[j]? = some x) : L.take (j + 1) = L.take j ++ [x] := by rw [List.take_add_one, h]; rfl
theorem mem_in {α : Type} {L : List α} {j : Nat} {x : α} (h : L[j]? = some x) : x ∈ L := List.mem_of_getElem? h
/-- A block that refers to no other. -/
structure FlatB (b : Blk) : Prop where
  mt : ∀ f, b.mapT f = b
  rn : ∀ f, b.rn f = some b
  pz : ∀ m, b.pz m = b
def ixZ {α : Type} (q : α → Bool) (L : List α) : Int := match L.findIdx? q with
  | some j => j
  | none => -1
theorem ix_some {α : Type} {q : α → Bool} {L : List α} {j : Nat} {x : α} (hno : ∀ y ∈ L.take j, q y = false) (hg : L[j]? = some x) (hx : q x = true) : ixZ q L = (j : Int) := by
  obtain ⟨hj, he⟩ := List.getElem?_eq_some_iff.1 hg
  have : L.findIdx? q = some j := by
    rw [List.findIdx?_eq_some_iff_getElem]
    refine ⟨hj, by rw [he]; exact hx, fun k hk => ?_⟩
    have := hno L[k] (by rw [List.mem_take_iff_getElem]; exact ⟨k, by omega, rfl⟩)
    simp [this]
  unfold ixZ; rw [this]
theorem ix_none {α : Type} {q : α → Bool} {L : List α} (hno : ∀ y ∈ L, q y = false) : ixZ q L = -1 := by
  have : L.findIdx? q = none := by rw [List.findIdx?_eq_none_iff]; exact hno
  unfold ixZ; rw [this]
theorem ix_more {α : Type} {q : α → Bool} {L : List α} {j : Nat} {x : α} (hno : ∀ y ∈ L.take j, q y = false) (hg : L[j]? = some x) (hx : q x = false) : ∀ y ∈ L.take (j + 1), q y = false := by
  intro y hy
  rw [take_in hg] at hy
  rcases List.mem_append.1 hy with h1 | h1
  · exact hno y h1
  · simp at h1; subst h1; exact hx
theorem ix_any {α : Type} (q : α → Bool) (L : List α) : decide ((0 : Int) ≤ ixZ q L) = L.any q := by
  unfold ixZ
  cases h : L.findIdx? q with
  | none =>
    rw [List.findIdx?_eq_none_iff] at h
    have : L.any q = false := by rw [List.any_eq_false]; intro x hx; simp [h x hx]
    rw [this]; decide
  | some j =>
    obtain ⟨hj, hq, _⟩ := List.findIdx?_eq_some_iff_getElem.1 h
    have : L.any q = true := List.any_eq_true.2 ⟨L[j], List.getElem_mem hj, hq⟩
    rw [this]
    simp
theorem ix_find {α : Type} {q : α → Bool} {L : List α} : (ixZ q L = -1 ∧ L.find? q = none) ∨ ∃ j x, ixZ q L = ((j : Nat) : Int) ∧ L[j]? = some x ∧ L.find? q = some x := by
  unfold ixZ
  cases h : L.findIdx? q with
  | none =>
    rw [List.findIdx?_eq_none_iff] at h
    exact .inl ⟨rfl, List.find?_eq_none.2 fun x hx => by simp [h x hx]⟩
  | some j =>
    obtain ⟨hj, hq, hlt⟩ := List.findIdx?_eq_some_iff_getElem.1 h
    refine .inr ⟨j, L[j], rfl, List.getElem?_eq_getElem hj, ?_⟩
    rw [List.find?_eq_some_iff_getElem]
    exact ⟨hq, j, hj, rfl, fun k hk => by have := hlt k hk; simpa using this⟩
def Ix122_0 (kf : Nat) (q : Int → Bool) (L : List Int) (k : Nat) (S : St) : Prop :=
  ∃ (j : Nat) (mv : List Nat), S = ⟨tms [(0, isV L), (1, .clo (.func kf) [] []), (6, isV L), (7, vI L.length), (8, vI j)], [], mv⟩ ∧ (∀ t ∈ mv, 0 ≤ t) ∧ j ≤ L.length ∧ k = L.length - j ∧ ∀ y ∈ L.take j, q y = false
theorem pi122_0 (kf : Nat) (q : Int → Bool) (L : List Int) (hl : L.length ≤ 100000) (hq : ∀ x ∈ L, AC Tryz.prog kf [vI x] [] (eqS (vB (q x)) [])) :
    AC Tryz.prog 122 [isV L, .clo (.func kf) [] []] [] (eqS (vI (ixZ q L)) []) := by
  refine AC_heap orders [] Tryz.func122 rfl (by kernel_rfl) (by kernel_rfl) Tryz.ntmps122 (by simp) ?_
  unfold Tryz.f122
  (have hwq := trivial; repeat' (first | simp (maxSteps:=9999999)-implicitDefEqProofs only [go_sem,simprocAttr,hwq,FT3,FT24,FT59,FT93] | (refine condK_split ?_ ?_ <;> intro hwq) | (refine two_split ?_ ?_) | (refine guardK_split ?_ ?_ <;> intro hwq) | (refine guardE_split ?_ ?_ <;> intro hwq) | (refine awp_drawW [] (by decide +kernel) ?_; have hwq := trivial) | fail))
  refine awp_loopK (Ix122_0 kf  q L) L.length _ (Weak.cutI 0 [0, 1, 6, 7, 8] ?_ ?_) ⟨0, _, rfl, by simp [List.mem_range'_1], by omega, rfl, by simp⟩ ?_
  · simp (maxSteps:=9999999)-implicitDefEqProofs only [simprocAttr,QH,Option.isSome,cond_true,cond_false,Option.bind,selB,V.rn,V.rns,Go.Ai.known,V.pz,V.pzs,T.toV,frz1,List.range,List.range.loop,ite_true,ite_false,if_true,if_false,ne_eq,implies_true,forall_const,eq_self,IntKind.bits,upd_tmsS,selT_cons,selT_nil,List.length_map,List.getElem?_map,Int.natCast_nonneg,List.length_append,List.map_append]
  · simp (maxSteps:=9999999)-implicitDefEqProofs only [simprocAttr,QH,Option.isSome,cond_true,cond_false,Option.bind,selB,V.rn,V.rns,Go.Ai.known,V.pz,V.pzs,T.toV,frz1,List.range,List.range.loop,ite_true,ite_false,if_true,if_false,ne_eq,implies_true,forall_const,eq_self,IntKind.bits,upd_tmsS,selT_cons,selT_nil]
  rintro kk S ⟨j, mv, rfl, hmv, hj, rfl, hno⟩
  have hfmv : mv.filter (fun x => decide (x < 0)) = [] := by
    rw [List.filter_eq_nil_iff]
    intro t ht
    have := hmv t ht
    simp
    try omega
  have hfm0 : List.filter (fun _ : Nat => false) mv = [] := List.filter_eq_nil_iff.2 (by simp)
  have hmv' : ∀ m t : Nat, t ∈ mv ++ List.range' 0 m → 0 ≤ t := by
    intro m t ht
    rcases List.mem_append.1 ht with h1 | h1
    · exact hmv t h1
    · exact (List.mem_range'_1.1 h1).1
  have wj : IntKind.i64.wrap ((j : Int) + 1) = (j : Int) + 1 := wI64 _ (by omega) (by omega)
  by_cases hjl : j < L.length
  · have hjl' : (j : Int) < (L.length : Int) := by omega
    have hgj : L[j]? = some L[j] := List.getElem?_eq_getElem hjl
    obtain ⟨x, hx⟩ : ∃ x, L[j] = x := ⟨_, rfl⟩
    rw [hx] at hgj
    have hc := hq x (mem_in hgj)
    cases hqx : q x with
    | true =>
      rw [hqx] at hc
      have hix := ix_some hno hgj hqx
      (have hwq := trivial; repeat' (first | simp (maxSteps:=9999999)-implicitDefEqProofs only [go_sem,simprocAttr,hwq,FT3,FT24,FT59,FT93,List.length_map,List.getElem?_map,Int.natCast_nonneg,List.length_append,List.map_append,hjl',hgj,wj,hix,hfmv,hfm0] | (refine condK_split ?_ ?_ <;> intro hwq) | (refine two_split ?_ ?_) | (refine guardK_split ?_ ?_ <;> intro hwq) | (refine guardE_split ?_ ?_ <;> intro hwq) | (refine awp_drawW [] (by decide +kernel) ?_; have hwq := trivial) | (refine call_at [] hc (by simp) (by decide) rfl rfl (by simp) (V.les_refl _) ?_; have hwq := trivial) | fail))
    | false =>
      rw [hqx] at hc
      (have hwq := trivial; repeat' (first | simp (maxSteps:=9999999)-implicitDefEqProofs only [go_sem,simprocAttr,hwq,FT3,FT24,FT59,FT93,List.length_map,List.getElem?_map,Int.natCast_nonneg,List.length_append,List.map_append,hjl',hgj,wj,hfmv] | (refine condK_split ?_ ?_ <;> intro hwq) | (refine two_split ?_ ?_) | (refine guardK_split ?_ ?_ <;> intro hwq) | (refine guardE_split ?_ ?_ <;> intro hwq) | (refine awp_drawW [] (by decide +kernel) ?_; have hwq := trivial) | (refine call_at [] hc (by simp) (by decide) rfl rfl (by simp) (V.les_refl _) ?_; have hwq := trivial) | fail))
      refine ⟨L.length - (j + 1), _, by omega, Weak.cutI 0 [0, 1, 6, 7, 8] ?_ ?_, j + 1, _, rfl, hmv' _, by omega, rfl, ix_more hno hgj hqx⟩
      · simp (maxSteps:=9999999)-implicitDefEqProofs only [simprocAttr,QH,Option.isSome,cond_true,cond_false,Option.bind,selB,V.rn,V.rns,Go.Ai.known,V.pz,V.pzs,T.toV,frz1,List.range,List.range.loop,ite_true,ite_false,if_true,if_false,ne_eq,implies_true,forall_const,eq_self,IntKind.bits,upd_tmsS,selT_cons,selT_nil,List.length_map,List.getElem?_map,Int.natCast_nonneg,List.length_append,List.map_append]
      · simp (maxSteps:=9999999)-implicitDefEqProofs only [simprocAttr,QH,Option.isSome,cond_true,cond_false,Option.bind,selB,V.rn,V.rns,Go.Ai.known,V.pz,V.pzs,T.toV,frz1,List.range,List.range.loop,ite_true,ite_false,if_true,if_false,ne_eq,implies_true,forall_const,eq_self,IntKind.bits,upd_tmsS,selT_cons,selT_nil,List.length_map,List.getElem?_map,Int.natCast_nonneg,List.length_append,List.map_append]
  · have hjl' : ¬ (j : Int) < (L.length : Int) := by omega
    rw [List.take_of_length_le (by omega)] at hno
    have hix := ix_none hno
    (have hwq := trivial; repeat' (first | simp (maxSteps:=9999999)-implicitDefEqProofs only [go_sem,simprocAttr,hwq,FT3,FT24,FT59,FT93,List.length_map,List.getElem?_map,Int.natCast_nonneg,List.length_append,List.map_append,hjl',hix,hfmv,hfm0] | (refine condK_split ?_ ?_ <;> intro hwq) | (refine two_split ?_ ?_) | (refine guardK_split ?_ ?_ <;> intro hwq) | (refine guardE_split ?_ ?_ <;> intro hwq) | (refine awp_drawW [] (by decide +kernel) ?_; have hwq := trivial) | fail))
def Ix123_1 (kf : Nat) (b0 : Blk) (q : Mb → Bool) (L : List Mb) (k : Nat) (S : St) : Prop :=
  ∃ (j : Nat) (mv : List Nat), S = ⟨tms [(0, bsV L), (1, .clo (.func kf) [] [.ptr 0 0 0]), (6, bsV L), (7, vI L.length), (8, vI j)], [b0], mv⟩ ∧ (∀ t ∈ mv, 1 ≤ t) ∧ j ≤ L.length ∧ k = L.length - j ∧ ∀ y ∈ L.take j, q y = false
theorem pi123_1 (kf : Nat) (b0 : Blk) (hb0 : FlatB b0) (q : Mb → Bool) (L : List Mb) (hl : L.length ≤ 100000) (hq : ∀ x ∈ L, AC Tryz.prog kf [mbV x, .ptr 0 0 0] [b0] (eqS (vB (q x)) [b0])) :
    AC Tryz.prog 123 [bsV L, .clo (.func kf) [] [.ptr 0 0 0]] [b0] (eqS (vI (ixZ q L)) [b0]) := by
  refine AC_heap orders [0] Tryz.func123 rfl (by kernel_rfl) (by kernel_rfl) Tryz.ntmps123 (by simp) ?_
  unfold Tryz.f123
  (have hwq := trivial; repeat' (first | simp (maxSteps:=9999999)-implicitDefEqProofs only [go_sem,simprocAttr,hwq,FT3,FT27,FT35,FT37,FT97,hb0.rn,hb0.mt,hb0.pz] | (refine condK_split ?_ ?_ <;> intro hwq) | (refine two_split ?_ ?_) | (refine guardK_split ?_ ?_ <;> intro hwq) | (refine guardE_split ?_ ?_ <;> intro hwq) | (refine awp_drawW [] (by decide +kernel) ?_; have hwq := trivial) | fail))
  refine awp_loopK (Ix123_1 kf b0 q L) L.length _ (Weak.cutI 1 [0, 1, 6, 7, 8] ?_ ?_) ⟨0, _, rfl, by simp [List.mem_range'_1], by omega, rfl, by simp⟩ ?_
  · simp (maxSteps:=9999999)-implicitDefEqProofs only [simprocAttr,QH,Option.isSome,cond_true,cond_false,Option.bind,selB,V.rn,V.rns,Go.Ai.known,V.pz,V.pzs,T.toV,frz1,List.range,List.range.loop,ite_true,ite_false,if_true,if_false,ne_eq,implies_true,forall_const,eq_self,IntKind.bits,upd_tmsS,selT_cons,selT_nil,List.length_map,List.getElem?_map,Int.natCast_nonneg,List.length_append,List.map_append]
  · simp (maxSteps:=9999999)-implicitDefEqProofs only [simprocAttr,QH,Option.isSome,cond_true,cond_false,Option.bind,selB,V.rn,V.rns,Go.Ai.known,V.pz,V.pzs,T.toV,frz1,List.range,List.range.loop,ite_true,ite_false,if_true,if_false,ne_eq,implies_true,forall_const,eq_self,IntKind.bits,upd_tmsS,selT_cons,selT_nil,hb0.rn,hb0.mt,hb0.pz]
  rintro kk S ⟨j, mv, rfl, hmv, hj, rfl, hno⟩
  have hfmv : mv.filter (fun x => decide (x < 1)) = [] := by
    rw [List.filter_eq_nil_iff]
    intro t ht
    have := hmv t ht
    simp
    try omega
  have hfm0 : List.filter (fun _ : Nat => false) mv = [] := List.filter_eq_nil_iff.2 (by simp)
  have hmv' : ∀ m t : Nat, t ∈ mv ++ List.range' 1 m → 1 ≤ t := by
    intro m t ht
    rcases List.mem_append.1 ht with h1 | h1
    · exact hmv t h1
    · exact (List.mem_range'_1.1 h1).1
  have wj : IntKind.i64.wrap ((j : Int) + 1) = (j : Int) + 1 := wI64 _ (by omega) (by omega)
  by_cases hjl : j < L.length
  · have hjl' : (j : Int) < (L.length : Int) := by omega
    have hgj : L[j]? = some L[j] := List.getElem?_eq_getElem hjl
    obtain ⟨x, hx⟩ : ∃ x, L[j] = x := ⟨_, rfl⟩
    rw [hx] at hgj
    have hc := hq x (mem_in hgj)
    cases hqx : q x with
    | true =>
      rw [hqx] at hc
      have hix := ix_some hno hgj hqx
      (have hwq := trivial; repeat' (first | simp (maxSteps:=9999999)-implicitDefEqProofs only [go_sem,simprocAttr,hwq,FT3,FT27,FT35,FT37,FT97,List.length_map,List.getElem?_map,Int.natCast_nonneg,List.length_append,List.map_append,hjl',hgj,wj,hix,hfmv,hfm0,hb0.rn,hb0.mt,hb0.pz] | (refine condK_split ?_ ?_ <;> intro hwq) | (refine two_split ?_ ?_) | (refine guardK_split ?_ ?_ <;> intro hwq) | (refine guardE_split ?_ ?_ <;> intro hwq) | (refine awp_drawW [] (by decide +kernel) ?_; have hwq := trivial) | (refine call_at [0] hc (by simp) (by decide) rfl rfl (by simp [hb0.mt]) (V.les_refl _) ?_; have hwq := trivial) | fail))
    | false =>
      rw [hqx] at hc
      (have hwq := trivial; repeat' (first | simp (maxSteps:=9999999)-implicitDefEqProofs only [go_sem,simprocAttr,hwq,FT3,FT27,FT35,FT37,FT97,List.length_map,List.getElem?_map,Int.natCast_nonneg,List.length_append,List.map_append,hjl',hgj,wj,hfmv,hb0.rn,hb0.mt,hb0.pz] | (refine condK_split ?_ ?_ <;> intro hwq) | (refine two_split ?_ ?_) | (refine guardK_split ?_ ?_ <;> intro hwq) | (refine guardE_split ?_ ?_ <;> intro hwq) | (refine awp_drawW [] (by decide +kernel) ?_; have hwq := trivial) | (refine call_at [0] hc (by simp) (by decide) rfl rfl (by simp [hb0.mt]) (V.les_refl _) ?_; have hwq := trivial) | fail))
      refine ⟨L.length - (j + 1), _, by omega, Weak.cutI 1 [0, 1, 6, 7, 8] ?_ ?_, j + 1, _, rfl, hmv' _, by omega, rfl, ix_more hno hgj hqx⟩
      · simp (maxSteps:=9999999)-implicitDefEqProofs only [simprocAttr,QH,Option.isSome,cond_true,cond_false,Option.bind,selB,V.rn,V.rns,Go.Ai.known,V.pz,V.pzs,T.toV,frz1,List.range,List.range.loop,ite_true,ite_false,if_true,if_false,ne_eq,implies_true,forall_const,eq_self,IntKind.bits,upd_tmsS,selT_cons,selT_nil,List.length_map,List.getElem?_map,Int.natCast_nonneg,List.length_append,List.map_append]
      · simp (maxSteps:=9999999)-implicitDefEqProofs only [simprocAttr,QH,Option.isSome,cond_true,cond_false,Option.bind,selB,V.rn,V.rns,Go.Ai.known,V.pz,V.pzs,T.toV,frz1,List.range,List.range.loop,ite_true,ite_false,if_true,if_false,ne_eq,implies_true,forall_const,eq_self,IntKind.bits,upd_tmsS,selT_cons,selT_nil,List.length_map,List.getElem?_map,Int.natCast_nonneg,List.length_append,List.map_append,hb0.rn,hb0.mt,hb0.pz]
  · have hjl' : ¬ (j : Int) < (L.length : Int) := by omega
    rw [List.take_of_length_le (by omega)] at hno
    have hix := ix_none hno
    (have hwq := trivial; repeat' (first | simp (maxSteps:=9999999)-implicitDefEqProofs only [go_sem,simprocAttr,hwq,FT3,FT27,FT35,FT37,FT97,List.length_map,List.getElem?_map,Int.natCast_nonneg,List.length_append,List.map_append,hjl',hix,hfmv,hfm0,hb0.rn,hb0.mt,hb0.pz] | (refine condK_split ?_ ?_ <;> intro hwq) | (refine two_split ?_ ?_) | (refine guardK_split ?_ ?_ <;> intro hwq) | (refine guardE_split ?_ ?_ <;> intro hwq) | (refine awp_drawW [] (by decide +kernel) ?_; have hwq := trivial) | fail))
def Ix125_1 (kf : Nat) (b0 : Blk) (q : Cr → Bool) (L : List Cr) (k : Nat) (S : St) : Prop :=
  ∃ (j : Nat) (mv : List Nat), S = ⟨tms [(0, csV L), (1, .clo (.func kf) [] [.ptr 0 0 0]), (6, csV L), (7, vI L.length), (8, vI j)], [b0], mv⟩ ∧ (∀ t ∈ mv, 1 ≤ t) ∧ j ≤ L.length ∧ k = L.length - j ∧ ∀ y ∈ L.take j, q y = false
theorem pi125_1 (kf : Nat) (b0 : Blk) (hb0 : FlatB b0) (q : Cr → Bool) (L : List Cr) (hl : L.length ≤ 100000) (hq : ∀ x ∈ L, AC Tryz.prog kf [crV x, .ptr 0 0 0] [b0] (eqS (vB (q x)) [b0])) :
    AC Tryz.prog 125 [csV L, .clo (.func kf) [] [.ptr 0 0 0]] [b0] (eqS (vI (ixZ q L)) [b0]) := by
  refine AC_heap orders [0] Tryz.func125 rfl (by kernel_rfl) (by kernel_rfl) Tryz.ntmps125 (by simp) ?_
  unfold Tryz.f125
  (have hwq := trivial; repeat' (first | simp (maxSteps:=9999999)-implicitDefEqProofs only [go_sem,simprocAttr,hwq,FT3,FT26,FT34,FT99,hb0.rn,hb0.mt,hb0.pz] | (refine condK_split ?_ ?_ <;> intro hwq) | (refine two_split ?_ ?_) | (refine guardK_split ?_ ?_ <;> intro hwq) | (refine guardE_split ?_ ?_ <;> intro hwq) | (refine awp_drawW [] (by decide +kernel) ?_; have hwq := trivial) | fail))
  refine awp_loopK (Ix125_1 kf b0 q L) L.length _ (Weak.cutI 1 [0, 1, 6, 7, 8] ?_ ?_) ⟨0, _, rfl, by simp [List.mem_range'_1], by omega, rfl, by simp⟩ ?_
  · simp (maxSteps:=9999999)-implicitDefEqProofs only [simprocAttr,QH,Option.isSome,cond_true,cond_false,Option.bind,selB,V.rn,V.rns,Go.Ai.known,V.pz,V.pzs,T.toV,frz1,List.range,List.range.loop,ite_true,ite_false,if_true,if_false,ne_eq,implies_true,forall_const,eq_self,IntKind.bits,upd_tmsS,selT_cons,selT_nil,List.length_map,List.getElem?_map,Int.natCast_nonneg,List.length_append,List.map_append]
  · simp (maxSteps:=9999999)-implicitDefEqProofs only [simprocAttr,QH,Option.isSome,cond_true,cond_false,Option.bind,selB,V.rn,V.rns,Go.Ai.known,V.pz,V.pzs,T.toV,frz1,List.range,List.range.loop,ite_true,ite_false,if_true,if_false,ne_eq,implies_true,forall_const,eq_self,IntKind.bits,upd_tmsS,selT_cons,selT_nil,hb0.rn,hb0.mt,hb0.pz]
  rintro kk S ⟨j, mv, rfl, hmv, hj, rfl, hno⟩
  have hfmv : mv.filter (fun x => decide (x < 1)) = [] := by
    rw [List.filter_eq_nil_iff]
    intro t ht
    have := hmv t ht
    simp
    try omega
  have hfm0 : List.filter (fun _ : Nat => false) mv = [] := List.filter_eq_nil_iff.2 (by simp)
  have hmv' : ∀ m t : Nat, t ∈ mv ++ List.range' 1 m → 1 ≤ t := by
    intro m t ht
    rcases List.mem_append.1 ht with h1 | h1
    · exact hmv t h1
    · exact (List.mem_range'_1.1 h1).1
  have wj : IntKind.i64.wrap ((j : Int) + 1) = (j : Int) + 1 := wI64 _ (by omega) (by omega)
  by_cases hjl : j < L.length
  · have hjl' : (j : Int) < (L.length : Int) := by omega
    have hgj : L[j]? = some L[j] := List.getElem?_eq_getElem hjl
    obtain ⟨x, hx⟩ : ∃ x, L[j] = x := ⟨_, rfl⟩
    rw [hx] at hgj
    have hc := hq x (mem_in hgj)
    cases hqx : q x with
    | true =>
      rw [hqx] at hc
      have hix := ix_some hno hgj hqx
      (have hwq := trivial; repeat' (first | simp (maxSteps:=9999999)-implicitDefEqProofs only [go_sem,simprocAttr,hwq,FT3,FT26,FT34,FT99,List.length_map,List.getElem?_map,Int.natCast_nonneg,List.length_append,List.map_append,hjl',hgj,wj,hix,hfmv,hfm0,hb0.rn,hb0.mt,hb0.pz] | (refine condK_split ?_ ?_ <;> intro hwq) | (refine two_split ?_ ?_) | (refine guardK_split ?_ ?_ <;> intro hwq) | (refine guardE_split ?_ ?_ <;> intro hwq) | (refine awp_drawW [] (by decide +kernel) ?_; have hwq := trivial) | (refine call_at [0] hc (by simp) (by decide) rfl rfl (by simp [hb0.mt]) (V.les_refl _) ?_; have hwq := trivial) | fail))
    | false =>
      rw [hqx] at hc
      (have hwq := trivial; repeat' (first | simp (maxSteps:=9999999)-implicitDefEqProofs only [go_sem,simprocAttr,hwq,FT3,FT26,FT34,FT99,List.length_map,List.getElem?_map,Int.natCast_nonneg,List.length_append,List.map_append,hjl',hgj,wj,hfmv,hb0.rn,hb0.mt,hb0.pz] | (refine condK_split ?_ ?_ <;> intro hwq) | (refine two_split ?_ ?_) | (refine guardK_split ?_ ?_ <;> intro hwq) | (refine guardE_split ?_ ?_ <;> intro hwq) | (refine awp_drawW [] (by decide +kernel) ?_; have hwq := trivial) | (refine call_at [0] hc (by simp) (by decide) rfl rfl (by simp [hb0.mt]) (V.les_refl _) ?_; have hwq := trivial) | fail))
      refine ⟨L.length - (j + 1), _, by omega, Weak.cutI 1 [0, 1, 6, 7, 8] ?_ ?_, j + 1, _, rfl, hmv' _, by omega, rfl, ix_more hno hgj hqx⟩
      · simp (maxSteps:=9999999)-implicitDefEqProofs only [simprocAttr,QH,Option.isSome,cond_true,cond_false,Option.bind,selB,V.rn,V.rns,Go.Ai.known,V.pz,V.pzs,T.toV,frz1,List.range,List.range.loop,ite_true,ite_false,if_true,if_false,ne_eq,implies_true,forall_const,eq_self,IntKind.bits,upd_tmsS,selT_cons,selT_nil,List.length_map,List.getElem?_map,Int.natCast_nonneg,List.length_append,List.map_append]
      · simp (maxSteps:=9999999)-implicitDefEqProofs only [simprocAttr,QH,Option.isSome,cond_true,cond_false,Option.bind,selB,V.rn,V.rns,Go.Ai.known,V.pz,V.pzs,T.toV,frz1,List.range,List.range.loop,ite_true,ite_false,if_true,if_false,ne_eq,implies_true,forall_const,eq_self,IntKind.bits,upd_tmsS,selT_cons,selT_nil,List.length_map,List.getElem?_map,Int.natCast_nonneg,List.length_append,List.map_append,hb0.rn,hb0.mt,hb0.pz]
  · have hjl' : ¬ (j : Int) < (L.length : Int) := by omega
    rw [List.take_of_length_le (by omega)] at hno
    have hix := ix_none hno
    (have hwq := trivial; repeat' (first | simp (maxSteps:=9999999)-implicitDefEqProofs only [go_sem,simprocAttr,hwq,FT3,FT26,FT34,FT99,List.length_map,List.getElem?_map,Int.natCast_nonneg,List.length_append,List.map_append,hjl',hix,hfmv,hfm0,hb0.rn,hb0.mt,hb0.pz] | (refine condK_split ?_ ?_ <;> intro hwq) | (refine two_split ?_ ?_) | (refine guardK_split ?_ ?_ <;> intro hwq) | (refine guardE_split ?_ ?_ <;> intro hwq) | (refine awp_drawW [] (by decide +kernel) ?_; have hwq := trivial) | fail))
def Ix126_1 (kf : Nat) (b0 : Blk) (q : Mp → Bool) (L : List Mp) (k : Nat) (S : St) : Prop :=
  ∃ (j : Nat) (mv : List Nat), S = ⟨tms [(0, msV L), (1, .clo (.func kf) [] [.ptr 0 0 0]), (6, msV L), (7, vI L.length), (8, vI j)], [b0], mv⟩ ∧ (∀ t ∈ mv, 1 ≤ t) ∧ j ≤ L.length ∧ k = L.length - j ∧ ∀ y ∈ L.take j, q y = false
theorem pi126_1 (kf : Nat) (b0 : Blk) (hb0 : FlatB b0) (q : Mp → Bool) (L : List Mp) (hl : L.length ≤ 100000) (hq : ∀ x ∈ L, AC Tryz.prog kf [mpV x, .ptr 0 0 0] [b0] (eqS (vB (q x)) [b0])) :
    AC Tryz.prog 126 [msV L, .clo (.func kf) [] [.ptr 0 0 0]] [b0] (eqS (vI (ixZ q L)) [b0]) := by
  refine AC_heap orders [0] Tryz.func126 rfl (by kernel_rfl) (by kernel_rfl) Tryz.ntmps126 (by simp) ?_
  unfold Tryz.f126
  (have hwq := trivial; repeat' (first | simp (maxSteps:=9999999)-implicitDefEqProofs only [go_sem,simprocAttr,hwq,FT3,FT25,FT32,FT101,hb0.rn,hb0.mt,hb0.pz] | (refine condK_split ?_ ?_ <;> intro hwq) | (refine two_split ?_ ?_) | (refine guardK_split ?_ ?_ <;> intro hwq) | (refine guardE_split ?_ ?_ <;> intro hwq) | (refine awp_drawW [] (by decide +kernel) ?_; have hwq := trivial) | fail))
  refine awp_loopK (Ix126_1 kf b0 q L) L.length _ (Weak.cutI 1 [0, 1, 6, 7, 8] ?_ ?_) ⟨0, _, rfl, by simp [List.mem_range'_1], by omega, rfl, by simp⟩ ?_
  · simp (maxSteps:=9999999)-implicitDefEqProofs only [simprocAttr,QH,Option.isSome,cond_true,cond_false,Option.bind,selB,V.rn,V.rns,Go.Ai.known,V.pz,V.pzs,T.toV,frz1,List.range,List.range.loop,ite_true,ite_false,if_true,if_false,ne_eq,implies_true,forall_const,eq_self,IntKind.bits,upd_tmsS,selT_cons,selT_nil,List.length_map,List.getElem?_map,Int.natCast_nonneg,List.length_append,List.map_append]
  · simp (maxSteps:=9999999)-implicitDefEqProofs only [simprocAttr,QH,Option.isSome,cond_true,cond_false,Option.bind,selB,V.rn,V.rns,Go.Ai.known,V.pz,V.pzs,T.toV,frz1,List.range,List.range.loop,ite_true,ite_false,if_true,if_false,ne_eq,implies_true,forall_const,eq_self,IntKind.bits,upd_tmsS,selT_cons,selT_nil,hb0.rn,hb0.mt,hb0.pz]
  rintro kk S ⟨j, mv, rfl, hmv, hj, rfl, hno⟩
  have hfmv : mv.filter (fun x => decide (x < 1)) = [] := by
    rw [List.filter_eq_nil_iff]
    intro t ht
    have := hmv t ht
    simp
    try omega
  have hfm0 : List.filter (fun _ : Nat => false) mv = [] := List.filter_eq_nil_iff.2 (by simp)
  have hmv' : ∀ m t : Nat, t ∈ mv ++ List.range' 1 m → 1 ≤ t := by
    intro m t ht
    rcases List.mem_append.1 ht with h1 | h1
    · exact hmv t h1
    · exact (List.mem_range'_1.1 h1).1
  have wj : IntKind.i64.wrap ((j : Int) + 1) = (j : Int) + 1 := wI64 _ (by omega) (by omega)
  by_cases hjl : j < L.length
  · have hjl' : (j : Int) < (L.length : Int) := by omega
    have hgj : L[j]? = some L[j] := List.getElem?_eq_getElem hjl
    obtain ⟨x, hx⟩ : ∃ x, L[j] = x := ⟨_, rfl⟩
    rw [hx] at hgj
    have hc := hq x (mem_in hgj)
    cases hqx : q x with
    | true =>
      rw [hqx] at hc
      have hix := ix_some hno hgj hqx
      (have hwq := trivial; repeat' (first | simp (maxSteps:=9999999)-implicitDefEqProofs only [go_sem,simprocAttr,hwq,FT3,FT25,FT32,FT101,List.length_map,List.getElem?_map,Int.natCast_nonneg,List.length_append,List.map_append,hjl',hgj,wj,hix,hfmv,hfm0,hb0.rn,hb0.mt,hb0.pz] | (refine condK_split ?_ ?_ <;> intro hwq) | (refine two_split ?_ ?_) | (refine guardK_split ?_ ?_ <;> intro hwq) | (refine guardE_split ?_ ?_ <;> intro hwq) | (refine awp_drawW [] (by decide +kernel) ?_; have hwq := trivial) | (refine call_at [0] hc (by simp) (by decide) rfl rfl (by simp [hb0.mt]) (V.les_refl _) ?_; have hwq := trivial) | fail))
    | false =>
      rw [hqx] at hc
      (have hwq := trivial; repeat' (first | simp (maxSteps:=9999999)-implicitDefEqProofs only [go_sem,simprocAttr,hwq,FT3,FT25,FT32,FT101,List.length_map,List.getElem?_map,Int.natCast_nonneg,List.length_append,List.map_append,hjl',hgj,wj,hfmv,hb0.rn,hb0.mt,hb0.pz] | (refine condK_split ?_ ?_ <;> intro hwq) | (refine two_split ?_ ?_) | (refine guardK_split ?_ ?_ <;> intro hwq) | (refine guardE_split ?_ ?_ <;> intro hwq) | (refine awp_drawW [] (by decide +kernel) ?_; have hwq := trivial) | (refine call_at [0] hc (by simp) (by decide) rfl rfl (by simp [hb0.mt]) (V.les_refl _) ?_; have hwq := trivial) | fail))
      refine ⟨L.length - (j + 1), _, by omega, Weak.cutI 1 [0, 1, 6, 7, 8] ?_ ?_, j + 1, _, rfl, hmv' _, by omega, rfl, ix_more hno hgj hqx⟩
      · simp (maxSteps:=9999999)-implicitDefEqProofs only [simprocAttr,QH,Option.isSome,cond_true,cond_false,Option.bind,selB,V.rn,V.rns,Go.Ai.known,V.pz,V.pzs,T.toV,frz1,List.range,List.range.loop,ite_true,ite_false,if_true,if_false,ne_eq,implies_true,forall_const,eq_self,IntKind.bits,upd_tmsS,selT_cons,selT_nil,List.length_map,List.getElem?_map,Int.natCast_nonneg,List.length_append,List.map_append]
      · simp (maxSteps:=9999999)-implicitDefEqProofs only [simprocAttr,QH,Option.isSome,cond_true,cond_false,Option.bind,selB,V.rn,V.rns,Go.Ai.known,V.pz,V.pzs,T.toV,frz1,List.range,List.range.loop,ite_true,ite_false,if_true,if_false,ne_eq,implies_true,forall_const,eq_self,IntKind.bits,upd_tmsS,selT_cons,selT_nil,List.length_map,List.getElem?_map,Int.natCast_nonneg,List.length_append,List.map_append,hb0.rn,hb0.mt,hb0.pz]
  · have hjl' : ¬ (j : Int) < (L.length : Int) := by omega
    rw [List.take_of_length_le (by omega)] at hno
    have hix := ix_none hno
    (have hwq := trivial; repeat' (first | simp (maxSteps:=9999999)-implicitDefEqProofs only [go_sem,simprocAttr,hwq,FT3,FT25,FT32,FT101,List.length_map,List.getElem?_map,Int.natCast_nonneg,List.length_append,List.map_append,hjl',hix,hfmv,hfm0,hb0.rn,hb0.mt,hb0.pz] | (refine condK_split ?_ ?_ <;> intro hwq) | (refine two_split ?_ ?_) | (refine guardK_split ?_ ?_ <;> intro hwq) | (refine guardE_split ?_ ?_ <;> intro hwq) | (refine awp_drawW [] (by decide +kernel) ?_; have hwq := trivial) | fail))
def Ix126_2 (kf : Nat) (b0 : Blk) (b1 : Blk) (q : Mp → Bool) (L : List Mp) (k : Nat) (S : St) : Prop :=
  ∃ (j : Nat) (mv : List Nat), S = ⟨tms [(0, msV L), (1, .clo (.func kf) [] [.ptr 0 0 0, .ptr 1 0 0]), (6, msV L), (7, vI L.length), (8, vI j)], [b0, b1], mv⟩ ∧ (∀ t ∈ mv, 2 ≤ t) ∧ j ≤ L.length ∧ k = L.length - j ∧ ∀ y ∈ L.take j, q y = false
theorem pi126_2 (kf : Nat) (b0 : Blk) (hb0 : FlatB b0) (b1 : Blk) (hb1 : FlatB b1) (q : Mp → Bool) (L : List Mp) (hl : L.length ≤ 100000) (hq : ∀ x ∈ L, AC Tryz.prog kf [mpV x, .ptr 0 0 0, .ptr 1 0 0] [b0, b1] (eqS (vB (q x)) [b0, b1])) :
    AC Tryz.prog 126 [msV L, .clo (.func kf) [] [.ptr 0 0 0, .ptr 1 0 0]] [b0, b1] (eqS (vI (ixZ q L)) [b0, b1]) := by
  refine AC_heap orders [0, 1] Tryz.func126 rfl (by kernel_rfl) (by kernel_rfl) Tryz.ntmps126 (by simp) ?_
  unfold Tryz.f126
  (have hwq := trivial; repeat' (first | simp (maxSteps:=9999999)-implicitDefEqProofs only [go_sem,simprocAttr,hwq,FT3,FT25,FT32,FT101,hb0.rn,hb0.mt,hb0.pz,hb1.rn,hb1.mt,hb1.pz] | (refine condK_split ?_ ?_ <;> intro hwq) | (refine two_split ?_ ?_) | (refine guardK_split ?_ ?_ <;> intro hwq) | (refine guardE_split ?_ ?_ <;> intro hwq) | (refine awp_drawW [] (by decide +kernel) ?_; have hwq := trivial) | fail))
  refine awp_loopK (Ix126_2 kf b0 b1 q L) L.length _ (Weak.cutI 2 [0, 1, 6, 7, 8] ?_ ?_) ⟨0, _, rfl, by simp [List.mem_range'_1], by omega, rfl, by simp⟩ ?_
  · simp (maxSteps:=9999999)-implicitDefEqProofs only [simprocAttr,QH,Option.isSome,cond_true,cond_false,Option.bind,selB,V.rn,V.rns,Go.Ai.known,V.pz,V.pzs,T.toV,frz1,List.range,List.range.loop,ite_true,ite_false,if_true,if_false,ne_eq,implies_true,forall_const,eq_self,IntKind.bits,upd_tmsS,selT_cons,selT_nil,List.length_map,List.getElem?_map,Int.natCast_nonneg,List.length_append,List.map_append]
  · simp (maxSteps:=9999999)-implicitDefEqProofs only [simprocAttr,QH,Option.isSome,cond_true,cond_false,Option.bind,selB,V.rn,V.rns,Go.Ai.known,V.pz,V.pzs,T.toV,frz1,List.range,List.range.loop,ite_true,ite_false,if_true,if_false,ne_eq,implies_true,forall_const,eq_self,IntKind.bits,upd_tmsS,selT_cons,selT_nil,hb0.rn,hb0.mt,hb0.pz,hb1.rn,hb1.mt,hb1.pz]
  rintro kk S ⟨j, mv, rfl, hmv, hj, rfl, hno⟩
  have hfmv : mv.filter (fun x => decide (x < 2)) = [] := by
    rw [List.filter_eq_nil_iff]
    intro t ht
    have := hmv t ht
    simp
    try omega
  have hfm0 : List.filter (fun _ : Nat => false) mv = [] := List.filter_eq_nil_iff.2 (by simp)
  have hmv' : ∀ m t : Nat, t ∈ mv ++ List.range' 2 m → 2 ≤ t := by
    intro m t ht
    rcases List.mem_append.1 ht with h1 | h1
    · exact hmv t h1
    · exact (List.mem_range'_1.1 h1).1
  have wj : IntKind.i64.wrap ((j : Int) + 1) = (j : Int) + 1 := wI64 _ (by omega) (by omega)
  by_cases hjl : j < L.length
  · have hjl' : (j : Int) < (L.length : Int) := by omega
    have hgj : L[j]? = some L[j] := List.getElem?_eq_getElem hjl
    obtain ⟨x, hx⟩ : ∃ x, L[j] = x := ⟨_, rfl⟩
    rw [hx] at hgj
    have hc := hq x (mem_in hgj)
    cases hqx : q x with
    | true =>
      rw [hqx] at hc
      have hix := ix_some hno hgj hqx
      (have hwq := trivial; repeat' (first | simp (maxSteps:=9999999)-implicitDefEqProofs only [go_sem,simprocAttr,hwq,FT3,FT25,FT32,FT101,List.length_map,List.getElem?_map,Int.natCast_nonneg,List.length_append,List.map_append,hjl',hgj,wj,hix,hfmv,hfm0,hb0.rn,hb0.mt,hb0.pz,hb1.rn,hb1.mt,hb1.pz] | (refine condK_split ?_ ?_ <;> intro hwq) | (refine two_split ?_ ?_) | (refine guardK_split ?_ ?_ <;> intro hwq) | (refine guardE_split ?_ ?_ <;> intro hwq) | (refine awp_drawW [] (by decide +kernel) ?_; have hwq := trivial) | (refine call_at [0, 1] hc (by simp) (by decide) rfl rfl (by simp [hb0.mt, hb1.mt]) (V.les_refl _) ?_; have hwq := trivial) | fail))
    | false =>
      rw [hqx] at hc
      (have hwq := trivial; repeat' (first | simp (maxSteps:=9999999)-implicitDefEqProofs only [go_sem,simprocAttr,hwq,FT3,FT25,FT32,FT101,List.length_map,List.getElem?_map,Int.natCast_nonneg,List.length_append,List.map_append,hjl',hgj,wj,hfmv,hb0.rn,hb0.mt,hb0.pz,hb1.rn,hb1.mt,hb1.pz] | (refine condK_split ?_ ?_ <;> intro hwq) | (refine two_split ?_ ?_) | (refine guardK_split ?_ ?_ <;> intro hwq) | (refine guardE_split ?_ ?_ <;> intro hwq) | (refine awp_drawW [] (by decide +kernel) ?_; have hwq := trivial) | (refine call_at [0, 1] hc (by simp) (by decide) rfl rfl (by simp [hb0.mt, hb1.mt]) (V.les_refl _) ?_; have hwq := trivial) | fail))
      refine ⟨L.length - (j + 1), _, by omega, Weak.cutI 2 [0, 1, 6, 7, 8] ?_ ?_, j + 1, _, rfl, hmv' _, by omega, rfl, ix_more hno hgj hqx⟩
      · simp (maxSteps:=9999999)-implicitDefEqProofs only [simprocAttr,QH,Option.isSome,cond_true,cond_false,Option.bind,selB,V.rn,V.rns,Go.Ai.known,V.pz,V.pzs,T.toV,frz1,List.range,List.range.loop,ite_true,ite_false,if_true,if_false,ne_eq,implies_true,forall_const,eq_self,IntKind.bits,upd_tmsS,selT_cons,selT_nil,List.length_map,List.getElem?_map,Int.natCast_nonneg,List.length_append,List.map_append]
      · simp (maxSteps:=9999999)-implicitDefEqProofs only [simprocAttr,QH,Option.isSome,cond_true,cond_false,Option.bind,selB,V.rn,V.rns,Go.Ai.known,V.pz,V.pzs,T.toV,frz1,List.range,List.range.loop,ite_true,ite_false,if_true,if_false,ne_eq,implies_true,forall_const,eq_self,IntKind.bits,upd_tmsS,selT_cons,selT_nil,List.length_map,List.getElem?_map,Int.natCast_nonneg,List.length_append,List.map_append,hb0.rn,hb0.mt,hb0.pz,hb1.rn,hb1.mt,hb1.pz]
  · have hjl' : ¬ (j : Int) < (L.length : Int) := by omega
    rw [List.take_of_length_le (by omega)] at hno
    have hix := ix_none hno
    (have hwq := trivial; repeat' (first | simp (maxSteps:=9999999)-implicitDefEqProofs only [go_sem,simprocAttr,hwq,FT3,FT25,FT32,FT101,List.length_map,List.getElem?_map,Int.natCast_nonneg,List.length_append,List.map_append,hjl',hix,hfmv,hfm0,hb0.rn,hb0.mt,hb0.pz,hb1.rn,hb1.mt,hb1.pz] | (refine condK_split ?_ ?_ <;> intro hwq) | (refine two_split ?_ ?_) | (refine guardK_split ?_ ?_ <;> intro hwq) | (refine guardE_split ?_ ?_ <;> intro hwq) | (refine awp_drawW [] (by decide +kernel) ?_; have hwq := trivial) | fail))
end Go.Ai

set_option linter.unusedVariables false
set_option linter.unusedSimpArgs false
set_option maxHeartbeats 8000000
set_option maxRecDepth 100000
namespace Go.Ai
open Go.Proofs
attribute [local go_sem] QH QR V.noimm V.noimms frzZs frzZ frzA frzV frzVs frzBox boxLen Option.isSome cond_true cond_false aopD calW flatV stepX amap stepY alookup afind aupdate adelete amlen arange ameq mapOf akeq pl V.mapT V.mapTs Option.bind stepK runK guardD stepE runD callD compact selB callK evS ofVal ofVals scalar aop ares mkRes V.rn V.rns V.cells? cellsAt Go.Ai.part aload astore setL V.atom abin aun intBin shiftBin aconv fieldOf aindexAddr aindex bound? aslice aarr abuild afill alen nilP nilS nilF aeq eqCells eqCell Go.Ai.known strBin abuiltin aappend abuildSlice arowsFill amakeSlice acopy aclear minmax rowsOf numsT notStr isIntD isByte V.pz V.pzs T.toV frz1 frz scalT scalTs chunkT List.range List.range.loop ite_true ite_false if_true if_false ne_eq implies_true forall_const eq_self IntKind.bits kPostKF_ret kPostKF_normal kPostX_ret kPostX_normal bsl nil2K nil2 kPostFW_ret kPostFW_normal kPostKM_ret kPostKM_normal kPostXK_ret kPostXK_normal
theorem pcl93 (rows : List (List T)) (hl : rows.length ≤ 100000) : AC Tryz.prog 93 [.sl 1 rows] [] (eqR (.sl 1 rows)) := by
  cases rows with
  | nil =>
    refine AC_frozenW orders Tryz.func93 rfl (by kernel_rfl) (by kernel_rfl) Tryz.ntmps93 (by simp) ?_
    unfold Tryz.f93
    (have hwq := trivial; repeat' (first | simp (maxSteps:=9999999)-implicitDefEqProofs only [go_sem,simprocAttr,hwq,FT24,FT59] | (refine awpL_loop 18 ?_; have hwq := trivial) | (refine condK_split ?_ ?_ <;> intro hwq) | (refine two_split ?_ ?_) | (refine guardK_split ?_ ?_ <;> intro hwq) | (refine guardE_split ?_ ?_ <;> intro hwq) | (refine awp_drawW [] (by decide +kernel) ?_; have hwq := trivial) | fail))
    all_goals exact ⟨_, rfl, by simp [V.leT, V.le]⟩
  | cons r rows =>
    have hz : (rows.length + 1) * 8 ≤ 140737488355328 := by simp at hl; omega
    have tk : List.take (rows.length + 1) (r :: rows) = r :: rows := List.take_of_length_le (by simp)
    refine AC_frozen orders Tryz.func93 rfl (by kernel_rfl) (by kernel_rfl) Tryz.ntmps93 (by simp) ?_
    unfold Tryz.f93
    (have hwq := trivial; repeat' (first | simp (maxSteps:=9999999)-implicitDefEqProofs only [go_sem,simprocAttr,hwq,FT24,FT59,List.length_map,List.getElem?_map,Int.natCast_nonneg,List.length_append,List.map_append,List.length_cons,hz,tk,Nat.le_refl,List.nil_append] | (refine awpL_loop 18 ?_; have hwq := trivial) | (refine condK_split ?_ ?_ <;> intro hwq) | (refine two_split ?_ ?_) | (refine guardK_split ?_ ?_ <;> intro hwq) | (refine guardE_split ?_ ?_ <;> intro hwq) | (refine awp_drawW [] (by decide +kernel) ?_; have hwq := trivial) | fail))
theorem pcl94 (rows : List (List T)) (hl : rows.length ≤ 100000) : AC Tryz.prog 94 [.sl 3 rows] [] (eqR (.sl 3 rows)) := by
  cases rows with
  | nil =>
    refine AC_frozenW orders Tryz.func94 rfl (by kernel_rfl) (by kernel_rfl) Tryz.ntmps94 (by simp) ?_
    unfold Tryz.f94
    (have hwq := trivial; repeat' (first | simp (maxSteps:=9999999)-implicitDefEqProofs only [go_sem,simprocAttr,hwq,FT3,FT25,FT32] | (refine awpL_loop 18 ?_; have hwq := trivial) | (refine condK_split ?_ ?_ <;> intro hwq) | (refine two_split ?_ ?_) | (refine guardK_split ?_ ?_ <;> intro hwq) | (refine guardE_split ?_ ?_ <;> intro hwq) | (refine awp_drawW [] (by decide +kernel) ?_; have hwq := trivial) | fail))
    all_goals exact ⟨_, rfl, by simp [V.leT, V.le]⟩
  | cons r rows =>
    have hz : (rows.length + 1) * 24 ≤ 140737488355328 := by simp at hl; omega
    have tk : List.take (rows.length + 1) (r :: rows) = r :: rows := List.take_of_length_le (by simp)
    refine AC_frozen orders Tryz.func94 rfl (by kernel_rfl) (by kernel_rfl) Tryz.ntmps94 (by simp) ?_
    unfold Tryz.f94
    (have hwq := trivial; repeat' (first | simp (maxSteps:=9999999)-implicitDefEqProofs only [go_sem,simprocAttr,hwq,FT3,FT25,FT32,List.length_map,List.getElem?_map,Int.natCast_nonneg,List.length_append,List.map_append,List.length_cons,hz,tk,Nat.le_refl,List.nil_append] | (refine awpL_loop 18 ?_; have hwq := trivial) | (refine condK_split ?_ ?_ <;> intro hwq) | (refine two_split ?_ ?_) | (refine guardK_split ?_ ?_ <;> intro hwq) | (refine guardE_split ?_ ?_ <;> intro hwq) | (refine awp_drawW [] (by decide +kernel) ?_; have hwq := trivial) | fail))
theorem pco94 (rows : List (List T)) (hl : rows.length ≤ 100000) : AC Tryz.prog 94 [.sl 3 rows] [] (eqS (.own 0 0 rows.length) [.rows 3 rows false]) := by
  have hff : List.filter (fun _ : Nat => false) [0] = [] := rfl
  cases rows with
  | nil =>
    refine AC.virt (σ := []) (z := 3) ?_
    refine AC_oneK orders (fun b : Bool => if b then [] else [0]) Tryz.func94 rfl (by kernel_rfl) (by kernel_rfl) Tryz.ntmps94 (by simp) ?_
    unfold Tryz.f94
    (have hwq := trivial; repeat' (first | simp (maxSteps:=9999999)-implicitDefEqProofs only [go_sem,simprocAttr,hwq,FT3,FT25,FT32] | (refine awpL_loop 18 ?_; have hwq := trivial) | (refine condK_split ?_ ?_ <;> intro hwq) | (refine two_split ?_ ?_) | (refine guardK_split ?_ ?_ <;> intro hwq) | (refine guardE_split ?_ ?_ <;> intro hwq) | (refine awp_drawW [] (by decide +kernel) ?_; have hwq := trivial) | fail))
    · refine endX true ?_
      simp (maxSteps:=9999999)-implicitDefEqProofs only [go_sem,simprocAttr,FT3,FT25,FT32,hff]
    · refine endX false ?_
      simp (maxSteps:=9999999)-implicitDefEqProofs only [go_sem,simprocAttr,FT3,FT25,FT32,hff]
  | cons r rows =>
    have hz : (rows.length + 1) * 24 ≤ 140737488355328 := by simp at hl; omega
    refine AC_heap orders [0] Tryz.func94 rfl (by kernel_rfl) (by kernel_rfl) Tryz.ntmps94 (by simp) ?_
    unfold Tryz.f94
    (have hwq := trivial; repeat' (first | simp (maxSteps:=9999999)-implicitDefEqProofs only [go_sem,simprocAttr,hwq,FT3,FT25,FT32,List.length_map,List.getElem?_map,Int.natCast_nonneg,List.length_append,List.map_append,List.length_cons,hz,List.nil_append,hff] | (refine awpL_loop 18 ?_; have hwq := trivial) | (refine condK_split ?_ ?_ <;> intro hwq) | (refine two_split ?_ ?_) | (refine guardK_split ?_ ?_ <;> intro hwq) | (refine guardE_split ?_ ?_ <;> intro hwq) | (refine awp_drawW [] (by decide +kernel) ?_; have hwq := trivial) | fail))
theorem pcl95 (rows : List (List T)) (hl : rows.length ≤ 100000) : AC Tryz.prog 95 [.sl 2 rows] [] (eqR (.sl 2 rows)) := by
  cases rows with
  | nil =>
    refine AC_frozenW orders Tryz.func95 rfl (by kernel_rfl) (by kernel_rfl) Tryz.ntmps95 (by simp) ?_
    unfold Tryz.f95
    (have hwq := trivial; repeat' (first | simp (maxSteps:=9999999)-implicitDefEqProofs only [go_sem,simprocAttr,hwq,FT3,FT26,FT34] | (refine awpL_loop 18 ?_; have hwq := trivial) | (refine condK_split ?_ ?_ <;> intro hwq) | (refine two_split ?_ ?_) | (refine guardK_split ?_ ?_ <;> intro hwq) | (refine guardE_split ?_ ?_ <;> intro hwq) | (refine awp_drawW [] (by decide +kernel) ?_; have hwq := trivial) | fail))
    all_goals exact ⟨_, rfl, by simp [V.leT, V.le]⟩
  | cons r rows =>
    have hz : (rows.length + 1) * 16 ≤ 140737488355328 := by simp at hl; omega
    have tk : List.take (rows.length + 1) (r :: rows) = r :: rows := List.take_of_length_le (by simp)
    refine AC_frozen orders Tryz.func95 rfl (by kernel_rfl) (by kernel_rfl) Tryz.ntmps95 (by simp) ?_
    unfold Tryz.f95
    (have hwq := trivial; repeat' (first | simp (maxSteps:=9999999)-implicitDefEqProofs only [go_sem,simprocAttr,hwq,FT3,FT26,FT34,List.length_map,List.getElem?_map,Int.natCast_nonneg,List.length_append,List.map_append,List.length_cons,hz,tk,Nat.le_refl,List.nil_append] | (refine awpL_loop 18 ?_; have hwq := trivial) | (refine condK_split ?_ ?_ <;> intro hwq) | (refine two_split ?_ ?_) | (refine guardK_split ?_ ?_ <;> intro hwq) | (refine guardE_split ?_ ?_ <;> intro hwq) | (refine awp_drawW [] (by decide +kernel) ?_; have hwq := trivial) | fail))
theorem pco95 (rows : List (List T)) (hl : rows.length ≤ 100000) : AC Tryz.prog 95 [.sl 2 rows] [] (eqS (.own 0 0 rows.length) [.rows 2 rows false]) := by
  have hff : List.filter (fun _ : Nat => false) [0] = [] := rfl
  cases rows with
  | nil =>
    refine AC.virt (σ := []) (z := 2) ?_
    refine AC_oneK orders (fun b : Bool => if b then [] else [0]) Tryz.func95 rfl (by kernel_rfl) (by kernel_rfl) Tryz.ntmps95 (by simp) ?_
    unfold Tryz.f95
    (have hwq := trivial; repeat' (first | simp (maxSteps:=9999999)-implicitDefEqProofs only [go_sem,simprocAttr,hwq,FT3,FT26,FT34] | (refine awpL_loop 18 ?_; have hwq := trivial) | (refine condK_split ?_ ?_ <;> intro hwq) | (refine two_split ?_ ?_) | (refine guardK_split ?_ ?_ <;> intro hwq) | (refine guardE_split ?_ ?_ <;> intro hwq) | (refine awp_drawW [] (by decide +kernel) ?_; have hwq := trivial) | fail))
    · refine endX true ?_
      simp (maxSteps:=9999999)-implicitDefEqProofs only [go_sem,simprocAttr,FT3,FT26,FT34,hff]
    · refine endX false ?_
      simp (maxSteps:=9999999)-implicitDefEqProofs only [go_sem,simprocAttr,FT3,FT26,FT34,hff]
  | cons r rows =>
    have hz : (rows.length + 1) * 16 ≤ 140737488355328 := by simp at hl; omega
    refine AC_heap orders [0] Tryz.func95 rfl (by kernel_rfl) (by kernel_rfl) Tryz.ntmps95 (by simp) ?_
    unfold Tryz.f95
    (have hwq := trivial; repeat' (first | simp (maxSteps:=9999999)-implicitDefEqProofs only [go_sem,simprocAttr,hwq,FT3,FT26,FT34,List.length_map,List.getElem?_map,Int.natCast_nonneg,List.length_append,List.map_append,List.length_cons,hz,List.nil_append,hff] | (refine awpL_loop 18 ?_; have hwq := trivial) | (refine condK_split ?_ ?_ <;> intro hwq) | (refine two_split ?_ ?_) | (refine guardK_split ?_ ?_ <;> intro hwq) | (refine guardE_split ?_ ?_ <;> intro hwq) | (refine awp_drawW [] (by decide +kernel) ?_; have hwq := trivial) | fail))
theorem pco96 (rows : List (List T)) (hl : rows.length ≤ 100000) : AC Tryz.prog 96 [.sl 2 rows] [] (eqS (.own 0 0 rows.length) [.rows 2 rows false]) := by
  have hff : List.filter (fun _ : Nat => false) [0] = [] := rfl
  cases rows with
  | nil =>
    refine AC.virt (σ := []) (z := 2) ?_
    refine AC_oneK orders (fun b : Bool => if b then [] else [0]) Tryz.func96 rfl (by kernel_rfl) (by kernel_rfl) Tryz.ntmps96 (by simp) ?_
    unfold Tryz.f96
    (have hwq := trivial; repeat' (first | simp (maxSteps:=9999999)-implicitDefEqProofs only [go_sem,simprocAttr,hwq,FT3,FT27,FT35,FT37] | (refine awpL_loop 18 ?_; have hwq := trivial) | (refine condK_split ?_ ?_ <;> intro hwq) | (refine two_split ?_ ?_) | (refine guardK_split ?_ ?_ <;> intro hwq) | (refine guardE_split ?_ ?_ <;> intro hwq) | (refine awp_drawW [] (by decide +kernel) ?_; have hwq := trivial) | fail))
    · refine endX true ?_
      simp (maxSteps:=9999999)-implicitDefEqProofs only [go_sem,simprocAttr,FT3,FT27,FT35,FT37,hff]
    · refine endX false ?_
      simp (maxSteps:=9999999)-implicitDefEqProofs only [go_sem,simprocAttr,FT3,FT27,FT35,FT37,hff]
  | cons r rows =>
    have hz : (rows.length + 1) * 32 ≤ 140737488355328 := by simp at hl; omega
    refine AC_heap orders [0] Tryz.func96 rfl (by kernel_rfl) (by kernel_rfl) Tryz.ntmps96 (by simp) ?_
    unfold Tryz.f96
    (have hwq := trivial; repeat' (first | simp (maxSteps:=9999999)-implicitDefEqProofs only [go_sem,simprocAttr,hwq,FT3,FT27,FT35,FT37,List.length_map,List.getElem?_map,Int.natCast_nonneg,List.length_append,List.map_append,List.length_cons,hz,List.nil_append,hff] | (refine awpL_loop 18 ?_; have hwq := trivial) | (refine condK_split ?_ ?_ <;> intro hwq) | (refine two_split ?_ ?_) | (refine guardK_split ?_ ?_ <;> intro hwq) | (refine guardE_split ?_ ?_ <;> intro hwq) | (refine awp_drawW [] (by decide +kernel) ?_; have hwq := trivial) | fail))
theorem pcl46 (rows : List (List T)) (hl : rows.length ≤ 100000) : AC Tryz.prog 46 [.sl 1 rows] [] (eqR (.sl 1 rows)) := by
  cases rows with
  | nil =>
    refine AC_frozenW orders Tryz.func46 rfl (by kernel_rfl) (by kernel_rfl) Tryz.ntmps46 (by simp) ?_
    unfold Tryz.f46
    (have hwq := trivial; repeat' (first | simp (maxSteps:=9999999)-implicitDefEqProofs only [go_sem,simprocAttr,hwq,FT3,FT35] | (refine awpL_loop 18 ?_; have hwq := trivial) | (refine condK_split ?_ ?_ <;> intro hwq) | (refine two_split ?_ ?_) | (refine guardK_split ?_ ?_ <;> intro hwq) | (refine guardE_split ?_ ?_ <;> intro hwq) | (refine awp_drawW [] (by decide +kernel) ?_; have hwq := trivial) | fail))
    all_goals exact ⟨_, rfl, by simp [V.leT, V.le]⟩
  | cons r rows =>
    have hz : (rows.length + 1) * 8 ≤ 140737488355328 := by simp at hl; omega
    have tk : List.take (rows.length + 1) (r :: rows) = r :: rows := List.take_of_length_le (by simp)
    refine AC_frozen orders Tryz.func46 rfl (by kernel_rfl) (by kernel_rfl) Tryz.ntmps46 (by simp) ?_
    unfold Tryz.f46
    (have hwq := trivial; repeat' (first | simp (maxSteps:=9999999)-implicitDefEqProofs only [go_sem,simprocAttr,hwq,FT3,FT35,List.length_map,List.getElem?_map,Int.natCast_nonneg,List.length_append,List.map_append,List.length_cons,hz,tk,Nat.le_refl,List.nil_append] | (refine awpL_loop 18 ?_; have hwq := trivial) | (refine condK_split ?_ ?_ <;> intro hwq) | (refine two_split ?_ ?_) | (refine guardK_split ?_ ?_ <;> intro hwq) | (refine guardE_split ?_ ?_ <;> intro hwq) | (refine awp_drawW [] (by decide +kernel) ?_; have hwq := trivial) | fail))
end Go.Ai

set_option linter.unusedVariables false
set_option linter.unusedSimpArgs false
set_option maxHeartbeats 4000000
set_option maxRecDepth 100000
namespace Go.Ai
open Go.Proofs
attribute [local go_sem] QH QR V.noimm V.noimms frzZs frzZ frzA frzV frzVs frzBox boxLen Option.isSome cond_true cond_false aopD calW flatV stepX amap stepY alookup afind aupdate adelete amlen arange ameq mapOf akeq pl V.mapT V.mapTs Option.bind stepK runK guardD stepE runD callD compact selB callK evS ofVal ofVals scalar aop ares mkRes V.rn V.rns V.cells? cellsAt Go.Ai.part aload astore setL V.atom abin aun intBin shiftBin aconv fieldOf aindexAddr aindex bound? aslice aarr abuild afill alen nilP nilS nilF aeq eqCells eqCell Go.Ai.known strBin abuiltin aappend abuildSlice arowsFill amakeSlice acopy aclear minmax rowsOf numsT notStr isIntD isByte V.pz V.pzs T.toV frz1 frz scalT scalTs chunkT List.range List.range.loop ite_true ite_false if_true if_false ne_eq implies_true forall_const eq_self IntKind.bits kPostKF_ret kPostKF_normal kPostX_ret kPostX_normal bsl nil2K nil2 kPostFW_ret kPostFW_normal kPostKM_ret kPostKM_normal kPostXK_ret kPostXK_normal
theorem pcf63 (kf : Nat) (q : Int → Bool) (L : List Int) (hl : L.length ≤ 100000) (hq : ∀ x ∈ L, AC Tryz.prog kf [vI x] [] (eqS (vB (q x)) [])) :
    AC Tryz.prog 63 [isV L, .clo (.func kf) [] []] [] (eqS (vB (L.any q)) []) := by
  have h := pi122_0 kf q L hl hq
  have ha := ix_any q L
  refine AC_heap orders [] Tryz.func63 rfl (by kernel_rfl) (by kernel_rfl) Tryz.ntmps63 (by simp) ?_
  unfold Tryz.f63
  (have hwq := trivial; repeat' (first | simp (maxSteps:=9999999)-implicitDefEqProofs only [go_sem,simprocAttr,hwq,FT3,FT4,FT24,FT59,FT93,ha] | (refine awpL_loop 18 ?_; have hwq := trivial) | (refine condK_split ?_ ?_ <;> intro hwq) | (refine two_split ?_ ?_) | (refine guardK_split ?_ ?_ <;> intro hwq) | (refine guardE_split ?_ ?_ <;> intro hwq) | (refine awp_drawW [] (by decide +kernel) ?_; have hwq := trivial) | (refine call_at [] h (by simp) (by decide) rfl rfl (by simp [mapT_box, V.mapTs, V.mapT, pl]) (by simp [V.les, V.le, V.mapTs, V.mapT, pl]) ?_; have hwq := trivial) | fail))
theorem pcf65 (kf : Nat) (b0 : Blk) (hb0 : FlatB b0) (q : Mb → Bool) (L : List Mb) (hl : L.length ≤ 100000) (hq : ∀ x ∈ L, AC Tryz.prog kf [mbV x, .ptr 0 0 0] [b0] (eqS (vB (q x)) [b0])) :
    AC Tryz.prog 65 [bsV L, .clo (.func kf) [] [.ptr 0 0 0]] [b0] (eqS (vB (L.any q)) [b0]) := by
  have h := pi123_1 kf b0 hb0 q L hl hq
  have ha := ix_any q L
  refine AC_heap orders [0] Tryz.func65 rfl (by kernel_rfl) (by kernel_rfl) Tryz.ntmps65 (by simp) ?_
  unfold Tryz.f65
  (have hwq := trivial; repeat' (first | simp (maxSteps:=9999999)-implicitDefEqProofs only [go_sem,simprocAttr,hwq,FT3,FT4,FT27,FT35,FT37,FT97,ha,hb0.rn,hb0.mt,hb0.pz] | (refine awpL_loop 18 ?_; have hwq := trivial) | (refine condK_split ?_ ?_ <;> intro hwq) | (refine two_split ?_ ?_) | (refine guardK_split ?_ ?_ <;> intro hwq) | (refine guardE_split ?_ ?_ <;> intro hwq) | (refine awp_drawW [] (by decide +kernel) ?_; have hwq := trivial) | (refine call_at [0] h (by simp) (by decide) rfl rfl (by simp [mapT_box, V.mapTs, V.mapT, pl, hb0.mt]) (by simp [V.les, V.le, V.mapTs, V.mapT, pl]) ?_; have hwq := trivial) | fail))
theorem pcf69 (kf : Nat) (b0 : Blk) (hb0 : FlatB b0) (q : Cr → Bool) (L : List Cr) (hl : L.length ≤ 100000) (hq : ∀ x ∈ L, AC Tryz.prog kf [crV x, .ptr 0 0 0] [b0] (eqS (vB (q x)) [b0])) :
    AC Tryz.prog 69 [csV L, .clo (.func kf) [] [.ptr 0 0 0]] [b0] (eqS (vB (L.any q)) [b0]) := by
  have h := pi125_1 kf b0 hb0 q L hl hq
  have ha := ix_any q L
  refine AC_heap orders [0] Tryz.func69 rfl (by kernel_rfl) (by kernel_rfl) Tryz.ntmps69 (by simp) ?_
  unfold Tryz.f69
  (have hwq := trivial; repeat' (first | simp (maxSteps:=9999999)-implicitDefEqProofs only [go_sem,simprocAttr,hwq,FT3,FT4,FT26,FT34,FT99,ha,hb0.rn,hb0.mt,hb0.pz] | (refine awpL_loop 18 ?_; have hwq := trivial) | (refine condK_split ?_ ?_ <;> intro hwq) | (refine two_split ?_ ?_) | (refine guardK_split ?_ ?_ <;> intro hwq) | (refine guardE_split ?_ ?_ <;> intro hwq) | (refine awp_drawW [] (by decide +kernel) ?_; have hwq := trivial) | (refine call_at [0] h (by simp) (by decide) rfl rfl (by simp [mapT_box, V.mapTs, V.mapT, pl, hb0.mt]) (by simp [V.les, V.le, V.mapTs, V.mapT, pl]) ?_; have hwq := trivial) | fail))
theorem pcf72 (kf : Nat) (b0 : Blk) (hb0 : FlatB b0) (q : Mp → Bool) (L : List Mp) (hl : L.length ≤ 100000) (hq : ∀ x ∈ L, AC Tryz.prog kf [mpV x, .ptr 0 0 0] [b0] (eqS (vB (q x)) [b0])) :
    AC Tryz.prog 72 [msV L, .clo (.func kf) [] [.ptr 0 0 0]] [b0] (eqS (vB (L.any q)) [b0]) := by
  have h := pi126_1 kf b0 hb0 q L hl hq
  have ha := ix_any q L
  refine AC_heap orders [0] Tryz.func72 rfl (by kernel_rfl) (by kernel_rfl) Tryz.ntmps72 (by simp) ?_
  unfold Tryz.f72
  (have hwq := trivial; repeat' (first | simp (maxSteps:=9999999)-implicitDefEqProofs only [go_sem,simprocAttr,hwq,FT3,FT4,FT25,FT32,FT101,ha,hb0.rn,hb0.mt,hb0.pz] | (refine awpL_loop 18 ?_; have hwq := trivial) | (refine condK_split ?_ ?_ <;> intro hwq) | (refine two_split ?_ ?_) | (refine guardK_split ?_ ?_ <;> intro hwq) | (refine guardE_split ?_ ?_ <;> intro hwq) | (refine awp_drawW [] (by decide +kernel) ?_; have hwq := trivial) | (refine call_at [0] h (by simp) (by decide) rfl rfl (by simp [mapT_box, V.mapTs, V.mapT, pl, hb0.mt]) (by simp [V.les, V.le, V.mapTs, V.mapT, pl]) ?_; have hwq := trivial) | fail))
def fst78 (q : Mp → Bool) (L : List Mp) : V := match L.find? q with
  | some x => .tuple [mpV x, vB true]
  | none => .tuple [mpV ⟨0, 0, 0⟩, vB false]
theorem pcf78 (kf : Nat) (b0 : Blk) (hb0 : FlatB b0) (b1 : Blk) (hb1 : FlatB b1) (q : Mp → Bool) (L : List Mp) (hl : L.length ≤ 100000) (hq : ∀ x ∈ L, AC Tryz.prog kf [mpV x, .ptr 0 0 0, .ptr 1 0 0] [b0, b1] (eqS (vB (q x)) [b0, b1])) :
    AC Tryz.prog 78 [msV L, .clo (.func kf) [] [.ptr 0 0 0, .ptr 1 0 0]] [b0, b1] (eqS (fst78 q L) [b0, b1]) := by
  have h := pi126_2 kf b0 hb0 b1 hb1 q L hl hq
  unfold fst78
  refine AC_heap orders [0, 1] Tryz.func78 rfl (by kernel_rfl) (by kernel_rfl) Tryz.ntmps78 (by simp) ?_
  unfold Tryz.f78
  rcases ix_find (q := q) (L := L) with ⟨h1, h2⟩ | ⟨j, x, h1, h2, h3⟩
  · rw [h1] at h
    rw [h2]
    (have hwq := trivial; repeat' (first | simp (maxSteps:=9999999)-implicitDefEqProofs only [go_sem,simprocAttr,hwq,FT3,FT4,FT25,FT32,FT101,hb0.rn,hb0.mt,hb0.pz,hb1.rn,hb1.mt,hb1.pz] | (refine awpL_loop 18 ?_; have hwq := trivial) | (refine condK_split ?_ ?_ <;> intro hwq) | (refine two_split ?_ ?_) | (refine guardK_split ?_ ?_ <;> intro hwq) | (refine guardE_split ?_ ?_ <;> intro hwq) | (refine awp_drawW [] (by decide +kernel) ?_; have hwq := trivial) | (refine call_at [0, 1] h (by simp) (by decide) rfl rfl (by simp [mapT_box, V.mapTs, V.mapT, pl, hb0.mt, hb1.mt]) (by simp [V.les, V.le, V.mapTs, V.mapT, pl]) ?_; have hwq := trivial) | fail))
  · rw [h1] at h
    rw [h3]
    have hj := (List.getElem?_eq_some_iff.1 h2).1
    have hj' : (j : Int) < (L.length : Int) := by omega
    have hj0 : ¬ (j : Int) < 0 := by omega
    (have hwq := trivial; repeat' (first | simp (maxSteps:=9999999)-implicitDefEqProofs only [go_sem,simprocAttr,hwq,FT3,FT4,FT25,FT32,FT101,List.length_map,List.getElem?_map,Int.natCast_nonneg,List.length_append,List.map_append,h2,hj',hj0,hb0.rn,hb0.mt,hb0.pz,hb1.rn,hb1.mt,hb1.pz] | (refine awpL_loop 18 ?_; have hwq := trivial) | (refine condK_split ?_ ?_ <;> intro hwq) | (refine two_split ?_ ?_) | (refine guardK_split ?_ ?_ <;> intro hwq) | (refine guardE_split ?_ ?_ <;> intro hwq) | (refine awp_drawW [] (by decide +kernel) ?_; have hwq := trivial) | (refine call_at [0, 1] h (by simp) (by decide) rfl rfl (by simp [mapT_box, V.mapTs, V.mapT, pl, hb0.mt, hb1.mt]) (by simp [V.les, V.le, V.mapTs, V.mapT, pl]) ?_; have hwq := trivial) | fail))
def risB {α : Type} (lt : α → α → Bool) : List α → Bool
  | a :: b :: l => lt a b && risB lt (b :: l)
  | _ => true
theorem risB_iff {α : Type} (lt : α → α → Bool) : ∀ L : List α, risB lt L = true ↔ ∀ i x y, L[i]? = some x → L[i + 1]? = some y → lt x y = true
  | [] => by simp [risB]
  | [a] => by
    simp only [risB, true_iff]
    intro i x y _ h
    simp at h
  | a :: b :: l => by
    rw [risB, Bool.and_eq_true, risB_iff lt (b :: l)]
    constructor
    · rintro ⟨h1, h2⟩ i x y hx hy
      cases i with
      | zero => simp at hx hy; rw [← hx, ← hy]; exact h1
      | succ i => exact h2 i x y (by simpa using hx) (by simpa using hy)
    · intro h
      exact ⟨h 0 a b rfl rfl, fun i x y hx hy => h (i + 1) x y (by simpa using hx) (by simpa using hy)⟩
def ltI (a b : Int) : Bool := decide (a < b)
def ltMb (a b : Mb) : Bool := decide (a.v < b.v)
def ltCr (a b : Cr) : Bool := decide (a.s < b.s)
theorem cmpZ_ge (a b : Int) : decide ((0 : Int) ≤ cmpZ a b) = !decide (a < b) := by
  unfold cmpZ
  split
  · simp [*]
  · split <;> simp [*]
theorem cmpMp_ge (a b : Mp) : decide ((0 : Int) ≤ cmpMp a b) = !beforeB a b := by
  unfold cmpMp beforeB cmpZ
  by_cases h1 : a.p < b.p
  · simp [h1]
  · by_cases h2 : b.p < a.p
    · have h3 : (a.p == b.p) = false := by simp; omega
      simp [h1, h2, h3]
    · have h3 : (a.p == b.p) = true := by simp; omega
      by_cases h4 : a.v < b.v
      · simp [h1, h2, h3, h4]
      · by_cases h5 : b.v < a.v <;> simp [h1, h2, h3, h4, h5]
def Ri60 (L : List Mb) (k : Nat) (S : St) : Prop :=
  ∃ (j : Nat) (mv : List Nat), S = ⟨tms [(0, bsV L), (1, .clo (.func 47) [] []), (5, vI j)], [], mv⟩ ∧ 1 ≤ j ∧ j ≤ L.length + 1 ∧ k = L.length + 1 - j ∧ ∀ i x y, i + 1 < j → L[i]? = some x → L[i + 1]? = some y → ltMb x y = true
theorem pr60 (L : List Mb) (hl : L.length ≤ 100000) : AC Tryz.prog 60 [bsV L, .clo (.func 47) [] []] [] (eqR (vB (risB ltMb L))) := by
  refine AC_plain orders Tryz.func60 rfl (by kernel_rfl) (by kernel_rfl) Tryz.ntmps60 (by simp) ?_
  unfold Tryz.f60
  (have hwq := trivial; repeat' (first | simp (maxSteps:=9999999)-implicitDefEqProofs only [go_sem,simprocAttr,hwq,FT3,FT4,FT27,FT35,FT37,FT78] | (refine condK_split ?_ ?_ <;> intro hwq) | (refine two_split ?_ ?_) | (refine guardK_split ?_ ?_ <;> intro hwq) | (refine guardE_split ?_ ?_ <;> intro hwq) | (refine awp_drawW [] (by decide +kernel) ?_; have hwq := trivial) | fail))
  refine awp_loopK (Ri60 L) L.length _ (Weak.cutI 0 [0, 1, 5] ?_ ?_) ⟨1, _, rfl, by omega, by omega, by omega, fun i _ _ h => by omega⟩ ?_
  · simp (maxSteps:=9999999)-implicitDefEqProofs only [simprocAttr,QH,Option.isSome,cond_true,cond_false,Option.bind,selB,V.rn,V.rns,Go.Ai.known,V.pz,V.pzs,T.toV,frz1,List.range,List.range.loop,ite_true,ite_false,if_true,if_false,ne_eq,implies_true,forall_const,eq_self,IntKind.bits,upd_tmsS,selT_cons,selT_nil]
  · simp (maxSteps:=9999999)-implicitDefEqProofs only [simprocAttr,QH,Option.isSome,cond_true,cond_false,Option.bind,selB,V.rn,V.rns,Go.Ai.known,V.pz,V.pzs,T.toV,frz1,List.range,List.range.loop,ite_true,ite_false,if_true,if_false,ne_eq,implies_true,forall_const,eq_self,IntKind.bits,upd_tmsS,selT_cons,selT_nil]
  rintro kk S ⟨j, mv, rfl, hj1, hj, rfl, hp⟩
  obtain ⟨p, hjp⟩ : ∃ p, j = p + 1 := ⟨j - 1, by omega⟩
  have wj : IntKind.i64.wrap ((j : Int) + 1) = (j : Int) + 1 := wI64 _ (by omega) (by omega)
  have wp : IntKind.i64.wrap ((j : Int) - 1) = (p : Int) := by rw [wI64 _ (by omega) (by omega)]; omega
  by_cases hjl : j < L.length
  · have hjl' : (j : Int) < (L.length : Int) := by omega
    have hpl' : (p : Int) < (L.length : Int) := by omega
    have hg0 : L[p]? = some (L[p]'(by omega)) := List.getElem?_eq_getElem (by omega)
    have hg1 : L[j]? = some L[j] := List.getElem?_eq_getElem hjl
    obtain ⟨x, hx⟩ : ∃ x, L[p]'(by omega) = x := ⟨_, rfl⟩
    obtain ⟨y, hy⟩ : ∃ y, L[j] = y := ⟨_, rfl⟩
    rw [hx] at hg0
    rw [hy] at hg1
    have hc := pc47 x y
    have hge := cmpZ_ge x.v y.v
    cases hlt : ltMb x y with
    | true =>
      have hge2 : decide ((0 : Int) ≤ cmpZ x.v y.v) = false := by rw [hge]; unfold ltMb at hlt; rw [hlt]; rfl
      have hge3 : ¬ (0 : Int) ≤ cmpZ x.v y.v := by simpa using hge2
      (have hwq := trivial; repeat' (first | simp (maxSteps:=9999999)-implicitDefEqProofs only [go_sem,simprocAttr,hwq,FT3,FT4,FT27,FT35,FT37,FT78,List.length_map,List.getElem?_map,Int.natCast_nonneg,List.length_append,List.map_append,hjl',hpl',hg0,hg1,wj,wp,hge2,hge3] | (refine condK_split ?_ ?_ <;> intro hwq) | (refine two_split ?_ ?_) | (refine guardK_split ?_ ?_ <;> intro hwq) | (refine guardE_split ?_ ?_ <;> intro hwq) | (refine awp_drawW [] (by decide +kernel) ?_; have hwq := trivial) | (refine draw_plain hc rfl (fun _ => rfl) ?_; have hwq := trivial) | fail))
      refine ⟨L.length + 1 - (j + 1), _, by omega, Weak.cutI 0 [0, 1, 5] ?_ ?_, j + 1, _, rfl, by omega, by omega, rfl, fun i a b hi ha hb => ?_⟩
      · simp (maxSteps:=9999999)-implicitDefEqProofs only [simprocAttr,QH,Option.isSome,cond_true,cond_false,Option.bind,selB,V.rn,V.rns,Go.Ai.known,V.pz,V.pzs,T.toV,frz1,List.range,List.range.loop,ite_true,ite_false,if_true,if_false,ne_eq,implies_true,forall_const,eq_self,IntKind.bits,upd_tmsS,selT_cons,selT_nil,List.length_map,List.getElem?_map,Int.natCast_nonneg,List.length_append,List.map_append]
      · simp (maxSteps:=9999999)-implicitDefEqProofs only [simprocAttr,QH,Option.isSome,cond_true,cond_false,Option.bind,selB,V.rn,V.rns,Go.Ai.known,V.pz,V.pzs,T.toV,frz1,List.range,List.range.loop,ite_true,ite_false,if_true,if_false,ne_eq,implies_true,forall_const,eq_self,IntKind.bits,upd_tmsS,selT_cons,selT_nil,List.length_map,List.getElem?_map,Int.natCast_nonneg,List.length_append,List.map_append]
      · by_cases hij : i + 1 < j
        · exact hp i a b hij ha hb
        · obtain rfl : i = p := by omega
          rw [hg0] at ha
          rw [← hjp, hg1] at hb
          cases ha
          cases hb
          exact hlt
    | false =>
      have hge2 : decide ((0 : Int) ≤ cmpZ x.v y.v) = true := by rw [hge]; unfold ltMb at hlt; rw [hlt]; rfl
      have hge3 : (0 : Int) ≤ cmpZ x.v y.v := by simpa using hge2
      have hr : risB ltMb L = false := by
        rw [Bool.eq_false_iff]
        intro h
        have := (risB_iff ltMb L).1 h p x y hg0 (by rw [← hjp]; exact hg1)
        rw [hlt] at this
        simp at this
      (have hwq := trivial; repeat' (first | simp (maxSteps:=9999999)-implicitDefEqProofs only [go_sem,simprocAttr,hwq,FT3,FT4,FT27,FT35,FT37,FT78,List.length_map,List.getElem?_map,Int.natCast_nonneg,List.length_append,List.map_append,hjl',hpl',hg0,hg1,wj,wp,hge2,hge3,hr] | (refine condK_split ?_ ?_ <;> intro hwq) | (refine two_split ?_ ?_) | (refine guardK_split ?_ ?_ <;> intro hwq) | (refine guardE_split ?_ ?_ <;> intro hwq) | (refine awp_drawW [] (by decide +kernel) ?_; have hwq := trivial) | (refine draw_plain hc rfl (fun _ => rfl) ?_; have hwq := trivial) | fail))
  · have hjl' : ¬ (j : Int) < (L.length : Int) := by omega
    have hr : risB ltMb L = true := (risB_iff ltMb L).2 fun i x y hx hy => hp i x y (by
      have := (List.getElem?_eq_some_iff.1 hy).1
      omega) hx hy
    (have hwq := trivial; repeat' (first | simp (maxSteps:=9999999)-implicitDefEqProofs only [go_sem,simprocAttr,hwq,FT3,FT4,FT27,FT35,FT37,FT78,List.length_map,List.getElem?_map,Int.natCast_nonneg,List.length_append,List.map_append,hjl',hr] | (refine condK_split ?_ ?_ <;> intro hwq) | (refine two_split ?_ ?_) | (refine guardK_split ?_ ?_ <;> intro hwq) | (refine guardE_split ?_ ?_ <;> intro hwq) | (refine awp_drawW [] (by decide +kernel) ?_; have hwq := trivial) | fail))
def Ri61 (L : List Cr) (k : Nat) (S : St) : Prop :=
  ∃ (j : Nat) (mv : List Nat), S = ⟨tms [(0, csV L), (1, .clo (.func 41) [] []), (5, vI j)], [], mv⟩ ∧ 1 ≤ j ∧ j ≤ L.length + 1 ∧ k = L.length + 1 - j ∧ ∀ i x y, i + 1 < j → L[i]? = some x → L[i + 1]? = some y → ltCr x y = true
theorem pr61 (L : List Cr) (hl : L.length ≤ 100000) : AC Tryz.prog 61 [csV L, .clo (.func 41) [] []] [] (eqR (vB (risB ltCr L))) := by
  refine AC_plain orders Tryz.func61 rfl (by kernel_rfl) (by kernel_rfl) Tryz.ntmps61 (by simp) ?_
  unfold Tryz.f61
  (have hwq := trivial; repeat' (first | simp (maxSteps:=9999999)-implicitDefEqProofs only [go_sem,simprocAttr,hwq,FT3,FT4,FT26,FT34,FT73] | (refine condK_split ?_ ?_ <;> intro hwq) | (refine two_split ?_ ?_) | (refine guardK_split ?_ ?_ <;> intro hwq) | (refine guardE_split ?_ ?_ <;> intro hwq) | (refine awp_drawW [] (by decide +kernel) ?_; have hwq := trivial) | fail))
  refine awp_loopK (Ri61 L) L.length _ (Weak.cutI 0 [0, 1, 5] ?_ ?_) ⟨1, _, rfl, by omega, by omega, by omega, fun i _ _ h => by omega⟩ ?_
  · simp (maxSteps:=9999999)-implicitDefEqProofs only [simprocAttr,QH,Option.isSome,cond_true,cond_false,Option.bind,selB,V.rn,V.rns,Go.Ai.known,V.pz,V.pzs,T.toV,frz1,List.range,List.range.loop,ite_true,ite_false,if_true,if_false,ne_eq,implies_true,forall_const,eq_self,IntKind.bits,upd_tmsS,selT_cons,selT_nil]
  · simp (maxSteps:=9999999)-implicitDefEqProofs only [simprocAttr,QH,Option.isSome,cond_true,cond_false,Option.bind,selB,V.rn,V.rns,Go.Ai.known,V.pz,V.pzs,T.toV,frz1,List.range,List.range.loop,ite_true,ite_false,if_true,if_false,ne_eq,implies_true,forall_const,eq_self,IntKind.bits,upd_tmsS,selT_cons,selT_nil]
  rintro kk S ⟨j, mv, rfl, hj1, hj, rfl, hp⟩
  obtain ⟨p, hjp⟩ : ∃ p, j = p + 1 := ⟨j - 1, by omega⟩
  have wj : IntKind.i64.wrap ((j : Int) + 1) = (j : Int) + 1 := wI64 _ (by omega) (by omega)
  have wp : IntKind.i64.wrap ((j : Int) - 1) = (p : Int) := by rw [wI64 _ (by omega) (by omega)]; omega
  by_cases hjl : j < L.length
  · have hjl' : (j : Int) < (L.length : Int) := by omega
    have hpl' : (p : Int) < (L.length : Int) := by omega
    have hg0 : L[p]? = some (L[p]'(by omega)) := List.getElem?_eq_getElem (by omega)
    have hg1 : L[j]? = some L[j] := List.getElem?_eq_getElem hjl
    obtain ⟨x, hx⟩ : ∃ x, L[p]'(by omega) = x := ⟨_, rfl⟩
    obtain ⟨y, hy⟩ : ∃ y, L[j] = y := ⟨_, rfl⟩
    rw [hx] at hg0
    rw [hy] at hg1
    have hc := pc41 x y
    have hge := cmpZ_ge x.s y.s
    cases hlt : ltCr x y with
    | true =>
      have hge2 : decide ((0 : Int) ≤ cmpZ x.s y.s) = false := by rw [hge]; unfold ltCr at hlt; rw [hlt]; rfl
      have hge3 : ¬ (0 : Int) ≤ cmpZ x.s y.s := by simpa using hge2
      (have hwq := trivial; repeat' (first | simp (maxSteps:=9999999)-implicitDefEqProofs only [go_sem,simprocAttr,hwq,FT3,FT4,FT26,FT34,FT73,List.length_map,List.getElem?_map,Int.natCast_nonneg,List.length_append,List.map_append,hjl',hpl',hg0,hg1,wj,wp,hge2,hge3] | (refine condK_split ?_ ?_ <;> intro hwq) | (refine two_split ?_ ?_) | (refine guardK_split ?_ ?_ <;> intro hwq) | (refine guardE_split ?_ ?_ <;> intro hwq) | (refine awp_drawW [] (by decide +kernel) ?_; have hwq := trivial) | (refine draw_plain hc rfl (fun _ => rfl) ?_; have hwq := trivial) | fail))
      refine ⟨L.length + 1 - (j + 1), _, by omega, Weak.cutI 0 [0, 1, 5] ?_ ?_, j + 1, _, rfl, by omega, by omega, rfl, fun i a b hi ha hb => ?_⟩
      · simp (maxSteps:=9999999)-implicitDefEqProofs only [simprocAttr,QH,Option.isSome,cond_true,cond_false,Option.bind,selB,V.rn,V.rns,Go.Ai.known,V.pz,V.pzs,T.toV,frz1,List.range,List.range.loop,ite_true,ite_false,if_true,if_false,ne_eq,implies_true,forall_const,eq_self,IntKind.bits,upd_tmsS,selT_cons,selT_nil,List.length_map,List.getElem?_map,Int.natCast_nonneg,List.length_append,List.map_append]
      · simp (maxSteps:=9999999)-implicitDefEqProofs only [simprocAttr,QH,Option.isSome,cond_true,cond_false,Option.bind,selB,V.rn,V.rns,Go.Ai.known,V.pz,V.pzs,T.toV,frz1,List.range,List.range.loop,ite_true,ite_false,if_true,if_false,ne_eq,implies_true,forall_const,eq_self,IntKind.bits,upd_tmsS,selT_cons,selT_nil,List.length_map,List.getElem?_map,Int.natCast_nonneg,List.length_append,List.map_append]
      · by_cases hij : i + 1 < j
        · exact hp i a b hij ha hb
        · obtain rfl : i = p := by omega
          rw [hg0] at ha
          rw [← hjp, hg1] at hb
          cases ha
          cases hb
          exact hlt
    | false =>
      have hge2 : decide ((0 : Int) ≤ cmpZ x.s y.s) = true := by rw [hge]; unfold ltCr at hlt; rw [hlt]; rfl
      have hge3 : (0 : Int) ≤ cmpZ x.s y.s := by simpa using hge2
      have hr : risB ltCr L = false := by
        rw [Bool.eq_false_iff]
        intro h
        have := (risB_iff ltCr L).1 h p x y hg0 (by rw [← hjp]; exact hg1)
        rw [hlt] at this
        simp at this
      (have hwq := trivial; repeat' (first | simp (maxSteps:=9999999)-implicitDefEqProofs only [go_sem,simprocAttr,hwq,FT3,FT4,FT26,FT34,FT73,List.length_map,List.getElem?_map,Int.natCast_nonneg,List.length_append,List.map_append,hjl',hpl',hg0,hg1,wj,wp,hge2,hge3,hr] | (refine condK_split ?_ ?_ <;> intro hwq) | (refine two_split ?_ ?_) | (refine guardK_split ?_ ?_ <;> intro hwq) | (refine guardE_split ?_ ?_ <;> intro hwq) | (refine awp_drawW [] (by decide +kernel) ?_; have hwq := trivial) | (refine draw_plain hc rfl (fun _ => rfl) ?_; have hwq := trivial) | fail))
  · have hjl' : ¬ (j : Int) < (L.length : Int) := by omega
    have hr : risB ltCr L = true := (risB_iff ltCr L).2 fun i x y hx hy => hp i x y (by
      have := (List.getElem?_eq_some_iff.1 hy).1
      omega) hx hy
    (have hwq := trivial; repeat' (first | simp (maxSteps:=9999999)-implicitDefEqProofs only [go_sem,simprocAttr,hwq,FT3,FT4,FT26,FT34,FT73,List.length_map,List.getElem?_map,Int.natCast_nonneg,List.length_append,List.map_append,hjl',hr] | (refine condK_split ?_ ?_ <;> intro hwq) | (refine two_split ?_ ?_) | (refine guardK_split ?_ ?_ <;> intro hwq) | (refine guardE_split ?_ ?_ <;> intro hwq) | (refine awp_drawW [] (by decide +kernel) ?_; have hwq := trivial) | fail))
def Ri62 (L : List Mp) (k : Nat) (S : St) : Prop :=
  ∃ (j : Nat) (mv : List Nat), S = ⟨tms [(0, msV L), (1, .clo (.func 36) [] []), (5, vI j)], [], mv⟩ ∧ 1 ≤ j ∧ j ≤ L.length + 1 ∧ k = L.length + 1 - j ∧ ∀ i x y, i + 1 < j → L[i]? = some x → L[i + 1]? = some y → beforeB x y = true
theorem pr62 (L : List Mp) (hl : L.length ≤ 100000) : AC Tryz.prog 62 [msV L, .clo (.func 36) [] []] [] (eqR (vB (risB beforeB L))) := by
  refine AC_plain orders Tryz.func62 rfl (by kernel_rfl) (by kernel_rfl) Tryz.ntmps62 (by simp) ?_
  unfold Tryz.f62
  (have hwq := trivial; repeat' (first | simp (maxSteps:=9999999)-implicitDefEqProofs only [go_sem,simprocAttr,hwq,FT3,FT4,FT25,FT32,FT69] | (refine condK_split ?_ ?_ <;> intro hwq) | (refine two_split ?_ ?_) | (refine guardK_split ?_ ?_ <;> intro hwq) | (refine guardE_split ?_ ?_ <;> intro hwq) | (refine awp_drawW [] (by decide +kernel) ?_; have hwq := trivial) | fail))
  refine awp_loopK (Ri62 L) L.length _ (Weak.cutI 0 [0, 1, 5] ?_ ?_) ⟨1, _, rfl, by omega, by omega, by omega, fun i _ _ h => by omega⟩ ?_
  · simp (maxSteps:=9999999)-implicitDefEqProofs only [simprocAttr,QH,Option.isSome,cond_true,cond_false,Option.bind,selB,V.rn,V.rns,Go.Ai.known,V.pz,V.pzs,T.toV,frz1,List.range,List.range.loop,ite_true,ite_false,if_true,if_false,ne_eq,implies_true,forall_const,eq_self,IntKind.bits,upd_tmsS,selT_cons,selT_nil]
  · simp (maxSteps:=9999999)-implicitDefEqProofs only [simprocAttr,QH,Option.isSome,cond_true,cond_false,Option.bind,selB,V.rn,V.rns,Go.Ai.known,V.pz,V.pzs,T.toV,frz1,List.range,List.range.loop,ite_true,ite_false,if_true,if_false,ne_eq,implies_true,forall_const,eq_self,IntKind.bits,upd_tmsS,selT_cons,selT_nil]
  rintro kk S ⟨j, mv, rfl, hj1, hj, rfl, hp⟩
  obtain ⟨p, hjp⟩ : ∃ p, j = p + 1 := ⟨j - 1, by omega⟩
  have wj : IntKind.i64.wrap ((j : Int) + 1) = (j : Int) + 1 := wI64 _ (by omega) (by omega)
  have wp : IntKind.i64.wrap ((j : Int) - 1) = (p : Int) := by rw [wI64 _ (by omega) (by omega)]; omega
  by_cases hjl : j < L.length
  · have hjl' : (j : Int) < (L.length : Int) := by omega
    have hpl' : (p : Int) < (L.length : Int) := by omega
    have hg0 : L[p]? = some (L[p]'(by omega)) := List.getElem?_eq_getElem (by omega)
    have hg1 : L[j]? = some L[j] := List.getElem?_eq_getElem hjl
    obtain ⟨x, hx⟩ : ∃ x, L[p]'(by omega) = x := ⟨_, rfl⟩
    obtain ⟨y, hy⟩ : ∃ y, L[j] = y := ⟨_, rfl⟩
    rw [hx] at hg0
    rw [hy] at hg1
    have hc := pc36 x y
    have hge := cmpMp_ge x y
    cases hlt : beforeB x y with
    | true =>
      have hge2 : decide ((0 : Int) ≤ cmpMp x y) = false := by rw [hge]; rw [hlt]; rfl
      have hge3 : ¬ (0 : Int) ≤ cmpMp x y := by simpa using hge2
      (have hwq := trivial; repeat' (first | simp (maxSteps:=9999999)-implicitDefEqProofs only [go_sem,simprocAttr,hwq,FT3,FT4,FT25,FT32,FT69,List.length_map,List.getElem?_map,Int.natCast_nonneg,List.length_append,List.map_append,hjl',hpl',hg0,hg1,wj,wp,hge2,hge3] | (refine condK_split ?_ ?_ <;> intro hwq) | (refine two_split ?_ ?_) | (refine guardK_split ?_ ?_ <;> intro hwq) | (refine guardE_split ?_ ?_ <;> intro hwq) | (refine awp_drawW [] (by decide +kernel) ?_; have hwq := trivial) | (refine draw_plain hc rfl (fun _ => rfl) ?_; have hwq := trivial) | fail))
      refine ⟨L.length + 1 - (j + 1), _, by omega, Weak.cutI 0 [0, 1, 5] ?_ ?_, j + 1, _, rfl, by omega, by omega, rfl, fun i a b hi ha hb => ?_⟩
      · simp (maxSteps:=9999999)-implicitDefEqProofs only [simprocAttr,QH,Option.isSome,cond_true,cond_false,Option.bind,selB,V.rn,V.rns,Go.Ai.known,V.pz,V.pzs,T.toV,frz1,List.range,List.range.loop,ite_true,ite_false,if_true,if_false,ne_eq,implies_true,forall_const,eq_self,IntKind.bits,upd_tmsS,selT_cons,selT_nil,List.length_map,List.getElem?_map,Int.natCast_nonneg,List.length_append,List.map_append]
      · simp (maxSteps:=9999999)-implicitDefEqProofs only [simprocAttr,QH,Option.isSome,cond_true,cond_false,Option.bind,selB,V.rn,V.rns,Go.Ai.known,V.pz,V.pzs,T.toV,frz1,List.range,List.range.loop,ite_true,ite_false,if_true,if_false,ne_eq,implies_true,forall_const,eq_self,IntKind.bits,upd_tmsS,selT_cons,selT_nil,List.length_map,List.getElem?_map,Int.natCast_nonneg,List.length_append,List.map_append]
      · by_cases hij : i + 1 < j
        · exact hp i a b hij ha hb
        · obtain rfl : i = p := by omega
          rw [hg0] at ha
          rw [← hjp, hg1] at hb
          cases ha
          cases hb
          exact hlt
    | false =>
      have hge2 : decide ((0 : Int) ≤ cmpMp x y) = true := by rw [hge]; rw [hlt]; rfl
      have hge3 : (0 : Int) ≤ cmpMp x y := by simpa using hge2
      have hr : risB beforeB L = false := by
        rw [Bool.eq_false_iff]
        intro h
        have := (risB_iff beforeB L).1 h p x y hg0 (by rw [← hjp]; exact hg1)
        rw [hlt] at this
        simp at this
      (have hwq := trivial; repeat' (first | simp (maxSteps:=9999999)-implicitDefEqProofs only [go_sem,simprocAttr,hwq,FT3,FT4,FT25,FT32,FT69,List.length_map,List.getElem?_map,Int.natCast_nonneg,List.length_append,List.map_append,hjl',hpl',hg0,hg1,wj,wp,hge2,hge3,hr] | (refine condK_split ?_ ?_ <;> intro hwq) | (refine two_split ?_ ?_) | (refine guardK_split ?_ ?_ <;> intro hwq) | (refine guardE_split ?_ ?_ <;> intro hwq) | (refine awp_drawW [] (by decide +kernel) ?_; have hwq := trivial) | (refine draw_plain hc rfl (fun _ => rfl) ?_; have hwq := trivial) | fail))
  · have hjl' : ¬ (j : Int) < (L.length : Int) := by omega
    have hr : risB beforeB L = true := (risB_iff beforeB L).2 fun i x y hx hy => hp i x y (by
      have := (List.getElem?_eq_some_iff.1 hy).1
      omega) hx hy
    (have hwq := trivial; repeat' (first | simp (maxSteps:=9999999)-implicitDefEqProofs only [go_sem,simprocAttr,hwq,FT3,FT4,FT25,FT32,FT69,List.length_map,List.getElem?_map,Int.natCast_nonneg,List.length_append,List.map_append,hjl',hr] | (refine condK_split ?_ ?_ <;> intro hwq) | (refine two_split ?_ ?_) | (refine guardK_split ?_ ?_ <;> intro hwq) | (refine guardE_split ?_ ?_ <;> intro hwq) | (refine awp_drawW [] (by decide +kernel) ?_; have hwq := trivial) | fail))
def Ri124 (L : List Int) (k : Nat) (S : St) : Prop :=
  ∃ (j : Nat) (mv : List Nat), S = ⟨tms [(0, isV L), (1, .clo (.func 102) [] []), (5, vI j)], [], mv⟩ ∧ 1 ≤ j ∧ j ≤ L.length + 1 ∧ k = L.length + 1 - j ∧ ∀ i x y, i + 1 < j → L[i]? = some x → L[i + 1]? = some y → ltI x y = true
theorem pr124 (L : List Int) (hl : L.length ≤ 100000) : AC Tryz.prog 124 [isV L, .clo (.func 102) [] []] [] (eqR (vB (risB ltI L))) := by
  refine AC_plain orders Tryz.func124 rfl (by kernel_rfl) (by kernel_rfl) Tryz.ntmps124 (by simp) ?_
  unfold Tryz.f124
  (have hwq := trivial; repeat' (first | simp (maxSteps:=9999999)-implicitDefEqProofs only [go_sem,simprocAttr,hwq,FT3,FT4,FT35,FT123] | (refine condK_split ?_ ?_ <;> intro hwq) | (refine two_split ?_ ?_) | (refine guardK_split ?_ ?_ <;> intro hwq) | (refine guardE_split ?_ ?_ <;> intro hwq) | (refine awp_drawW [] (by decide +kernel) ?_; have hwq := trivial) | fail))
  refine awp_loopK (Ri124 L) L.length _ (Weak.cutI 0 [0, 1, 5] ?_ ?_) ⟨1, _, rfl, by omega, by omega, by omega, fun i _ _ h => by omega⟩ ?_
  · simp (maxSteps:=9999999)-implicitDefEqProofs only [simprocAttr,QH,Option.isSome,cond_true,cond_false,Option.bind,selB,V.rn,V.rns,Go.Ai.known,V.pz,V.pzs,T.toV,frz1,List.range,List.range.loop,ite_true,ite_false,if_true,if_false,ne_eq,implies_true,forall_const,eq_self,IntKind.bits,upd_tmsS,selT_cons,selT_nil]
  · simp (maxSteps:=9999999)-implicitDefEqProofs only [simprocAttr,QH,Option.isSome,cond_true,cond_false,Option.bind,selB,V.rn,V.rns,Go.Ai.known,V.pz,V.pzs,T.toV,frz1,List.range,List.range.loop,ite_true,ite_false,if_true,if_false,ne_eq,implies_true,forall_const,eq_self,IntKind.bits,upd_tmsS,selT_cons,selT_nil]
  rintro kk S ⟨j, mv, rfl, hj1, hj, rfl, hp⟩
  obtain ⟨p, hjp⟩ : ∃ p, j = p + 1 := ⟨j - 1, by omega⟩
  have wj : IntKind.i64.wrap ((j : Int) + 1) = (j : Int) + 1 := wI64 _ (by omega) (by omega)
  have wp : IntKind.i64.wrap ((j : Int) - 1) = (p : Int) := by rw [wI64 _ (by omega) (by omega)]; omega
  by_cases hjl : j < L.length
  · have hjl' : (j : Int) < (L.length : Int) := by omega
    have hpl' : (p : Int) < (L.length : Int) := by omega
    have hg0 : L[p]? = some (L[p]'(by omega)) := List.getElem?_eq_getElem (by omega)
    have hg1 : L[j]? = some L[j] := List.getElem?_eq_getElem hjl
    obtain ⟨x, hx⟩ : ∃ x, L[p]'(by omega) = x := ⟨_, rfl⟩
    obtain ⟨y, hy⟩ : ∃ y, L[j] = y := ⟨_, rfl⟩
    rw [hx] at hg0
    rw [hy] at hg1
    have hc := pc102 x y
    have hge := cmpZ_ge x y
    cases hlt : ltI x y with
    | true =>
      have hge2 : decide ((0 : Int) ≤ cmpZ x y) = false := by rw [hge]; unfold ltI at hlt; rw [hlt]; rfl
      have hge3 : ¬ (0 : Int) ≤ cmpZ x y := by simpa using hge2
      (have hwq := trivial; repeat' (first | simp (maxSteps:=9999999)-implicitDefEqProofs only [go_sem,simprocAttr,hwq,FT3,FT4,FT35,FT123,List.length_map,List.getElem?_map,Int.natCast_nonneg,List.length_append,List.map_append,hjl',hpl',hg0,hg1,wj,wp,hge2,hge3] | (refine condK_split ?_ ?_ <;> intro hwq) | (refine two_split ?_ ?_) | (refine guardK_split ?_ ?_ <;> intro hwq) | (refine guardE_split ?_ ?_ <;> intro hwq) | (refine awp_drawW [] (by decide +kernel) ?_; have hwq := trivial) | (refine draw_plain hc rfl (fun _ => rfl) ?_; have hwq := trivial) | fail))
      refine ⟨L.length + 1 - (j + 1), _, by omega, Weak.cutI 0 [0, 1, 5] ?_ ?_, j + 1, _, rfl, by omega, by omega, rfl, fun i a b hi ha hb => ?_⟩
      · simp (maxSteps:=9999999)-implicitDefEqProofs only [simprocAttr,QH,Option.isSome,cond_true,cond_false,Option.bind,selB,V.rn,V.rns,Go.Ai.known,V.pz,V.pzs,T.toV,frz1,List.range,List.range.loop,ite_true,ite_false,if_true,if_false,ne_eq,implies_true,forall_const,eq_self,IntKind.bits,upd_tmsS,selT_cons,selT_nil,List.length_map,List.getElem?_map,Int.natCast_nonneg,List.length_append,List.map_append]
      · simp (maxSteps:=9999999)-implicitDefEqProofs only [simprocAttr,QH,Option.isSome,cond_true,cond_false,Option.bind,selB,V.rn,V.rns,Go.Ai.known,V.pz,V.pzs,T.toV,frz1,List.range,List.range.loop,ite_true,ite_false,if_true,if_false,ne_eq,implies_true,forall_const,eq_self,IntKind.bits,upd_tmsS,selT_cons,selT_nil,List.length_map,List.getElem?_map,Int.natCast_nonneg,List.length_append,List.map_append]
      · by_cases hij : i + 1 < j
        · exact hp i a b hij ha hb
        · obtain rfl : i = p := by omega
          rw [hg0] at ha
          rw [← hjp, hg1] at hb
          cases ha
          cases hb
          exact hlt
    | false =>
      have hge2 : decide ((0 : Int) ≤ cmpZ x y) = true := by rw [hge]; unfold ltI at hlt; rw [hlt]; rfl
      have hge3 : (0 : Int) ≤ cmpZ x y := by simpa using hge2
      have hr : risB ltI L = false := by
        rw [Bool.eq_false_iff]
        intro h
        have := (risB_iff ltI L).1 h p x y hg0 (by rw [← hjp]; exact hg1)
        rw [hlt] at this
        simp at this
      (have hwq := trivial; repeat' (first | simp (maxSteps:=9999999)-implicitDefEqProofs only [go_sem,simprocAttr,hwq,FT3,FT4,FT35,FT123,List.length_map,List.getElem?_map,Int.natCast_nonneg,List.length_append,List.map_append,hjl',hpl',hg0,hg1,wj,wp,hge2,hge3,hr] | (refine condK_split ?_ ?_ <;> intro hwq) | (refine two_split ?_ ?_) | (refine guardK_split ?_ ?_ <;> intro hwq) | (refine guardE_split ?_ ?_ <;> intro hwq) | (refine awp_drawW [] (by decide +kernel) ?_; have hwq := trivial) | (refine draw_plain hc rfl (fun _ => rfl) ?_; have hwq := trivial) | fail))
  · have hjl' : ¬ (j : Int) < (L.length : Int) := by omega
    have hr : risB ltI L = true := (risB_iff ltI L).2 fun i x y hx hy => hp i x y (by
      have := (List.getElem?_eq_some_iff.1 hy).1
      omega) hx hy
    (have hwq := trivial; repeat' (first | simp (maxSteps:=9999999)-implicitDefEqProofs only [go_sem,simprocAttr,hwq,FT3,FT4,FT35,FT123,List.length_map,List.getElem?_map,Int.natCast_nonneg,List.length_append,List.map_append,hjl',hr] | (refine condK_split ?_ ?_ <;> intro hwq) | (refine two_split ?_ ?_) | (refine guardK_split ?_ ?_ <;> intro hwq) | (refine guardE_split ?_ ?_ <;> intro hwq) | (refine awp_drawW [] (by decide +kernel) ?_; have hwq := trivial) | fail))
end Go.Ai
