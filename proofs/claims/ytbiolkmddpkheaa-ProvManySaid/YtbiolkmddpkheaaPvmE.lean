/- Contracts of functions of the loaded program: called with data in the ranges that each names, it returns this value and writes to no old memory. -/
import Derived.Test.YtbiolkmddpkheaaAiZ
set_option linter.unusedVariables false
set_option linter.unusedSimpArgs false
set_option maxHeartbeats 4000000
set_option maxRecDepth 100000
namespace Go.Ai
open Go.Proofs
attribute [local go_sem] QH QR V.noimm V.noimms frzZs frzZ frzA frzV frzVs frzBox boxLen Option.isSome cond_true cond_false aopD calW flatV stepX amap stepY alookup afind aupdate adelete amlen arange ameq mapOf akeq pl V.mapT V.mapTs Option.bind stepK runK guardD stepE runD callD compact selB callK evS ofVal ofVals scalar aop ares mkRes V.rn V.rns V.cells? cellsAt Go.Ai.part aload astore setL V.atom abin aun intBin shiftBin aconv fieldOf aindexAddr aindex bound? aslice aarr abuild afill alen nilP nilS nilF aeq eqCells eqCell Go.Ai.known strBin abuiltin aappend abuildSlice arowsFill amakeSlice acopy aclear minmax rowsOf numsT notStr isIntD isByte V.pz V.pzs T.toV frz1 frz scalT scalTs chunkT List.range List.range.loop ite_true ite_false if_true if_false ne_eq implies_true forall_const eq_self IntKind.bits kPostKF_ret kPostKF_normal kPostX_ret kPostX_normal bsl nil2K nil2 kPostFW_ret kPostFW_normal kPostKM_ret kPostKM_normal kPostXK_ret kPostXK_normal
abbrev vI (n : Int) : V := .s (.int .i64 n)
abbrev vB (b : Bool) : V := .s (.bool b)
abbrev M6 (a b c d e f : Int) : V := .agg [.s (.int .u8 a), .s (.int .u8 b), .s (.int .u8 c), .s (.int .u8 d), .s (.int .u8 e), .s (.int .u8 f)]
def isB (n : Int) : Prop := 0 ≤ n ∧ n ≤ 255
theorem and1 (a : Int) (h : isB a) : (bAnd .u8 a 1 == 1) = decide (a % 2 = 1) := by
  obtain ⟨h0, h1⟩ := h
  obtain ⟨n, rfl⟩ := Int.eq_ofNat_of_zero_le h0
  have key : ∀ n : Fin 256, (bAnd .u8 ((n.val : Nat) : Int) 1 == 1) = decide (((n.val : Nat) : Int) % 2 = 1) := by decide +kernel
  exact key ⟨n, by omega⟩
theorem pc121 (a b c d e f : Int) (ha : isB a) : AC Try.prog 71 [M6 a b c d e f] [] (eqR (.s (.bool (decide (a % 2 = 1))))) := by
  refine AC_plain orders Try.func71 rfl (by kernel_rfl) (by kernel_rfl) Try.ntmps71 (by simp) ?_
  unfold Try.f71
  (have hwq := trivial; repeat' (first | simp (maxSteps:=9999999)-implicitDefEqProofs only [go_sem,simprocAttr,hwq,FT4,FT5,FT23] | (refine awpL_loop 18 ?_; have hwq := trivial) | (refine condK_split ?_ ?_ <;> intro hwq) | (refine two_split ?_ ?_) | (refine guardK_split ?_ ?_ <;> intro hwq) | (refine guardE_split ?_ ?_ <;> intro hwq) | (refine awp_drawW [] (by decide +kernel) ?_; have hwq := trivial) | fail))
  rw [and1 a ha]
def kindZ (a b c d e f : Int) : Int := if a = 0 ∧ b = 0 ∧ c = 0 ∧ d = 0 ∧ e = 0 ∧ f = 0 then 6 else if a = 255 ∧ b = 255 ∧ c = 255 ∧ d = 255 ∧ e = 255 ∧ f = 255 then 3 else if (a = 1 ∧ b = 128 ∧ c = 194 ∧ d = 0 ∧ e = 0) ∧ f < 16 then 4 else if a = 1 ∧ b = 30 ∧ c = 131 then 5 else if a % 2 = 1 then 2 else 1
theorem pc58 (a b c d e f : Int) (ha : isB a) : AC Try.prog 32 [M6 a b c d e f] [] (eqR (.s (.int .i64 (kindZ a b c d e f)))) := by
  refine AC_plain orders Try.func32 rfl (by kernel_rfl) (by kernel_rfl) Try.ntmps32 (by simp) ?_
  unfold Try.f32
  (have hwq := trivial; repeat' (first | simp (maxSteps:=9999999)-implicitDefEqProofs only [go_sem,simprocAttr,hwq,FT5,FT23,FT73,FT106,FT108] | (refine awpL_loop 18 ?_; have hwq := trivial) | (refine condK_split ?_ ?_ <;> intro hwq) | (refine two_split ?_ ?_) | (refine guardK_split ?_ ?_ <;> intro hwq) | (refine guardE_split ?_ ?_ <;> intro hwq) | (refine awp_drawW [] (by decide +kernel) ?_; have hwq := trivial) | (refine call_plain (pc121 _ _ _ _ _ _ ha) rfl rfl ?_; have hwq := trivial) | fail))
  all_goals (simp only [Bool.and_eq_true, Bool.and_eq_false_iff, beq_iff_eq, beq_eq_false_iff_ne, decide_eq_true_eq, decide_eq_false_iff_not, ne_eq] at *; unfold kindZ; repeat' split)
  all_goals omega
end Go.Ai

set_option linter.unusedVariables false
set_option linter.unusedSimpArgs false
set_option maxHeartbeats 4000000
set_option maxRecDepth 100000
namespace Go.Ai
open Go.Proofs
attribute [local go_sem] QH QR V.noimm V.noimms frzZs frzZ frzA frzV frzVs frzBox boxLen Option.isSome cond_true cond_false aopD calW flatV stepX amap stepY alookup afind aupdate adelete amlen arange ameq mapOf akeq pl V.mapT V.mapTs Option.bind stepK runK guardD stepE runD callD compact selB callK evS ofVal ofVals scalar aop ares mkRes V.rn V.rns V.cells? cellsAt Go.Ai.part aload astore setL V.atom abin aun intBin shiftBin aconv fieldOf aindexAddr aindex bound? aslice aarr abuild afill alen nilP nilS nilF aeq eqCells eqCell Go.Ai.known strBin abuiltin aappend abuildSlice arowsFill amakeSlice acopy aclear minmax rowsOf numsT notStr isIntD isByte V.pz V.pzs T.toV frz1 frz scalT scalTs chunkT List.range List.range.loop ite_true ite_false if_true if_false ne_eq implies_true forall_const eq_self IntKind.bits kPostKF_ret kPostKF_normal kPostX_ret kPostX_normal bsl nil2K nil2 kPostFW_ret kPostFW_normal kPostKM_ret kPostKM_normal kPostXK_ret kPostXK_normal
/-- What is provisioned. -/
structure Mc where
  a : Int
  b : Int
  c : Int
  d : Int
  e : Int
  f : Int
  deriving DecidableEq, Inhabited
structure Mp where
  p : Int
  v : Int
  s : Int
  deriving DecidableEq, Inhabited
structure Cr where
  s : Int
  v : Int
  deriving DecidableEq, Inhabited
structure Mb where
  v : Int
  l : List Int
  deriving DecidableEq, Inhabited
structure Pv where
  own : Mc
  ks : List Int
  ms : List Mp
  cs : List Cr
  bs : List Mb
  deriving DecidableEq, Inhabited
abbrev inT (n : Int) : List T := [.s (.int .i64 n)]
abbrev mpT (x : Mp) : List T := [.s (.int .i64 x.p), .s (.int .i64 x.v), .s (.int .i64 x.s)]
abbrev crT (x : Cr) : List T := [.s (.int .i64 x.s), .s (.int .i64 x.v)]
abbrev mbT (x : Mb) : List T := [.s (.int .i64 x.v), .sl 1 (x.l.map inT)]
abbrev mpV (x : Mp) : V := .agg [vI x.p, vI x.v, vI x.s]
abbrev crV (x : Cr) : V := .agg [vI x.s, vI x.v]
abbrev mbV (x : Mb) : V := .agg [vI x.v, .sl 1 (x.l.map inT)]
abbrev isV (l : List Int) : V := .sl 1 (l.map inT)
abbrev msV (l : List Mp) : V := .sl 3 (l.map mpT)
abbrev csV (l : List Cr) : V := .sl 2 (l.map crT)
abbrev bsV (l : List Mb) : V := .sl 2 (l.map mbT)
abbrev pvV (p : Pv) : V := .agg [.s (.int .u8 p.own.a), .s (.int .u8 p.own.b), .s (.int .u8 p.own.c), .s (.int .u8 p.own.d), .s (.int .u8 p.own.e), .s (.int .u8 p.own.f), isV p.ks, msV p.ms, csV p.cs, bsV p.bs]
abbrev bxP (p : Pv) : Blk := .box [.s (.int .u8 p.own.a), .s (.int .u8 p.own.b), .s (.int .u8 p.own.c), .s (.int .u8 p.own.d), .s (.int .u8 p.own.e), .s (.int .u8 p.own.f), isV p.ks, msV p.ms, csV p.cs, bsV p.bs] false
def cmpZ (a b : Int) : Int := if a < b then -1 else if b < a then 1 else 0
theorem pc131 (a : Int) : AC Try.prog 80 [vI a] [] (eqR (vB false)) := by
  refine AC_plain orders Try.func80 rfl (by kernel_rfl) (by kernel_rfl) Try.ntmps80 (by simp) ?_
  unfold Try.f80
  (have hwq := trivial; repeat' (first | simp (maxSteps:=9999999)-implicitDefEqProofs only [go_sem,simprocAttr,hwq,FT3,FT4,bne_self_eq_false] | (refine awpL_loop 18 ?_; have hwq := trivial) | (refine condK_split ?_ ?_ <;> intro hwq) | (refine two_split ?_ ?_) | (refine guardK_split ?_ ?_ <;> intro hwq) | (refine guardE_split ?_ ?_ <;> intro hwq) | (refine awp_drawW [] (by decide +kernel) ?_; have hwq := trivial) | fail))
theorem pc102 (a b : Int) : AC Try.prog 55 [vI a, vI b] [] (eqR (vI (cmpZ a b))) := by
  refine AC_plain orders Try.func55 rfl (by kernel_rfl) (by kernel_rfl) Try.ntmps55 (by simp) ?_
  unfold Try.f55
  (have hwq := trivial; repeat' (first | simp (maxSteps:=9999999)-implicitDefEqProofs only [go_sem,simprocAttr,hwq,FT3] | (refine awpL_loop 18 ?_; have hwq := trivial) | (refine condK_split ?_ ?_ <;> intro hwq) | (refine two_split ?_ ?_) | (refine guardK_split ?_ ?_ <;> intro hwq) | (refine guardE_split ?_ ?_ <;> intro hwq) | (refine awp_drawW [] (by decide +kernel) ?_; have hwq := trivial) | (refine call_plain (pc131 _) rfl rfl ?_; have hwq := trivial) | fail))
  all_goals (simp only [decide_eq_true_eq, decide_eq_false_iff_not] at *; unfold cmpZ; omega)
theorem pc59 (a b c : Int) : AC Try.prog 33 [vI a, vI b, vI c] [] (eqR (vB (decide (b ≤ a ∧ a ≤ c)))) := by
  rw [Bool.decide_and]
  refine AC_plain orders Try.func33 rfl (by kernel_rfl) (by kernel_rfl) Try.ntmps33 (by simp) ?_
  unfold Try.f33
  (have hwq := trivial; repeat' (first | simp (maxSteps:=9999999)-implicitDefEqProofs only [go_sem,simprocAttr,hwq,FT3,FT4] | (refine awpL_loop 18 ?_; have hwq := trivial) | (refine condK_split ?_ ?_ <;> intro hwq) | (refine two_split ?_ ?_) | (refine guardK_split ?_ ?_ <;> intro hwq) | (refine guardE_split ?_ ?_ <;> intro hwq) | (refine awp_drawW [] (by decide +kernel) ?_; have hwq := trivial) | fail))
  all_goals simp_all
def vidOk (n : Int) : Prop := 1 ≤ n ∧ n ≤ 4094
def isidOk (n : Int) : Prop := 1 ≤ n ∧ n ≤ 16777215
instance vidDec (n : Int) : Decidable (vidOk n) := by unfold vidOk; infer_instance
instance isidDec (n : Int) : Decidable (isidOk n) := by unfold isidOk; infer_instance
theorem pc67 (a : Int) : AC Try.prog 41 [vI a] [] (eqR (vB (decide (vidOk a)))) := by
  have h := pc59 a 1 4094
  refine AC_plain orders Try.func41 rfl (by kernel_rfl) (by kernel_rfl) Try.ntmps41 (by simp) ?_
  unfold Try.f41
  (have hwq := trivial; repeat' (first | simp (maxSteps:=9999999)-implicitDefEqProofs only [go_sem,simprocAttr,hwq,FT3,FT4] | (refine awpL_loop 18 ?_; have hwq := trivial) | (refine condK_split ?_ ?_ <;> intro hwq) | (refine two_split ?_ ?_) | (refine guardK_split ?_ ?_ <;> intro hwq) | (refine guardE_split ?_ ?_ <;> intro hwq) | (refine awp_drawW [] (by decide +kernel) ?_; have hwq := trivial) | (refine call_plain h rfl rfl ?_; have hwq := trivial) | fail))
  rfl
theorem pc71 (a : Int) : AC Try.prog 45 [vI a] [] (eqR (vB (decide (isidOk a)))) := by
  have h := pc59 a 1 16777215
  refine AC_plain orders Try.func45 rfl (by kernel_rfl) (by kernel_rfl) Try.ntmps45 (by simp) ?_
  unfold Try.f45
  (have hwq := trivial; repeat' (first | simp (maxSteps:=9999999)-implicitDefEqProofs only [go_sem,simprocAttr,hwq,FT3,FT4] | (refine awpL_loop 18 ?_; have hwq := trivial) | (refine condK_split ?_ ?_ <;> intro hwq) | (refine two_split ?_ ?_) | (refine guardK_split ?_ ?_ <;> intro hwq) | (refine guardE_split ?_ ?_ <;> intro hwq) | (refine awp_drawW [] (by decide +kernel) ?_; have hwq := trivial) | (refine call_plain h rfl rfl ?_; have hwq := trivial) | fail))
  rfl
theorem pc98 (n : Int) : AC Try.prog 51 [vI n] [] (eqR (vI (if 64 ≤ n then 3 else 0))) := by
  refine AC_plain orders Try.func51 rfl (by kernel_rfl) (by kernel_rfl) Try.ntmps51 (by simp) ?_
  unfold Try.f51
  (have hwq := trivial; repeat' (first | simp (maxSteps:=9999999)-implicitDefEqProofs only [go_sem,simprocAttr,hwq,FT3,FT32] | (refine awpL_loop 18 ?_; have hwq := trivial) | (refine condK_split ?_ ?_ <;> intro hwq) | (refine two_split ?_ ?_) | (refine guardK_split ?_ ?_ <;> intro hwq) | (refine guardE_split ?_ ?_ <;> intro hwq) | (refine awp_drawW [] (by decide +kernel) ?_; have hwq := trivial) | fail))
  all_goals simp_all
/-- A port's kind; 0: there is no such port. -/
def kindP (ks : List Int) (x : Int) : Int := if 0 ≤ x then ks.getD x.toNat 0 else 0
theorem pc74 (p : Pv) (hl : p.ks.length ≤ 100000) (x : Int) : AC Try.prog 48 [pvV p, vI x] [] (eqR (vI (kindP p.ks x))) := by
  have wl : IntKind.i64.wrap ((p.ks.length : Int) - 1) = (p.ks.length : Int) - 1 := wI64 _ (by omega) (by omega)
  have h := pc59 x 0 ((p.ks.length : Int) - 1)
  refine AC_plain orders Try.func48 rfl (by kernel_rfl) (by kernel_rfl) Try.ntmps48 (by simp) ?_
  unfold Try.f48
  by_cases hx : 0 ≤ x ∧ x ≤ (p.ks.length : Int) - 1
  · rw [decide_eq_true hx] at h
    obtain ⟨n, rfl⟩ := Int.eq_ofNat_of_zero_le hx.1
    have hn : n < p.ks.length := by omega
    have hn' : (n : Int) < (p.ks.length : Int) := by omega
    have hg : p.ks[n]? = some p.ks[n] := List.getElem?_eq_getElem hn
    have hk : kindP p.ks (n : Int) = p.ks[n] := by unfold kindP; rw [if_pos (by omega)]; simp [hn]
    rw [hk]
    (have hwq := trivial; repeat' (first | simp (maxSteps:=9999999)-implicitDefEqProofs only [go_sem,simprocAttr,hwq,FT3,FT4,FT5,FT23,FT24,FT25,FT26,FT27,FT29,FT31,FT36,FT38,FT40,FT42,List.length_map,List.getElem?_map,Int.natCast_nonneg,List.length_append,List.map_append,wl,hn',hg] | (refine awpL_loop 18 ?_; have hwq := trivial) | (refine condK_split ?_ ?_ <;> intro hwq) | (refine two_split ?_ ?_) | (refine guardK_split ?_ ?_ <;> intro hwq) | (refine guardE_split ?_ ?_ <;> intro hwq) | (refine awp_drawW [] (by decide +kernel) ?_; have hwq := trivial) | (refine call_plain h rfl rfl ?_; have hwq := trivial) | fail))
  · rw [decide_eq_false hx] at h
    have hk : kindP p.ks x = 0 := by
      unfold kindP
      split
      · rw [List.getD_eq_getElem?_getD, List.getElem?_eq_none (by omega)]; rfl
      · rfl
    rw [hk]
    (have hwq := trivial; repeat' (first | simp (maxSteps:=9999999)-implicitDefEqProofs only [go_sem,simprocAttr,hwq,FT3,FT4,FT5,FT23,FT24,FT25,FT26,FT27,FT29,FT31,FT36,FT38,FT40,FT42,List.length_map,List.getElem?_map,Int.natCast_nonneg,List.length_append,List.map_append,wl] | (refine awpL_loop 18 ?_; have hwq := trivial) | (refine condK_split ?_ ?_ <;> intro hwq) | (refine two_split ?_ ?_) | (refine guardK_split ?_ ?_ <;> intro hwq) | (refine guardE_split ?_ ?_ <;> intro hwq) | (refine awp_drawW [] (by decide +kernel) ?_; have hwq := trivial) | (refine call_plain h rfl rfl ?_; have hwq := trivial) | fail))
def cmpMp (a b : Mp) : Int := if cmpZ a.p b.p ≠ 0 then cmpZ a.p b.p else cmpZ a.v b.v
theorem pc101 (a b : Int) : AC Try.prog 54 [.sl 1 [inT a, inT b]] [] (eqR (vI (if a ≠ 0 then a else b))) := by
  refine AC_plain orders Try.func54 rfl (by kernel_rfl) (by kernel_rfl) Try.ntmps54 (by simp) ?_
  unfold Try.f54
  (have hwq := trivial; repeat' (first | simp (maxSteps:=9999999)-implicitDefEqProofs only [go_sem,simprocAttr,hwq,FT3,FT36] | (refine awpL_loop 18 ?_; have hwq := trivial) | (refine condK_split ?_ ?_ <;> intro hwq) | (refine two_split ?_ ?_) | (refine guardK_split ?_ ?_ <;> intro hwq) | (refine guardE_split ?_ ?_ <;> intro hwq) | (refine awp_drawW [] (by decide +kernel) ?_; have hwq := trivial) | fail))
  all_goals simp_all
theorem pc36 (x y : Mp) : AC Try.prog 11 [mpV x, mpV y] [] (eqR (vI (cmpMp x y))) := by
  have h1 := pc102 x.p y.p
  have h2 := pc102 x.v y.v
  have h3 := pc101 (cmpZ x.p y.p) (cmpZ x.v y.v)
  refine AC_plain orders Try.func11 rfl (by kernel_rfl) (by kernel_rfl) Try.ntmps11 (by simp) ?_
  unfold Try.f11
  (have hwq := trivial; repeat' (first | simp (maxSteps:=9999999)-implicitDefEqProofs only [go_sem,simprocAttr,hwq,FT3,FT36,FT40] | (refine awpL_loop 18 ?_; have hwq := trivial) | (refine condK_split ?_ ?_ <;> intro hwq) | (refine two_split ?_ ?_) | (refine guardK_split ?_ ?_ <;> intro hwq) | (refine guardE_split ?_ ?_ <;> intro hwq) | (refine awp_drawW [] (by decide +kernel) ?_; have hwq := trivial) | (refine draw_plain h1 rfl (fun _ => rfl) ?_; have hwq := trivial) | (refine draw_plain h2 rfl (fun _ => rfl) ?_; have hwq := trivial) | (refine draw_plain h3 rfl (fun _ => rfl) ?_; have hwq := trivial) | fail))
  rfl
theorem pc41 (x y : Cr) : AC Try.prog 16 [crV x, crV y] [] (eqR (vI (cmpZ x.s y.s))) := by
  have h1 := pc102 x.s y.s
  refine AC_plain orders Try.func16 rfl (by kernel_rfl) (by kernel_rfl) Try.ntmps16 (by simp) ?_
  unfold Try.f16
  (have hwq := trivial; repeat' (first | simp (maxSteps:=9999999)-implicitDefEqProofs only [go_sem,simprocAttr,hwq,FT3,FT42] | (refine awpL_loop 18 ?_; have hwq := trivial) | (refine condK_split ?_ ?_ <;> intro hwq) | (refine two_split ?_ ?_) | (refine guardK_split ?_ ?_ <;> intro hwq) | (refine guardE_split ?_ ?_ <;> intro hwq) | (refine awp_drawW [] (by decide +kernel) ?_; have hwq := trivial) | (refine call_plain h1 rfl rfl ?_; have hwq := trivial) | fail))
theorem pc47 (x y : Mb) : AC Try.prog 23 [mbV x, mbV y] [] (eqR (vI (cmpZ x.v y.v))) := by
  have h1 := pc102 x.v y.v
  refine AC_plain orders Try.func23 rfl (by kernel_rfl) (by kernel_rfl) Try.ntmps23 (by simp) ?_
  unfold Try.f23
  (have hwq := trivial; repeat' (first | simp (maxSteps:=9999999)-implicitDefEqProofs only [go_sem,simprocAttr,hwq,FT3,FT36,FT38] | (refine awpL_loop 18 ?_; have hwq := trivial) | (refine condK_split ?_ ?_ <;> intro hwq) | (refine two_split ?_ ?_) | (refine guardK_split ?_ ?_ <;> intro hwq) | (refine guardE_split ?_ ?_ <;> intro hwq) | (refine awp_drawW [] (by decide +kernel) ?_; have hwq := trivial) | (refine call_plain h1 rfl rfl ?_; have hwq := trivial) | fail))
def beforeB (a b : Mp) : Bool := decide (a.p < b.p) || (a.p == b.p && decide (a.v < b.v))
end Go.Ai

set_option linter.unusedVariables false
set_option linter.unusedSimpArgs false
set_option maxHeartbeats 4000000
set_option maxRecDepth 100000
namespace Go.Ai
open Go.Proofs
attribute [local go_sem] QH QR V.noimm V.noimms frzZs frzZ frzA frzV frzVs frzBox boxLen Option.isSome cond_true cond_false aopD calW flatV stepX amap stepY alookup afind aupdate adelete amlen arange ameq mapOf akeq pl V.mapT V.mapTs Option.bind stepK runK guardD stepE runD callD compact selB callK evS ofVal ofVals scalar aop ares mkRes V.rn V.rns V.cells? cellsAt Go.Ai.part aload astore setL V.atom abin aun intBin shiftBin aconv fieldOf aindexAddr aindex bound? aslice aarr abuild afill alen nilP nilS nilF aeq eqCells eqCell Go.Ai.known strBin abuiltin aappend abuildSlice arowsFill amakeSlice acopy aclear minmax rowsOf numsT notStr isIntD isByte V.pz V.pzs T.toV frz1 frz scalT scalTs chunkT List.range List.range.loop ite_true ite_false if_true if_false ne_eq implies_true forall_const eq_self IntKind.bits kPostKF_ret kPostKF_normal kPostX_ret kPostX_normal bsl nil2K nil2 kPostFW_ret kPostFW_normal kPostKM_ret kPostKM_normal kPostXK_ret kPostXK_normal
theorem take_in {α : Type} {L : List α} {j : Nat} {x : α} (h : L[j]? = some x) : L.take (j + 1) = L.take j ++ [x] := by rw [List.take_add_one, h]; rfl
theorem mem_in {α : Type} {L : List α} {j : Nat} {x : α} (h : L[j]? = some x) : x ∈ L := List.mem_of_getElem? h
/-- A block that refers to no other. -/
structure FlatB (b : Blk) : Prop where
  mt : ∀ f, b.mapT f = b
  rn : ∀ f, b.rn f = some b
  pz : ∀ m, b.pz m = b
def ixZ {α : Type} (q : α → Bool) (L : List α) : Int := match L.findIdx? q with
  | some j => j
  | none => -1
theorem ix_some {α : Type} {q : α → Bool} {L : List α} {j : Nat} {x : α} (hno : ∀ y ∈ L.take j, q y = false) (hg : L[j]? = some x) (hx : q x = true) : ixZ q L = (j : Int) := by
  obtain ⟨hj, he⟩ := List.getElem?_eq_some_iff.1 hg
  have : L.findIdx? q = some j := by
    rw [List.findIdx?_eq_some_iff_getElem]
    refine ⟨hj, by rw [he]; exact hx, fun k hk => ?_⟩
    have := hno L[k] (by rw [List.mem_take_iff_getElem]; exact ⟨k, by omega, rfl⟩)
    simp [this]
  unfold ixZ; rw [this]
theorem ix_none {α : Type} {q : α → Bool} {L : List α} (hno : ∀ y ∈ L, q y = false) : ixZ q L = -1 := by
  have : L.findIdx? q = none := by rw [List.findIdx?_eq_none_iff]; exact hno
  unfold ixZ; rw [this]
theorem ix_more {α : Type} {q : α → Bool} {L : List α} {j : Nat} {x : α} (hno : ∀ y ∈ L.take j, q y = false) (hg : L[j]? = some x) (hx : q x = false) : ∀ y ∈ L.take (j + 1), q y = false := by
  intro y hy
  rw [take_in hg] at hy
  rcases List.mem_append.1 hy with h1 | h1
  · exact hno y h1
  · simp at h1; subst h1; exact hx
theorem ix_any {α : Type} (q : α → Bool) (L : List α) : decide ((0 : Int) ≤ ixZ q L) = L.any q := by
  unfold ixZ
  cases h : L.findIdx? q with
  | none =>
    rw [List.findIdx?_eq_none_iff] at h
    have : L.any q = false := by rw [List.any_eq_false]; intro x hx; simp [h x hx]
    rw [this]; decide
  | some j =>
    obtain ⟨hj, hq, _⟩ := List.findIdx?_eq_some_iff_getElem.1 h
    have : L.any q = true := List.any_eq_true.2 ⟨L[j], List.getElem_mem hj, hq⟩
    rw [this]
    simp
theorem ix_find {α : Type} {q : α → Bool} {L : List α} : (ixZ q L = -1 ∧ L.find? q = none) ∨ ∃ j x, ixZ q L = ((j : Nat) : Int) ∧ L[j]? = some x ∧ L.find? q = some x := by
  unfold ixZ
  cases h : L.findIdx? q with
  | none =>
    rw [List.findIdx?_eq_none_iff] at h
    exact .inl ⟨rfl, List.find?_eq_none.2 fun x hx => by simp [h x hx]⟩
  | some j =>
    obtain ⟨hj, hq, hlt⟩ := List.findIdx?_eq_some_iff_getElem.1 h
    refine .inr ⟨j, L[j], rfl, List.getElem?_eq_getElem hj, ?_⟩
    rw [List.find?_eq_some_iff_getElem]
    exact ⟨hq, j, hj, rfl, fun k hk => by have := hlt k hk; simpa using this⟩
def Ix122_0 (kf : Nat) (q : Int → Bool) (L : List Int) (k : Nat) (S : St) : Prop :=
  ∃ (j : Nat) (mv : List Nat), S = ⟨tms [(0, isV L), (1, .clo (.func kf) [] []), (6, isV L), (7, vI L.length), (8, vI j)], [], mv⟩ ∧ (∀ t ∈ mv, 0 ≤ t) ∧ j ≤ L.length ∧ k = L.length - j ∧ ∀ y ∈ L.take j, q y = false
theorem pi122_0 (kf : Nat) (q : Int → Bool) (L : List Int) (hl : L.length ≤ 100000) (hq : ∀ x ∈ L, AC Try.prog kf [vI x] [] (eqS (vB (q x)) [])) :
    AC Try.prog 72 [isV L, .clo (.func kf) [] []] [] (eqS (vI (ixZ q L)) []) := by
  refine AC_heap orders [] Try.func72 rfl (by kernel_rfl) (by kernel_rfl) Try.ntmps72 (by simp) ?_
  unfold Try.f72
  (have hwq := trivial; repeat' (first | simp (maxSteps:=9999999)-implicitDefEqProofs only [go_sem,simprocAttr,hwq,FT3,FT24,FT31,FT80] | (refine condK_split ?_ ?_ <;> intro hwq) | (refine two_split ?_ ?_) | (refine guardK_split ?_ ?_ <;> intro hwq) | (refine guardE_split ?_ ?_ <;> intro hwq) | (refine awp_drawW [] (by decide +kernel) ?_; have hwq := trivial) | fail))
  refine awp_loopK (Ix122_0 kf  q L) L.length _ (Weak.cutI 0 [0, 1, 6, 7, 8] ?_ ?_) ⟨0, _, rfl, by simp [List.mem_range'_1], by omega, rfl, by simp⟩ ?_
  · simp (maxSteps:=9999999)-implicitDefEqProofs only [simprocAttr,QH,Option.isSome,cond_true,cond_false,Option.bind,selB,V.rn,V.rns,Go.Ai.known,V.pz,V.pzs,T.toV,frz1,List.range,List.range.loop,ite_true,ite_false,if_true,if_false,ne_eq,implies_true,forall_const,eq_self,IntKind.bits,upd_tmsS,selT_cons,selT_nil,List.length_map,List.getElem?_map,Int.natCast_nonneg,List.length_append,List.map_append]
  · simp (maxSteps:=9999999)-implicitDefEqProofs only [simprocAttr,QH,Option.isSome,cond_true,cond_false,Option.bind,selB,V.rn,V.rns,Go.Ai.known,V.pz,V.pzs,T.toV,frz1,List.range,List.range.loop,ite_true,ite_false,if_true,if_false,ne_eq,implies_true,forall_const,eq_self,IntKind.bits,upd_tmsS,selT_cons,selT_nil]
  rintro kk S ⟨j, mv, rfl, hmv, hj, rfl, hno⟩
  have hfmv : mv.filter (fun x => decide (x < 0)) = [] := by
    rw [List.filter_eq_nil_iff]
    intro t ht
    have := hmv t ht
    simp
    try omega
  have hfm0 : List.filter (fun _ : Nat => false) mv = [] := List.filter_eq_nil_iff.2 (by simp)
  have hmv' : ∀ m t : Nat, t ∈ mv ++ List.range' 0 m → 0 ≤ t := by
    intro m t ht
    rcases List.mem_append.1 ht with h1 | h1
    · exact hmv t h1
    · exact (List.mem_range'_1.1 h1).1
  have wj : IntKind.i64.wrap ((j : Int) + 1) = (j : Int) + 1 := wI64 _ (by omega) (by omega)
  by_cases hjl : j < L.length
  · have hjl' : (j : Int) < (L.length : Int) := by omega
    have hgj : L[j]? = some L[j] := List.getElem?_eq_getElem hjl
    obtain ⟨x, hx⟩ : ∃ x, L[j] = x := ⟨_, rfl⟩
    rw [hx] at hgj
    have hc := hq x (mem_in hgj)
    cases hqx : q x with
    | true =>
      rw [hqx] at hc
      have hix := ix_some hno hgj hqx
      (have hwq := trivial; repeat' (first | simp (maxSteps:=9999999)-implicitDefEqProofs only [go_sem,simprocAttr,hwq,FT3,FT24,FT31,FT80,List.length_map,List.getElem?_map,Int.natCast_nonneg,List.length_append,List.map_append,hjl',hgj,wj,hix,hfmv,hfm0] | (refine condK_split ?_ ?_ <;> intro hwq) | (refine two_split ?_ ?_) | (refine guardK_split ?_ ?_ <;> intro hwq) | (refine guardE_split ?_ ?_ <;> intro hwq) | (refine awp_drawW [] (by decide +kernel) ?_; have hwq := trivial) | (refine call_at [] hc (by simp) (by decide) rfl rfl (by simp) (V.les_refl _) ?_; have hwq := trivial) | fail))
    | false =>
      rw [hqx] at hc
      (have hwq := trivial; repeat' (first | simp (maxSteps:=9999999)-implicitDefEqProofs only [go_sem,simprocAttr,hwq,FT3,FT24,FT31,FT80,List.length_map,List.getElem?_map,Int.natCast_nonneg,List.length_append,List.map_append,hjl',hgj,wj,hfmv] | (refine condK_split ?_ ?_ <;> intro hwq) | (refine two_split ?_ ?_) | (refine guardK_split ?_ ?_ <;> intro hwq) | (refine guardE_split ?_ ?_ <;> intro hwq) | (refine awp_drawW [] (by decide +kernel) ?_; have hwq := trivial) | (refine call_at [] hc (by simp) (by decide) rfl rfl (by simp) (V.les_refl _) ?_; have hwq := trivial) | fail))
      refine ⟨L.length - (j + 1), _, by omega, Weak.cutI 0 [0, 1, 6, 7, 8] ?_ ?_, j + 1, _, rfl, hmv' _, by omega, rfl, ix_more hno hgj hqx⟩
      · simp (maxSteps:=9999999)-implicitDefEqProofs only [simprocAttr,QH,Option.isSome,cond_true,cond_false,Option.bind,selB,V.rn,V.rns,Go.Ai.known,V.pz,V.pzs,T.toV,frz1,List.range,List.range.loop,ite_true,ite_false,if_true,if_false,ne_eq,implies_true,forall_const,eq_self,IntKind.bits,upd_tmsS,selT_cons,selT_nil,List.length_map,List.getElem?_map,Int.natCast_nonneg,List.length_append,List.map_append]
      · simp (maxSteps:=9999999)-implicitDefEqProofs only [simprocAttr,QH,Option.isSome,cond_true,cond_false,Option.bind,selB,V.rn,V.rns,Go.Ai.known,V.pz,V.pzs,T.toV,frz1,List.range,List.range.loop,ite_true,ite_false,if_true,if_false,ne_eq,implies_true,forall_const,eq_self,IntKind.bits,upd_tmsS,selT_cons,selT_nil,List.length_map,List.getElem?_map,Int.natCast_nonneg,List.length_append,List.map_append]
  · have hjl' : ¬ (j : Int) < (L.length : Int) := by omega
    rw [List.take_of_length_le (by omega)] at hno
    have hix := ix_none hno
    (have hwq := trivial; repeat' (first | simp (maxSteps:=9999999)-implicitDefEqProofs only [go_sem,simprocAttr,hwq,FT3,FT24,FT31,FT80,List.length_map,List.getElem?_map,Int.natCast_nonneg,List.length_append,List.map_append,hjl',hix,hfmv,hfm0] | (refine condK_split ?_ ?_ <;> intro hwq) | (refine two_split ?_ ?_) | (refine guardK_split ?_ ?_ <;> intro hwq) | (refine guardE_split ?_ ?_ <;> intro hwq) | (refine awp_drawW [] (by decide +kernel) ?_; have hwq := trivial) | fail))
def Ix123_1 (kf : Nat) (b0 : Blk) (q : Mb → Bool) (L : List Mb) (k : Nat) (S : St) : Prop :=
  ∃ (j : Nat) (mv : List Nat), S = ⟨tms [(0, bsV L), (1, .clo (.func kf) [] [.ptr 0 0 0]), (6, bsV L), (7, vI L.length), (8, vI j)], [b0], mv⟩ ∧ (∀ t ∈ mv, 1 ≤ t) ∧ j ≤ L.length ∧ k = L.length - j ∧ ∀ y ∈ L.take j, q y = false
theorem pi123_1 (kf : Nat) (b0 : Blk) (hb0 : FlatB b0) (q : Mb → Bool) (L : List Mb) (hl : L.length ≤ 100000) (hq : ∀ x ∈ L, AC Try.prog kf [mbV x, .ptr 0 0 0] [b0] (eqS (vB (q x)) [b0])) :
    AC Try.prog 73 [bsV L, .clo (.func kf) [] [.ptr 0 0 0]] [b0] (eqS (vI (ixZ q L)) [b0]) := by
  refine AC_heap orders [0] Try.func73 rfl (by kernel_rfl) (by kernel_rfl) Try.ntmps73 (by simp) ?_
  unfold Try.f73
  (have hwq := trivial; repeat' (first | simp (maxSteps:=9999999)-implicitDefEqProofs only [go_sem,simprocAttr,hwq,FT3,FT27,FT36,FT38,FT84,hb0.rn,hb0.mt,hb0.pz] | (refine condK_split ?_ ?_ <;> intro hwq) | (refine two_split ?_ ?_) | (refine guardK_split ?_ ?_ <;> intro hwq) | (refine guardE_split ?_ ?_ <;> intro hwq) | (refine awp_drawW [] (by decide +kernel) ?_; have hwq := trivial) | fail))
  refine awp_loopK (Ix123_1 kf b0 q L) L.length _ (Weak.cutI 1 [0, 1, 6, 7, 8] ?_ ?_) ⟨0, _, rfl, by simp [List.mem_range'_1], by omega, rfl, by simp⟩ ?_
  · simp (maxSteps:=9999999)-implicitDefEqProofs only [simprocAttr,QH,Option.isSome,cond_true,cond_false,Option.bind,selB,V.rn,V.rns,Go.Ai.known,V.pz,V.pzs,T.toV,frz1,List.range,List.range.loop,ite_true,ite_false,if_true,if_false,ne_eq,implies_true,forall_const,eq_self,IntKind.bits,upd_tmsS,selT_cons,selT_nil,List.length_map,List.getElem?_map,Int.natCast_nonneg,List.length_append,List.map_append]
  · simp (maxSteps:=9999999)-implicitDefEqProofs only [simprocAttr,QH,Option.isSome,cond_true,cond_false,Option.bind,selB,V.rn,V.rns,Go.Ai.known,V.pz,V.pzs,T.toV,frz1,List.range,List.range.loop,ite_true,ite_false,if_true,if_false,ne_eq,implies_true,forall_const,eq_self,IntKind.bits,upd_tmsS,selT_cons,selT_nil,hb0.rn,hb0.mt,hb0.pz]
  rintro kk S ⟨j, mv, rfl, hmv, hj, rfl, hno⟩
  have hfmv : mv.filter (fun x => decide (x < 1)) = [] := by
    rw [List.filter_eq_nil_iff]
    intro t ht
    have := hmv t ht
    simp
    try omega
  have hfm0 : List.filter (fun _ : Nat => false) mv = [] := List.filter_eq_nil_iff.2 (by simp)
  have hmv' : ∀ m t : Nat, t ∈ mv ++ List.range' 1 m → 1 ≤ t := by
    intro m t ht
    rcases List.mem_append.1 ht with h1 | h1
    · exact hmv t h1
    · exact (List.mem_range'_1.1 h1).1
  have wj : IntKind.i64.wrap ((j : Int) + 1) = (j : Int) + 1 := wI64 _ (by omega) (by omega)
  by_cases hjl : j < L.length
  · have hjl' : (j : Int) < (L.length : Int) := by omega
    have hgj : L[j]? = some L[j] := List.getElem?_eq_getElem hjl
    obtain ⟨x, hx⟩ : ∃ x, L[j] = x := ⟨_, rfl⟩
    rw [hx] at hgj
    have hc := hq x (mem_in hgj)
    cases hqx : q x with
    | true =>
      rw [hqx] at hc
      have hix := ix_some hno hgj hqx
      (have hwq := trivial; repeat' (first | simp (maxSteps:=9999999)-implicitDefEqProofs only [go_sem,simprocAttr,hwq,FT3,FT27,FT36,FT38,FT84,List.length_map,List.getElem?_map,Int.natCast_nonneg,List.length_append,List.map_append,hjl',hgj,wj,hix,hfmv,hfm0,hb0.rn,hb0.mt,hb0.pz] | (refine condK_split ?_ ?_ <;> intro hwq) | (refine two_split ?_ ?_) | (refine guardK_split ?_ ?_ <;> intro hwq) | (refine guardE_split ?_ ?_ <;> intro hwq) | (refine awp_drawW [] (by decide +kernel) ?_; have hwq := trivial) | (refine call_at [0] hc (by simp) (by decide) rfl rfl (by simp [hb0.mt]) (V.les_refl _) ?_; have hwq := trivial) | fail))
    | false =>
      rw [hqx] at hc
      (have hwq := trivial; repeat' (first | simp (maxSteps:=9999999)-implicitDefEqProofs only [go_sem,simprocAttr,hwq,FT3,FT27,FT36,FT38,FT84,List.length_map,List.getElem?_map,Int.natCast_nonneg,List.length_append,List.map_append,hjl',hgj,wj,hfmv,hb0.rn,hb0.mt,hb0.pz] | (refine condK_split ?_ ?_ <;> intro hwq) | (refine two_split ?_ ?_) | (refine guardK_split ?_ ?_ <;> intro hwq) | (refine guardE_split ?_ ?_ <;> intro hwq) | (refine awp_drawW [] (by decide +kernel) ?_; have hwq := trivial) | (refine call_at [0] hc (by simp) (by decide) rfl rfl (by simp [hb0.mt]) (V.les_refl _) ?_; have hwq := trivial) | fail))
      refine ⟨L.length - (j + 1), _, by omega, Weak.cutI 1 [0, 1, 6, 7, 8] ?_ ?_, j + 1, _, rfl, hmv' _, by omega, rfl, ix_more hno hgj hqx⟩
      · simp (maxSteps:=9999999)-implicitDefEqProofs only [simprocAttr,QH,Option.isSome,cond_true,cond_false,Option.bind,selB,V.rn,V.rns,Go.Ai.known,V.pz,V.pzs,T.toV,frz1,List.range,List.range.loop,ite_true,ite_false,if_true,if_false,ne_eq,implies_true,forall_const,eq_self,IntKind.bits,upd_tmsS,selT_cons,selT_nil,List.length_map,List.getElem?_map,Int.natCast_nonneg,List.length_append,List.map_append]
      · simp (maxSteps:=9999999)-implicitDefEqProofs only [simprocAttr,QH,Option.isSome,cond_true,cond_false,Option.bind,selB,V.rn,V.rns,Go.Ai.known,V.pz,V.pzs,T.toV,frz1,List.range,List.range.loop,ite_true,ite_false,if_true,if_false,ne_eq,implies_true,forall_const,eq_self,IntKind.bits,upd_tmsS,selT_cons,selT_nil,List.length_map,List.getElem?_map,Int.natCast_nonneg,List.length_append,List.map_append,hb0.rn,hb0.mt,hb0.pz]
  · have hjl' : ¬ (j : Int) < (L.length : Int) := by omega
    rw [List.take_of_length_le (by omega)] at hno
    have hix := ix_none hno
    (have hwq := trivial; repeat' (first | simp (maxSteps:=9999999)-implicitDefEqProofs only [go_sem,simprocAttr,hwq,FT3,FT27,FT36,FT38,FT84,List.length_map,List.getElem?_map,Int.natCast_nonneg,List.length_append,List.map_append,hjl',hix,hfmv,hfm0,hb0.rn,hb0.mt,hb0.pz] | (refine condK_split ?_ ?_ <;> intro hwq) | (refine two_split ?_ ?_) | (refine guardK_split ?_ ?_ <;> intro hwq) | (refine guardE_split ?_ ?_ <;> intro hwq) | (refine awp_drawW [] (by decide +kernel) ?_; have hwq := trivial) | fail))
def Ix125_1 (kf : Nat) (b0 : Blk) (q : Cr → Bool) (L : List Cr) (k : Nat) (S : St) : Prop :=
  ∃ (j : Nat) (mv : List Nat), S = ⟨tms [(0, csV L), (1, .clo (.func kf) [] [.ptr 0 0 0]), (6, csV L), (7, vI L.length), (8, vI j)], [b0], mv⟩ ∧ (∀ t ∈ mv, 1 ≤ t) ∧ j ≤ L.length ∧ k = L.length - j ∧ ∀ y ∈ L.take j, q y = false
theorem pi125_1 (kf : Nat) (b0 : Blk) (hb0 : FlatB b0) (q : Cr → Bool) (L : List Cr) (hl : L.length ≤ 100000) (hq : ∀ x ∈ L, AC Try.prog kf [crV x, .ptr 0 0 0] [b0] (eqS (vB (q x)) [b0])) :
    AC Try.prog 75 [csV L, .clo (.func kf) [] [.ptr 0 0 0]] [b0] (eqS (vI (ixZ q L)) [b0]) := by
  refine AC_heap orders [0] Try.func75 rfl (by kernel_rfl) (by kernel_rfl) Try.ntmps75 (by simp) ?_
  unfold Try.f75
  (have hwq := trivial; repeat' (first | simp (maxSteps:=9999999)-implicitDefEqProofs only [go_sem,simprocAttr,hwq,FT3,FT26,FT42,FT86,hb0.rn,hb0.mt,hb0.pz] | (refine condK_split ?_ ?_ <;> intro hwq) | (refine two_split ?_ ?_) | (refine guardK_split ?_ ?_ <;> intro hwq) | (refine guardE_split ?_ ?_ <;> intro hwq) | (refine awp_drawW [] (by decide +kernel) ?_; have hwq := trivial) | fail))
  refine awp_loopK (Ix125_1 kf b0 q L) L.length _ (Weak.cutI 1 [0, 1, 6, 7, 8] ?_ ?_) ⟨0, _, rfl, by simp [List.mem_range'_1], by omega, rfl, by simp⟩ ?_
  · simp (maxSteps:=9999999)-implicitDefEqProofs only [simprocAttr,QH,Option.isSome,cond_true,cond_false,Option.bind,selB,V.rn,V.rns,Go.Ai.known,V.pz,V.pzs,T.toV,frz1,List.range,List.range.loop,ite_true,ite_false,if_true,if_false,ne_eq,implies_true,forall_const,eq_self,IntKind.bits,upd_tmsS,selT_cons,selT_nil,List.length_map,List.getElem?_map,Int.natCast_nonneg,List.length_append,List.map_append]
  · simp (maxSteps:=9999999)-implicitDefEqProofs only [simprocAttr,QH,Option.isSome,cond_true,cond_false,Option.bind,selB,V.rn,V.rns,Go.Ai.known,V.pz,V.pzs,T.toV,frz1,List.range,List.range.loop,ite_true,ite_false,if_true,if_false,ne_eq,implies_true,forall_const,eq_self,IntKind.bits,upd_tmsS,selT_cons,selT_nil,hb0.rn,hb0.mt,hb0.pz]
  rintro kk S ⟨j, mv, rfl, hmv, hj, rfl, hno⟩
  have hfmv : mv.filter (fun x => decide (x < 1)) = [] := by
    rw [List.filter_eq_nil_iff]
    intro t ht
    have := hmv t ht
    simp
    try omega
  have hfm0 : List.filter (fun _ : Nat => false) mv = [] := List.filter_eq_nil_iff.2 (by simp)
  have hmv' : ∀ m t : Nat, t ∈ mv ++ List.range' 1 m → 1 ≤ t := by
    intro m t ht
    rcases List.mem_append.1 ht with h1 | h1
    · exact hmv t h1
    · exact (List.mem_range'_1.1 h1).1
  have wj : IntKind.i64.wrap ((j : Int) + 1) = (j : Int) + 1 := wI64 _ (by omega) (by omega)
  by_cases hjl : j < L.length
  · have hjl' : (j : Int) < (L.length : Int) := by omega
    have hgj : L[j]? = some L[j] := List.getElem?_eq_getElem hjl
    obtain ⟨x, hx⟩ : ∃ x, L[j] = x := ⟨_, rfl⟩
    rw [hx] at hgj
    have hc := hq x (mem_in hgj)
    cases hqx : q x with
    | true =>
      rw [hqx] at hc
      have hix := ix_some hno hgj hqx
      (have hwq := trivial; repeat' (first | simp (maxSteps:=9999999)-implicitDefEqProofs only [go_sem,simprocAttr,hwq,FT3,FT26,FT42,FT86,List.length_map,List.getElem?_map,Int.natCast_nonneg,List.length_append,List.map_append,hjl',hgj,wj,hix,hfmv,hfm0,hb0.rn,hb0.mt,hb0.pz] | (refine condK_split ?_ ?_ <;> intro hwq) | (refine two_split ?_ ?_) | (refine guardK_split ?_ ?_ <;> intro hwq) | (refine guardE_split ?_ ?_ <;> intro hwq) | (refine awp_drawW [] (by decide +kernel) ?_; have hwq := trivial) | (refine call_at [0] hc (by simp) (by decide) rfl rfl (by simp [hb0.mt]) (V.les_refl _) ?_; have hwq := trivial) | fail))
    | false =>
      rw [hqx] at hc
      (have hwq := trivial; repeat' (first | simp (maxSteps:=9999999)-implicitDefEqProofs only [go_sem,simprocAttr,hwq,FT3,FT26,FT42,FT86,List.length_map,List.getElem?_map,Int.natCast_nonneg,List.length_append,List.map_append,hjl',hgj,wj,hfmv,hb0.rn,hb0.mt,hb0.pz] | (refine condK_split ?_ ?_ <;> intro hwq) | (refine two_split ?_ ?_) | (refine guardK_split ?_ ?_ <;> intro hwq) | (refine guardE_split ?_ ?_ <;> intro hwq) | (refine awp_drawW [] (by decide +kernel) ?_; have hwq := trivial) | (refine call_at [0] hc (by simp) (by decide) rfl rfl (by simp [hb0.mt]) (V.les_refl _) ?_; have hwq := trivial) | fail))
      refine ⟨L.length - (j + 1), _, by omega, Weak.cutI 1 [0, 1, 6, 7, 8] ?_ ?_, j + 1, _, rfl, hmv' _, by omega, rfl, ix_more hno hgj hqx⟩
      · simp (maxSteps:=9999999)-implicitDefEqProofs only [simprocAttr,QH,Option.isSome,cond_true,cond_false,Option.bind,selB,V.rn,V.rns,Go.Ai.known,V.pz,V.pzs,T.toV,frz1,List.range,List.range.loop,ite_true,ite_false,if_true,if_false,ne_eq,implies_true,forall_const,eq_self,IntKind.bits,upd_tmsS,selT_cons,selT_nil,List.length_map,List.getElem?_map,Int.natCast_nonneg,List.length_append,List.map_append]
      · simp (maxSteps:=9999999)-implicitDefEqProofs only [simprocAttr,QH,Option.isSome,cond_true,cond_false,Option.bind,selB,V.rn,V.rns,Go.Ai.known,V.pz,V.pzs,T.toV,frz1,List.range,List.range.loop,ite_true,ite_false,if_true,if_false,ne_eq,implies_true,forall_const,eq_self,IntKind.bits,upd_tmsS,selT_cons,selT_nil,List.length_map,List.getElem?_map,Int.natCast_nonneg,List.length_append,List.map_append,hb0.rn,hb0.mt,hb0.pz]
  · have hjl' : ¬ (j : Int) < (L.length : Int) := by omega
    rw [List.take_of_length_le (by omega)] at hno
    have hix := ix_none hno
    (have hwq := trivial; repeat' (first | simp (maxSteps:=9999999)-implicitDefEqProofs only [go_sem,simprocAttr,hwq,FT3,FT26,FT42,FT86,List.length_map,List.getElem?_map,Int.natCast_nonneg,List.length_append,List.map_append,hjl',hix,hfmv,hfm0,hb0.rn,hb0.mt,hb0.pz] | (refine condK_split ?_ ?_ <;> intro hwq) | (refine two_split ?_ ?_) | (refine guardK_split ?_ ?_ <;> intro hwq) | (refine guardE_split ?_ ?_ <;> intro hwq) | (refine awp_drawW [] (by decide +kernel) ?_; have hwq := trivial) | fail))
def Ix126_1 (kf : Nat) (b0 : Blk) (q : Mp → Bool) (L : List Mp) (k : Nat) (S : St) : Prop :=
  ∃ (j : Nat) (mv : List Nat), S = ⟨tms [(0, msV L), (1, .clo (.func kf) [] [.ptr 0 0 0]), (6, msV L), (7, vI L.length), (8, vI j)], [b0], mv⟩ ∧ (∀ t ∈ mv, 1 ≤ t) ∧ j ≤ L.length ∧ k = L.length - j ∧ ∀ y ∈ L.take j, q y = false
theorem pi126_1 (kf : Nat) (b0 : Blk) (hb0 : FlatB b0) (q : Mp → Bool) (L : List Mp) (hl : L.length ≤ 100000) (hq : ∀ x ∈ L, AC Try.prog kf [mpV x, .ptr 0 0 0] [b0] (eqS (vB (q x)) [b0])) :
    AC Try.prog 76 [msV L, .clo (.func kf) [] [.ptr 0 0 0]] [b0] (eqS (vI (ixZ q L)) [b0]) := by
  refine AC_heap orders [0] Try.func76 rfl (by kernel_rfl) (by kernel_rfl) Try.ntmps76 (by simp) ?_
  unfold Try.f76
  (have hwq := trivial; repeat' (first | simp (maxSteps:=9999999)-implicitDefEqProofs only [go_sem,simprocAttr,hwq,FT3,FT25,FT40,FT88,hb0.rn,hb0.mt,hb0.pz] | (refine condK_split ?_ ?_ <;> intro hwq) | (refine two_split ?_ ?_) | (refine guardK_split ?_ ?_ <;> intro hwq) | (refine guardE_split ?_ ?_ <;> intro hwq) | (refine awp_drawW [] (by decide +kernel) ?_; have hwq := trivial) | fail))
  refine awp_loopK (Ix126_1 kf b0 q L) L.length _ (Weak.cutI 1 [0, 1, 6, 7, 8] ?_ ?_) ⟨0, _, rfl, by simp [List.mem_range'_1], by omega, rfl, by simp⟩ ?_
  · simp (maxSteps:=9999999)-implicitDefEqProofs only [simprocAttr,QH,Option.isSome,cond_true,cond_false,Option.bind,selB,V.rn,V.rns,Go.Ai.known,V.pz,V.pzs,T.toV,frz1,List.range,List.range.loop,ite_true,ite_false,if_true,if_false,ne_eq,implies_true,forall_const,eq_self,IntKind.bits,upd_tmsS,selT_cons,selT_nil,List.length_map,List.getElem?_map,Int.natCast_nonneg,List.length_append,List.map_append]
  · simp (maxSteps:=9999999)-implicitDefEqProofs only [simprocAttr,QH,Option.isSome,cond_true,cond_false,Option.bind,selB,V.rn,V.rns,Go.Ai.known,V.pz,V.pzs,T.toV,frz1,List.range,List.range.loop,ite_true,ite_false,if_true,if_false,ne_eq,implies_true,forall_const,eq_self,IntKind.bits,upd_tmsS,selT_cons,selT_nil,hb0.rn,hb0.mt,hb0.pz]
  rintro kk S ⟨j, mv, rfl, hmv, hj, rfl, hno⟩
  have hfmv : mv.filter (fun x => decide (x < 1)) = [] := by
    rw [List.filter_eq_nil_iff]
    intro t ht
    have := hmv t ht
    simp
    try omega
  have hfm0 : List.filter (fun _ : Nat => false) mv = [] := List.filter_eq_nil_iff.2 (by simp)
  have hmv' : ∀ m t : Nat, t ∈ mv ++ List.range' 1 m → 1 ≤ t := by
    intro m t ht
    rcases List.mem_append.1 ht with h1 | h1
    · exact hmv t h1
    · exact (List.mem_range'_1.1 h1).1
  have wj : IntKind.i64.wrap ((j : Int) + 1) = (j : Int) + 1 := wI64 _ (by omega) (by omega)
  by_cases hjl : j < L.length
  · have hjl' : (j : Int) < (L.length : Int) := by omega
    have hgj : L[j]? = some L[j] := List.getElem?_eq_getElem hjl
    obtain ⟨x, hx⟩ : ∃ x, L[j] = x := ⟨_, rfl⟩
    rw [hx] at hgj
    have hc := hq x (mem_in hgj)
    cases hqx : q x with
    | true =>
      rw [hqx] at hc
      have hix := ix_some hno hgj hqx
      (have hwq := trivial; repeat' (first | simp (maxSteps:=9999999)-implicitDefEqProofs only [go_sem,simprocAttr,hwq,FT3,FT25,FT40,FT88,List.length_map,List.getElem?_map,Int.natCast_nonneg,List.length_append,List.map_append,hjl',hgj,wj,hix,hfmv,hfm0,hb0.rn,hb0.mt,hb0.pz] | (refine condK_split ?_ ?_ <;> intro hwq) | (refine two_split ?_ ?_) | (refine guardK_split ?_ ?_ <;> intro hwq) | (refine guardE_split ?_ ?_ <;> intro hwq) | (refine awp_drawW [] (by decide +kernel) ?_; have hwq := trivial) | (refine call_at [0] hc (by simp) (by decide) rfl rfl (by simp [hb0.mt]) (V.les_refl _) ?_; have hwq := trivial) | fail))
    | false =>
      rw [hqx] at hc
      (have hwq := trivial; repeat' (first | simp (maxSteps:=9999999)-implicitDefEqProofs only [go_sem,simprocAttr,hwq,FT3,FT25,FT40,FT88,List.length_map,List.getElem?_map,Int.natCast_nonneg,List.length_append,List.map_append,hjl',hgj,wj,hfmv,hb0.rn,hb0.mt,hb0.pz] | (refine condK_split ?_ ?_ <;> intro hwq) | (refine two_split ?_ ?_) | (refine guardK_split ?_ ?_ <;> intro hwq) | (refine guardE_split ?_ ?_ <;> intro hwq) | (refine awp_drawW [] (by decide +kernel) ?_; have hwq := trivial) | (refine call_at [0] hc (by simp) (by decide) rfl rfl (by simp [hb0.mt]) (V.les_refl _) ?_; have hwq := trivial) | fail))
      refine ⟨L.length - (j + 1), _, by omega, Weak.cutI 1 [0, 1, 6, 7, 8] ?_ ?_, j + 1, _, rfl, hmv' _, by omega, rfl, ix_more hno hgj hqx⟩
      · simp (maxSteps:=9999999)-implicitDefEqProofs only [simprocAttr,QH,Option.isSome,cond_true,cond_false,Option.bind,selB,V.rn,V.rns,Go.Ai.known,V.pz,V.pzs,T.toV,frz1,List.range,List.range.loop,ite_true,ite_false,if_true,if_false,ne_eq,implies_true,forall_const,eq_self,IntKind.bits,upd_tmsS,selT_cons,selT_nil,List.length_map,List.getElem?_map,Int.natCast_nonneg,List.length_append,List.map_append]
      · simp (maxSteps:=9999999)-implicitDefEqProofs only [simprocAttr,QH,Option.isSome,cond_true,cond_false,Option.bind,selB,V.rn,V.rns,Go.Ai.known,V.pz,V.pzs,T.toV,frz1,List.range,List.range.loop,ite_true,ite_false,if_true,if_false,ne_eq,implies_true,forall_const,eq_self,IntKind.bits,upd_tmsS,selT_cons,selT_nil,List.length_map,List.getElem?_map,Int.natCast_nonneg,List.length_append,List.map_append,hb0.rn,hb0.mt,hb0.pz]
  · have hjl' : ¬ (j : Int) < (L.length : Int) := by omega
    rw [List.take_of_length_le (by omega)] at hno
    have hix := ix_none hno
    (have hwq := trivial; repeat' (first | simp (maxSteps:=9999999)-implicitDefEqProofs only [go_sem,simprocAttr,hwq,FT3,FT25,FT40,FT88,List.length_map,List.getElem?_map,Int.natCast_nonneg,List.length_append,List.map_append,hjl',hix,hfmv,hfm0,hb0.rn,hb0.mt,hb0.pz] | (refine condK_split ?_ ?_ <;> intro hwq) | (refine two_split ?_ ?_) | (refine guardK_split ?_ ?_ <;> intro hwq) | (refine guardE_split ?_ ?_ <;> intro hwq) | (refine awp_drawW [] (by decide +kernel) ?_; have hwq := trivial) | fail))
def Ix126_2 (kf : Nat) (b0 : Blk) (b1 : Blk) (q : Mp → Bool) (L : List Mp) (k : Nat) (S : St) : Prop :=
  ∃ (j : Nat) (mv : List Nat), S = ⟨tms [(0, msV L), (1, .clo (.func kf) [] [.ptr 0 0 0, .ptr 1 0 0]), (6, msV L), (7, vI L.length), (8, vI j)], [b0, b1], mv⟩ ∧ (∀ t ∈ mv, 2 ≤ t) ∧ j ≤ L.length ∧ k = L.length - j ∧ ∀ y ∈ L.take j, q y = false
theorem pi126_2 (kf : Nat) (b0 : Blk) (hb0 : FlatB b0) (b1 : Blk) (hb1 : FlatB b1) (q : Mp → Bool) (L : List Mp) (hl : L.length ≤ 100000) (hq : ∀ x ∈ L, AC Try.prog kf [mpV x, .ptr 0 0 0, .ptr 1 0 0] [b0, b1] (eqS (vB (q x)) [b0, b1])) :
    AC Try.prog 76 [msV L, .clo (.func kf) [] [.ptr 0 0 0, .ptr 1 0 0]] [b0, b1] (eqS (vI (ixZ q L)) [b0, b1]) := by
  refine AC_heap orders [0, 1] Try.func76 rfl (by kernel_rfl) (by kernel_rfl) Try.ntmps76 (by simp) ?_
  unfold Try.f76
  (have hwq := trivial; repeat' (first | simp (maxSteps:=9999999)-implicitDefEqProofs only [go_sem,simprocAttr,hwq,FT3,FT25,FT40,FT88,hb0.rn,hb0.mt,hb0.pz,hb1.rn,hb1.mt,hb1.pz] | (refine condK_split ?_ ?_ <;> intro hwq) | (refine two_split ?_ ?_) | (refine guardK_split ?_ ?_ <;> intro hwq) | (refine guardE_split ?_ ?_ <;> intro hwq) | (refine awp_drawW [] (by decide +kernel) ?_; have hwq := trivial) | fail))
  refine awp_loopK (Ix126_2 kf b0 b1 q L) L.length _ (Weak.cutI 2 [0, 1, 6, 7, 8] ?_ ?_) ⟨0, _, rfl, by simp [List.mem_range'_1], by omega, rfl, by simp⟩ ?_
  · simp (maxSteps:=9999999)-implicitDefEqProofs only [simprocAttr,QH,Option.isSome,cond_true,cond_false,Option.bind,selB,V.rn,V.rns,Go.Ai.known,V.pz,V.pzs,T.toV,frz1,List.range,List.range.loop,ite_true,ite_false,if_true,if_false,ne_eq,implies_true,forall_const,eq_self,IntKind.bits,upd_tmsS,selT_cons,selT_nil,List.length_map,List.getElem?_map,Int.natCast_nonneg,List.length_append,List.map_append]
  · simp (maxSteps:=9999999)-implicitDefEqProofs only [simprocAttr,QH,Option.isSome,cond_true,cond_false,Option.bind,selB,V.rn,V.rns,Go.Ai.known,V.pz,V.pzs,T.toV,frz1,List.range,List.range.loop,ite_true,ite_false,if_true,if_false,ne_eq,implies_true,forall_const,eq_self,IntKind.bits,upd_tmsS,selT_cons,selT_nil,hb0.rn,hb0.mt,hb0.pz,hb1.rn,hb1.mt,hb1.pz]
  rintro kk S ⟨j, mv, rfl, hmv, hj, rfl, hno⟩
  have hfmv : mv.filter (fun x => decide (x < 2)) = [] := by
    rw [List.filter_eq_nil_iff]
    intro t ht
    have := hmv t ht
    simp
    try omega
  have hfm0 : List.filter (fun _ : Nat => false) mv = [] := List.filter_eq_nil_iff.2 (by simp)
  have hmv' : ∀ m t : Nat, t ∈ mv ++ List.range' 2 m → 2 ≤ t := by
    intro m t ht
    rcases List.mem_append.1 ht with h1 | h1
    · exact hmv t h1
    · exact (List.mem_range'_1.1 h1).1
  have wj : IntKind.i64.wrap ((j : Int) + 1) = (j : Int) + 1 := wI64 _ (by omega) (by omega)
  by_cases hjl : j < L.length
  · have hjl' : (j : Int) < (L.length : Int) := by omega
    have hgj : L[j]? = some L[j] := List.getElem?_eq_getElem hjl
    obtain ⟨x, hx⟩ : ∃ x, L[j] = x := ⟨_, rfl⟩
    rw [hx] at hgj
    have hc := hq x (mem_in hgj)
    cases hqx : q x with
    | true =>
      rw [hqx] at hc
      have hix := ix_some hno hgj hqx
      (have hwq := trivial; repeat' (first | simp (maxSteps:=9999999)-implicitDefEqProofs only [go_sem,simprocAttr,hwq,FT3,FT25,FT40,FT88,List.length_map,List.getElem?_map,Int.natCast_nonneg,List.length_append,List.map_append,hjl',hgj,wj,hix,hfmv,hfm0,hb0.rn,hb0.mt,hb0.pz,hb1.rn,hb1.mt,hb1.pz] | (refine condK_split ?_ ?_ <;> intro hwq) | (refine two_split ?_ ?_) | (refine guardK_split ?_ ?_ <;> intro hwq) | (refine guardE_split ?_ ?_ <;> intro hwq) | (refine awp_drawW [] (by decide +kernel) ?_; have hwq := trivial) | (refine call_at [0, 1] hc (by simp) (by decide) rfl rfl (by simp [hb0.mt, hb1.mt]) (V.les_refl _) ?_; have hwq := trivial) | fail))
    | false =>
      rw [hqx] at hc
      (have hwq := trivial; repeat' (first | simp (maxSteps:=9999999)-implicitDefEqProofs only [go_sem,simprocAttr,hwq,FT3,FT25,FT40,FT88,List.length_map,List.getElem?_map,Int.natCast_nonneg,List.length_append,List.map_append,hjl',hgj,wj,hfmv,hb0.rn,hb0.mt,hb0.pz,hb1.rn,hb1.mt,hb1.pz] | (refine condK_split ?_ ?_ <;> intro hwq) | (refine two_split ?_ ?_) | (refine guardK_split ?_ ?_ <;> intro hwq) | (refine guardE_split ?_ ?_ <;> intro hwq) | (refine awp_drawW [] (by decide +kernel) ?_; have hwq := trivial) | (refine call_at [0, 1] hc (by simp) (by decide) rfl rfl (by simp [hb0.mt, hb1.mt]) (V.les_refl _) ?_; have hwq := trivial) | fail))
      refine ⟨L.length - (j + 1), _, by omega, Weak.cutI 2 [0, 1, 6, 7, 8] ?_ ?_, j + 1, _, rfl, hmv' _, by omega, rfl, ix_more hno hgj hqx⟩
      · simp (maxSteps:=9999999)-implicitDefEqProofs only [simprocAttr,QH,Option.isSome,cond_true,cond_false,Option.bind,selB,V.rn,V.rns,Go.Ai.known,V.pz,V.pzs,T.toV,frz1,List.range,List.range.loop,ite_true,ite_false,if_true,if_false,ne_eq,implies_true,forall_const,eq_self,IntKind.bits,upd_tmsS,selT_cons,selT_nil,List.length_map,List.getElem?_map,Int.natCast_nonneg,List.length_append,List.map_append]
      · simp (maxSteps:=9999999)-implicitDefEqProofs only [simprocAttr,QH,Option.isSome,cond_true,cond_false,Option.bind,selB,V.rn,V.rns,Go.Ai.known,V.pz,V.pzs,T.toV,frz1,List.range,List.range.loop,ite_true,ite_false,if_true,if_false,ne_eq,implies_true,forall_const,eq_self,IntKind.bits,upd_tmsS,selT_cons,selT_nil,List.length_map,List.getElem?_map,Int.natCast_nonneg,List.length_append,List.map_append,hb0.rn,hb0.mt,hb0.pz,hb1.rn,hb1.mt,hb1.pz]
  · have hjl' : ¬ (j : Int) < (L.length : Int) := by omega
    rw [List.take_of_length_le (by omega)] at hno
    have hix := ix_none hno
    (have hwq := trivial; repeat' (first | simp (maxSteps:=9999999)-implicitDefEqProofs only [go_sem,simprocAttr,hwq,FT3,FT25,FT40,FT88,List.length_map,List.getElem?_map,Int.natCast_nonneg,List.length_append,List.map_append,hjl',hix,hfmv,hfm0,hb0.rn,hb0.mt,hb0.pz,hb1.rn,hb1.mt,hb1.pz] | (refine condK_split ?_ ?_ <;> intro hwq) | (refine two_split ?_ ?_) | (refine guardK_split ?_ ?_ <;> intro hwq) | (refine guardE_split ?_ ?_ <;> intro hwq) | (refine awp_drawW [] (by decide +kernel) ?_; have hwq := trivial) | fail))
end Go.Ai

set_option linter.unusedVariables false
set_option linter.unusedSimpArgs false
set_option maxHeartbeats 4000000
set_option maxRecDepth 100000
namespace Go.Ai
open Go.Proofs
attribute [local go_sem] QH QR V.noimm V.noimms frzZs frzZ frzA frzV frzVs frzBox boxLen Option.isSome cond_true cond_false aopD calW flatV stepX amap stepY alookup afind aupdate adelete amlen arange ameq mapOf akeq pl V.mapT V.mapTs Option.bind stepK runK guardD stepE runD callD compact selB callK evS ofVal ofVals scalar aop ares mkRes V.rn V.rns V.cells? cellsAt Go.Ai.part aload astore setL V.atom abin aun intBin shiftBin aconv fieldOf aindexAddr aindex bound? aslice aarr abuild afill alen nilP nilS nilF aeq eqCells eqCell Go.Ai.known strBin abuiltin aappend abuildSlice arowsFill amakeSlice acopy aclear minmax rowsOf numsT notStr isIntD isByte V.pz V.pzs T.toV frz1 frz scalT scalTs chunkT List.range List.range.loop ite_true ite_false if_true if_false ne_eq implies_true forall_const eq_self IntKind.bits kPostKF_ret kPostKF_normal kPostX_ret kPostX_normal bsl nil2K nil2 kPostFW_ret kPostFW_normal kPostKM_ret kPostKM_normal kPostXK_ret kPostXK_normal
theorem pcf63 (kf : Nat) (q : Int → Bool) (L : List Int) (hl : L.length ≤ 100000) (hq : ∀ x ∈ L, AC Try.prog kf [vI x] [] (eqS (vB (q x)) [])) :
    AC Try.prog 37 [isV L, .clo (.func kf) [] []] [] (eqS (vB (L.any q)) []) := by
  have h := pi122_0 kf q L hl hq
  have ha := ix_any q L
  refine AC_heap orders [] Try.func37 rfl (by kernel_rfl) (by kernel_rfl) Try.ntmps37 (by simp) ?_
  unfold Try.f37
  (have hwq := trivial; repeat' (first | simp (maxSteps:=9999999)-implicitDefEqProofs only [go_sem,simprocAttr,hwq,FT3,FT4,FT24,FT31,FT80,ha] | (refine awpL_loop 18 ?_; have hwq := trivial) | (refine condK_split ?_ ?_ <;> intro hwq) | (refine two_split ?_ ?_) | (refine guardK_split ?_ ?_ <;> intro hwq) | (refine guardE_split ?_ ?_ <;> intro hwq) | (refine awp_drawW [] (by decide +kernel) ?_; have hwq := trivial) | (refine call_at [] h (by simp) (by decide) rfl rfl (by simp [mapT_box, V.mapTs, V.mapT, pl]) (by simp [V.les, V.le, V.mapTs, V.mapT, pl]) ?_; have hwq := trivial) | fail))
theorem pcf65 (kf : Nat) (b0 : Blk) (hb0 : FlatB b0) (q : Mb → Bool) (L : List Mb) (hl : L.length ≤ 100000) (hq : ∀ x ∈ L, AC Try.prog kf [mbV x, .ptr 0 0 0] [b0] (eqS (vB (q x)) [b0])) :
    AC Try.prog 39 [bsV L, .clo (.func kf) [] [.ptr 0 0 0]] [b0] (eqS (vB (L.any q)) [b0]) := by
  have h := pi123_1 kf b0 hb0 q L hl hq
  have ha := ix_any q L
  refine AC_heap orders [0] Try.func39 rfl (by kernel_rfl) (by kernel_rfl) Try.ntmps39 (by simp) ?_
  unfold Try.f39
  (have hwq := trivial; repeat' (first | simp (maxSteps:=9999999)-implicitDefEqProofs only [go_sem,simprocAttr,hwq,FT3,FT4,FT27,FT36,FT38,FT84,ha,hb0.rn,hb0.mt,hb0.pz] | (refine awpL_loop 18 ?_; have hwq := trivial) | (refine condK_split ?_ ?_ <;> intro hwq) | (refine two_split ?_ ?_) | (refine guardK_split ?_ ?_ <;> intro hwq) | (refine guardE_split ?_ ?_ <;> intro hwq) | (refine awp_drawW [] (by decide +kernel) ?_; have hwq := trivial) | (refine call_at [0] h (by simp) (by decide) rfl rfl (by simp [mapT_box, V.mapTs, V.mapT, pl, hb0.mt]) (by simp [V.les, V.le, V.mapTs, V.mapT, pl]) ?_; have hwq := trivial) | fail))
theorem pcf69 (kf : Nat) (b0 : Blk) (hb0 : FlatB b0) (q : Cr → Bool) (L : List Cr) (hl : L.length ≤ 100000) (hq : ∀ x ∈ L, AC Try.prog kf [crV x, .ptr 0 0 0] [b0] (eqS (vB (q x)) [b0])) :
    AC Try.prog 43 [csV L, .clo (.func kf) [] [.ptr 0 0 0]] [b0] (eqS (vB (L.any q)) [b0]) := by
  have h := pi125_1 kf b0 hb0 q L hl hq
  have ha := ix_any q L
  refine AC_heap orders [0] Try.func43 rfl (by kernel_rfl) (by kernel_rfl) Try.ntmps43 (by simp) ?_
  unfold Try.f43
  (have hwq := trivial; repeat' (first | simp (maxSteps:=9999999)-implicitDefEqProofs only [go_sem,simprocAttr,hwq,FT3,FT4,FT26,FT42,FT86,ha,hb0.rn,hb0.mt,hb0.pz] | (refine awpL_loop 18 ?_; have hwq := trivial) | (refine condK_split ?_ ?_ <;> intro hwq) | (refine two_split ?_ ?_) | (refine guardK_split ?_ ?_ <;> intro hwq) | (refine guardE_split ?_ ?_ <;> intro hwq) | (refine awp_drawW [] (by decide +kernel) ?_; have hwq := trivial) | (refine call_at [0] h (by simp) (by decide) rfl rfl (by simp [mapT_box, V.mapTs, V.mapT, pl, hb0.mt]) (by simp [V.les, V.le, V.mapTs, V.mapT, pl]) ?_; have hwq := trivial) | fail))
theorem pcf72 (kf : Nat) (b0 : Blk) (hb0 : FlatB b0) (q : Mp → Bool) (L : List Mp) (hl : L.length ≤ 100000) (hq : ∀ x ∈ L, AC Try.prog kf [mpV x, .ptr 0 0 0] [b0] (eqS (vB (q x)) [b0])) :
    AC Try.prog 46 [msV L, .clo (.func kf) [] [.ptr 0 0 0]] [b0] (eqS (vB (L.any q)) [b0]) := by
  have h := pi126_1 kf b0 hb0 q L hl hq
  have ha := ix_any q L
  refine AC_heap orders [0] Try.func46 rfl (by kernel_rfl) (by kernel_rfl) Try.ntmps46 (by simp) ?_
  unfold Try.f46
  (have hwq := trivial; repeat' (first | simp (maxSteps:=9999999)-implicitDefEqProofs only [go_sem,simprocAttr,hwq,FT3,FT4,FT25,FT40,FT88,ha,hb0.rn,hb0.mt,hb0.pz] | (refine awpL_loop 18 ?_; have hwq := trivial) | (refine condK_split ?_ ?_ <;> intro hwq) | (refine two_split ?_ ?_) | (refine guardK_split ?_ ?_ <;> intro hwq) | (refine guardE_split ?_ ?_ <;> intro hwq) | (refine awp_drawW [] (by decide +kernel) ?_; have hwq := trivial) | (refine call_at [0] h (by simp) (by decide) rfl rfl (by simp [mapT_box, V.mapTs, V.mapT, pl, hb0.mt]) (by simp [V.les, V.le, V.mapTs, V.mapT, pl]) ?_; have hwq := trivial) | fail))
def fst78 (q : Mp → Bool) (L : List Mp) : V := match L.find? q with
  | some x => .tuple [mpV x, vB true]
  | none => .tuple [mpV ⟨0, 0, 0⟩, vB false]
theorem pcf78 (kf : Nat) (b0 : Blk) (hb0 : FlatB b0) (b1 : Blk) (hb1 : FlatB b1) (q : Mp → Bool) (L : List Mp) (hl : L.length ≤ 100000) (hq : ∀ x ∈ L, AC Try.prog kf [mpV x, .ptr 0 0 0, .ptr 1 0 0] [b0, b1] (eqS (vB (q x)) [b0, b1])) :
    AC Try.prog 69 [msV L, .clo (.func kf) [] [.ptr 0 0 0, .ptr 1 0 0]] [b0, b1] (eqS (fst78 q L) [b0, b1]) := by
  have h := pi126_2 kf b0 hb0 b1 hb1 q L hl hq
  unfold fst78
  refine AC_heap orders [0, 1] Try.func69 rfl (by kernel_rfl) (by kernel_rfl) Try.ntmps69 (by simp) ?_
  unfold Try.f69
  rcases ix_find (q := q) (L := L) with ⟨h1, h2⟩ | ⟨j, x, h1, h2, h3⟩
  · rw [h1] at h
    rw [h2]
    (have hwq := trivial; repeat' (first | simp (maxSteps:=9999999)-implicitDefEqProofs only [go_sem,simprocAttr,hwq,FT3,FT4,FT25,FT40,FT88,hb0.rn,hb0.mt,hb0.pz,hb1.rn,hb1.mt,hb1.pz] | (refine awpL_loop 18 ?_; have hwq := trivial) | (refine condK_split ?_ ?_ <;> intro hwq) | (refine two_split ?_ ?_) | (refine guardK_split ?_ ?_ <;> intro hwq) | (refine guardE_split ?_ ?_ <;> intro hwq) | (refine awp_drawW [] (by decide +kernel) ?_; have hwq := trivial) | (refine call_at [0, 1] h (by simp) (by decide) rfl rfl (by simp [mapT_box, V.mapTs, V.mapT, pl, hb0.mt, hb1.mt]) (by simp [V.les, V.le, V.mapTs, V.mapT, pl]) ?_; have hwq := trivial) | fail))
  · rw [h1] at h
    rw [h3]
    have hj := (List.getElem?_eq_some_iff.1 h2).1
    have hj' : (j : Int) < (L.length : Int) := by omega
    have hj0 : ¬ (j : Int) < 0 := by omega
    (have hwq := trivial; repeat' (first | simp (maxSteps:=9999999)-implicitDefEqProofs only [go_sem,simprocAttr,hwq,FT3,FT4,FT25,FT40,FT88,List.length_map,List.getElem?_map,Int.natCast_nonneg,List.length_append,List.map_append,h2,hj',hj0,hb0.rn,hb0.mt,hb0.pz,hb1.rn,hb1.mt,hb1.pz] | (refine awpL_loop 18 ?_; have hwq := trivial) | (refine condK_split ?_ ?_ <;> intro hwq) | (refine two_split ?_ ?_) | (refine guardK_split ?_ ?_ <;> intro hwq) | (refine guardE_split ?_ ?_ <;> intro hwq) | (refine awp_drawW [] (by decide +kernel) ?_; have hwq := trivial) | (refine call_at [0, 1] h (by simp) (by decide) rfl rfl (by simp [mapT_box, V.mapTs, V.mapT, pl, hb0.mt, hb1.mt]) (by simp [V.les, V.le, V.mapTs, V.mapT, pl]) ?_; have hwq := trivial) | fail))
def risB {α : Type} (lt : α → α → Bool) : List α → Bool
  | a :: b :: l => lt a b && risB lt (b :: l)
  | _ => true
theorem risB_iff {α : Type} (lt : α → α → Bool) : ∀ L : List α, risB lt L = true ↔ ∀ i x y, L[i]? = some x → L[i + 1]? = some y → lt x y = true
  | [] => by simp [risB]
  | [a] => by
    simp only [risB, true_iff]
    intro i x y _ h
    simp at h
  | a :: b :: l => by
    rw [risB, Bool.and_eq_true, risB_iff lt (b :: l)]
    constructor
    · rintro ⟨h1, h2⟩ i x y hx hy
      cases i with
      | zero => simp at hx hy; rw [← hx, ← hy]; exact h1
      | succ i => exact h2 i x y (by simpa using hx) (by simpa using hy)
    · intro h
      exact ⟨h 0 a b rfl rfl, fun i x y hx hy => h (i + 1) x y (by simpa using hx) (by simpa using hy)⟩
def ltI (a b : Int) : Bool := decide (a < b)
def ltMb (a b : Mb) : Bool := decide (a.v < b.v)
def ltCr (a b : Cr) : Bool := decide (a.s < b.s)
theorem cmpZ_ge (a b : Int) : decide ((0 : Int) ≤ cmpZ a b) = !decide (a < b) := by
  unfold cmpZ
  split
  · simp [*]
  · split <;> simp [*]
theorem cmpMp_ge (a b : Mp) : decide ((0 : Int) ≤ cmpMp a b) = !beforeB a b := by
  unfold cmpMp beforeB cmpZ
  by_cases h1 : a.p < b.p
  · simp [h1]
  · by_cases h2 : b.p < a.p
    · have h3 : (a.p == b.p) = false := by simp; omega
      simp [h1, h2, h3]
    · have h3 : (a.p == b.p) = true := by simp; omega
      by_cases h4 : a.v < b.v
      · simp [h1, h2, h3, h4]
      · by_cases h5 : b.v < a.v <;> simp [h1, h2, h3, h4, h5]
def Ri60 (L : List Mb) (k : Nat) (S : St) : Prop :=
  ∃ (j : Nat) (mv : List Nat), S = ⟨tms [(0, bsV L), (1, .clo (.func 23) [] []), (5, vI j)], [], mv⟩ ∧ 1 ≤ j ∧ j ≤ L.length + 1 ∧ k = L.length + 1 - j ∧ ∀ i x y, i + 1 < j → L[i]? = some x → L[i + 1]? = some y → ltMb x y = true
theorem pr60 (L : List Mb) (hl : L.length ≤ 100000) : AC Try.prog 34 [bsV L, .clo (.func 23) [] []] [] (eqR (vB (risB ltMb L))) := by
  refine AC_plain orders Try.func34 rfl (by kernel_rfl) (by kernel_rfl) Try.ntmps34 (by simp) ?_
  unfold Try.f34
  (have hwq := trivial; repeat' (first | simp (maxSteps:=9999999)-implicitDefEqProofs only [go_sem,simprocAttr,hwq,FT3,FT4,FT27,FT36,FT38,FT65] | (refine condK_split ?_ ?_ <;> intro hwq) | (refine two_split ?_ ?_) | (refine guardK_split ?_ ?_ <;> intro hwq) | (refine guardE_split ?_ ?_ <;> intro hwq) | (refine awp_drawW [] (by decide +kernel) ?_; have hwq := trivial) | fail))
  refine awp_loopK (Ri60 L) L.length _ (Weak.cutI 0 [0, 1, 5] ?_ ?_) ⟨1, _, rfl, by omega, by omega, by omega, fun i _ _ h => by omega⟩ ?_
  · simp (maxSteps:=9999999)-implicitDefEqProofs only [simprocAttr,QH,Option.isSome,cond_true,cond_false,Option.bind,selB,V.rn,V.rns,Go.Ai.known,V.pz,V.pzs,T.toV,frz1,List.range,List.range.loop,ite_true,ite_false,if_true,if_false,ne_eq,implies_true,forall_const,eq_self,IntKind.bits,upd_tmsS,selT_cons,selT_nil]
  · simp (maxSteps:=9999999)-implicitDefEqProofs only [simprocAttr,QH,Option.isSome,cond_true,cond_false,Option.bind,selB,V.rn,V.rns,Go.Ai.known,V.pz,V.pzs,T.toV,frz1,List.range,List.range.loop,ite_true,ite_false,if_true,if_false,ne_eq,implies_true,forall_const,eq_self,IntKind.bits,upd_tmsS,selT_cons,selT_nil]
  rintro kk S ⟨j, mv, rfl, hj1, hj, rfl, hp⟩
  obtain ⟨p, hjp⟩ : ∃ p, j = p + 1 := ⟨j - 1, by omega⟩
  have wj : IntKind.i64.wrap ((j : Int) + 1) = (j : Int) + 1 := wI64 _ (by omega) (by omega)
  have wp : IntKind.i64.wrap ((j : Int) - 1) = (p : Int) := by rw [wI64 _ (by omega) (by omega)]; omega
  by_cases hjl : j < L.length
  · have hjl' : (j : Int) < (L.length : Int) := by omega
    have hpl' : (p : Int) < (L.length : Int) := by omega
    have hg0 : L[p]? = some (L[p]'(by omega)) := List.getElem?_eq_getElem (by omega)
    have hg1 : L[j]? = some L[j] := List.getElem?_eq_getElem hjl
    obtain ⟨x, hx⟩ : ∃ x, L[p]'(by omega) = x := ⟨_, rfl⟩
    obtain ⟨y, hy⟩ : ∃ y, L[j] = y := ⟨_, rfl⟩
    rw [hx] at hg0
    rw [hy] at hg1
    have hc := pc47 x y
    have hge := cmpZ_ge x.v y.v
    cases hlt : ltMb x y with
    | true =>
      have hge2 : decide ((0 : Int) ≤ cmpZ x.v y.v) = false := by rw [hge]; unfold ltMb at hlt; rw [hlt]; rfl
      have hge3 : ¬ (0 : Int) ≤ cmpZ x.v y.v := by simpa using hge2
      (have hwq := trivial; repeat' (first | simp (maxSteps:=9999999)-implicitDefEqProofs only [go_sem,simprocAttr,hwq,FT3,FT4,FT27,FT36,FT38,FT65,List.length_map,List.getElem?_map,Int.natCast_nonneg,List.length_append,List.map_append,hjl',hpl',hg0,hg1,wj,wp,hge2,hge3] | (refine condK_split ?_ ?_ <;> intro hwq) | (refine two_split ?_ ?_) | (refine guardK_split ?_ ?_ <;> intro hwq) | (refine guardE_split ?_ ?_ <;> intro hwq) | (refine awp_drawW [] (by decide +kernel) ?_; have hwq := trivial) | (refine draw_plain hc rfl (fun _ => rfl) ?_; have hwq := trivial) | fail))
      refine ⟨L.length + 1 - (j + 1), _, by omega, Weak.cutI 0 [0, 1, 5] ?_ ?_, j + 1, _, rfl, by omega, by omega, rfl, fun i a b hi ha hb => ?_⟩
      · simp (maxSteps:=9999999)-implicitDefEqProofs only [simprocAttr,QH,Option.isSome,cond_true,cond_false,Option.bind,selB,V.rn,V.rns,Go.Ai.known,V.pz,V.pzs,T.toV,frz1,List.range,List.range.loop,ite_true,ite_false,if_true,if_false,ne_eq,implies_true,forall_const,eq_self,IntKind.bits,upd_tmsS,selT_cons,selT_nil,List.length_map,List.getElem?_map,Int.natCast_nonneg,List.length_append,List.map_append]
      · simp (maxSteps:=9999999)-implicitDefEqProofs only [simprocAttr,QH,Option.isSome,cond_true,cond_false,Option.bind,selB,V.rn,V.rns,Go.Ai.known,V.pz,V.pzs,T.toV,frz1,List.range,List.range.loop,ite_true,ite_false,if_true,if_false,ne_eq,implies_true,forall_const,eq_self,IntKind.bits,upd_tmsS,selT_cons,selT_nil,List.length_map,List.getElem?_map,Int.natCast_nonneg,List.length_append,List.map_append]
      · by_cases hij : i + 1 < j
        · exact hp i a b hij ha hb
        · obtain rfl : i = p := by omega
          rw [hg0] at ha
          rw [← hjp, hg1] at hb
          cases ha
          cases hb
          exact hlt
    | false =>
      have hge2 : decide ((0 : Int) ≤ cmpZ x.v y.v) = true := by rw [hge]; unfold ltMb at hlt; rw [hlt]; rfl
      have hge3 : (0 : Int) ≤ cmpZ x.v y.v := by simpa using hge2
      have hr : risB ltMb L = false := by
        rw [Bool.eq_false_iff]
        intro h
        have := (risB_iff ltMb L).1 h p x y hg0 (by rw [← hjp]; exact hg1)
        rw [hlt] at this
        simp at this
      (have hwq := trivial; repeat' (first | simp (maxSteps:=9999999)-implicitDefEqProofs only [go_sem,simprocAttr,hwq,FT3,FT4,FT27,FT36,FT38,FT65,List.length_map,List.getElem?_map,Int.natCast_nonneg,List.length_append,List.map_append,hjl',hpl',hg0,hg1,wj,wp,hge2,hge3,hr] | (refine condK_split ?_ ?_ <;> intro hwq) | (refine two_split ?_ ?_) | (refine guardK_split ?_ ?_ <;> intro hwq) | (refine guardE_split ?_ ?_ <;> intro hwq) | (refine awp_drawW [] (by decide +kernel) ?_; have hwq := trivial) | (refine draw_plain hc rfl (fun _ => rfl) ?_; have hwq := trivial) | fail))
  · have hjl' : ¬ (j : Int) < (L.length : Int) := by omega
    have hr : risB ltMb L = true := (risB_iff ltMb L).2 fun i x y hx hy => hp i x y (by
      have := (List.getElem?_eq_some_iff.1 hy).1
      omega) hx hy
    (have hwq := trivial; repeat' (first | simp (maxSteps:=9999999)-implicitDefEqProofs only [go_sem,simprocAttr,hwq,FT3,FT4,FT27,FT36,FT38,FT65,List.length_map,List.getElem?_map,Int.natCast_nonneg,List.length_append,List.map_append,hjl',hr] | (refine condK_split ?_ ?_ <;> intro hwq) | (refine two_split ?_ ?_) | (refine guardK_split ?_ ?_ <;> intro hwq) | (refine guardE_split ?_ ?_ <;> intro hwq) | (refine awp_drawW [] (by decide +kernel) ?_; have hwq := trivial) | fail))
def Ri61 (L : List Cr) (k : Nat) (S : St) : Prop :=
  ∃ (j : Nat) (mv : List Nat), S = ⟨tms [(0, csV L), (1, .clo (.func 16) [] []), (5, vI j)], [], mv⟩ ∧ 1 ≤ j ∧ j ≤ L.length + 1 ∧ k = L.length + 1 - j ∧ ∀ i x y, i + 1 < j → L[i]? = some x → L[i + 1]? = some y → ltCr x y = true
theorem pr61 (L : List Cr) (hl : L.length ≤ 100000) : AC Try.prog 35 [csV L, .clo (.func 16) [] []] [] (eqR (vB (risB ltCr L))) := by
  refine AC_plain orders Try.func35 rfl (by kernel_rfl) (by kernel_rfl) Try.ntmps35 (by simp) ?_
  unfold Try.f35
  (have hwq := trivial; repeat' (first | simp (maxSteps:=9999999)-implicitDefEqProofs only [go_sem,simprocAttr,hwq,FT3,FT4,FT26,FT42,FT59] | (refine condK_split ?_ ?_ <;> intro hwq) | (refine two_split ?_ ?_) | (refine guardK_split ?_ ?_ <;> intro hwq) | (refine guardE_split ?_ ?_ <;> intro hwq) | (refine awp_drawW [] (by decide +kernel) ?_; have hwq := trivial) | fail))
  refine awp_loopK (Ri61 L) L.length _ (Weak.cutI 0 [0, 1, 5] ?_ ?_) ⟨1, _, rfl, by omega, by omega, by omega, fun i _ _ h => by omega⟩ ?_
  · simp (maxSteps:=9999999)-implicitDefEqProofs only [simprocAttr,QH,Option.isSome,cond_true,cond_false,Option.bind,selB,V.rn,V.rns,Go.Ai.known,V.pz,V.pzs,T.toV,frz1,List.range,List.range.loop,ite_true,ite_false,if_true,if_false,ne_eq,implies_true,forall_const,eq_self,IntKind.bits,upd_tmsS,selT_cons,selT_nil]
  · simp (maxSteps:=9999999)-implicitDefEqProofs only [simprocAttr,QH,Option.isSome,cond_true,cond_false,Option.bind,selB,V.rn,V.rns,Go.Ai.known,V.pz,V.pzs,T.toV,frz1,List.range,List.range.loop,ite_true,ite_false,if_true,if_false,ne_eq,implies_true,forall_const,eq_self,IntKind.bits,upd_tmsS,selT_cons,selT_nil]
  rintro kk S ⟨j, mv, rfl, hj1, hj, rfl, hp⟩
  obtain ⟨p, hjp⟩ : ∃ p, j = p + 1 := ⟨j - 1, by omega⟩
  have wj : IntKind.i64.wrap ((j : Int) + 1) = (j : Int) + 1 := wI64 _ (by omega) (by omega)
  have wp : IntKind.i64.wrap ((j : Int) - 1) = (p : Int) := by rw [wI64 _ (by omega) (by omega)]; omega
  by_cases hjl : j < L.length
  · have hjl' : (j : Int) < (L.length : Int) := by omega
    have hpl' : (p : Int) < (L.length : Int) := by omega
    have hg0 : L[p]? = some (L[p]'(by omega)) := List.getElem?_eq_getElem (by omega)
    have hg1 : L[j]? = some L[j] := List.getElem?_eq_getElem hjl
    obtain ⟨x, hx⟩ : ∃ x, L[p]'(by omega) = x := ⟨_, rfl⟩
    obtain ⟨y, hy⟩ : ∃ y, L[j] = y := ⟨_, rfl⟩
    rw [hx] at hg0
    rw [hy] at hg1
    have hc := pc41 x y
    have hge := cmpZ_ge x.s y.s
    cases hlt : ltCr x y with
    | true =>
      have hge2 : decide ((0 : Int) ≤ cmpZ x.s y.s) = false := by rw [hge]; unfold ltCr at hlt; rw [hlt]; rfl
      have hge3 : ¬ (0 : Int) ≤ cmpZ x.s y.s := by simpa using hge2
      (have hwq := trivial; repeat' (first | simp (maxSteps:=9999999)-implicitDefEqProofs only [go_sem,simprocAttr,hwq,FT3,FT4,FT26,FT42,FT59,List.length_map,List.getElem?_map,Int.natCast_nonneg,List.length_append,List.map_append,hjl',hpl',hg0,hg1,wj,wp,hge2,hge3] | (refine condK_split ?_ ?_ <;> intro hwq) | (refine two_split ?_ ?_) | (refine guardK_split ?_ ?_ <;> intro hwq) | (refine guardE_split ?_ ?_ <;> intro hwq) | (refine awp_drawW [] (by decide +kernel) ?_; have hwq := trivial) | (refine draw_plain hc rfl (fun _ => rfl) ?_; have hwq := trivial) | fail))
      refine ⟨L.length + 1 - (j + 1), _, by omega, Weak.cutI 0 [0, 1, 5] ?_ ?_, j + 1, _, rfl, by omega, by omega, rfl, fun i a b hi ha hb => ?_⟩
      · simp (maxSteps:=9999999)-implicitDefEqProofs only [simprocAttr,QH,Option.isSome,cond_true,cond_false,Option.bind,selB,V.rn,V.rns,Go.Ai.known,V.pz,V.pzs,T.toV,frz1,List.range,List.range.loop,ite_true,ite_false,if_true,if_false,ne_eq,implies_true,forall_const,eq_self,IntKind.bits,upd_tmsS,selT_cons,selT_nil,List.length_map,List.getElem?_map,Int.natCast_nonneg,List.length_append,List.map_append]
      · simp (maxSteps:=9999999)-implicitDefEqProofs only [simprocAttr,QH,Option.isSome,cond_true,cond_false,Option.bind,selB,V.rn,V.rns,Go.Ai.known,V.pz,V.pzs,T.toV,frz1,List.range,List.range.loop,ite_true,ite_false,if_true,if_false,ne_eq,implies_true,forall_const,eq_self,IntKind.bits,upd_tmsS,selT_cons,selT_nil,List.length_map,List.getElem?_map,Int.natCast_nonneg,List.length_append,List.map_append]
      · by_cases hij : i + 1 < j
        · exact hp i a b hij ha hb
        · obtain rfl : i = p := by omega
          rw [hg0] at ha
          rw [← hjp, hg1] at hb
          cases ha
          cases hb
          exact hlt
    | false =>
      have hge2 : decide ((0 : Int) ≤ cmpZ x.s y.s) = true := by rw [hge]; unfold ltCr at hlt; rw [hlt]; rfl
      have hge3 : (0 : Int) ≤ cmpZ x.s y.s := by simpa using hge2
      have hr : risB ltCr L = false := by
        rw [Bool.eq_false_iff]
        intro h
        have := (risB_iff ltCr L).1 h p x y hg0 (by rw [← hjp]; exact hg1)
        rw [hlt] at this
        simp at this
      (have hwq := trivial; repeat' (first | simp (maxSteps:=9999999)-implicitDefEqProofs only [go_sem,simprocAttr,hwq,FT3,FT4,FT26,FT42,FT59,List.length_map,List.getElem?_map,Int.natCast_nonneg,List.length_append,List.map_append,hjl',hpl',hg0,hg1,wj,wp,hge2,hge3,hr] | (refine condK_split ?_ ?_ <;> intro hwq) | (refine two_split ?_ ?_) | (refine guardK_split ?_ ?_ <;> intro hwq) | (refine guardE_split ?_ ?_ <;> intro hwq) | (refine awp_drawW [] (by decide +kernel) ?_; have hwq := trivial) | (refine draw_plain hc rfl (fun _ => rfl) ?_; have hwq := trivial) | fail))
  · have hjl' : ¬ (j : Int) < (L.length : Int) := by omega
    have hr : risB ltCr L = true := (risB_iff ltCr L).2 fun i x y hx hy => hp i x y (by
      have := (List.getElem?_eq_some_iff.1 hy).1
      omega) hx hy
    (have hwq := trivial; repeat' (first | simp (maxSteps:=9999999)-implicitDefEqProofs only [go_sem,simprocAttr,hwq,FT3,FT4,FT26,FT42,FT59,List.length_map,List.getElem?_map,Int.natCast_nonneg,List.length_append,List.map_append,hjl',hr] | (refine condK_split ?_ ?_ <;> intro hwq) | (refine two_split ?_ ?_) | (refine guardK_split ?_ ?_ <;> intro hwq) | (refine guardE_split ?_ ?_ <;> intro hwq) | (refine awp_drawW [] (by decide +kernel) ?_; have hwq := trivial) | fail))
def Ri62 (L : List Mp) (k : Nat) (S : St) : Prop :=
  ∃ (j : Nat) (mv : List Nat), S = ⟨tms [(0, msV L), (1, .clo (.func 11) [] []), (5, vI j)], [], mv⟩ ∧ 1 ≤ j ∧ j ≤ L.length + 1 ∧ k = L.length + 1 - j ∧ ∀ i x y, i + 1 < j → L[i]? = some x → L[i + 1]? = some y → beforeB x y = true
theorem pr62 (L : List Mp) (hl : L.length ≤ 100000) : AC Try.prog 36 [msV L, .clo (.func 11) [] []] [] (eqR (vB (risB beforeB L))) := by
  refine AC_plain orders Try.func36 rfl (by kernel_rfl) (by kernel_rfl) Try.ntmps36 (by simp) ?_
  unfold Try.f36
  (have hwq := trivial; repeat' (first | simp (maxSteps:=9999999)-implicitDefEqProofs only [go_sem,simprocAttr,hwq,FT3,FT4,FT25,FT40,FT55] | (refine condK_split ?_ ?_ <;> intro hwq) | (refine two_split ?_ ?_) | (refine guardK_split ?_ ?_ <;> intro hwq) | (refine guardE_split ?_ ?_ <;> intro hwq) | (refine awp_drawW [] (by decide +kernel) ?_; have hwq := trivial) | fail))
  refine awp_loopK (Ri62 L) L.length _ (Weak.cutI 0 [0, 1, 5] ?_ ?_) ⟨1, _, rfl, by omega, by omega, by omega, fun i _ _ h => by omega⟩ ?_
  · simp (maxSteps:=9999999)-implicitDefEqProofs only [simprocAttr,QH,Option.isSome,cond_true,cond_false,Option.bind,selB,V.rn,V.rns,Go.Ai.known,V.pz,V.pzs,T.toV,frz1,List.range,List.range.loop,ite_true,ite_false,if_true,if_false,ne_eq,implies_true,forall_const,eq_self,IntKind.bits,upd_tmsS,selT_cons,selT_nil]
  · simp (maxSteps:=9999999)-implicitDefEqProofs only [simprocAttr,QH,Option.isSome,cond_true,cond_false,Option.bind,selB,V.rn,V.rns,Go.Ai.known,V.pz,V.pzs,T.toV,frz1,List.range,List.range.loop,ite_true,ite_false,if_true,if_false,ne_eq,implies_true,forall_const,eq_self,IntKind.bits,upd_tmsS,selT_cons,selT_nil]
  rintro kk S ⟨j, mv, rfl, hj1, hj, rfl, hp⟩
  obtain ⟨p, hjp⟩ : ∃ p, j = p + 1 := ⟨j - 1, by omega⟩
  have wj : IntKind.i64.wrap ((j : Int) + 1) = (j : Int) + 1 := wI64 _ (by omega) (by omega)
  have wp : IntKind.i64.wrap ((j : Int) - 1) = (p : Int) := by rw [wI64 _ (by omega) (by omega)]; omega
  by_cases hjl : j < L.length
  · have hjl' : (j : Int) < (L.length : Int) := by omega
    have hpl' : (p : Int) < (L.length : Int) := by omega
    have hg0 : L[p]? = some (L[p]'(by omega)) := List.getElem?_eq_getElem (by omega)
    have hg1 : L[j]? = some L[j] := List.getElem?_eq_getElem hjl
    obtain ⟨x, hx⟩ : ∃ x, L[p]'(by omega) = x := ⟨_, rfl⟩
    obtain ⟨y, hy⟩ : ∃ y, L[j] = y := ⟨_, rfl⟩
    rw [hx] at hg0
    rw [hy] at hg1
    have hc := pc36 x y
    have hge := cmpMp_ge x y
    cases hlt : beforeB x y with
    | true =>
      have hge2 : decide ((0 : Int) ≤ cmpMp x y) = false := by rw [hge]; rw [hlt]; rfl
      have hge3 : ¬ (0 : Int) ≤ cmpMp x y := by simpa using hge2
      (have hwq := trivial; repeat' (first | simp (maxSteps:=9999999)-implicitDefEqProofs only [go_sem,simprocAttr,hwq,FT3,FT4,FT25,FT40,FT55,List.length_map,List.getElem?_map,Int.natCast_nonneg,List.length_append,List.map_append,hjl',hpl',hg0,hg1,wj,wp,hge2,hge3] | (refine condK_split ?_ ?_ <;> intro hwq) | (refine two_split ?_ ?_) | (refine guardK_split ?_ ?_ <;> intro hwq) | (refine guardE_split ?_ ?_ <;> intro hwq) | (refine awp_drawW [] (by decide +kernel) ?_; have hwq := trivial) | (refine draw_plain hc rfl (fun _ => rfl) ?_; have hwq := trivial) | fail))
      refine ⟨L.length + 1 - (j + 1), _, by omega, Weak.cutI 0 [0, 1, 5] ?_ ?_, j + 1, _, rfl, by omega, by omega, rfl, fun i a b hi ha hb => ?_⟩
      · simp (maxSteps:=9999999)-implicitDefEqProofs only [simprocAttr,QH,Option.isSome,cond_true,cond_false,Option.bind,selB,V.rn,V.rns,Go.Ai.known,V.pz,V.pzs,T.toV,frz1,List.range,List.range.loop,ite_true,ite_false,if_true,if_false,ne_eq,implies_true,forall_const,eq_self,IntKind.bits,upd_tmsS,selT_cons,selT_nil,List.length_map,List.getElem?_map,Int.natCast_nonneg,List.length_append,List.map_append]
      · simp (maxSteps:=9999999)-implicitDefEqProofs only [simprocAttr,QH,Option.isSome,cond_true,cond_false,Option.bind,selB,V.rn,V.rns,Go.Ai.known,V.pz,V.pzs,T.toV,frz1,List.range,List.range.loop,ite_true,ite_false,if_true,if_false,ne_eq,implies_true,forall_const,eq_self,IntKind.bits,upd_tmsS,selT_cons,selT_nil,List.length_map,List.getElem?_map,Int.natCast_nonneg,List.length_append,List.map_append]
      · by_cases hij : i + 1 < j
        · exact hp i a b hij ha hb
        · obtain rfl : i = p := by omega
          rw [hg0] at ha
          rw [← hjp, hg1] at hb
          cases ha
          cases hb
          exact hlt
    | false =>
      have hge2 : decide ((0 : Int) ≤ cmpMp x y) = true := by rw [hge]; rw [hlt]; rfl
      have hge3 : (0 : Int) ≤ cmpMp x y := by simpa using hge2
      have hr : risB beforeB L = false := by
        rw [Bool.eq_false_iff]
        intro h
        have := (risB_iff beforeB L).1 h p x y hg0 (by rw [← hjp]; exact hg1)
        rw [hlt] at this
        simp at this
      (have hwq := trivial; repeat' (first | simp (maxSteps:=9999999)-implicitDefEqProofs only [go_sem,simprocAttr,hwq,FT3,FT4,FT25,FT40,FT55,List.length_map,List.getElem?_map,Int.natCast_nonneg,List.length_append,List.map_append,hjl',hpl',hg0,hg1,wj,wp,hge2,hge3,hr] | (refine condK_split ?_ ?_ <;> intro hwq) | (refine two_split ?_ ?_) | (refine guardK_split ?_ ?_ <;> intro hwq) | (refine guardE_split ?_ ?_ <;> intro hwq) | (refine awp_drawW [] (by decide +kernel) ?_; have hwq := trivial) | (refine draw_plain hc rfl (fun _ => rfl) ?_; have hwq := trivial) | fail))
  · have hjl' : ¬ (j : Int) < (L.length : Int) := by omega
    have hr : risB beforeB L = true := (risB_iff beforeB L).2 fun i x y hx hy => hp i x y (by
      have := (List.getElem?_eq_some_iff.1 hy).1
      omega) hx hy
    (have hwq := trivial; repeat' (first | simp (maxSteps:=9999999)-implicitDefEqProofs only [go_sem,simprocAttr,hwq,FT3,FT4,FT25,FT40,FT55,List.length_map,List.getElem?_map,Int.natCast_nonneg,List.length_append,List.map_append,hjl',hr] | (refine condK_split ?_ ?_ <;> intro hwq) | (refine two_split ?_ ?_) | (refine guardK_split ?_ ?_ <;> intro hwq) | (refine guardE_split ?_ ?_ <;> intro hwq) | (refine awp_drawW [] (by decide +kernel) ?_; have hwq := trivial) | fail))
def Ri124 (L : List Int) (k : Nat) (S : St) : Prop :=
  ∃ (j : Nat) (mv : List Nat), S = ⟨tms [(0, isV L), (1, .clo (.func 55) [] []), (5, vI j)], [], mv⟩ ∧ 1 ≤ j ∧ j ≤ L.length + 1 ∧ k = L.length + 1 - j ∧ ∀ i x y, i + 1 < j → L[i]? = some x → L[i + 1]? = some y → ltI x y = true
theorem pr124 (L : List Int) (hl : L.length ≤ 100000) : AC Try.prog 74 [isV L, .clo (.func 55) [] []] [] (eqR (vB (risB ltI L))) := by
  refine AC_plain orders Try.func74 rfl (by kernel_rfl) (by kernel_rfl) Try.ntmps74 (by simp) ?_
  unfold Try.f74
  (have hwq := trivial; repeat' (first | simp (maxSteps:=9999999)-implicitDefEqProofs only [go_sem,simprocAttr,hwq,FT3,FT4,FT36,FT94] | (refine condK_split ?_ ?_ <;> intro hwq) | (refine two_split ?_ ?_) | (refine guardK_split ?_ ?_ <;> intro hwq) | (refine guardE_split ?_ ?_ <;> intro hwq) | (refine awp_drawW [] (by decide +kernel) ?_; have hwq := trivial) | fail))
  refine awp_loopK (Ri124 L) L.length _ (Weak.cutI 0 [0, 1, 5] ?_ ?_) ⟨1, _, rfl, by omega, by omega, by omega, fun i _ _ h => by omega⟩ ?_
  · simp (maxSteps:=9999999)-implicitDefEqProofs only [simprocAttr,QH,Option.isSome,cond_true,cond_false,Option.bind,selB,V.rn,V.rns,Go.Ai.known,V.pz,V.pzs,T.toV,frz1,List.range,List.range.loop,ite_true,ite_false,if_true,if_false,ne_eq,implies_true,forall_const,eq_self,IntKind.bits,upd_tmsS,selT_cons,selT_nil]
  · simp (maxSteps:=9999999)-implicitDefEqProofs only [simprocAttr,QH,Option.isSome,cond_true,cond_false,Option.bind,selB,V.rn,V.rns,Go.Ai.known,V.pz,V.pzs,T.toV,frz1,List.range,List.range.loop,ite_true,ite_false,if_true,if_false,ne_eq,implies_true,forall_const,eq_self,IntKind.bits,upd_tmsS,selT_cons,selT_nil]
  rintro kk S ⟨j, mv, rfl, hj1, hj, rfl, hp⟩
  obtain ⟨p, hjp⟩ : ∃ p, j = p + 1 := ⟨j - 1, by omega⟩
  have wj : IntKind.i64.wrap ((j : Int) + 1) = (j : Int) + 1 := wI64 _ (by omega) (by omega)
  have wp : IntKind.i64.wrap ((j : Int) - 1) = (p : Int) := by rw [wI64 _ (by omega) (by omega)]; omega
  by_cases hjl : j < L.length
  · have hjl' : (j : Int) < (L.length : Int) := by omega
    have hpl' : (p : Int) < (L.length : Int) := by omega
    have hg0 : L[p]? = some (L[p]'(by omega)) := List.getElem?_eq_getElem (by omega)
    have hg1 : L[j]? = some L[j] := List.getElem?_eq_getElem hjl
    obtain ⟨x, hx⟩ : ∃ x, L[p]'(by omega) = x := ⟨_, rfl⟩
    obtain ⟨y, hy⟩ : ∃ y, L[j] = y := ⟨_, rfl⟩
    rw [hx] at hg0
    rw [hy] at hg1
    have hc := pc102 x y
    have hge := cmpZ_ge x y
    cases hlt : ltI x y with
    | true =>
      have hge2 : decide ((0 : Int) ≤ cmpZ x y) = false := by rw [hge]; unfold ltI at hlt; rw [hlt]; rfl
      have hge3 : ¬ (0 : Int) ≤ cmpZ x y := by simpa using hge2
      (have hwq := trivial; repeat' (first | simp (maxSteps:=9999999)-implicitDefEqProofs only [go_sem,simprocAttr,hwq,FT3,FT4,FT36,FT94,List.length_map,List.getElem?_map,Int.natCast_nonneg,List.length_append,List.map_append,hjl',hpl',hg0,hg1,wj,wp,hge2,hge3] | (refine condK_split ?_ ?_ <;> intro hwq) | (refine two_split ?_ ?_) | (refine guardK_split ?_ ?_ <;> intro hwq) | (refine guardE_split ?_ ?_ <;> intro hwq) | (refine awp_drawW [] (by decide +kernel) ?_; have hwq := trivial) | (refine draw_plain hc rfl (fun _ => rfl) ?_; have hwq := trivial) | fail))
      refine ⟨L.length + 1 - (j + 1), _, by omega, Weak.cutI 0 [0, 1, 5] ?_ ?_, j + 1, _, rfl, by omega, by omega, rfl, fun i a b hi ha hb => ?_⟩
      · simp (maxSteps:=9999999)-implicitDefEqProofs only [simprocAttr,QH,Option.isSome,cond_true,cond_false,Option.bind,selB,V.rn,V.rns,Go.Ai.known,V.pz,V.pzs,T.toV,frz1,List.range,List.range.loop,ite_true,ite_false,if_true,if_false,ne_eq,implies_true,forall_const,eq_self,IntKind.bits,upd_tmsS,selT_cons,selT_nil,List.length_map,List.getElem?_map,Int.natCast_nonneg,List.length_append,List.map_append]
      · simp (maxSteps:=9999999)-implicitDefEqProofs only [simprocAttr,QH,Option.isSome,cond_true,cond_false,Option.bind,selB,V.rn,V.rns,Go.Ai.known,V.pz,V.pzs,T.toV,frz1,List.range,List.range.loop,ite_true,ite_false,if_true,if_false,ne_eq,implies_true,forall_const,eq_self,IntKind.bits,upd_tmsS,selT_cons,selT_nil,List.length_map,List.getElem?_map,Int.natCast_nonneg,List.length_append,List.map_append]
      · by_cases hij : i + 1 < j
        · exact hp i a b hij ha hb
        · obtain rfl : i = p := by omega
          rw [hg0] at ha
          rw [← hjp, hg1] at hb
          cases ha
          cases hb
          exact hlt
    | false =>
      have hge2 : decide ((0 : Int) ≤ cmpZ x y) = true := by rw [hge]; unfold ltI at hlt; rw [hlt]; rfl
      have hge3 : (0 : Int) ≤ cmpZ x y := by simpa using hge2
      have hr : risB ltI L = false := by
        rw [Bool.eq_false_iff]
        intro h
        have := (risB_iff ltI L).1 h p x y hg0 (by rw [← hjp]; exact hg1)
        rw [hlt] at this
        simp at this
      (have hwq := trivial; repeat' (first | simp (maxSteps:=9999999)-implicitDefEqProofs only [go_sem,simprocAttr,hwq,FT3,FT4,FT36,FT94,List.length_map,List.getElem?_map,Int.natCast_nonneg,List.length_append,List.map_append,hjl',hpl',hg0,hg1,wj,wp,hge2,hge3,hr] | (refine condK_split ?_ ?_ <;> intro hwq) | (refine two_split ?_ ?_) | (refine guardK_split ?_ ?_ <;> intro hwq) | (refine guardE_split ?_ ?_ <;> intro hwq) | (refine awp_drawW [] (by decide +kernel) ?_; have hwq := trivial) | (refine draw_plain hc rfl (fun _ => rfl) ?_; have hwq := trivial) | fail))
  · have hjl' : ¬ (j : Int) < (L.length : Int) := by omega
    have hr : risB ltI L = true := (risB_iff ltI L).2 fun i x y hx hy => hp i x y (by
      have := (List.getElem?_eq_some_iff.1 hy).1
      omega) hx hy
    (have hwq := trivial; repeat' (first | simp (maxSteps:=9999999)-implicitDefEqProofs only [go_sem,simprocAttr,hwq,FT3,FT4,FT36,FT94,List.length_map,List.getElem?_map,Int.natCast_nonneg,List.length_append,List.map_append,hjl',hr] | (refine condK_split ?_ ?_ <;> intro hwq) | (refine two_split ?_ ?_) | (refine guardK_split ?_ ?_ <;> intro hwq) | (refine guardE_split ?_ ?_ <;> intro hwq) | (refine awp_drawW [] (by decide +kernel) ?_; have hwq := trivial) | fail))
end Go.Ai

set_option linter.unusedVariables false
set_option linter.unusedSimpArgs false
set_option maxHeartbeats 4000000
set_option maxRecDepth 100000
namespace Go.Ai
open Go.Proofs
attribute [local go_sem] QH QR V.noimm V.noimms frzZs frzZ frzA frzV frzVs frzBox boxLen Option.isSome cond_true cond_false aopD calW flatV stepX amap stepY alookup afind aupdate adelete amlen arange ameq mapOf akeq pl V.mapT V.mapTs Option.bind stepK runK guardD stepE runD callD compact selB callK evS ofVal ofVals scalar aop ares mkRes V.rn V.rns V.cells? cellsAt Go.Ai.part aload astore setL V.atom abin aun intBin shiftBin aconv fieldOf aindexAddr aindex bound? aslice aarr abuild afill alen nilP nilS nilF aeq eqCells eqCell Go.Ai.known strBin abuiltin aappend abuildSlice arowsFill amakeSlice acopy aclear minmax rowsOf numsT notStr isIntD isByte V.pz V.pzs T.toV frz1 frz scalT scalTs chunkT List.range List.range.loop ite_true ite_false if_true if_false ne_eq implies_true forall_const eq_self IntKind.bits kPostKF_ret kPostKF_normal kPostX_ret kPostX_normal bsl nil2K nil2 kPostFW_ret kPostFW_normal kPostKM_ret kPostKM_normal kPostXK_ret kPostXK_normal
theorem flat_int (n : Int) : FlatB (.box [vI n] false) := ⟨fun f => by simp [mapT_box, V.mapTs, V.mapT], fun f => by simp [Blk.rn, V.rns, V.rn], fun m => by simp [Blk.pz, V.pzs, V.pz]⟩
theorem flat_pv (p : Pv) : FlatB (bxP p) := ⟨fun f => by simp [mapT_box, V.mapTs, V.mapT], fun f => by simp [Blk.rn, V.rns, V.rn], fun m => by simp [Blk.pz, V.pzs, V.pz]⟩
abbrev bxMp (m : Mp) : Blk := .box [vI m.p, vI m.v, vI m.s] false
theorem flat_mp (m : Mp) : FlatB (bxMp m) := ⟨fun f => by simp [mapT_box, V.mapTs, V.mapT], fun f => by simp [Blk.rn, V.rns, V.rn], fun m => by simp [Blk.pz, V.pzs, V.pz]⟩
theorem pk64 (x : Int) : AC Try.prog 38 [vI x] [] (eqR (vB (x != 1 && x != 2))) := by
  refine AC_plain orders Try.func38 rfl (by kernel_rfl) (by kernel_rfl) Try.ntmps38 (by simp) ?_
  unfold Try.f38
  (have hwq := trivial; repeat' (first | simp (maxSteps:=9999999)-implicitDefEqProofs only [go_sem,simprocAttr,hwq,FT4,FT31] | (refine awpL_loop 18 ?_; have hwq := trivial) | (refine condK_split ?_ ?_ <;> intro hwq) | (refine two_split ?_ ?_) | (refine guardK_split ?_ ?_ <;> intro hwq) | (refine guardE_split ?_ ?_ <;> intro hwq) | (refine awp_drawW [] (by decide +kernel) ?_; have hwq := trivial) | fail))
  all_goals simp_all
theorem pk113 (x : Mb) (n : Int) : AC Try.prog 66 [mbV x, .ptr 0 0 0] [.box [vI n] false] (eqS (vB (x.v == n)) [.box [vI n] false]) := by
  refine AC_heap orders [0] Try.func66 rfl (by kernel_rfl) (by kernel_rfl) Try.ntmps66 (by simp) ?_
  unfold Try.f66
  (have hwq := trivial; repeat' (first | simp (maxSteps:=9999999)-implicitDefEqProofs only [go_sem,simprocAttr,hwq,FT3,FT4,FT36,FT38] | (refine awpL_loop 18 ?_; have hwq := trivial) | (refine condK_split ?_ ?_ <;> intro hwq) | (refine two_split ?_ ?_) | (refine guardK_split ?_ ?_ <;> intro hwq) | (refine guardE_split ?_ ?_ <;> intro hwq) | (refine awp_drawW [] (by decide +kernel) ?_; have hwq := trivial) | fail))
theorem pk127 (x : Cr) (n : Int) : AC Try.prog 77 [crV x, .ptr 0 0 0] [.box [vI n] false] (eqS (vB (x.s == n)) [.box [vI n] false]) := by
  refine AC_heap orders [0] Try.func77 rfl (by kernel_rfl) (by kernel_rfl) Try.ntmps77 (by simp) ?_
  unfold Try.f77
  (have hwq := trivial; repeat' (first | simp (maxSteps:=9999999)-implicitDefEqProofs only [go_sem,simprocAttr,hwq,FT3,FT4,FT42] | (refine awpL_loop 18 ?_; have hwq := trivial) | (refine condK_split ?_ ?_ <;> intro hwq) | (refine two_split ?_ ?_) | (refine guardK_split ?_ ?_ <;> intro hwq) | (refine guardE_split ?_ ?_ <;> intro hwq) | (refine awp_drawW [] (by decide +kernel) ?_; have hwq := trivial) | fail))
theorem pk79 (x : Mp) (n m : Int) : AC Try.prog 70 [mpV x, .ptr 0 0 0, .ptr 1 0 0] [.box [vI n] false, .box [vI m] false] (eqS (vB (x.p == n && x.v == m)) [.box [vI n] false, .box [vI m] false]) := by
  refine AC_heap orders [0, 1] Try.func70 rfl (by kernel_rfl) (by kernel_rfl) Try.ntmps70 (by simp) ?_
  unfold Try.f70
  (have hwq := trivial; repeat' (first | simp (maxSteps:=9999999)-implicitDefEqProofs only [go_sem,simprocAttr,hwq,FT3,FT4,FT40] | (refine awpL_loop 18 ?_; have hwq := trivial) | (refine condK_split ?_ ?_ <;> intro hwq) | (refine two_split ?_ ?_) | (refine guardK_split ?_ ?_ <;> intro hwq) | (refine guardE_split ?_ ?_ <;> intro hwq) | (refine awp_drawW [] (by decide +kernel) ?_; have hwq := trivial) | fail))
  all_goals simp_all
theorem pk73 (x m : Mp) : AC Try.prog 47 [mpV x, .ptr 0 0 0] [bxMp m] (eqS (vB (x.p == m.p && x.s == m.s)) [bxMp m]) := by
  refine AC_heap orders [0] Try.func47 rfl (by kernel_rfl) (by kernel_rfl) Try.ntmps47 (by simp) ?_
  unfold Try.f47
  (have hwq := trivial; repeat' (first | simp (maxSteps:=9999999)-implicitDefEqProofs only [go_sem,simprocAttr,hwq,FT3,FT4,FT40] | (refine awpL_loop 18 ?_; have hwq := trivial) | (refine condK_split ?_ ?_ <;> intro hwq) | (refine two_split ?_ ?_) | (refine guardK_split ?_ ?_ <;> intro hwq) | (refine guardE_split ?_ ?_ <;> intro hwq) | (refine awp_drawW [] (by decide +kernel) ?_; have hwq := trivial) | fail))
  all_goals simp_all
theorem pk97 (x m : Mp) : AC Try.prog 50 [mpV x, .ptr 0 0 0] [bxMp m] (eqS (vB (x.p == m.p && (x.v == m.v || x.s == m.s))) [bxMp m]) := by
  refine AC_heap orders [0] Try.func50 rfl (by kernel_rfl) (by kernel_rfl) Try.ntmps50 (by simp) ?_
  unfold Try.f50
  (have hwq := trivial; repeat' (first | simp (maxSteps:=9999999)-implicitDefEqProofs only [go_sem,simprocAttr,hwq,FT3,FT4,FT40] | (refine awpL_loop 18 ?_; have hwq := trivial) | (refine condK_split ?_ ?_ <;> intro hwq) | (refine two_split ?_ ?_) | (refine guardK_split ?_ ?_ <;> intro hwq) | (refine guardE_split ?_ ?_ <;> intro hwq) | (refine awp_drawW [] (by decide +kernel) ?_; have hwq := trivial) | fail))
  all_goals simp_all
def hasM (bs : List Mb) (n : Int) : Bool := bs.any fun x => x.v == n
def hasC (cs : List Cr) (n : Int) : Bool := cs.any fun x => x.s == n
def okL (p : Pv) : Prop := p.ks.length ≤ 1000 ∧ p.ms.length ≤ 1000 ∧ p.cs.length ≤ 1000 ∧ p.bs.length ≤ 1000 ∧ ∀ b ∈ p.bs, b.l.length ≤ 1000
theorem pc48 (p : Pv) (hp : okL p) (n : Int) : AC Try.prog 24 [pvV p, vI n] [] (eqR (vB (hasM p.bs n))) := by
  have h := pcf65 66 _ (flat_int n) (fun x => x.v == n) p.bs (by have := hp.2.2.2.1; omega) (fun x _ => pk113 x n)
  unfold hasM
  refine AC_plain orders Try.func24 rfl (by kernel_rfl) (by kernel_rfl) Try.ntmps24 (by simp) ?_
  unfold Try.f24
  (have hwq := trivial; repeat' (first | simp (maxSteps:=9999999)-implicitDefEqProofs only [go_sem,simprocAttr,hwq,FT3,FT4,FT5,FT23,FT24,FT25,FT26,FT27,FT29,FT31,FT36,FT38,FT40,FT42,FT84] | (refine awpL_loop 18 ?_; have hwq := trivial) | (refine condK_split ?_ ?_ <;> intro hwq) | (refine two_split ?_ ?_) | (refine guardK_split ?_ ?_ <;> intro hwq) | (refine guardE_split ?_ ?_ <;> intro hwq) | (refine awp_drawW [] (by decide +kernel) ?_; have hwq := trivial) | (refine call_at [1] h (by simp) (by decide) rfl rfl (by simp [mapT_box, V.mapTs, V.mapT, pl]) (by simp [V.les, V.le, V.mapTs, V.mapT, pl]) ?_; have hwq := trivial) | fail))
theorem pc75 (p : Pv) (hp : okL p) (n : Int) : AC Try.prog 49 [pvV p, vI n] [] (eqR (vB (hasC p.cs n))) := by
  have h := pcf69 77 _ (flat_int n) (fun x => x.s == n) p.cs (by have := hp.2.2.1; omega) (fun x _ => pk127 x n)
  unfold hasC
  refine AC_plain orders Try.func49 rfl (by kernel_rfl) (by kernel_rfl) Try.ntmps49 (by simp) ?_
  unfold Try.f49
  (have hwq := trivial; repeat' (first | simp (maxSteps:=9999999)-implicitDefEqProofs only [go_sem,simprocAttr,hwq,FT3,FT4,FT5,FT23,FT24,FT25,FT26,FT27,FT29,FT31,FT36,FT38,FT40,FT42,FT86] | (refine awpL_loop 18 ?_; have hwq := trivial) | (refine condK_split ?_ ?_ <;> intro hwq) | (refine two_split ?_ ?_) | (refine guardK_split ?_ ?_ <;> intro hwq) | (refine guardE_split ?_ ?_ <;> intro hwq) | (refine awp_drawW [] (by decide +kernel) ?_; have hwq := trivial) | (refine call_at [1] h (by simp) (by decide) rfl rfl (by simp [mapT_box, V.mapTs, V.mapT, pl]) (by simp [V.les, V.le, V.mapTs, V.mapT, pl]) ?_; have hwq := trivial) | fail))
/-- What is wrong with a VLAN's ports. -/
def portsE (ks : List Int) (l : List Int) : Int := if risB ltI l = true then (if (l.any fun x => kindP ks x == 0) = true then 5 else if (l.any fun x => kindP ks x != 2) = true then 184 else 0) else 1
def PoI (p : Pv) (l : List Int) (n : Nat) (S : St) : Prop :=
  ∃ (j : Nat) (mv : List Nat), S = ⟨tms [(1, isV l), (2, .ptr 0 0 0), (12, isV l), (13, vI l.length), (14, vI j)], [bxP p], mv⟩ ∧ j ≤ l.length ∧ n = l.length - j ∧ ∀ x ∈ l.take j, (kindP p.ks x == 0) = false
def PoJ (p : Pv) (l : List Int) (n : Nat) (S : St) : Prop :=
  ∃ (j : Nat) (mv : List Nat), S = ⟨tms [(2, .ptr 0 0 0), (23, isV l), (24, vI l.length), (25, vI j)], [bxP p], mv⟩ ∧ j ≤ l.length ∧ n = l.length - j ∧ ∀ x ∈ l.take j, (kindP p.ks x != 2) = false
theorem any_some {α : Type} {q : α → Bool} {L : List α} {j : Nat} {x : α} (hg : L[j]? = some x) (h : q x = true) : L.any q = true := List.any_eq_true.2 ⟨x, mem_in hg, h⟩
theorem any_none {α : Type} {q : α → Bool} {L : List α} (h : ∀ x ∈ L, q x = false) : L.any q = false := by rw [List.any_eq_false]; intro x hx; simp [h x hx]
theorem take_more {α : Type} {q : α → Bool} {L : List α} {j : Nat} {x : α} (hno : ∀ y ∈ L.take j, q y = false) (hg : L[j]? = some x) (hx : q x = false) : ∀ y ∈ L.take (j + 1), q y = false := ix_more hno hg hx
theorem pc68 (p : Pv) (hp : okL p) (l : List Int) (hl : l.length ≤ 1000) : AC Try.prog 42 [pvV p, isV l] [] (eqR (vI (portsE p.ks l))) := by
  have h1 := pr124 l (by omega)
  have hk := fun x => pc74 p (by have := hp.1; omega) x
  refine AC_plain orders Try.func42 rfl (by kernel_rfl) (by kernel_rfl) Try.ntmps42 (by simp) ?_
  unfold Try.f42
  cases hr : risB ltI l with
  | false =>
    rw [hr] at h1
    have he : portsE p.ks l = 1 := by unfold portsE; rw [hr]; rfl
    rw [he]
    (have hwq := trivial; repeat' (first | simp (maxSteps:=9999999)-implicitDefEqProofs only [go_sem,simprocAttr,hwq,FT3,FT4,FT5,FT23,FT24,FT25,FT26,FT27,FT29,FT31,FT32,FT36,FT38,FT40,FT42,FT94] | (refine awpL_loop 18 ?_; have hwq := trivial) | (refine condK_split ?_ ?_ <;> intro hwq) | (refine two_split ?_ ?_) | (refine guardK_split ?_ ?_ <;> intro hwq) | (refine guardE_split ?_ ?_ <;> intro hwq) | (refine awp_drawW [] (by decide +kernel) ?_; have hwq := trivial) | (refine call_plain h1 rfl rfl ?_; have hwq := trivial) | fail))
  | true =>
    rw [hr] at h1
    (have hwq := trivial; repeat' (first | simp (maxSteps:=9999999)-implicitDefEqProofs only [go_sem,simprocAttr,hwq,FT3,FT4,FT5,FT23,FT24,FT25,FT26,FT27,FT29,FT31,FT32,FT36,FT38,FT40,FT42,FT94] | (refine condK_split ?_ ?_ <;> intro hwq) | (refine two_split ?_ ?_) | (refine guardK_split ?_ ?_ <;> intro hwq) | (refine guardE_split ?_ ?_ <;> intro hwq) | (refine awp_drawW [] (by decide +kernel) ?_; have hwq := trivial) | (refine call_plain h1 rfl rfl ?_; have hwq := trivial) | fail))
    refine awp_loopK (PoI p l) l.length _ (Weak.cutI 1 [1, 2, 12, 13, 14] ?_ ?_) ⟨0, _, rfl, by omega, rfl, by simp⟩ ?_
    · simp (maxSteps:=9999999)-implicitDefEqProofs only [simprocAttr,QH,Option.isSome,cond_true,cond_false,Option.bind,selB,V.rn,V.rns,Go.Ai.known,V.pz,V.pzs,T.toV,frz1,List.range,List.range.loop,ite_true,ite_false,if_true,if_false,ne_eq,implies_true,forall_const,eq_self,IntKind.bits,upd_tmsS,selT_cons,selT_nil,List.length_map,List.getElem?_map,Int.natCast_nonneg,List.length_append,List.map_append]
    · simp (maxSteps:=9999999)-implicitDefEqProofs only [simprocAttr,QH,Option.isSome,cond_true,cond_false,Option.bind,selB,V.rn,V.rns,Go.Ai.known,V.pz,V.pzs,T.toV,frz1,List.range,List.range.loop,ite_true,ite_false,if_true,if_false,ne_eq,implies_true,forall_const,eq_self,IntKind.bits,upd_tmsS,selT_cons,selT_nil]
    rintro kk S ⟨j, mv, rfl, hj, rfl, hno⟩
    have wj : IntKind.i64.wrap ((j : Int) + 1) = (j : Int) + 1 := wI64 _ (by omega) (by omega)
    by_cases hjl : j < l.length
    · have hjl' : (j : Int) < (l.length : Int) := by omega
      have hgj : l[j]? = some l[j] := List.getElem?_eq_getElem hjl
      obtain ⟨x, hx⟩ : ∃ x, l[j] = x := ⟨_, rfl⟩
      rw [hx] at hgj
      have hkx := hk x
      cases hq : (kindP p.ks x == 0) with
      | true =>
        have he : portsE p.ks l = 5 := by
          unfold portsE
          rw [hr, any_some (q := fun x => kindP p.ks x == 0) hgj hq]
          rfl
        rw [he]
        (have hwq := trivial; repeat' (first | simp (maxSteps:=9999999)-implicitDefEqProofs only [go_sem,simprocAttr,hwq,FT3,FT4,FT5,FT23,FT24,FT25,FT26,FT27,FT29,FT31,FT32,FT36,FT38,FT40,FT42,FT94,List.length_map,List.getElem?_map,Int.natCast_nonneg,List.length_append,List.map_append,hjl',hgj,wj,hq] | (refine condK_split ?_ ?_ <;> intro hwq) | (refine two_split ?_ ?_) | (refine guardK_split ?_ ?_ <;> intro hwq) | (refine guardE_split ?_ ?_ <;> intro hwq) | (refine awp_drawW [] (by decide +kernel) ?_; have hwq := trivial) | (refine call_plain hkx rfl rfl ?_; have hwq := trivial) | fail))
      | false =>
        (have hwq := trivial; repeat' (first | simp (maxSteps:=9999999)-implicitDefEqProofs only [go_sem,simprocAttr,hwq,FT3,FT4,FT5,FT23,FT24,FT25,FT26,FT27,FT29,FT31,FT32,FT36,FT38,FT40,FT42,FT94,List.length_map,List.getElem?_map,Int.natCast_nonneg,List.length_append,List.map_append,hjl',hgj,wj,hq] | (refine condK_split ?_ ?_ <;> intro hwq) | (refine two_split ?_ ?_) | (refine guardK_split ?_ ?_ <;> intro hwq) | (refine guardE_split ?_ ?_ <;> intro hwq) | (refine awp_drawW [] (by decide +kernel) ?_; have hwq := trivial) | (refine call_plain hkx rfl rfl ?_; have hwq := trivial) | fail))
        refine ⟨l.length - (j + 1), _, by omega, Weak.cutI 1 [1, 2, 12, 13, 14] ?_ ?_, j + 1, _, rfl, by omega, rfl, take_more hno hgj hq⟩
        · simp (maxSteps:=9999999)-implicitDefEqProofs only [simprocAttr,QH,Option.isSome,cond_true,cond_false,Option.bind,selB,V.rn,V.rns,Go.Ai.known,V.pz,V.pzs,T.toV,frz1,List.range,List.range.loop,ite_true,ite_false,if_true,if_false,ne_eq,implies_true,forall_const,eq_self,IntKind.bits,upd_tmsS,selT_cons,selT_nil,List.length_map,List.getElem?_map,Int.natCast_nonneg,List.length_append,List.map_append]
        · simp (maxSteps:=9999999)-implicitDefEqProofs only [simprocAttr,QH,Option.isSome,cond_true,cond_false,Option.bind,selB,V.rn,V.rns,Go.Ai.known,V.pz,V.pzs,T.toV,frz1,List.range,List.range.loop,ite_true,ite_false,if_true,if_false,ne_eq,implies_true,forall_const,eq_self,IntKind.bits,upd_tmsS,selT_cons,selT_nil,List.length_map,List.getElem?_map,Int.natCast_nonneg,List.length_append,List.map_append]
    · have hjl' : ¬ (j : Int) < (l.length : Int) := by omega
      rw [List.take_of_length_le (by omega)] at hno
      have h0 := any_none (q := fun x => kindP p.ks x == 0) hno
      (have hwq := trivial; repeat' (first | simp (maxSteps:=9999999)-implicitDefEqProofs only [go_sem,simprocAttr,hwq,FT3,FT4,FT5,FT23,FT24,FT25,FT26,FT27,FT29,FT31,FT32,FT36,FT38,FT40,FT42,FT94,List.length_map,List.getElem?_map,Int.natCast_nonneg,List.length_append,List.map_append,hjl'] | (refine condK_split ?_ ?_ <;> intro hwq) | (refine two_split ?_ ?_) | (refine guardK_split ?_ ?_ <;> intro hwq) | (refine guardE_split ?_ ?_ <;> intro hwq) | (refine awp_drawW [] (by decide +kernel) ?_; have hwq := trivial) | fail))
      refine awp_loopK (PoJ p l) l.length _ (Weak.cutI 1 [2, 23, 24, 25] ?_ ?_) ⟨0, _, rfl, by omega, rfl, by simp⟩ ?_
      · simp (maxSteps:=9999999)-implicitDefEqProofs only [simprocAttr,QH,Option.isSome,cond_true,cond_false,Option.bind,selB,V.rn,V.rns,Go.Ai.known,V.pz,V.pzs,T.toV,frz1,List.range,List.range.loop,ite_true,ite_false,if_true,if_false,ne_eq,implies_true,forall_const,eq_self,IntKind.bits,upd_tmsS,selT_cons,selT_nil,List.length_map,List.getElem?_map,Int.natCast_nonneg,List.length_append,List.map_append]
      · simp (maxSteps:=9999999)-implicitDefEqProofs only [simprocAttr,QH,Option.isSome,cond_true,cond_false,Option.bind,selB,V.rn,V.rns,Go.Ai.known,V.pz,V.pzs,T.toV,frz1,List.range,List.range.loop,ite_true,ite_false,if_true,if_false,ne_eq,implies_true,forall_const,eq_self,IntKind.bits,upd_tmsS,selT_cons,selT_nil]
      rintro kk S ⟨j, mv, rfl, hj, rfl, hno2⟩
      have wj : IntKind.i64.wrap ((j : Int) + 1) = (j : Int) + 1 := wI64 _ (by omega) (by omega)
      by_cases hjl : j < l.length
      · have hjl' : (j : Int) < (l.length : Int) := by omega
        have hgj : l[j]? = some l[j] := List.getElem?_eq_getElem hjl
        obtain ⟨x, hx⟩ : ∃ x, l[j] = x := ⟨_, rfl⟩
        rw [hx] at hgj
        have hkx := hk x
        cases hq : (kindP p.ks x != 2) with
        | true =>
          have he : portsE p.ks l = 184 := by
            unfold portsE
            rw [hr, h0, any_some (q := fun x => kindP p.ks x != 2) hgj hq]
            rfl
          rw [he]
          (have hwq := trivial; repeat' (first | simp (maxSteps:=9999999)-implicitDefEqProofs only [go_sem,simprocAttr,hwq,FT3,FT4,FT5,FT23,FT24,FT25,FT26,FT27,FT29,FT31,FT32,FT36,FT38,FT40,FT42,FT94,List.length_map,List.getElem?_map,Int.natCast_nonneg,List.length_append,List.map_append,hjl',hgj,wj,hq] | (refine condK_split ?_ ?_ <;> intro hwq) | (refine two_split ?_ ?_) | (refine guardK_split ?_ ?_ <;> intro hwq) | (refine guardE_split ?_ ?_ <;> intro hwq) | (refine awp_drawW [] (by decide +kernel) ?_; have hwq := trivial) | (refine call_plain hkx rfl rfl ?_; have hwq := trivial) | fail))
        | false =>
          (have hwq := trivial; repeat' (first | simp (maxSteps:=9999999)-implicitDefEqProofs only [go_sem,simprocAttr,hwq,FT3,FT4,FT5,FT23,FT24,FT25,FT26,FT27,FT29,FT31,FT32,FT36,FT38,FT40,FT42,FT94,List.length_map,List.getElem?_map,Int.natCast_nonneg,List.length_append,List.map_append,hjl',hgj,wj,hq] | (refine condK_split ?_ ?_ <;> intro hwq) | (refine two_split ?_ ?_) | (refine guardK_split ?_ ?_ <;> intro hwq) | (refine guardE_split ?_ ?_ <;> intro hwq) | (refine awp_drawW [] (by decide +kernel) ?_; have hwq := trivial) | (refine call_plain hkx rfl rfl ?_; have hwq := trivial) | fail))
          refine ⟨l.length - (j + 1), _, by omega, Weak.cutI 1 [2, 23, 24, 25] ?_ ?_, j + 1, _, rfl, by omega, rfl, take_more hno2 hgj hq⟩
          · simp (maxSteps:=9999999)-implicitDefEqProofs only [simprocAttr,QH,Option.isSome,cond_true,cond_false,Option.bind,selB,V.rn,V.rns,Go.Ai.known,V.pz,V.pzs,T.toV,frz1,List.range,List.range.loop,ite_true,ite_false,if_true,if_false,ne_eq,implies_true,forall_const,eq_self,IntKind.bits,upd_tmsS,selT_cons,selT_nil,List.length_map,List.getElem?_map,Int.natCast_nonneg,List.length_append,List.map_append]
          · simp (maxSteps:=9999999)-implicitDefEqProofs only [simprocAttr,QH,Option.isSome,cond_true,cond_false,Option.bind,selB,V.rn,V.rns,Go.Ai.known,V.pz,V.pzs,T.toV,frz1,List.range,List.range.loop,ite_true,ite_false,if_true,if_false,ne_eq,implies_true,forall_const,eq_self,IntKind.bits,upd_tmsS,selT_cons,selT_nil,List.length_map,List.getElem?_map,Int.natCast_nonneg,List.length_append,List.map_append]
      · have hjl' : ¬ (j : Int) < (l.length : Int) := by omega
        rw [List.take_of_length_le (by omega)] at hno2
        have h2 := any_none (q := fun x => kindP p.ks x != 2) hno2
        have he : portsE p.ks l = 0 := by
          unfold portsE
          rw [hr, h0, h2]
          rfl
        rw [he]
        (have hwq := trivial; repeat' (first | simp (maxSteps:=9999999)-implicitDefEqProofs only [go_sem,simprocAttr,hwq,FT3,FT4,FT5,FT23,FT24,FT25,FT26,FT27,FT29,FT31,FT32,FT36,FT38,FT40,FT42,FT94,List.length_map,List.getElem?_map,Int.natCast_nonneg,List.length_append,List.map_append,hjl'] | (refine condK_split ?_ ?_ <;> intro hwq) | (refine two_split ?_ ?_) | (refine guardK_split ?_ ?_ <;> intro hwq) | (refine guardE_split ?_ ?_ <;> intro hwq) | (refine awp_drawW [] (by decide +kernel) ?_; have hwq := trivial) | fail))
theorem pk66 (p : Pv) (hp : okL p) (x : Mb) (hx : x.l.length ≤ 1000) : AC Try.prog 40 [mbV x, .ptr 0 0 0] [bxP p] (eqS (vB (!decide (vidOk x.v) || portsE p.ks x.l != 0)) [bxP p]) := by
  have h1 := pc67 x.v
  have h2 := pc68 p hp x.l hx
  generalize decide (vidOk x.v) = b at h1
  refine AC_heap orders [0] Try.func40 rfl (by kernel_rfl) (by kernel_rfl) Try.ntmps40 (by simp) ?_
  unfold Try.f40
  (have hwq := trivial; repeat' (first | simp (maxSteps:=9999999)-implicitDefEqProofs only [go_sem,simprocAttr,hwq,FT3,FT4,FT5,FT23,FT24,FT25,FT26,FT27,FT29,FT31,FT32,FT36,FT38,FT40,FT42] | (refine awpL_loop 18 ?_; have hwq := trivial) | (refine condK_split ?_ ?_ <;> intro hwq) | (refine two_split ?_ ?_) | (refine guardK_split ?_ ?_ <;> intro hwq) | (refine guardE_split ?_ ?_ <;> intro hwq) | (refine awp_drawW [] (by decide +kernel) ?_; have hwq := trivial) | (refine call_plain h1 rfl rfl ?_; have hwq := trivial) | (refine call_plain h2 rfl rfl ?_; have hwq := trivial) | fail))
  all_goals simp_all
theorem pk70 (p : Pv) (hp : okL p) (x : Cr) : AC Try.prog 44 [crV x, .ptr 0 0 0] [bxP p] (eqS (vB (!decide (isidOk x.s) || !hasM p.bs x.v)) [bxP p]) := by
  have h1 := pc71 x.s
  have h2 := pc48 p hp x.v
  generalize decide (isidOk x.s) = b at h1
  generalize hasM p.bs x.v = b2 at h2
  refine AC_heap orders [0] Try.func44 rfl (by kernel_rfl) (by kernel_rfl) Try.ntmps44 (by simp) ?_
  unfold Try.f44
  (have hwq := trivial; repeat' (first | simp (maxSteps:=9999999)-implicitDefEqProofs only [go_sem,simprocAttr,hwq,FT3,FT4,FT5,FT23,FT24,FT25,FT26,FT27,FT29,FT31,FT36,FT38,FT40,FT42] | (refine awpL_loop 18 ?_; have hwq := trivial) | (refine condK_split ?_ ?_ <;> intro hwq) | (refine two_split ?_ ?_) | (refine guardK_split ?_ ?_ <;> intro hwq) | (refine guardE_split ?_ ?_ <;> intro hwq) | (refine awp_drawW [] (by decide +kernel) ?_; have hwq := trivial) | (refine call_plain h1 rfl rfl ?_; have hwq := trivial) | (refine call_plain h2 rfl rfl ?_; have hwq := trivial) | fail))
  all_goals simp_all
end Go.Ai
