/- Contracts of functions of the loaded program: called with data in the ranges that each names, it returns this value and writes to no old memory. -/
import Derived.Test.YtdojjjjhbgkpfaaMvpJ
set_option linter.unusedVariables false
set_option linter.unusedSimpArgs false
set_option maxHeartbeats 4000000
set_option maxRecDepth 100000
namespace Go.Ai
open Go.Proofs
attribute [local go_sem] QH QR V.noimm V.noimms frzZs frzZ frzA frzV frzVs frzBox boxLen Option.isSome cond_true cond_false aopD calW flatV stepX amap stepY alookup afind aupdate adelete amlen arange ameq mapOf akeq pl V.mapT V.mapTs Option.bind stepK runK guardD stepE runD callD compact selB callK evS ofVal ofVals scalar aop ares mkRes V.rn V.rns V.cells? cellsAt Go.Ai.part aload astore setL V.atom abin aun intBin shiftBin aconv fieldOf aindexAddr aindex bound? aslice aarr abuild afill alen nilP nilS nilF aeq eqCells eqCell Go.Ai.known strBin abuiltin aappend abuildSlice arowsFill amakeSlice acopy aclear minmax rowsOf numsT notStr isIntD isByte V.pz V.pzs T.toV frz1 frz scalT scalTs chunkT List.range List.range.loop ite_true ite_false if_true if_false ne_eq implies_true forall_const eq_self IntKind.bits kPostKF_ret kPostKF_normal kPostX_ret kPostX_normal bsl nil2K nil2 kPostFW_ret kPostFW_normal kPostKM_ret kPostKM_normal kPostXK_ret kPostXK_normal
theorem e53a : (if ((0 : Int) == 1 && (0 : Int) != 1) = true then (3 : Int) else 0) = 0 := rfl
theorem e53b : (if ((2 : Int) == 1 && (0 : Int) != 1) = true then (3 : Int) else 0) = 0 := rfl
theorem mk18a : AC Try.prog 18 [.ptr 0 0 0, vI 10, vB false] (hP 3 20 20 [] 0) (eqS (vI 0) (hP 3 20 20 [eV 10 1 0 0 0] 1)) := by
  have n51 := mn51 3 20 20 [] 0 rfl 10 (by decide) (by decide)
  have n52 := mn52a 3 20 20 10 0
  have n53 := mn53 3 20 20 10 0 0 0 2 1 6 0 0 1 mh49a mh50a
  rw [e53a] at n53
  have n54 := mj54 3 20 20 10 1 0 0 0 1 (by decide) rfl
  refine AC_heap orders [0, 1] Try.func18 rfl (by kernel_rfl) (by kernel_rfl) Try.ntmps18 (by simp) ?_
  unfold Try.f18
  (have hwq := trivial; repeat' (first | simp (maxSteps:=9999999)-implicitDefEqProofs only [go_sem,simprocAttr,hwq,u3,a3,c3,b3,z3,k3,u4,a4,c4,b4,z4,k4,u26,a26,c26,b26,z26,k26,u39,a39,c39,b39,z39,k39,l39,u41,a41,c41,b41,z41,k41,u77,a77,c77,b77,z77,k77,u79,a79,c79,b79,z79,k79,u96,a96,c96,b96,z96,k96,u99,a99,c99,b99,z99,k99,u100,a100,c100,b100,z100,k100,u105,a105,c105,b105,z105,k105,l105,rn_mp,mapT_mp,pz_mp,flatE,flatS,lk3,nextK,aentry,forall_eq_or_imp,forall_eq,List.getLast?_append,List.getLast?_singleton,List.getLast?_nil,List.getLast?_cons_cons,List.find?_cons,Option.some_or,List.mem_append,List.nil_append,List.eraseIdx_cons_zero,List.eraseIdx_cons_succ,Option.or_some,List.forall_mem_cons,List.forall_mem_nil,not_true_eq_false] | (refine awpL_loop 18 ?_; have hwq := trivial) | (refine condK_split ?_ ?_ <;> intro hwq) | (refine two_split ?_ ?_) | (refine guardK_split ?_ ?_ <;> intro hwq) | (refine guardE_split ?_ ?_ <;> intro hwq) | (refine awp_drawW [53] (by decide +kernel) ?_; have hwq := trivial) | (refine call_at [0, 1] n51 (by simp) (by decide) rfl rfl ?_ (V.les_refl _) ?_; (· simp [mapT_mp, mapT_mp (es := []) rfl, flatE, flatS, mapT_box, V.mapTs, V.mapT, pl]; done); have hwq := trivial) | (refine call_at [0, 1] n52 (by simp) (by decide) rfl rfl ?_ (V.les_refl _) ?_; (· simp [mapT_mp, mapT_mp (es := []) rfl, flatE, flatS, mapT_box, V.mapTs, V.mapT, pl]; done); have hwq := trivial) | (refine call_at [0, 1] n53 (by simp) (by decide) rfl rfl ?_ (V.les_refl _) ?_; (· simp [mapT_mp, mapT_mp (es := []) rfl, flatE, flatS, mapT_box, V.mapTs, V.mapT, pl]; done); have hwq := trivial) | (refine call_at [0, 1] n54 (by simp) (by decide) rfl rfl ?_ (V.les_refl _) ?_; (· simp [mapT_mp, mapT_mp (es := []) rfl, flatE, flatS, mapT_box, V.mapTs, V.mapT, pl]; done); have hwq := trivial) | fail))
  all_goals trace_state
theorem mk51b : AC Try.prog 51 [.ptr 0 0 0, vI 0] (hP 3 20 20 [eV 10 0 2 0 0] 1) (eqS (vI 1) (hP 3 20 20 [eV 10 0 2 0 0] 1)) := by
  have h := mn55 3 20 20 [eV 10 0 2 0 0] 1 rfl
  refine AC_heap orders [0, 1] Try.func51 rfl (by kernel_rfl) (by kernel_rfl) Try.ntmps51 (by simp) ?_
  unfold Try.f51
  (have hwq := trivial; repeat' (first | simp (maxSteps:=9999999)-implicitDefEqProofs only [go_sem,simprocAttr,hwq,u3,a3,c3,b3,z3,k3,u26,a26,c26,b26,z26,k26,u39,a39,c39,b39,z39,k39,l39,u41,a41,c41,b41,z41,k41,u77,a77,c77,b77,z77,k77,u79,a79,c79,b79,z79,k79,u96,a96,c96,b96,z96,k96,u100,a100,c100,b100,z100,k100,u105,a105,c105,b105,z105,k105,l105,rn_mp,mapT_mp,pz_mp,flatE,flatS,lk3,nextK,aentry,forall_eq_or_imp,forall_eq,List.getLast?_append,List.getLast?_singleton,List.getLast?_nil,List.getLast?_cons_cons,List.find?_cons,Option.some_or,List.mem_append,List.nil_append,List.eraseIdx_cons_zero,List.eraseIdx_cons_succ,Option.or_some,List.forall_mem_cons,List.forall_mem_nil,not_true_eq_false] | (refine awpL_loop 18 ?_; have hwq := trivial) | (refine condK_split ?_ ?_ <;> intro hwq) | (refine two_split ?_ ?_) | (refine guardK_split ?_ ?_ <;> intro hwq) | (refine guardE_split ?_ ?_ <;> intro hwq) | (refine awp_drawW [53] (by decide +kernel) ?_; have hwq := trivial) | (refine call_at [0, 1] h (by simp) (by decide) rfl rfl ?_ (V.les_refl _) ?_; (· simp [mapT_mp, mapT_mp (es := []) rfl, flatE, flatS, mapT_box, V.mapTs, V.mapT, pl]; done); have hwq := trivial) | fail))
  all_goals trace_state
theorem mk18b : AC Try.prog 18 [.ptr 0 0 0, vI 0, vB true] (hP 3 20 20 [eV 10 0 2 0 0] 1) (eqS (vI 1) (hP 3 20 20 [eV 10 0 2 0 0] 1)) := by
  refine AC_heap orders [0, 1] Try.func18 rfl (by kernel_rfl) (by kernel_rfl) Try.ntmps18 (by simp) ?_
  unfold Try.f18
  (have hwq := trivial; repeat' (first | simp (maxSteps:=9999999)-implicitDefEqProofs only [go_sem,simprocAttr,hwq,u3,a3,c3,b3,z3,k3,u4,a4,c4,b4,z4,k4,u26,a26,c26,b26,z26,k26,u39,a39,c39,b39,z39,k39,l39,u41,a41,c41,b41,z41,k41,u77,a77,c77,b77,z77,k77,u79,a79,c79,b79,z79,k79,u96,a96,c96,b96,z96,k96,u99,a99,c99,b99,z99,k99,u100,a100,c100,b100,z100,k100,u105,a105,c105,b105,z105,k105,l105,rn_mp,mapT_mp,pz_mp,flatE,flatS,lk3,nextK,aentry,forall_eq_or_imp,forall_eq,List.getLast?_append,List.getLast?_singleton,List.getLast?_nil,List.getLast?_cons_cons,List.find?_cons,Option.some_or,List.mem_append,List.nil_append,List.eraseIdx_cons_zero,List.eraseIdx_cons_succ,Option.or_some,List.forall_mem_cons,List.forall_mem_nil,not_true_eq_false] | (refine awpL_loop 18 ?_; have hwq := trivial) | (refine condK_split ?_ ?_ <;> intro hwq) | (refine two_split ?_ ?_) | (refine guardK_split ?_ ?_ <;> intro hwq) | (refine guardE_split ?_ ?_ <;> intro hwq) | (refine awp_drawW [53] (by decide +kernel) ?_; have hwq := trivial) | (refine call_at [0, 1] mk51b (by simp) (by decide) rfl rfl ?_ (V.les_refl _) ?_; (· simp [mapT_mp, mapT_mp (es := []) rfl, flatE, flatS, mapT_box, V.mapTs, V.mapT, pl]; done); have hwq := trivial) | fail))
  all_goals trace_state
theorem mk28 : AC Try.prog 28 [.ptr 0 0 0, bysV Mg] (hP 3 20 20 [] 0) (eqS (vI 0) (hP 3 20 20 [eV 10 0 2 0 0] 1)) := by
  have n55 := mn55 3 20 20 [] 0 rfl
  have n52 := mn52a 3 20 20 10 0
  have n53 := mn53 3 20 20 10 0 0 0 7 0 6 2 0 1 mh49c mh50c
  rw [e53b] at n53
  have n54 := mj54 3 20 20 10 0 2 0 0 1 (by decide) rfl
  refine AC_heap orders [0, 1] Try.func28 rfl (by kernel_rfl) (by kernel_rfl) Try.ntmps28 (by simp) ?_
  unfold Try.f28
  (have hwq := trivial; repeat' (first | simp (maxSteps:=9999999)-implicitDefEqProofs only [go_sem,simprocAttr,hwq,u3,a3,c3,b3,z3,k3,u4,a4,c4,b4,z4,k4,u5,a5,c5,b5,z5,k5,u22,a22,c22,b22,z22,k22,u23,a23,c23,b23,z23,k23,u26,a26,c26,b26,z26,k26,u39,a39,c39,b39,z39,k39,l39,u41,a41,c41,b41,z41,k41,u77,a77,c77,b77,z77,k77,u79,a79,c79,b79,z79,k79,u82,a82,c82,b82,z82,k82,u84,a84,c84,b84,z84,k84,u91,a91,c91,b91,z91,k91,u96,a96,c96,b96,z96,k96,u99,a99,c99,b99,z99,k99,u100,a100,c100,b100,z100,k100,u105,a105,c105,b105,z105,k105,l105,rn_mp,mapT_mp,pz_mp,flatE,flatS,lk3,nextK,aentry,forall_eq_or_imp,forall_eq,List.getLast?_append,List.getLast?_singleton,List.getLast?_nil,List.getLast?_cons_cons,List.find?_cons,Option.some_or,List.mem_append,List.nil_append,List.eraseIdx_cons_zero,List.eraseIdx_cons_succ,Option.or_some,List.forall_mem_cons,List.forall_mem_nil,not_true_eq_false] | (refine awpL_loop 18 ?_; have hwq := trivial) | (refine condK_split ?_ ?_ <;> intro hwq) | (refine two_split ?_ ?_) | (refine guardK_split ?_ ?_ <;> intro hwq) | (refine guardE_split ?_ ?_ <;> intro hwq) | (refine awp_drawW [53] (by decide +kernel) ?_; have hwq := trivial) | (refine call_plain mh13 rfl rfl ?_; have hwq := trivial) | (refine draw_plain mh64 rfl (fun _ => rfl) ?_; have hwq := trivial) | (refine call_at [0, 1] n55 (by simp) (by decide) rfl rfl ?_ (V.les_refl _) ?_; (· simp [mapT_mp, mapT_mp (es := []) rfl, flatE, flatS, mapT_box, V.mapTs, V.mapT, pl]; done); have hwq := trivial) | (refine call_at [0, 1] n52 (by simp) (by decide) rfl rfl ?_ (V.les_refl _) ?_; (· simp [mapT_mp, mapT_mp (es := []) rfl, flatE, flatS, mapT_box, V.mapTs, V.mapT, pl]; done); have hwq := trivial) | (refine drawW_at [0, 1] n53 (by simp) (by decide) rfl rfl ?_ (V.les_refl _) ?_; (· simp [mapT_mp, mapT_mp (es := []) rfl, flatE, flatS, mapT_box, V.mapTs, V.mapT, pl]; done); have hwq := trivial) | (refine call_at [0, 1] n54 (by simp) (by decide) rfl rfl ?_ (V.les_refl _) ?_; (· simp [mapT_mp, mapT_mp (es := []) rfl, flatE, flatS, mapT_box, V.mapTs, V.mapT, pl]; done); have hwq := trivial) | fail))
  all_goals trace_state
end Go.Ai

set_option linter.unusedVariables false
set_option linter.unusedSimpArgs false
set_option maxHeartbeats 4000000
set_option maxRecDepth 100000
namespace Go.Ai
open Go.Proofs
attribute [local go_sem] QH QR V.noimm V.noimms frzZs frzZ frzA frzV frzVs frzBox boxLen Option.isSome cond_true cond_false aopD calW flatV stepX amap stepY alookup afind aupdate adelete amlen arange ameq mapOf akeq pl V.mapT V.mapTs Option.bind stepK runK guardD stepE runD callD compact selB callK evS ofVal ofVals scalar aop ares mkRes V.rn V.rns V.cells? cellsAt Go.Ai.part aload astore setL V.atom abin aun intBin shiftBin aconv fieldOf aindexAddr aindex bound? aslice aarr abuild afill alen nilP nilS nilF aeq eqCells eqCell Go.Ai.known strBin abuiltin aappend abuildSlice arowsFill amakeSlice acopy aclear minmax rowsOf numsT notStr isIntD isByte V.pz V.pzs T.toV frz1 frz scalT scalTs chunkT List.range List.range.loop ite_true ite_false if_true if_false ne_eq implies_true forall_const eq_self IntKind.bits kPostKF_ret kPostKF_normal kPostX_ret kPostX_normal bsl nil2K nil2 kPostFW_ret kPostFW_normal kPostKM_ret kPostKM_normal kPostXK_ret kPostXK_normal
theorem mt71n : AC Try.prog 71 [vI 0, vI 1] [] (eqR (vI 2)) := by
  refine AC_plain orders Try.func71 rfl (by kernel_rfl) (by kernel_rfl) Try.ntmps71 (by simp) ?_
  unfold Try.f71
  (have hwq := trivial; repeat' (first | simp (maxSteps:=9999999)-implicitDefEqProofs only [go_sem,simprocAttr,hwq,u96,a96,c96,b96,z96,k96,u99,a99,c99,b99,z99,k99] | (refine awpL_loop 18 ?_; have hwq := trivial) | (refine condK_split ?_ ?_ <;> intro hwq) | (refine two_split ?_ ?_) | (refine guardK_split ?_ ?_ <;> intro hwq) | (refine guardE_split ?_ ?_ <;> intro hwq) | (refine awp_drawW [] (by decide +kernel) ?_; have hwq := trivial) | fail))
theorem mt49n : AC Try.prog 49 [vI 0, vI 1, vI 0] [] (eqR (.tuple [vI 2, vI 6])) := by
  refine AC_plain orders Try.func49 rfl (by kernel_rfl) (by kernel_rfl) Try.ntmps49 (by simp) ?_
  unfold Try.f49
  (have hwq := trivial; repeat' (first | simp (maxSteps:=9999999)-implicitDefEqProofs only [go_sem,simprocAttr,hwq,u91,a91,c91,b91,z91,k91,u96,a96,c96,b96,z96,k96,u99,a99,c99,b99,z99,k99,u100,a100,c100,b100,z100,k100] | (refine awpL_loop 18 ?_; have hwq := trivial) | (refine condK_split ?_ ?_ <;> intro hwq) | (refine two_split ?_ ?_) | (refine guardK_split ?_ ?_ <;> intro hwq) | (refine guardE_split ?_ ?_ <;> intro hwq) | (refine awp_drawW [] (by decide +kernel) ?_; have hwq := trivial) | (refine call_plain mt71n rfl rfl ?_; have hwq := trivial) | fail))
theorem mt50n : AC Try.prog 50 [vI 0, vI 1] [] (eqR (vI 0)) := by
  refine AC_plain orders Try.func50 rfl (by kernel_rfl) (by kernel_rfl) Try.ntmps50 (by simp) ?_
  unfold Try.f50
  (have hwq := trivial; repeat' (first | simp (maxSteps:=9999999)-implicitDefEqProofs only [go_sem,simprocAttr,hwq,u99,a99,c99,b99,z99,k99,u100,a100,c100,b100,z100,k100] | (refine awpL_loop 18 ?_; have hwq := trivial) | (refine condK_split ?_ ?_ <;> intro hwq) | (refine two_split ?_ ?_) | (refine guardK_split ?_ ?_ <;> intro hwq) | (refine guardE_split ?_ ?_ <;> intro hwq) | (refine awp_drawW [] (by decide +kernel) ?_; have hwq := trivial) | fail))
theorem mt72n : AC Try.prog 72 [vI 2, vI 0] [] (eqR (.tuple [vI 3, vI 0])) := by
  refine AC_plain orders Try.func72 rfl (by kernel_rfl) (by kernel_rfl) Try.ntmps72 (by simp) ?_
  unfold Try.f72
  (have hwq := trivial; repeat' (first | simp (maxSteps:=9999999)-implicitDefEqProofs only [go_sem,simprocAttr,hwq,u91,a91,c91,b91,z91,k91,u96,a96,c96,b96,z96,k96,u100,a100,c100,b100,z100,k100] | (refine awpL_loop 18 ?_; have hwq := trivial) | (refine condK_split ?_ ?_ <;> intro hwq) | (refine two_split ?_ ?_) | (refine guardK_split ?_ ?_ <;> intro hwq) | (refine guardE_split ?_ ?_ <;> intro hwq) | (refine awp_drawW [] (by decide +kernel) ?_; have hwq := trivial) | fail))
theorem mt49s : AC Try.prog 49 [vI 2, vI 12, vI 0] [] (eqR (.tuple [vI 3, vI 0])) := by
  refine AC_plain orders Try.func49 rfl (by kernel_rfl) (by kernel_rfl) Try.ntmps49 (by simp) ?_
  unfold Try.f49
  (have hwq := trivial; repeat' (first | simp (maxSteps:=9999999)-implicitDefEqProofs only [go_sem,simprocAttr,hwq,u91,a91,c91,b91,z91,k91,u96,a96,c96,b96,z96,k96,u99,a99,c99,b99,z99,k99,u100,a100,c100,b100,z100,k100] | (refine awpL_loop 18 ?_; have hwq := trivial) | (refine condK_split ?_ ?_ <;> intro hwq) | (refine two_split ?_ ?_) | (refine guardK_split ?_ ?_ <;> intro hwq) | (refine guardE_split ?_ ?_ <;> intro hwq) | (refine awp_drawW [] (by decide +kernel) ?_; have hwq := trivial) | (refine call_plain mt72n rfl rfl ?_; have hwq := trivial) | fail))
theorem mt71w : AC Try.prog 71 [vI 4, vI 3] [] (eqR (vI 6)) := by
  refine AC_plain orders Try.func71 rfl (by kernel_rfl) (by kernel_rfl) Try.ntmps71 (by simp) ?_
  unfold Try.f71
  (have hwq := trivial; repeat' (first | simp (maxSteps:=9999999)-implicitDefEqProofs only [go_sem,simprocAttr,hwq,u96,a96,c96,b96,z96,k96,u99,a99,c99,b99,z99,k99] | (refine awpL_loop 18 ?_; have hwq := trivial) | (refine condK_split ?_ ?_ <;> intro hwq) | (refine two_split ?_ ?_) | (refine guardK_split ?_ ?_ <;> intro hwq) | (refine guardE_split ?_ ?_ <;> intro hwq) | (refine awp_drawW [] (by decide +kernel) ?_; have hwq := trivial) | fail))
theorem mt71x : AC Try.prog 71 [vI 3, vI 3] [] (eqR (vI 6)) := by
  refine AC_plain orders Try.func71 rfl (by kernel_rfl) (by kernel_rfl) Try.ntmps71 (by simp) ?_
  unfold Try.f71
  (have hwq := trivial; repeat' (first | simp (maxSteps:=9999999)-implicitDefEqProofs only [go_sem,simprocAttr,hwq,u96,a96,c96,b96,z96,k96,u99,a99,c99,b99,z99,k99] | (refine awpL_loop 18 ?_; have hwq := trivial) | (refine condK_split ?_ ?_ <;> intro hwq) | (refine two_split ?_ ?_) | (refine guardK_split ?_ ?_ <;> intro hwq) | (refine guardE_split ?_ ?_ <;> intro hwq) | (refine awp_drawW [] (by decide +kernel) ?_; have hwq := trivial) | fail))
theorem mt49w : AC Try.prog 49 [vI 4, vI 3, vI 0] [] (eqR (.tuple [vI 6, vI 6])) := by
  refine AC_plain orders Try.func49 rfl (by kernel_rfl) (by kernel_rfl) Try.ntmps49 (by simp) ?_
  unfold Try.f49
  (have hwq := trivial; repeat' (first | simp (maxSteps:=9999999)-implicitDefEqProofs only [go_sem,simprocAttr,hwq,u91,a91,c91,b91,z91,k91,u96,a96,c96,b96,z96,k96,u99,a99,c99,b99,z99,k99,u100,a100,c100,b100,z100,k100] | (refine awpL_loop 18 ?_; have hwq := trivial) | (refine condK_split ?_ ?_ <;> intro hwq) | (refine two_split ?_ ?_) | (refine guardK_split ?_ ?_ <;> intro hwq) | (refine guardE_split ?_ ?_ <;> intro hwq) | (refine awp_drawW [] (by decide +kernel) ?_; have hwq := trivial) | (refine call_plain mt71w rfl rfl ?_; have hwq := trivial) | fail))
theorem mt49x : AC Try.prog 49 [vI 3, vI 3, vI 0] [] (eqR (.tuple [vI 6, vI 6])) := by
  refine AC_plain orders Try.func49 rfl (by kernel_rfl) (by kernel_rfl) Try.ntmps49 (by simp) ?_
  unfold Try.f49
  (have hwq := trivial; repeat' (first | simp (maxSteps:=9999999)-implicitDefEqProofs only [go_sem,simprocAttr,hwq,u91,a91,c91,b91,z91,k91,u96,a96,c96,b96,z96,k96,u99,a99,c99,b99,z99,k99,u100,a100,c100,b100,z100,k100] | (refine awpL_loop 18 ?_; have hwq := trivial) | (refine condK_split ?_ ?_ <;> intro hwq) | (refine two_split ?_ ?_) | (refine guardK_split ?_ ?_ <;> intro hwq) | (refine guardE_split ?_ ?_ <;> intro hwq) | (refine awp_drawW [] (by decide +kernel) ?_; have hwq := trivial) | (refine call_plain mt71x rfl rfl ?_; have hwq := trivial) | fail))
theorem mt50w : AC Try.prog 50 [vI 0, vI 3] [] (eqR (vI 0)) := by
  refine AC_plain orders Try.func50 rfl (by kernel_rfl) (by kernel_rfl) Try.ntmps50 (by simp) ?_
  unfold Try.f50
  (have hwq := trivial; repeat' (first | simp (maxSteps:=9999999)-implicitDefEqProofs only [go_sem,simprocAttr,hwq,u99,a99,c99,b99,z99,k99,u100,a100,c100,b100,z100,k100] | (refine awpL_loop 18 ?_; have hwq := trivial) | (refine condK_split ?_ ?_ <;> intro hwq) | (refine two_split ?_ ?_) | (refine guardK_split ?_ ?_ <;> intro hwq) | (refine guardE_split ?_ ?_ <;> intro hwq) | (refine awp_drawW [] (by decide +kernel) ?_; have hwq := trivial) | fail))
theorem mt72l : AC Try.prog 72 [vI 6, vI 0] [] (eqR (.tuple [vI 0, vI 5])) := by
  refine AC_plain orders Try.func72 rfl (by kernel_rfl) (by kernel_rfl) Try.ntmps72 (by simp) ?_
  unfold Try.f72
  (have hwq := trivial; repeat' (first | simp (maxSteps:=9999999)-implicitDefEqProofs only [go_sem,simprocAttr,hwq,u91,a91,c91,b91,z91,k91,u96,a96,c96,b96,z96,k96,u100,a100,c100,b100,z100,k100] | (refine awpL_loop 18 ?_; have hwq := trivial) | (refine condK_split ?_ ?_ <;> intro hwq) | (refine two_split ?_ ?_) | (refine guardK_split ?_ ?_ <;> intro hwq) | (refine guardE_split ?_ ?_ <;> intro hwq) | (refine awp_drawW [] (by decide +kernel) ?_; have hwq := trivial) | fail))
theorem mt49l : AC Try.prog 49 [vI 6, vI 12, vI 0] [] (eqR (.tuple [vI 0, vI 5])) := by
  refine AC_plain orders Try.func49 rfl (by kernel_rfl) (by kernel_rfl) Try.ntmps49 (by simp) ?_
  unfold Try.f49
  (have hwq := trivial; repeat' (first | simp (maxSteps:=9999999)-implicitDefEqProofs only [go_sem,simprocAttr,hwq,u91,a91,c91,b91,z91,k91,u96,a96,c96,b96,z96,k96,u99,a99,c99,b99,z99,k99,u100,a100,c100,b100,z100,k100] | (refine awpL_loop 18 ?_; have hwq := trivial) | (refine condK_split ?_ ?_ <;> intro hwq) | (refine two_split ?_ ?_) | (refine guardK_split ?_ ?_ <;> intro hwq) | (refine guardE_split ?_ ?_ <;> intro hwq) | (refine awp_drawW [] (by decide +kernel) ?_; have hwq := trivial) | (refine call_plain mt72l rfl rfl ?_; have hwq := trivial) | fail))
theorem mt74n : AC Try.prog 74 [vI 0, vI 4] [] (eqR (vI 0)) := by
  refine AC_plain orders Try.func74 rfl (by kernel_rfl) (by kernel_rfl) Try.ntmps74 (by simp) ?_
  unfold Try.f74
  (have hwq := trivial; repeat' (first | simp (maxSteps:=9999999)-implicitDefEqProofs only [go_sem,simprocAttr,hwq,u96,a96,c96,b96,z96,k96,u99,a99,c99,b99,z99,k99] | (refine awpL_loop 18 ?_; have hwq := trivial) | (refine condK_split ?_ ?_ <;> intro hwq) | (refine two_split ?_ ?_) | (refine guardK_split ?_ ?_ <;> intro hwq) | (refine guardE_split ?_ ?_ <;> intro hwq) | (refine awp_drawW [] (by decide +kernel) ?_; have hwq := trivial) | fail))
theorem mt49h : AC Try.prog 49 [vI 0, vI 4, vI 0] [] (eqR (.tuple [vI 0, vI 6])) := by
  refine AC_plain orders Try.func49 rfl (by kernel_rfl) (by kernel_rfl) Try.ntmps49 (by simp) ?_
  unfold Try.f49
  (have hwq := trivial; repeat' (first | simp (maxSteps:=9999999)-implicitDefEqProofs only [go_sem,simprocAttr,hwq,u91,a91,c91,b91,z91,k91,u96,a96,c96,b96,z96,k96,u99,a99,c99,b99,z99,k99,u100,a100,c100,b100,z100,k100] | (refine awpL_loop 18 ?_; have hwq := trivial) | (refine condK_split ?_ ?_ <;> intro hwq) | (refine two_split ?_ ?_) | (refine guardK_split ?_ ?_ <;> intro hwq) | (refine guardE_split ?_ ?_ <;> intro hwq) | (refine awp_drawW [] (by decide +kernel) ?_; have hwq := trivial) | (refine call_plain mt74n rfl rfl ?_; have hwq := trivial) | fail))
theorem mt50h : AC Try.prog 50 [vI 0, vI 4] [] (eqR (vI 2)) := by
  refine AC_plain orders Try.func50 rfl (by kernel_rfl) (by kernel_rfl) Try.ntmps50 (by simp) ?_
  unfold Try.f50
  (have hwq := trivial; repeat' (first | simp (maxSteps:=9999999)-implicitDefEqProofs only [go_sem,simprocAttr,hwq,u99,a99,c99,b99,z99,k99,u100,a100,c100,b100,z100,k100] | (refine awpL_loop 18 ?_; have hwq := trivial) | (refine condK_split ?_ ?_ <;> intro hwq) | (refine two_split ?_ ?_) | (refine guardK_split ?_ ?_ <;> intro hwq) | (refine guardE_split ?_ ?_ <;> intro hwq) | (refine awp_drawW [] (by decide +kernel) ?_; have hwq := trivial) | fail))
theorem mt84 : AC Try.prog 84 [vI 0] [] (eqR (vI 11)) := by
  refine AC_plain orders Try.func84 rfl (by kernel_rfl) (by kernel_rfl) Try.ntmps84 (by simp) ?_
  unfold Try.f84
  (have hwq := trivial; repeat' (first | simp (maxSteps:=9999999)-implicitDefEqProofs only [go_sem,simprocAttr,hwq,u96,a96,c96,b96,z96,k96] | (refine awpL_loop 18 ?_; have hwq := trivial) | (refine condK_split ?_ ?_ <;> intro hwq) | (refine two_split ?_ ?_) | (refine guardK_split ?_ ?_ <;> intro hwq) | (refine guardE_split ?_ ?_ <;> intro hwq) | (refine awp_drawW [] (by decide +kernel) ?_; have hwq := trivial) | fail))
theorem mt74l : AC Try.prog 74 [vI 0, vI 9] [] (eqR (vI 11)) := by
  refine AC_plain orders Try.func74 rfl (by kernel_rfl) (by kernel_rfl) Try.ntmps74 (by simp) ?_
  unfold Try.f74
  (have hwq := trivial; repeat' (first | simp (maxSteps:=9999999)-implicitDefEqProofs only [go_sem,simprocAttr,hwq,u96,a96,c96,b96,z96,k96,u99,a99,c99,b99,z99,k99] | (refine awpL_loop 18 ?_; have hwq := trivial) | (refine condK_split ?_ ?_ <;> intro hwq) | (refine two_split ?_ ?_) | (refine guardK_split ?_ ?_ <;> intro hwq) | (refine guardE_split ?_ ?_ <;> intro hwq) | (refine awp_drawW [] (by decide +kernel) ?_; have hwq := trivial) | (refine call_plain mt84 rfl rfl ?_; have hwq := trivial) | fail))
theorem mt49r : AC Try.prog 49 [vI 0, vI 9, vI 2] [] (eqR (.tuple [vI 11, vI 6])) := by
  refine AC_plain orders Try.func49 rfl (by kernel_rfl) (by kernel_rfl) Try.ntmps49 (by simp) ?_
  unfold Try.f49
  (have hwq := trivial; repeat' (first | simp (maxSteps:=9999999)-implicitDefEqProofs only [go_sem,simprocAttr,hwq,u91,a91,c91,b91,z91,k91,u96,a96,c96,b96,z96,k96,u99,a99,c99,b99,z99,k99,u100,a100,c100,b100,z100,k100] | (refine awpL_loop 18 ?_; have hwq := trivial) | (refine condK_split ?_ ?_ <;> intro hwq) | (refine two_split ?_ ?_) | (refine guardK_split ?_ ?_ <;> intro hwq) | (refine guardE_split ?_ ?_ <;> intro hwq) | (refine awp_drawW [] (by decide +kernel) ?_; have hwq := trivial) | (refine call_plain mt74l rfl rfl ?_; have hwq := trivial) | fail))
theorem mt50t : AC Try.prog 50 [vI 1, vI 14] [] (eqR (vI 0)) := by
  refine AC_plain orders Try.func50 rfl (by kernel_rfl) (by kernel_rfl) Try.ntmps50 (by simp) ?_
  unfold Try.f50
  (have hwq := trivial; repeat' (first | simp (maxSteps:=9999999)-implicitDefEqProofs only [go_sem,simprocAttr,hwq,u99,a99,c99,b99,z99,k99,u100,a100,c100,b100,z100,k100] | (refine awpL_loop 18 ?_; have hwq := trivial) | (refine condK_split ?_ ?_ <;> intro hwq) | (refine two_split ?_ ?_) | (refine guardK_split ?_ ?_ <;> intro hwq) | (refine guardE_split ?_ ?_ <;> intro hwq) | (refine awp_drawW [] (by decide +kernel) ?_; have hwq := trivial) | fail))
theorem mt74t : AC Try.prog 74 [vI 11, vI 14] [] (eqR (vI 11)) := by
  refine AC_plain orders Try.func74 rfl (by kernel_rfl) (by kernel_rfl) Try.ntmps74 (by simp) ?_
  unfold Try.f74
  (have hwq := trivial; repeat' (first | simp (maxSteps:=9999999)-implicitDefEqProofs only [go_sem,simprocAttr,hwq,u96,a96,c96,b96,z96,k96,u99,a99,c99,b99,z99,k99] | (refine awpL_loop 18 ?_; have hwq := trivial) | (refine condK_split ?_ ?_ <;> intro hwq) | (refine two_split ?_ ?_) | (refine guardK_split ?_ ?_ <;> intro hwq) | (refine guardE_split ?_ ?_ <;> intro hwq) | (refine awp_drawW [] (by decide +kernel) ?_; have hwq := trivial) | fail))
theorem mt49t : AC Try.prog 49 [vI 11, vI 14, vI 1] [] (eqR (.tuple [vI 11, vI 6])) := by
  refine AC_plain orders Try.func49 rfl (by kernel_rfl) (by kernel_rfl) Try.ntmps49 (by simp) ?_
  unfold Try.f49
  (have hwq := trivial; repeat' (first | simp (maxSteps:=9999999)-implicitDefEqProofs only [go_sem,simprocAttr,hwq,u91,a91,c91,b91,z91,k91,u96,a96,c96,b96,z96,k96,u99,a99,c99,b99,z99,k99,u100,a100,c100,b100,z100,k100] | (refine awpL_loop 18 ?_; have hwq := trivial) | (refine condK_split ?_ ?_ <;> intro hwq) | (refine two_split ?_ ?_) | (refine guardK_split ?_ ?_ <;> intro hwq) | (refine guardE_split ?_ ?_ <;> intro hwq) | (refine awp_drawW [] (by decide +kernel) ?_; have hwq := trivial) | (refine call_plain mt74t rfl rfl ?_; have hwq := trivial) | fail))
theorem mt64n : AC Try.prog 64 [vI 0] [] (eqR (vI 4)) := by
  refine AC_plain orders Try.func64 rfl (by kernel_rfl) (by kernel_rfl) Try.ntmps64 (by simp) ?_
  unfold Try.f64
  (have hwq := trivial; repeat' (first | simp (maxSteps:=9999999)-implicitDefEqProofs only [go_sem,simprocAttr,hwq,u91,a91,c91,b91,z91,k91,u99,a99,c99,b99,z99,k99,u131,a131,c131,b131,z131,k131,l131] | (refine awpL_loop 18 ?_; have hwq := trivial) | (refine condK_split ?_ ?_ <;> intro hwq) | (refine two_split ?_ ?_) | (refine guardK_split ?_ ?_ <;> intro hwq) | (refine guardE_split ?_ ?_ <;> intro hwq) | (refine awp_drawW [] (by decide +kernel) ?_; have hwq := trivial) | fail))
theorem mt64l : AC Try.prog 64 [vI 5] [] (eqR (vI 9)) := by
  refine AC_plain orders Try.func64 rfl (by kernel_rfl) (by kernel_rfl) Try.ntmps64 (by simp) ?_
  unfold Try.f64
  (have hwq := trivial; repeat' (first | simp (maxSteps:=9999999)-implicitDefEqProofs only [go_sem,simprocAttr,hwq,u91,a91,c91,b91,z91,k91,u99,a99,c99,b99,z99,k99,u131,a131,c131,b131,z131,k131,l131] | (refine awpL_loop 18 ?_; have hwq := trivial) | (refine condK_split ?_ ?_ <;> intro hwq) | (refine two_split ?_ ?_) | (refine guardK_split ?_ ?_ <;> intro hwq) | (refine guardE_split ?_ ?_ <;> intro hwq) | (refine awp_drawW [] (by decide +kernel) ?_; have hwq := trivial) | fail))
end Go.Ai

set_option linter.unusedVariables false
set_option linter.unusedSimpArgs false
set_option maxHeartbeats 4000000
set_option maxRecDepth 100000
namespace Go.Ai
open Go.Proofs
attribute [local go_sem] QH QR V.noimm V.noimms frzZs frzZ frzA frzV frzVs frzBox boxLen Option.isSome cond_true cond_false aopD calW flatV stepX amap stepY alookup afind aupdate adelete amlen arange ameq mapOf akeq pl V.mapT V.mapTs Option.bind stepK runK guardD stepE runD callD compact selB callK evS ofVal ofVals scalar aop ares mkRes V.rn V.rns V.cells? cellsAt Go.Ai.part aload astore setL V.atom abin aun intBin shiftBin aconv fieldOf aindexAddr aindex bound? aslice aarr abuild afill alen nilP nilS nilF aeq eqCells eqCell Go.Ai.known strBin abuiltin aappend abuildSlice arowsFill amakeSlice acopy aclear minmax rowsOf numsT notStr isIntD isByte V.pz V.pzs T.toV frz1 frz scalT scalTs chunkT List.range List.range.loop ite_true ite_false if_true if_false ne_eq implies_true forall_const eq_self IntKind.bits kPostKF_ret kPostKF_normal kPostX_ret kPostX_normal bsl nil2K nil2 kPostFW_ret kPostFW_normal kPostKM_ret kPostKM_normal kPostXK_ret kPostXK_normal
theorem mu18j (lv al ck v : Int) (hv : 1 ≤ v) (hv2 : v ≤ 4094) : AC Try.prog 18 [.ptr 0 0 0, vI v, vB false] (hP lv al ck [] 0) (eqS (vI 0) (hP lv al ck [eV v 1 0 0 0] 1)) := by
  have n51 := mn51 lv al ck [] 0 rfl v hv hv2
  have n52 := mn52a lv al ck v 0
  have n53 := mn53 lv al ck v 0 0 0 2 1 6 0 0 1 mh49a mh50a
  rw [show (if ((0 : Int) == 1 && (0 : Int) != 1) = true then lv else 0) = 0 from rfl] at n53
  have n54 := mj54 lv al ck v 1 0 0 0 1 (by decide) rfl
  refine AC_heap orders [0, 1] Try.func18 rfl (by kernel_rfl) (by kernel_rfl) Try.ntmps18 (by simp) ?_
  unfold Try.f18
  (have hwq := trivial; repeat' (first | simp (maxSteps:=9999999)-implicitDefEqProofs only [go_sem,simprocAttr,hwq,u3,a3,c3,b3,z3,k3,u4,a4,c4,b4,z4,k4,u26,a26,c26,b26,z26,k26,u39,a39,c39,b39,z39,k39,l39,u41,a41,c41,b41,z41,k41,u77,a77,c77,b77,z77,k77,u79,a79,c79,b79,z79,k79,u96,a96,c96,b96,z96,k96,u99,a99,c99,b99,z99,k99,u100,a100,c100,b100,z100,k100,u105,a105,c105,b105,z105,k105,l105,rn_mp,mapT_mp,pz_mp,flatE,flatS,lk3,nextK,aentry,forall_eq_or_imp,forall_eq,List.getLast?_append,List.getLast?_singleton,List.getLast?_nil,List.getLast?_cons_cons,List.find?_cons,Option.some_or,List.mem_append,List.nil_append,List.eraseIdx_cons_zero,List.eraseIdx_cons_succ,Option.or_some,List.forall_mem_cons,List.forall_mem_nil,not_true_eq_false,List.map_cons,List.map_nil] | (refine awpL_loop 18 ?_; have hwq := trivial) | (refine condK_split ?_ ?_ <;> intro hwq) | (refine two_split ?_ ?_) | (refine guardK_split ?_ ?_ <;> intro hwq) | (refine guardE_split ?_ ?_ <;> intro hwq) | (refine awp_drawW [] (by decide +kernel) ?_; have hwq := trivial) | (refine call_at [0, 1] n51 (by simp) (by decide) rfl rfl ?_ (V.les_refl _) ?_; (· simp [mapT_mp, mapT_mp (es := []) rfl, flatE, flatS, mapT_box, V.mapTs, V.mapT, pl]; done); have hwq := trivial) | (refine call_at [0, 1] n52 (by simp) (by decide) rfl rfl ?_ (V.les_refl _) ?_; (· simp [mapT_mp, mapT_mp (es := []) rfl, flatE, flatS, mapT_box, V.mapTs, V.mapT, pl]; done); have hwq := trivial) | (refine call_at [0, 1] n53 (by simp) (by decide) rfl rfl ?_ (V.les_refl _) ?_; (· simp [mapT_mp, mapT_mp (es := []) rfl, flatE, flatS, mapT_box, V.mapTs, V.mapT, pl]; done); have hwq := trivial) | (refine call_at [0, 1] n54 (by simp) (by decide) rfl rfl ?_ (V.les_refl _) ?_; (· simp [mapT_mp, mapT_mp (es := []) rfl, flatE, flatS, mapT_box, V.mapTs, V.mapT, pl]; done); have hwq := trivial) | fail))
theorem mu18n (lv al ck v : Int) (hv : 1 ≤ v) (hv2 : v ≤ 4094) : AC Try.prog 18 [.ptr 0 0 0, vI v, vB true] (hP lv al ck [] 0) (eqS (vI 0) (hP lv al ck [eV v 2 0 0 0] 1)) := by
  have n51 := mn51 lv al ck [] 0 rfl v hv hv2
  have n52 := mn52a lv al ck v 0
  have n53 := mn53 lv al ck v 0 0 0 1 2 6 0 0 1 mt49n mt50n
  rw [show (if ((0 : Int) == 1 && (0 : Int) != 1) = true then lv else 0) = 0 from rfl] at n53
  have n54 := mj54 lv al ck v 2 0 0 0 1 (by decide) rfl
  refine AC_heap orders [0, 1] Try.func18 rfl (by kernel_rfl) (by kernel_rfl) Try.ntmps18 (by simp) ?_
  unfold Try.f18
  (have hwq := trivial; repeat' (first | simp (maxSteps:=9999999)-implicitDefEqProofs only [go_sem,simprocAttr,hwq,u3,a3,c3,b3,z3,k3,u4,a4,c4,b4,z4,k4,u26,a26,c26,b26,z26,k26,u39,a39,c39,b39,z39,k39,l39,u41,a41,c41,b41,z41,k41,u77,a77,c77,b77,z77,k77,u79,a79,c79,b79,z79,k79,u96,a96,c96,b96,z96,k96,u99,a99,c99,b99,z99,k99,u100,a100,c100,b100,z100,k100,u105,a105,c105,b105,z105,k105,l105,rn_mp,mapT_mp,pz_mp,flatE,flatS,lk3,nextK,aentry,forall_eq_or_imp,forall_eq,List.getLast?_append,List.getLast?_singleton,List.getLast?_nil,List.getLast?_cons_cons,List.find?_cons,Option.some_or,List.mem_append,List.nil_append,List.eraseIdx_cons_zero,List.eraseIdx_cons_succ,Option.or_some,List.forall_mem_cons,List.forall_mem_nil,not_true_eq_false,List.map_cons,List.map_nil] | (refine awpL_loop 18 ?_; have hwq := trivial) | (refine condK_split ?_ ?_ <;> intro hwq) | (refine two_split ?_ ?_) | (refine guardK_split ?_ ?_ <;> intro hwq) | (refine guardE_split ?_ ?_ <;> intro hwq) | (refine awp_drawW [] (by decide +kernel) ?_; have hwq := trivial) | (refine call_at [0, 1] n51 (by simp) (by decide) rfl rfl ?_ (V.les_refl _) ?_; (· simp [mapT_mp, mapT_mp (es := []) rfl, flatE, flatS, mapT_box, V.mapTs, V.mapT, pl]; done); have hwq := trivial) | (refine call_at [0, 1] n52 (by simp) (by decide) rfl rfl ?_ (V.les_refl _) ?_; (· simp [mapT_mp, mapT_mp (es := []) rfl, flatE, flatS, mapT_box, V.mapTs, V.mapT, pl]; done); have hwq := trivial) | (refine call_at [0, 1] n53 (by simp) (by decide) rfl rfl ?_ (V.les_refl _) ?_; (· simp [mapT_mp, mapT_mp (es := []) rfl, flatE, flatS, mapT_box, V.mapTs, V.mapT, pl]; done); have hwq := trivial) | (refine call_at [0, 1] n54 (by simp) (by decide) rfl rfl ?_ (V.les_refl _) ?_; (· simp [mapT_mp, mapT_mp (es := []) rfl, flatE, flatS, mapT_box, V.mapTs, V.mapT, pl]; done); have hwq := trivial) | fail))
theorem mu25j (lv al ck v : Int) (hv : 1 ≤ v) (hv2 : v ≤ 4094) : AC Try.prog 25 [.ptr 0 0 0, vI v] (hP lv al ck [eV v 4 0 0 0] 1) (eqS (vI 0) (hP lv al ck [eV v 6 0 0 0] 1)) := by
  have n51 := mn51 lv al ck [eV v 4 0 0 0] 1 rfl v hv hv2
  have n53 := mn53 lv al ck v 4 0 0 3 6 6 0 0 1 mt49w mt50w
  rw [show (if ((0 : Int) == 1 && (0 : Int) != 1) = true then lv else 0) = 0 from rfl] at n53
  have n54 := mj54 lv al ck v 6 0 0 0 1 (by decide) rfl
  refine AC_heap orders [0, 1] Try.func25 rfl (by kernel_rfl) (by kernel_rfl) Try.ntmps25 (by simp) ?_
  unfold Try.f25
  (have hwq := trivial; repeat' (first | simp (maxSteps:=9999999)-implicitDefEqProofs only [go_sem,simprocAttr,hwq,u3,a3,c3,b3,z3,k3,u26,a26,c26,b26,z26,k26,u39,a39,c39,b39,z39,k39,l39,u41,a41,c41,b41,z41,k41,u77,a77,c77,b77,z77,k77,u79,a79,c79,b79,z79,k79,u96,a96,c96,b96,z96,k96,u99,a99,c99,b99,z99,k99,u100,a100,c100,b100,z100,k100,u105,a105,c105,b105,z105,k105,l105,rn_mp,mapT_mp,pz_mp,flatE,flatS,lk3,nextK,aentry,forall_eq_or_imp,forall_eq,List.getLast?_append,List.getLast?_singleton,List.getLast?_nil,List.getLast?_cons_cons,List.find?_cons,Option.some_or,List.mem_append,List.nil_append,List.eraseIdx_cons_zero,List.eraseIdx_cons_succ,Option.or_some,List.forall_mem_cons,List.forall_mem_nil,not_true_eq_false,List.map_cons,List.map_nil] | (refine awpL_loop 18 ?_; have hwq := trivial) | (refine condK_split ?_ ?_ <;> intro hwq) | (refine two_split ?_ ?_) | (refine guardK_split ?_ ?_ <;> intro hwq) | (refine guardE_split ?_ ?_ <;> intro hwq) | (refine awp_drawW [] (by decide +kernel) ?_; have hwq := trivial) | (refine call_at [0, 1] n51 (by simp) (by decide) rfl rfl ?_ (V.les_refl _) ?_; (· simp [mapT_mp, mapT_mp (es := []) rfl, flatE, flatS, mapT_box, V.mapTs, V.mapT, pl]; done); have hwq := trivial) | (refine call_at [0, 1] n53 (by simp) (by decide) rfl rfl ?_ (V.les_refl _) ?_; (· simp [mapT_mp, mapT_mp (es := []) rfl, flatE, flatS, mapT_box, V.mapTs, V.mapT, pl]; done); have hwq := trivial) | (refine call_at [0, 1] n54 (by simp) (by decide) rfl rfl ?_ (V.les_refl _) ?_; (· simp [mapT_mp, mapT_mp (es := []) rfl, flatE, flatS, mapT_box, V.mapTs, V.mapT, pl]; done); have hwq := trivial) | fail))
theorem mu25n (lv al ck v : Int) (hv : 1 ≤ v) (hv2 : v ≤ 4094) : AC Try.prog 25 [.ptr 0 0 0, vI v] (hP lv al ck [eV v 3 0 0 0] 1) (eqS (vI 0) (hP lv al ck [eV v 6 0 0 0] 1)) := by
  have n51 := mn51 lv al ck [eV v 3 0 0 0] 1 rfl v hv hv2
  have n53 := mn53 lv al ck v 3 0 0 3 6 6 0 0 1 mt49x mt50w
  rw [show (if ((0 : Int) == 1 && (0 : Int) != 1) = true then lv else 0) = 0 from rfl] at n53
  have n54 := mj54 lv al ck v 6 0 0 0 1 (by decide) rfl
  refine AC_heap orders [0, 1] Try.func25 rfl (by kernel_rfl) (by kernel_rfl) Try.ntmps25 (by simp) ?_
  unfold Try.f25
  (have hwq := trivial; repeat' (first | simp (maxSteps:=9999999)-implicitDefEqProofs only [go_sem,simprocAttr,hwq,u3,a3,c3,b3,z3,k3,u26,a26,c26,b26,z26,k26,u39,a39,c39,b39,z39,k39,l39,u41,a41,c41,b41,z41,k41,u77,a77,c77,b77,z77,k77,u79,a79,c79,b79,z79,k79,u96,a96,c96,b96,z96,k96,u99,a99,c99,b99,z99,k99,u100,a100,c100,b100,z100,k100,u105,a105,c105,b105,z105,k105,l105,rn_mp,mapT_mp,pz_mp,flatE,flatS,lk3,nextK,aentry,forall_eq_or_imp,forall_eq,List.getLast?_append,List.getLast?_singleton,List.getLast?_nil,List.getLast?_cons_cons,List.find?_cons,Option.some_or,List.mem_append,List.nil_append,List.eraseIdx_cons_zero,List.eraseIdx_cons_succ,Option.or_some,List.forall_mem_cons,List.forall_mem_nil,not_true_eq_false,List.map_cons,List.map_nil] | (refine awpL_loop 18 ?_; have hwq := trivial) | (refine condK_split ?_ ?_ <;> intro hwq) | (refine two_split ?_ ?_) | (refine guardK_split ?_ ?_ <;> intro hwq) | (refine guardE_split ?_ ?_ <;> intro hwq) | (refine awp_drawW [] (by decide +kernel) ?_; have hwq := trivial) | (refine call_at [0, 1] n51 (by simp) (by decide) rfl rfl ?_ (V.les_refl _) ?_; (· simp [mapT_mp, mapT_mp (es := []) rfl, flatE, flatS, mapT_box, V.mapTs, V.mapT, pl]; done); have hwq := trivial) | (refine call_at [0, 1] n53 (by simp) (by decide) rfl rfl ?_ (V.les_refl _) ?_; (· simp [mapT_mp, mapT_mp (es := []) rfl, flatE, flatS, mapT_box, V.mapTs, V.mapT, pl]; done); have hwq := trivial) | (refine call_at [0, 1] n54 (by simp) (by decide) rfl rfl ?_ (V.les_refl _) ?_; (· simp [mapT_mp, mapT_mp (es := []) rfl, flatE, flatS, mapT_box, V.mapTs, V.mapT, pl]; done); have hwq := trivial) | fail))
end Go.Ai

set_option linter.unusedVariables false
set_option linter.unusedSimpArgs false
set_option maxHeartbeats 4000000
set_option maxRecDepth 100000
namespace Go.Ai
open Go.Proofs
attribute [local go_sem] QH QR V.noimm V.noimms frzZs frzZ frzA frzV frzVs frzBox boxLen Option.isSome cond_true cond_false aopD calW flatV stepX amap stepY alookup afind aupdate adelete amlen arange ameq mapOf akeq pl V.mapT V.mapTs Option.bind stepK runK guardD stepE runD callD compact selB callK evS ofVal ofVals scalar aop ares mkRes V.rn V.rns V.cells? cellsAt Go.Ai.part aload astore setL V.atom abin aun intBin shiftBin aconv fieldOf aindexAddr aindex bound? aslice aarr abuild afill alen nilP nilS nilF aeq eqCells eqCell Go.Ai.known strBin abuiltin aappend abuildSlice arowsFill amakeSlice acopy aclear minmax rowsOf numsT notStr isIntD isByte V.pz V.pzs T.toV frz1 frz scalT scalTs chunkT List.range List.range.loop ite_true ite_false if_true if_false ne_eq implies_true forall_const eq_self IntKind.bits kPostKF_ret kPostKF_normal kPostX_ret kPostX_normal bsl nil2K nil2 kPostFW_ret kPostFW_normal kPostKM_ret kPostKM_normal kPostXK_ret kPostXK_normal
theorem e53a' : (if ((0 : Int) == 1 && (0 : Int) != 1) = true then (3 : Int) else 0) = 0 := rfl
theorem mk33 : AC Try.prog 33 [.ptr 0 0 0] (hP 3 20 20 [eV 10 1 0 0 0] 1) (eqS (.tuple [bysV Mg, vB true]) (hP 3 20 20 [eV 10 4 0 0 0] 1)) := by
  have n55 := mn55 3 20 20 [eV 10 1 0 0 0] 1 rfl
  have n56 := mj56 3 20 20 10 1 0 0 0 1 (by decide)
  have n53 := mn53 3 20 20 10 1 0 0 12 4 3 0 0 1 mh49b mh50b
  rw [e53a'] at n53
  have n54 := mj54 3 20 20 10 4 0 0 0 1 (by decide) rfl
  refine AC_heapF orders [0, 1] Try.func33 rfl (by kernel_rfl) (by kernel_rfl) Try.ntmps33 (by simp) ?_
  unfold Try.f33
  (have hwq := trivial; repeat' (first | simp (maxSteps:=9999999)-implicitDefEqProofs only [go_sem,simprocAttr,hwq,u3,a3,c3,b3,z3,k3,u4,a4,c4,b4,z4,k4,u5,a5,c5,b5,z5,k5,u22,a22,c22,b22,z22,k22,u23,a23,c23,b23,z23,k23,u39,a39,c39,b39,z39,k39,l39,u40,a40,c40,b40,z40,k40,u41,a41,c41,b41,z41,k41,u77,a77,c77,b77,z77,k77,u79,a79,c79,b79,z79,k79,u82,a82,c82,b82,z82,k82,u84,a84,c84,b84,z84,k84,u91,a91,c91,b91,z91,k91,u96,a96,c96,b96,z96,k96,u99,a99,c99,b99,z99,k99,u100,a100,c100,b100,z100,k100,u105,a105,c105,b105,z105,k105,l105,rn_mp,mapT_mp,pz_mp,flatE,flatS,lk3,nextK,aentry,forall_eq_or_imp,forall_eq,List.getLast?_append,List.getLast?_singleton,List.getLast?_nil,List.getLast?_cons_cons,List.find?_cons,Option.some_or,List.mem_append,List.nil_append,List.eraseIdx_cons_zero,List.eraseIdx_cons_succ,Option.or_some,List.forall_mem_cons,List.forall_mem_nil,not_true_eq_false,List.map_cons,List.map_nil] | (refine awpL_loop 18 ?_; have hwq := trivial) | (refine condK_split ?_ ?_ <;> intro hwq) | (refine two_split ?_ ?_) | (refine guardK_split ?_ ?_ <;> intro hwq) | (refine guardE_split ?_ ?_ <;> intro hwq) | (refine awp_drawI 13 [] (List.range 20) [0, 1, 3, 7, 7, 23, 63, 127, 255, 7, 7, 1031, 3591, 7687, 15879, 32263, 65535, 7, 262143, 524287] (by decide +kernel) ?_; have hwq := trivial) | (refine awp_drawW [] (by decide +kernel) ?_; have hwq := trivial) | (refine call_at [0, 1] n55 (by simp) (by decide) rfl rfl ?_ (V.les_refl _) ?_; (· simp [mapT_mp, mapT_mp (es := []) rfl, flatE, flatS, mapT_box, V.mapTs, V.mapT, pl]; done); have hwq := trivial) | (refine call_at [0, 1] n56 (by simp) (by decide) rfl rfl ?_ (V.les_refl _) ?_; (· simp [mapT_mp, mapT_mp (es := []) rfl, flatE, flatS, mapT_box, V.mapTs, V.mapT, pl]; done); have hwq := trivial) | (refine call_at [0, 1] n53 (by simp) (by decide) rfl rfl ?_ (V.les_refl _) ?_; (· simp [mapT_mp, mapT_mp (es := []) rfl, flatE, flatS, mapT_box, V.mapTs, V.mapT, pl]; done); have hwq := trivial) | (refine call_at [0, 1] n54 (by simp) (by decide) rfl rfl ?_ (V.les_refl _) ?_; (· simp [mapT_mp, mapT_mp (es := []) rfl, flatE, flatS, mapT_box, V.mapTs, V.mapT, pl]; done); have hwq := trivial) | (refine call_dataF mh11 rfl (V.les_refl _) rfl rfl ?_; have hwq := trivial) | fail))
  all_goals rfl
end Go.Ai

set_option linter.unusedVariables false
set_option linter.unusedSimpArgs false
set_option maxHeartbeats 4000000
set_option maxRecDepth 100000
namespace Go.Ai
open Go.Proofs
/-- The message of one VLAN. -/
abbrev Mb (v s : Int) : List Int := [0, 1, 2, 0, 1, v / 256, v % 256, s * 36, 0, 0, 0, 0]
theorem enc1 (v s : Int) (hv : 1 ≤ v) (hv2 : v ≤ 4094) (hs : 0 ≤ s) (hs2 : s ≤ 5) : encR [⟨false, v, [s]⟩] = (Mb v s, 0) := by
  have hm : mayB ⟨false, v, [s]⟩ = true := by
    have e1 : ¬ v < 1 := by omega
    have e2 : ¬ 4094 < v := by omega
    have e3 : ¬ 4095 - (1 : Int) < v := by omega
    have e4 : ¬ s < 0 := by omega
    have e5 : ¬ 5 < s := by omega
    simp only [mayB, badA, List.length_cons, List.length_nil, List.any_cons, List.any_nil]
    simp [e1, e2, e4, e5]
  unfold encR
  rw [if_neg (by simp), if_neg (by simp [hm])]
  have h : encB [⟨false, v, [s]⟩] = [0, 1, 2, 0, 1, v / 256, v % 256, (s * 6 + 0) * 6 + 0] := by simp [encB, vcB, vcH, twoL, hdN, chN, chk, pk3, List.range_succ]
  rw [h]
  have h2 : (s * 6 + 0) * 6 + 0 = s * 36 := by omega
  rw [h2]
  rfl
theorem mv11 (v s : Int) (hv : 1 ≤ v) (hv2 : v ≤ 4094) (hs : 0 ≤ s) (hs2 : s ≤ 5) : AC Try.prog 11 [vcsV [⟨false, v, [s]⟩]] [] (eqR (.tuple [bysV (Mb v s), vI 0])) := by
  have h := mc11 [⟨false, v, [s]⟩] (by simp)
  rwa [enc1 v s hv hv2 hs hs2] at h
end Go.Ai

set_option linter.unusedVariables false
set_option linter.unusedSimpArgs false
set_option maxHeartbeats 4000000
set_option maxRecDepth 100000
namespace Go.Ai
open Go.Proofs
attribute [local go_sem] QH QR V.noimm V.noimms frzZs frzZ frzA frzV frzVs frzBox boxLen Option.isSome cond_true cond_false aopD calW flatV stepX amap stepY alookup afind aupdate adelete amlen arange ameq mapOf akeq pl V.mapT V.mapTs Option.bind stepK runK guardD stepE runD callD compact selB callK evS ofVal ofVals scalar aop ares mkRes V.rn V.rns V.cells? cellsAt Go.Ai.part aload astore setL V.atom abin aun intBin shiftBin aconv fieldOf aindexAddr aindex bound? aslice aarr abuild afill alen nilP nilS nilF aeq eqCells eqCell Go.Ai.known strBin abuiltin aappend abuildSlice arowsFill amakeSlice acopy aclear minmax rowsOf numsT notStr isIntD isByte V.pz V.pzs T.toV frz1 frz scalT scalTs chunkT List.range List.range.loop ite_true ite_false if_true if_false ne_eq implies_true forall_const eq_self IntKind.bits kPostKF_ret kPostKF_normal kPostX_ret kPostX_normal bsl nil2K nil2 kPostFW_ret kPostFW_normal kPostKM_ret kPostKM_normal kPostXK_ret kPostXK_normal
theorem mj54d (lv al ck v t : Int) (n c : Nat) (hnc : n < c) : AC Try.prog 54 [.ptr 0 0 0] (hP lv al ck [eV v 0 0 t n] c) (eqS (.tuple []) (hP lv al ck [] c)) := by
  refine AC_heap orders [0, 1] Try.func54 rfl (by kernel_rfl) (by kernel_rfl) Try.ntmps54 (by simp) ?_
  unfold Try.f54
  (have hwq := trivial; repeat' (first | simp (maxSteps:=9999999)-implicitDefEqProofs only [go_sem,simprocAttr,hwq,u3,a3,c3,b3,z3,k3,u39,a39,c39,b39,z39,k39,l39,u41,a41,c41,b41,z41,k41,u77,a77,c77,b77,z77,k77,u79,a79,c79,b79,z79,k79,u96,a96,c96,b96,z96,k96,u100,a100,c100,b100,z100,k100,u105,a105,c105,b105,z105,k105,l105,rn_mp,mapT_mp,pz_mp,flatE,flatS,lk3,nextK,aentry,forall_eq_or_imp,forall_eq,List.getLast?_append,List.getLast?_singleton,List.getLast?_nil,List.getLast?_cons_cons,List.find?_cons,Option.some_or,List.mem_append,List.nil_append,List.eraseIdx_cons_zero,List.eraseIdx_cons_succ,Option.or_some,List.forall_mem_cons,List.forall_mem_nil,not_true_eq_false,List.map_cons,List.map_nil,hnc,true_and] | (refine awpL_loop 18 ?_; have hwq := trivial) | (refine condK_split ?_ ?_ <;> intro hwq) | (refine two_split ?_ ?_) | (refine guardK_split ?_ ?_ <;> intro hwq) | (refine guardE_split ?_ ?_ <;> intro hwq) | (refine awp_drawW [] (by decide +kernel) ?_; have hwq := trivial) | fail))
theorem mw33j (lv al ck v : Int) (hv : 1 ≤ v) (hv2 : v ≤ 4094) (hck : (ck == 0) = false) : AC Try.prog 33 [.ptr 0 0 0] (hP lv al ck [eV v 1 0 0 0] 1) (eqS (.tuple [bysV (Mb v 3), vB true]) (hP lv al ck [eV v 4 0 0 0] 1)) := by
  have n55 := mn55 lv al ck [eV v 1 0 0 0] 1 rfl
  have n56 := mj56 lv al ck v 1 0 0 0 1 (by decide)
  have n53 := mn53 lv al ck v 1 0 0 12 4 3 0 0 1 mh49b mh50b
  rw [show (if ((0 : Int) == 1 && (0 : Int) != 1) = true then lv else 0) = 0 from rfl] at n53
  have n54 := mj54 lv al ck v 4 0 0 0 1 (by decide) rfl
  have n11 := mv11 v 3 hv hv2 (by decide) (by decide)
  refine AC_heapF orders [0, 1] Try.func33 rfl (by kernel_rfl) (by kernel_rfl) Try.ntmps33 (by simp) ?_
  unfold Try.f33
  (have hwq := trivial; repeat' (first | simp (maxSteps:=9999999)-implicitDefEqProofs only [go_sem,simprocAttr,hwq,u3,a3,c3,b3,z3,k3,u4,a4,c4,b4,z4,k4,u5,a5,c5,b5,z5,k5,u22,a22,c22,b22,z22,k22,u23,a23,c23,b23,z23,k23,u39,a39,c39,b39,z39,k39,l39,u40,a40,c40,b40,z40,k40,u41,a41,c41,b41,z41,k41,u77,a77,c77,b77,z77,k77,u79,a79,c79,b79,z79,k79,u82,a82,c82,b82,z82,k82,u84,a84,c84,b84,z84,k84,u91,a91,c91,b91,z91,k91,u96,a96,c96,b96,z96,k96,u99,a99,c99,b99,z99,k99,u100,a100,c100,b100,z100,k100,u105,a105,c105,b105,z105,k105,l105,rn_mp,mapT_mp,pz_mp,flatE,flatS,lk3,nextK,aentry,forall_eq_or_imp,forall_eq,List.getLast?_append,List.getLast?_singleton,List.getLast?_nil,List.getLast?_cons_cons,List.find?_cons,Option.some_or,List.mem_append,List.nil_append,List.eraseIdx_cons_zero,List.eraseIdx_cons_succ,Option.or_some,List.forall_mem_cons,List.forall_mem_nil,not_true_eq_false,List.map_cons,List.map_nil,hck] | (refine awpL_loop 18 ?_; have hwq := trivial) | (refine condK_split ?_ ?_ <;> intro hwq) | (refine two_split ?_ ?_) | (refine guardK_split ?_ ?_ <;> intro hwq) | (refine guardE_split ?_ ?_ <;> intro hwq) | (refine awp_drawI 13 [] (List.range 20) [0, 1, 3, 7, 7, 23, 63, 127, 255, 7, 7, 1031, 3591, 7687, 15879, 32263, 65535, 7, 262143, 524287] (by decide +kernel) ?_; have hwq := trivial) | (refine awp_drawW [] (by decide +kernel) ?_; have hwq := trivial) | (refine call_at [0, 1] n55 (by simp) (by decide) rfl rfl ?_ (V.les_refl _) ?_; (· simp [mapT_mp, mapT_mp (es := []) rfl, flatE, flatS, mapT_box, V.mapTs, V.mapT, pl]; done); have hwq := trivial) | (refine call_at [0, 1] n56 (by simp) (by decide) rfl rfl ?_ (V.les_refl _) ?_; (· simp [mapT_mp, mapT_mp (es := []) rfl, flatE, flatS, mapT_box, V.mapTs, V.mapT, pl]; done); have hwq := trivial) | (refine call_at [0, 1] n53 (by simp) (by decide) rfl rfl ?_ (V.les_refl _) ?_; (· simp [mapT_mp, mapT_mp (es := []) rfl, flatE, flatS, mapT_box, V.mapTs, V.mapT, pl]; done); have hwq := trivial) | (refine call_at [0, 1] n54 (by simp) (by decide) rfl rfl ?_ (V.les_refl _) ?_; (· simp [mapT_mp, mapT_mp (es := []) rfl, flatE, flatS, mapT_box, V.mapTs, V.mapT, pl]; done); have hwq := trivial) | (refine call_dataF n11 rfl (V.les_refl _) rfl rfl ?_; have hwq := trivial) | fail))
  all_goals rfl
theorem mw33n (lv al ck v : Int) (hv : 1 ≤ v) (hv2 : v ≤ 4094) (hck : (ck == 0) = false) : AC Try.prog 33 [.ptr 0 0 0] (hP lv al ck [eV v 2 0 0 0] 1) (eqS (.tuple [bysV (Mb v 0), vB true]) (hP lv al ck [eV v 3 0 0 0] 1)) := by
  have n55 := mn55 lv al ck [eV v 2 0 0 0] 1 rfl
  have n56 := mj56 lv al ck v 2 0 0 0 1 (by decide)
  have n53 := mn53 lv al ck v 2 0 0 12 3 0 0 0 1 mt49s mh50b
  rw [show (if ((0 : Int) == 1 && (0 : Int) != 1) = true then lv else 0) = 0 from rfl] at n53
  have n54 := mj54 lv al ck v 3 0 0 0 1 (by decide) rfl
  have n11 := mv11 v 0 hv hv2 (by decide) (by decide)
  refine AC_heapF orders [0, 1] Try.func33 rfl (by kernel_rfl) (by kernel_rfl) Try.ntmps33 (by simp) ?_
  unfold Try.f33
  (have hwq := trivial; repeat' (first | simp (maxSteps:=9999999)-implicitDefEqProofs only [go_sem,simprocAttr,hwq,u3,a3,c3,b3,z3,k3,u4,a4,c4,b4,z4,k4,u5,a5,c5,b5,z5,k5,u22,a22,c22,b22,z22,k22,u23,a23,c23,b23,z23,k23,u39,a39,c39,b39,z39,k39,l39,u40,a40,c40,b40,z40,k40,u41,a41,c41,b41,z41,k41,u77,a77,c77,b77,z77,k77,u79,a79,c79,b79,z79,k79,u82,a82,c82,b82,z82,k82,u84,a84,c84,b84,z84,k84,u91,a91,c91,b91,z91,k91,u96,a96,c96,b96,z96,k96,u99,a99,c99,b99,z99,k99,u100,a100,c100,b100,z100,k100,u105,a105,c105,b105,z105,k105,l105,rn_mp,mapT_mp,pz_mp,flatE,flatS,lk3,nextK,aentry,forall_eq_or_imp,forall_eq,List.getLast?_append,List.getLast?_singleton,List.getLast?_nil,List.getLast?_cons_cons,List.find?_cons,Option.some_or,List.mem_append,List.nil_append,List.eraseIdx_cons_zero,List.eraseIdx_cons_succ,Option.or_some,List.forall_mem_cons,List.forall_mem_nil,not_true_eq_false,List.map_cons,List.map_nil,hck] | (refine awpL_loop 18 ?_; have hwq := trivial) | (refine condK_split ?_ ?_ <;> intro hwq) | (refine two_split ?_ ?_) | (refine guardK_split ?_ ?_ <;> intro hwq) | (refine guardE_split ?_ ?_ <;> intro hwq) | (refine awp_drawI 13 [] (List.range 20) [0, 1, 3, 7, 7, 23, 63, 127, 255, 7, 7, 1031, 3591, 7687, 15879, 32263, 65535, 7, 262143, 524287] (by decide +kernel) ?_; have hwq := trivial) | (refine awp_drawW [] (by decide +kernel) ?_; have hwq := trivial) | (refine call_at [0, 1] n55 (by simp) (by decide) rfl rfl ?_ (V.les_refl _) ?_; (· simp [mapT_mp, mapT_mp (es := []) rfl, flatE, flatS, mapT_box, V.mapTs, V.mapT, pl]; done); have hwq := trivial) | (refine call_at [0, 1] n56 (by simp) (by decide) rfl rfl ?_ (V.les_refl _) ?_; (· simp [mapT_mp, mapT_mp (es := []) rfl, flatE, flatS, mapT_box, V.mapTs, V.mapT, pl]; done); have hwq := trivial) | (refine call_at [0, 1] n53 (by simp) (by decide) rfl rfl ?_ (V.les_refl _) ?_; (· simp [mapT_mp, mapT_mp (es := []) rfl, flatE, flatS, mapT_box, V.mapTs, V.mapT, pl]; done); have hwq := trivial) | (refine call_at [0, 1] n54 (by simp) (by decide) rfl rfl ?_ (V.les_refl _) ?_; (· simp [mapT_mp, mapT_mp (es := []) rfl, flatE, flatS, mapT_box, V.mapTs, V.mapT, pl]; done); have hwq := trivial) | (refine call_dataF n11 rfl (V.les_refl _) rfl rfl ?_; have hwq := trivial) | fail))
  all_goals rfl
theorem mw33l (lv al ck v : Int) (hv : 1 ≤ v) (hv2 : v ≤ 4094) (hck : (ck == 0) = false) : AC Try.prog 33 [.ptr 0 0 0] (hP lv al ck [eV v 6 0 0 0] 1) (eqS (.tuple [bysV (Mb v 5), vB true]) (hP lv al ck [] 1)) := by
  have n55 := mn55 lv al ck [eV v 6 0 0 0] 1 rfl
  have n56 := mj56 lv al ck v 6 0 0 0 1 (by decide)
  have n53 := mn53 lv al ck v 6 0 0 12 0 5 0 0 1 mt49l mh50b
  rw [show (if ((0 : Int) == 1 && (0 : Int) != 1) = true then lv else 0) = 0 from rfl] at n53
  have n54 := mj54d lv al ck v 0 0 1 (by decide)
  have n11 := mv11 v 5 hv hv2 (by decide) (by decide)
  refine AC_heapF orders [0, 1] Try.func33 rfl (by kernel_rfl) (by kernel_rfl) Try.ntmps33 (by simp) ?_
  unfold Try.f33
  (have hwq := trivial; repeat' (first | simp (maxSteps:=9999999)-implicitDefEqProofs only [go_sem,simprocAttr,hwq,u3,a3,c3,b3,z3,k3,u4,a4,c4,b4,z4,k4,u5,a5,c5,b5,z5,k5,u22,a22,c22,b22,z22,k22,u23,a23,c23,b23,z23,k23,u39,a39,c39,b39,z39,k39,l39,u40,a40,c40,b40,z40,k40,u41,a41,c41,b41,z41,k41,u77,a77,c77,b77,z77,k77,u79,a79,c79,b79,z79,k79,u82,a82,c82,b82,z82,k82,u84,a84,c84,b84,z84,k84,u91,a91,c91,b91,z91,k91,u96,a96,c96,b96,z96,k96,u99,a99,c99,b99,z99,k99,u100,a100,c100,b100,z100,k100,u105,a105,c105,b105,z105,k105,l105,rn_mp,mapT_mp,pz_mp,flatE,flatS,lk3,nextK,aentry,forall_eq_or_imp,forall_eq,List.getLast?_append,List.getLast?_singleton,List.getLast?_nil,List.getLast?_cons_cons,List.find?_cons,Option.some_or,List.mem_append,List.nil_append,List.eraseIdx_cons_zero,List.eraseIdx_cons_succ,Option.or_some,List.forall_mem_cons,List.forall_mem_nil,not_true_eq_false,List.map_cons,List.map_nil,hck] | (refine awpL_loop 18 ?_; have hwq := trivial) | (refine condK_split ?_ ?_ <;> intro hwq) | (refine two_split ?_ ?_) | (refine guardK_split ?_ ?_ <;> intro hwq) | (refine guardE_split ?_ ?_ <;> intro hwq) | (refine awp_drawI 13 [] (List.range 20) [0, 1, 3, 7, 7, 23, 63, 127, 255, 7, 7, 1031, 3591, 7687, 15879, 32263, 65535, 7, 262143, 524287] (by decide +kernel) ?_; have hwq := trivial) | (refine awp_drawW [] (by decide +kernel) ?_; have hwq := trivial) | (refine call_at [0, 1] n55 (by simp) (by decide) rfl rfl ?_ (V.les_refl _) ?_; (· simp [mapT_mp, mapT_mp (es := []) rfl, flatE, flatS, mapT_box, V.mapTs, V.mapT, pl]; done); have hwq := trivial) | (refine call_at [0, 1] n56 (by simp) (by decide) rfl rfl ?_ (V.les_refl _) ?_; (· simp [mapT_mp, mapT_mp (es := []) rfl, flatE, flatS, mapT_box, V.mapTs, V.mapT, pl]; done); have hwq := trivial) | (refine call_at [0, 1] n53 (by simp) (by decide) rfl rfl ?_ (V.les_refl _) ?_; (· simp [mapT_mp, mapT_mp (es := []) rfl, flatE, flatS, mapT_box, V.mapTs, V.mapT, pl]; done); have hwq := trivial) | (refine call_at [0, 1] n54 (by simp) (by decide) rfl rfl ?_ (V.les_refl _) ?_; (· simp [mapT_mp, mapT_mp (es := []) rfl, flatE, flatS, mapT_box, V.mapTs, V.mapT, pl]; done); have hwq := trivial) | (refine call_dataF n11 rfl (V.les_refl _) rfl rfl ?_; have hwq := trivial) | fail))
  all_goals rfl
end Go.Ai

set_option linter.unusedVariables false
set_option linter.unusedSimpArgs false
set_option maxHeartbeats 400000
namespace Go.Ai
open Go.Proofs
theorem or2 (a b : Int) (ha : 0 ≤ a) (ha2 : a ≤ 255) (hb : 0 ≤ b) (hb2 : b ≤ 255) : bOr .i64 (a * 256) b = a * 256 + b := by
  obtain ⟨n, rfl⟩ := Int.eq_ofNat_of_zero_le ha
  obtain ⟨m, rfl⟩ := Int.eq_ofNat_of_zero_le hb
  have h := Nat.two_pow_add_eq_or_of_lt (i := 8) (b := m) (by omega) n
  unfold bOr
  have e1 : (BitVec.ofInt IntKind.i64.bits ((n : Int) * 256)).toNat = 2 ^ 8 * n := by
    show (BitVec.ofInt 64 ((n : Int) * 256)).toNat = _
    rw [BitVec.toNat_ofInt]
    omega
  have e2 : (BitVec.ofInt IntKind.i64.bits (m : Int)).toNat = m := by
    show (BitVec.ofInt 64 (m : Int)).toNat = _
    rw [BitVec.toNat_ofInt]
    omega
  rw [BitVec.toNat_or, e1, e2, ← h]
  rw [wI64 _ (by omega) (by omega)]
  omega
theorem and_pow (n k : Nat) : n &&& 2 ^ k = if n.testBit k then 2 ^ k else 0 := by
  apply Nat.eq_of_testBit_eq
  intro i
  rw [Nat.testBit_and, Nat.testBit_two_pow]
  by_cases h : k = i
  · subst h
    cases hb : n.testBit k <;> simp [Nat.testBit_two_pow]
  · cases hb : n.testBit k <;> simp [Nat.testBit_two_pow, h]
theorem and13 (n : Nat) (hn : n < 65536) : bAnd .i64 (n : Int) 8192 = if n / 8192 % 2 = 1 then 8192 else 0 := by
  unfold bAnd
  have e1 : (BitVec.ofInt IntKind.i64.bits (n : Int)).toNat = n := by
    show (BitVec.ofInt 64 (n : Int)).toNat = _
    rw [BitVec.toNat_ofInt]
    omega
  have e2 : (BitVec.ofInt IntKind.i64.bits (8192 : Int)).toNat = 2 ^ 13 := by
    show (BitVec.ofInt 64 (8192 : Int)).toNat = _
    rw [BitVec.toNat_ofInt]
    omega
  rw [BitVec.toNat_and, e1, e2, and_pow, Nat.testBit_eq_decide_div_mod_eq]
  by_cases h : n / 8192 % 2 = 1
  · have h' : n / 2 ^ 13 % 2 = 1 := h
    simp only [h, h', decide_true, if_true]
    exact wI64 _ (by omega) (by omega)
  · have h' : ¬ n / 2 ^ 13 % 2 = 1 := h
    simp only [h, h', decide_false, if_false]
    rfl
end Go.Ai

set_option linter.unusedVariables false
set_option linter.unusedSimpArgs false
set_option maxHeartbeats 1000000
namespace Go.Ai
open Go.Proofs
theorem bv_split (x y : BitVec 64) : (x &&& ~~~y) + (x &&& y) = x := by
  rw [BitVec.add_eq_or_of_and_eq_zero]
  · apply BitVec.eq_of_getElem_eq
    intro i hi
    simp only [BitVec.getElem_or, BitVec.getElem_and, BitVec.getElem_not]
    cases x[i] <;> cases y[i] <;> rfl
  · apply BitVec.eq_of_getElem_eq
    intro i hi
    simp only [BitVec.getElem_zero, BitVec.getElem_and, BitVec.getElem_not]
    cases x[i] <;> cases y[i] <;> rfl
def vecN (h : Nat) : Nat := if h / 8192 % 2 = 1 then h - 8192 else h
theorem andn13 (n : Nat) (hn : n < 65536) : bAndNot .i64 (n : Int) 8192 = (vecN n : Nat) := by
  have e1 : (BitVec.ofInt 64 (n : Int)).toNat = n := by
    rw [BitVec.toNat_ofInt]
    omega
  have e2 : (BitVec.ofInt 64 (8192 : Int)).toNat = 2 ^ 13 := by
    rw [BitVec.toNat_ofInt]
    omega
  have h1 : (BitVec.ofInt 64 (n : Int) &&& BitVec.ofInt 64 8192).toNat = if n / 8192 % 2 = 1 then 8192 else 0 := by
    rw [BitVec.toNat_and, e1, e2, and_pow, Nat.testBit_eq_decide_div_mod_eq]
    by_cases h : n / 8192 % 2 = 1
    · have h' : n / 2 ^ 13 % 2 = 1 := h
      simp [h, h']
    · have h' : ¬ n / 2 ^ 13 % 2 = 1 := h
      simp only [h, h', decide_false, if_false]
      rfl
  have h2 := congrArg BitVec.toNat (bv_split (BitVec.ofInt 64 (n : Int)) (BitVec.ofInt 64 8192))
  have h3 : (BitVec.ofInt 64 (n : Int) &&& ~~~BitVec.ofInt 64 8192).toNat ≤ n := by
    rw [BitVec.toNat_and, e1]
    exact Nat.and_le_left
  rw [BitVec.toNat_add, h1, e1] at h2
  have h4 : (BitVec.ofInt 64 (n : Int) &&& ~~~BitVec.ofInt 64 8192).toNat = vecN n := by
    unfold vecN
    split at h2 <;> rename_i hc
    · rw [if_pos hc]; omega
    · rw [if_neg hc]; omega
  show IntKind.i64.wrap ((BitVec.ofInt 64 (n : Int) &&& ~~~BitVec.ofInt 64 8192).toNat : Int) = _
  rw [h4]
  have h5 : vecN n ≤ n := by unfold vecN; split <;> omega
  exact wI64 _ (by omega) (by omega)
/-- What a byte holds. -/
def unp3 (x : Int) : List Int := [x / 36, x / 6 % 6, x % 6]
def unpR (x : Int) : List Int := [x / 36 % 6, x / 6 % 6, x % 6]
def vecK (b : List Int) : Option (Vc × List Int) :=
  match b with
  | b0 :: b1 :: b2 :: b3 :: r =>
    if 64 < vecN (b0 * 256 + b1).toNat ∨ r.length < (vecN (b0 * 256 + b1).toNat + 2) / 3 then none
    else some (⟨decide ((b0 * 256 + b1).toNat / 8192 % 2 = 1), b2 * 256 + b3, ((r.take ((vecN (b0 * 256 + b1).toNat + 2) / 3)).flatMap unp3).take (vecN (b0 * 256 + b1).toNat)⟩, r.drop ((vecN (b0 * 256 + b1).toNat + 2) / 3))
  | _ => none
def decP : Nat → List Int → List Vc → List Vc
  | 0, _, l => l
  | k + 1, rest, l => match vecK rest with
    | none => l
    | some (v, more) => if mayB v then decP k more (l ++ [v]) else l
def decodeP (b : List Int) : List Vc × Int :=
  if b.length < 7 then ([], 6) else if encR (decP 64 (b.drop 3) []) = (b, 0) then (decP 64 (b.drop 3) [], 0) else ([], 290)
def pkL (l : List Int) : List Int := (List.range (chN l.length)).map fun k => pk3 (chk l k)
theorem pkL_cons (a b c : Int) (t : List Int) : pkL (a :: b :: c :: t) = pk3 [a, b, c] :: pkL t := by
  unfold pkL
  have h : chN (a :: b :: c :: t).length = chN t.length + 1 := by unfold chN; simp; omega
  rw [h, List.range_succ_eq_map, List.map_cons, List.map_map]
  rfl
theorem pk3_unp (a b c : Int) (ha : 0 ≤ a ∧ a ≤ 5) (hb : 0 ≤ b ∧ b ≤ 5) (hc : 0 ≤ c ∧ c ≤ 5) : unp3 (pk3 [a, b, c]) = [a, b, c] ∧ unpR (pk3 [a, b, c]) = [a, b, c] := by
  have h : pk3 [a, b, c] = (a * 6 + b) * 6 + c := rfl
  rw [h]
  unfold unp3 unpR
  simp only [List.cons.injEq, and_true]
  omega
theorem pk_back : ∀ (l : List Int), (∀ a ∈ l, 0 ≤ a ∧ a ≤ 5) → ((pkL l).flatMap unp3).take l.length = l ∧ ((pkL l).flatMap unpR).take l.length = l
  | [], _ => ⟨rfl, rfl⟩
  | [a], h => by
    have h1 := h a (by simp)
    have e : pkL [a] = [pk3 [a, 0, 0]] := by simp [pkL, chN, chk, pk3, List.range_succ]
    obtain ⟨p1, p2⟩ := pk3_unp a 0 0 h1 (by omega) (by omega)
    rw [e]; simp [p1, p2]
  | [a, b], h => by
    have h1 := h a (by simp)
    have h2 := h b (by simp)
    have e : pkL [a, b] = [pk3 [a, b, 0]] := by simp [pkL, chN, chk, pk3, List.range_succ]
    obtain ⟨p1, p2⟩ := pk3_unp a b 0 h1 h2 (by omega)
    rw [e]; simp [p1, p2]
  | a :: b :: c :: t, h => by
    obtain ⟨p1, p2⟩ := pk3_unp a b c (h a (by simp)) (h b (by simp)) (h c (by simp))
    obtain ⟨i1, i2⟩ := pk_back t fun x hx => h x (by simp [hx])
    rw [pkL_cons]
    simp [p1, p2, i1, i2]
theorem pkL_len (l : List Int) : (pkL l).length = (l.length + 2) / 3 := by simp [pkL, chN]
theorem vcB_eq (x : Vc) : vcB x = hdN x / 256 :: hdN x % 256 :: x.fi / 256 :: x.fi % 256 :: pkL x.l := rfl
theorem hdN_nat {x : Vc} (h : x.l.length ≤ 64) : (hdN x / 256 * 256 + hdN x % 256).toNat = if x.al then x.l.length + 8192 else x.l.length := by
  unfold hdN
  cases x.al <;> simp <;> omega
theorem hdN_vec {x : Vc} (h : x.l.length ≤ 64) : vecN (hdN x / 256 * 256 + hdN x % 256).toNat = x.l.length ∧ decide ((hdN x / 256 * 256 + hdN x % 256).toNat / 8192 % 2 = 1) = x.al := by
  rw [hdN_nat h]
  unfold vecN
  cases x.al
  · have : ¬ (x.l.length / 8192 % 2 = 1) := by omega
    simp [this]
  · have : (x.l.length + 8192) / 8192 % 2 = 1 := by omega
    refine ⟨?_, ?_⟩
    · simp only [↓reduceIte, this]; omega
    · simp only [↓reduceIte, this]; rfl
theorem vecK_vcB (x : Vc) (hm : mayB x = true) (r : List Int) : vecK (vcB x ++ r) = some (x, r) := by
  obtain ⟨b1, b2, b3, b6⟩ := mayB_of hm
  obtain ⟨n1, n2⟩ := hdN_vec b3
  rw [vcB_eq]
  simp only [List.cons_append, vecK]
  rw [n1, n2]
  have hl := pkL_len x.l
  rw [if_neg (by simp [hl]; omega), ← hl, List.take_left, List.drop_left, (pk_back x.l b6).1]
  have e : x.fi / 256 * 256 + x.fi % 256 = x.fi := by omega
  rw [e]
theorem decP_enc : ∀ (L : List Vc) (k : Nat) (l : List Vc), (∀ x ∈ L, mayB x = true) → L.length ≤ k → decP k (L.flatMap vcB ++ [0, 0, 0, 0]) l = l ++ L
  | [], 0, l, _, _ => by simp [decP]
  | [], k + 1, l, _, _ => by
    have h : vecK ([] ++ [0, 0, 0, 0]) = some (⟨false, 0, []⟩, []) := by decide
    rw [List.flatMap_nil]
    unfold decP
    rw [h]
    simp [mayB]
  | x :: L, 0, l, _, h => by simp at h
  | x :: L, k + 1, l, hm, h => by
    have hx := hm x (by simp)
    rw [List.flatMap_cons, List.append_assoc]
    unfold decP
    rw [vecK_vcB x hx]
    simp only [hx, if_true]
    rw [decP_enc L k (l ++ [x]) (fun y hy => hm y (by simp [hy])) (by simpa using h), List.append_assoc]
    rfl
theorem encR_ok {L : List Vc} {b : List Int} (h : encR L = (b, 0)) : L.length ≤ 64 ∧ L ≠ [] ∧ (∀ x ∈ L, mayB x = true) ∧ b = [0, 1, 2] ++ (L.flatMap vcB ++ [0, 0, 0, 0]) := by
  unfold encR at h
  split at h
  · simp at h
  split at h
  · simp at h
  rename_i h1 h2
  simp only [Prod.mk.injEq, and_true] at h
  refine ⟨by omega, fun e => h2 (.inl e), fun x hx => ?_, ?_⟩
  · cases hm : mayB x
    · exact absurd (.inr (List.any_eq_true.2 ⟨x, hx, by simp [hm]⟩)) h2
    · rfl
  · rw [← h]; simp [encB]
theorem enc_decP {L : List Vc} {b : List Int} (h : encR L = (b, 0)) : decodeP b = (L, 0) := by
  obtain ⟨h1, h2, h3, rfl⟩ := encR_ok h
  unfold decodeP
  rw [if_neg (by simp)]
  have e : ([0, 1, 2] ++ (L.flatMap vcB ++ [0, 0, 0, 0])).drop 3 = L.flatMap vcB ++ [0, 0, 0, 0] := rfl
  rw [e, decP_enc L 64 [] h3 h1, List.nil_append, if_pos h]
end Go.Ai
