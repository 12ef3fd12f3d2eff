/- Contracts of functions of the loaded program: called with data in the ranges that each names, it returns this value and writes to no old memory. -/
import Derived.Test.YtdojjjjhbgkpfaaMvpHb
set_option linter.unusedVariables false
set_option linter.unusedSimpArgs false
set_option maxHeartbeats 4000000
set_option maxRecDepth 100000
namespace Go.Ai
open Go.Proofs
attribute [local go_sem] QH QR V.noimm V.noimms frzZs frzZ frzA frzV frzVs frzBox boxLen Option.isSome cond_true cond_false aopD calW flatV stepX amap stepY alookup afind aupdate adelete amlen arange ameq mapOf akeq pl V.mapT V.mapTs Option.bind stepK runK guardD stepE runD callD compact selB callK evS ofVal ofVals scalar aop ares mkRes V.rn V.rns V.cells? cellsAt Go.Ai.part aload astore setL V.atom abin aun intBin shiftBin aconv fieldOf aindexAddr aindex bound? aslice aarr abuild afill alen nilP nilS nilF aeq eqCells eqCell Go.Ai.known strBin abuiltin aappend abuildSlice arowsFill amakeSlice acopy aclear minmax rowsOf numsT notStr isIntD isByte V.pz V.pzs T.toV frz1 frz scalT scalTs chunkT List.range List.range.loop ite_true ite_false if_true if_false ne_eq implies_true forall_const eq_self IntKind.bits kPostKF_ret kPostKF_normal kPostX_ret kPostX_normal bsl nil2K nil2 kPostFW_ret kPostFW_normal kPostKM_ret kPostKM_normal kPostXK_ret kPostXK_normal
theorem mh13 : AC Try.prog 13 [bysV Mg] [] (eqR (.tuple [vcsV [⟨false, 10, [3]⟩], vI 0])) := by
  refine AC_frozen orders Try.func13 rfl (by kernel_rfl) (by kernel_rfl) Try.ntmps13 (by simp) ?_
  unfold Try.f13
  (have hwq := trivial; repeat' (first | simp (maxSteps:=9999999)-implicitDefEqProofs only [go_sem,simprocAttr,hwq,u3,a3,c3,b3,z3,k3,u4,a4,c4,b4,z4,k4,u5,a5,c5,b5,z5,k5,u22,a22,c22,b22,z22,k22,u23,a23,c23,b23,z23,k23,u26,a26,c26,b26,z26,k26,u82,a82,c82,b82,z82,k82,u84,a84,c84,b84,z84,k84,u91,a91,c91,b91,z91,k91,List.map_cons,List.map_nil,List.drop_succ_cons,List.drop_zero,List.drop_nil,List.take_succ_cons,List.take_zero,List.take_nil,List.length_cons,List.length_nil] | (refine awpL_loop 18 ?_; have hwq := trivial) | (refine condK_split ?_ ?_ <;> intro hwq) | (refine two_split ?_ ?_) | (refine guardK_split ?_ ?_ <;> intro hwq) | (refine guardE_split ?_ ?_ <;> intro hwq) | (refine awp_drawW [] (by decide +kernel) ?_; have hwq := trivial) | (refine call_plain mh47a rfl rfl ?_; have hwq := trivial) | (refine call_plain mh47b rfl rfl ?_; have hwq := trivial) | (refine call_data mh42a rfl (V.les_refl _) rfl ?_; have hwq := trivial) | (refine call_data mh42b rfl (V.les_refl _) rfl ?_; have hwq := trivial) | (refine call_dataF mh11 rfl (V.les_refl _) rfl rfl ?_; have hwq := trivial) | (refine call_plain mh48 rfl rfl ?_; have hwq := trivial) | fail))
  rfl
end Go.Ai

set_option linter.unusedVariables false
set_option linter.unusedSimpArgs false
set_option maxHeartbeats 4000000
set_option maxRecDepth 100000
namespace Go.Ai
open Go.Proofs
attribute [local go_sem] QH QR V.noimm V.noimms frzZs frzZ frzA frzV frzVs frzBox boxLen Option.isSome cond_true cond_false aopD calW flatV stepX amap stepY alookup afind aupdate adelete amlen arange ameq mapOf akeq pl V.mapT V.mapTs Option.bind stepK runK guardD stepE runD callD compact selB callK evS ofVal ofVals scalar aop ares mkRes V.rn V.rns V.cells? cellsAt Go.Ai.part aload astore setL V.atom abin aun intBin shiftBin aconv fieldOf aindexAddr aindex bound? aslice aarr abuild afill alen nilP nilS nilF aeq eqCells eqCell Go.Ai.known strBin abuiltin aappend abuildSlice arowsFill amakeSlice acopy aclear minmax rowsOf numsT notStr isIntD isByte V.pz V.pzs T.toV frz1 frz scalT scalTs chunkT List.range List.range.loop ite_true ite_false if_true if_false ne_eq implies_true forall_const eq_self IntKind.bits kPostKF_ret kPostKF_normal kPostX_ret kPostX_normal bsl nil2K nil2 kPostFW_ret kPostFW_normal kPostKM_ret kPostKM_normal kPostXK_ret kPostXK_normal
theorem mj54 (lv al ck v a r t : Int) (n c : Nat) (hnc : n < c) (h : (a == 0 && r == 0) = false) : AC Try.prog 54 [.ptr 0 0 0] (hP lv al ck [eV v a r t n] c) (eqS (.tuple []) (hP lv al ck [eV v a r t n] c)) := by
  refine AC_heap orders [0, 1] Try.func54 rfl (by kernel_rfl) (by kernel_rfl) Try.ntmps54 (by simp) ?_
  unfold Try.f54
  (have hwq := trivial; repeat' (first | simp (maxSteps:=9999999)-implicitDefEqProofs only [go_sem,simprocAttr,hwq,u3,a3,c3,b3,z3,k3,u39,a39,c39,b39,z39,k39,l39,u41,a41,c41,b41,z41,k41,u77,a77,c77,b77,z77,k77,u79,a79,c79,b79,z79,k79,u96,a96,c96,b96,z96,k96,u100,a100,c100,b100,z100,k100,u105,a105,c105,b105,z105,k105,l105,rn_mp,mapT_mp,pz_mp,flatE,flatS,lk3,nextK,aentry,forall_eq_or_imp,forall_eq,List.getLast?_append,List.getLast?_singleton,List.getLast?_nil,List.getLast?_cons_cons,List.find?_cons,Option.some_or,List.mem_append,List.nil_append,List.eraseIdx_cons_zero,List.eraseIdx_cons_succ,Option.or_some,List.forall_mem_cons,List.forall_mem_nil,not_true_eq_false,hnc,true_and,h] | (refine awpL_loop 18 ?_; have hwq := trivial) | (refine condK_split ?_ ?_ <;> intro hwq) | (refine two_split ?_ ?_) | (refine guardK_split ?_ ?_ <;> intro hwq) | (refine guardE_split ?_ ?_ <;> intro hwq) | (refine awp_drawW [] (by decide +kernel) ?_; have hwq := trivial) | fail))
  all_goals simp_all
theorem mj56 (lv al ck v a r t : Int) (n c : Nat) (hnc : n < c) : AC Try.prog 56 [.ptr 0 0 0] (hP lv al ck [eV v a r t n] c) (eqS (isV [v]) (hP lv al ck [eV v a r t n] c)) := by
  refine AC_heapF orders [0, 1] Try.func56 rfl (by kernel_rfl) (by kernel_rfl) Try.ntmps56 (by simp) ?_
  unfold Try.f56
  (have hwq := trivial; repeat' (first | simp (maxSteps:=9999999)-implicitDefEqProofs only [go_sem,simprocAttr,hwq,u3,a3,c3,b3,z3,k3,u39,a39,c39,b39,z39,k39,l39,u40,a40,c40,b40,z40,k40,u41,a41,c41,b41,z41,k41,u77,a77,c77,b77,z77,k77,u79,a79,c79,b79,z79,k79,u96,a96,c96,b96,z96,k96,u100,a100,c100,b100,z100,k100,u105,a105,c105,b105,z105,k105,l105,rn_mp,mapT_mp,pz_mp,flatE,flatS,lk3,nextK,aentry,forall_eq_or_imp,forall_eq,List.getLast?_append,List.getLast?_singleton,List.getLast?_nil,List.getLast?_cons_cons,List.find?_cons,Option.some_or,List.mem_append,List.nil_append,List.eraseIdx_cons_zero,List.eraseIdx_cons_succ,Option.or_some,List.forall_mem_cons,List.forall_mem_nil,not_true_eq_false,hnc,true_and] | (refine awpL_loop 18 ?_; have hwq := trivial) | (refine condK_split ?_ ?_ <;> intro hwq) | (refine two_split ?_ ?_) | (refine guardK_split ?_ ?_ <;> intro hwq) | (refine guardE_split ?_ ?_ <;> intro hwq) | (refine awp_drawW [] (by decide +kernel) ?_; have hwq := trivial) | (refine call_own [4] (mz75 _) (by simp) (by decide) rfl rfl (V.les_refl _) ?_; have hwq := trivial) | fail))
  rfl
end Go.Ai

set_option linter.unusedVariables false
set_option linter.unusedSimpArgs false
set_option maxHeartbeats 4000000
set_option maxRecDepth 100000
namespace Go.Ai
open Go.Proofs
attribute [local go_sem] QH QR V.noimm V.noimms frzZs frzZ frzA frzV frzVs frzBox boxLen Option.isSome cond_true cond_false aopD calW flatV stepX amap stepY alookup afind aupdate adelete amlen arange ameq mapOf akeq pl V.mapT V.mapTs Option.bind stepK runK guardD stepE runD callD compact selB callK evS ofVal ofVals scalar aop ares mkRes V.rn V.rns V.cells? cellsAt Go.Ai.part aload astore setL V.atom abin aun intBin shiftBin aconv fieldOf aindexAddr aindex bound? aslice aarr abuild afill alen nilP nilS nilF aeq eqCells eqCell Go.Ai.known strBin abuiltin aappend abuildSlice arowsFill amakeSlice acopy aclear minmax rowsOf numsT notStr isIntD isByte V.pz V.pzs T.toV frz1 frz scalT scalTs chunkT List.range List.range.loop ite_true ite_false if_true if_false ne_eq implies_true forall_const eq_self IntKind.bits kPostKF_ret kPostKF_normal kPostX_ret kPostX_normal bsl nil2K nil2 kPostFW_ret kPostFW_normal kPostKM_ret kPostKM_normal kPostXK_ret kPostXK_normal
theorem e53a' : (if ((0 : Int) == 1 && (0 : Int) != 1) = true then (3 : Int) else 0) = 0 := rfl
theorem mk33 : AC Try.prog 33 [.ptr 0 0 0] (hP 3 20 20 [eV 10 1 0 0 0] 1) (eqS (.tuple [bysV Mg, vB true]) (hP 3 20 20 [eV 10 4 0 0 0] 1)) := by
  have n55 := mn55 3 20 20 [eV 10 1 0 0 0] 1 rfl
  have n56 := mj56 3 20 20 10 1 0 0 0 1 (by decide)
  have n53 := mn53 3 20 20 10 1 0 0 12 4 3 0 0 1 mh49b mh50b
  rw [e53a'] at n53
  have n54 := mj54 3 20 20 10 4 0 0 0 1 (by decide) rfl
  refine AC_heapF orders [0, 1] Try.func33 rfl (by kernel_rfl) (by kernel_rfl) Try.ntmps33 (by simp) ?_
  unfold Try.f33
  (have hwq := trivial; repeat' (first | simp (maxSteps:=9999999)-implicitDefEqProofs only [go_sem,simprocAttr,hwq,u3,a3,c3,b3,z3,k3,u4,a4,c4,b4,z4,k4,u5,a5,c5,b5,z5,k5,u22,a22,c22,b22,z22,k22,u23,a23,c23,b23,z23,k23,u39,a39,c39,b39,z39,k39,l39,u40,a40,c40,b40,z40,k40,u41,a41,c41,b41,z41,k41,u77,a77,c77,b77,z77,k77,u79,a79,c79,b79,z79,k79,u82,a82,c82,b82,z82,k82,u84,a84,c84,b84,z84,k84,u91,a91,c91,b91,z91,k91,u96,a96,c96,b96,z96,k96,u99,a99,c99,b99,z99,k99,u100,a100,c100,b100,z100,k100,u105,a105,c105,b105,z105,k105,l105,rn_mp,mapT_mp,pz_mp,flatE,flatS,lk3,nextK,aentry,forall_eq_or_imp,forall_eq,List.getLast?_append,List.getLast?_singleton,List.getLast?_nil,List.getLast?_cons_cons,List.find?_cons,Option.some_or,List.mem_append,List.nil_append,List.eraseIdx_cons_zero,List.eraseIdx_cons_succ,Option.or_some,List.forall_mem_cons,List.forall_mem_nil,not_true_eq_false,List.map_cons,List.map_nil] | (refine awpL_loop 18 ?_; have hwq := trivial) | (refine condK_split ?_ ?_ <;> intro hwq) | (refine two_split ?_ ?_) | (refine guardK_split ?_ ?_ <;> intro hwq) | (refine guardE_split ?_ ?_ <;> intro hwq) | (refine awp_drawI 13 [] (List.range 20) [0, 1, 3, 7, 7, 23, 63, 127, 255, 7, 7, 1031, 3591, 7687, 15879, 32263, 65535, 7, 262143, 524287] (by decide +kernel) ?_; have hwq := trivial) | (refine awp_drawW [] (by decide +kernel) ?_; have hwq := trivial) | (refine call_at [0, 1] n55 (by simp) (by decide) rfl rfl ?_ (V.les_refl _) ?_; (· simp [mapT_mp, mapT_mp (es := []) rfl, flatE, flatS, mapT_box, V.mapTs, V.mapT, pl]; done); have hwq := trivial) | (refine call_at [0, 1] n56 (by simp) (by decide) rfl rfl ?_ (V.les_refl _) ?_; (· simp [mapT_mp, mapT_mp (es := []) rfl, flatE, flatS, mapT_box, V.mapTs, V.mapT, pl]; done); have hwq := trivial) | (refine call_at [0, 1] n53 (by simp) (by decide) rfl rfl ?_ (V.les_refl _) ?_; (· simp [mapT_mp, mapT_mp (es := []) rfl, flatE, flatS, mapT_box, V.mapTs, V.mapT, pl]; done); have hwq := trivial) | (refine call_at [0, 1] n54 (by simp) (by decide) rfl rfl ?_ (V.les_refl _) ?_; (· simp [mapT_mp, mapT_mp (es := []) rfl, flatE, flatS, mapT_box, V.mapTs, V.mapT, pl]; done); have hwq := trivial) | (refine call_dataF mh11 rfl (V.les_refl _) rfl rfl ?_; have hwq := trivial) | fail))
  all_goals rfl
end Go.Ai

set_option linter.unusedVariables false
set_option linter.unusedSimpArgs false
set_option maxHeartbeats 4000000
set_option maxRecDepth 100000
namespace Go.Ai
open Go.Proofs
attribute [local go_sem] QH QR V.noimm V.noimms frzZs frzZ frzA frzV frzVs frzBox boxLen Option.isSome cond_true cond_false aopD calW flatV stepX amap stepY alookup afind aupdate adelete amlen arange ameq mapOf akeq pl V.mapT V.mapTs Option.bind stepK runK guardD stepE runD callD compact selB callK evS ofVal ofVals scalar aop ares mkRes V.rn V.rns V.cells? cellsAt Go.Ai.part aload astore setL V.atom abin aun intBin shiftBin aconv fieldOf aindexAddr aindex bound? aslice aarr abuild afill alen nilP nilS nilF aeq eqCells eqCell Go.Ai.known strBin abuiltin aappend abuildSlice arowsFill amakeSlice acopy aclear minmax rowsOf numsT notStr isIntD isByte V.pz V.pzs T.toV frz1 frz scalT scalTs chunkT List.range List.range.loop ite_true ite_false if_true if_false ne_eq implies_true forall_const eq_self IntKind.bits kPostKF_ret kPostKF_normal kPostX_ret kPostX_normal bsl nil2K nil2 kPostFW_ret kPostFW_normal kPostKM_ret kPostKM_normal kPostXK_ret kPostXK_normal
theorem e53a : (if ((0 : Int) == 1 && (0 : Int) != 1) = true then (3 : Int) else 0) = 0 := rfl
theorem e53b : (if ((2 : Int) == 1 && (0 : Int) != 1) = true then (3 : Int) else 0) = 0 := rfl
theorem mk18a : AC Try.prog 18 [.ptr 0 0 0, vI 10, vB false] (hP 3 20 20 [] 0) (eqS (vI 0) (hP 3 20 20 [eV 10 1 0 0 0] 1)) := by
  have n51 := mn51 3 20 20 [] 0 rfl 10 (by decide) (by decide)
  have n52 := mn52a 3 20 20 10 0
  have n53 := mn53 3 20 20 10 0 0 0 2 1 6 0 0 1 mh49a mh50a
  rw [e53a] at n53
  have n54 := mj54 3 20 20 10 1 0 0 0 1 (by decide) rfl
  refine AC_heap orders [0, 1] Try.func18 rfl (by kernel_rfl) (by kernel_rfl) Try.ntmps18 (by simp) ?_
  unfold Try.f18
  (have hwq := trivial; repeat' (first | simp (maxSteps:=9999999)-implicitDefEqProofs only [go_sem,simprocAttr,hwq,u3,a3,c3,b3,z3,k3,u4,a4,c4,b4,z4,k4,u26,a26,c26,b26,z26,k26,u39,a39,c39,b39,z39,k39,l39,u41,a41,c41,b41,z41,k41,u77,a77,c77,b77,z77,k77,u79,a79,c79,b79,z79,k79,u96,a96,c96,b96,z96,k96,u99,a99,c99,b99,z99,k99,u100,a100,c100,b100,z100,k100,u105,a105,c105,b105,z105,k105,l105,rn_mp,mapT_mp,pz_mp,flatE,flatS,lk3,nextK,aentry,forall_eq_or_imp,forall_eq,List.getLast?_append,List.getLast?_singleton,List.getLast?_nil,List.getLast?_cons_cons,List.find?_cons,Option.some_or,List.mem_append,List.nil_append,List.eraseIdx_cons_zero,List.eraseIdx_cons_succ,Option.or_some,List.forall_mem_cons,List.forall_mem_nil,not_true_eq_false] | (refine awpL_loop 18 ?_; have hwq := trivial) | (refine condK_split ?_ ?_ <;> intro hwq) | (refine two_split ?_ ?_) | (refine guardK_split ?_ ?_ <;> intro hwq) | (refine guardE_split ?_ ?_ <;> intro hwq) | (refine awp_drawW [53] (by decide +kernel) ?_; have hwq := trivial) | (refine call_at [0, 1] n51 (by simp) (by decide) rfl rfl ?_ (V.les_refl _) ?_; (· simp [mapT_mp, mapT_mp (es := []) rfl, flatE, flatS, mapT_box, V.mapTs, V.mapT, pl]; done); have hwq := trivial) | (refine call_at [0, 1] n52 (by simp) (by decide) rfl rfl ?_ (V.les_refl _) ?_; (· simp [mapT_mp, mapT_mp (es := []) rfl, flatE, flatS, mapT_box, V.mapTs, V.mapT, pl]; done); have hwq := trivial) | (refine call_at [0, 1] n53 (by simp) (by decide) rfl rfl ?_ (V.les_refl _) ?_; (· simp [mapT_mp, mapT_mp (es := []) rfl, flatE, flatS, mapT_box, V.mapTs, V.mapT, pl]; done); have hwq := trivial) | (refine call_at [0, 1] n54 (by simp) (by decide) rfl rfl ?_ (V.les_refl _) ?_; (· simp [mapT_mp, mapT_mp (es := []) rfl, flatE, flatS, mapT_box, V.mapTs, V.mapT, pl]; done); have hwq := trivial) | fail))
  all_goals trace_state
theorem mk51b : AC Try.prog 51 [.ptr 0 0 0, vI 0] (hP 3 20 20 [eV 10 0 2 0 0] 1) (eqS (vI 1) (hP 3 20 20 [eV 10 0 2 0 0] 1)) := by
  have h := mn55 3 20 20 [eV 10 0 2 0 0] 1 rfl
  refine AC_heap orders [0, 1] Try.func51 rfl (by kernel_rfl) (by kernel_rfl) Try.ntmps51 (by simp) ?_
  unfold Try.f51
  (have hwq := trivial; repeat' (first | simp (maxSteps:=9999999)-implicitDefEqProofs only [go_sem,simprocAttr,hwq,u3,a3,c3,b3,z3,k3,u26,a26,c26,b26,z26,k26,u39,a39,c39,b39,z39,k39,l39,u41,a41,c41,b41,z41,k41,u77,a77,c77,b77,z77,k77,u79,a79,c79,b79,z79,k79,u96,a96,c96,b96,z96,k96,u100,a100,c100,b100,z100,k100,u105,a105,c105,b105,z105,k105,l105,rn_mp,mapT_mp,pz_mp,flatE,flatS,lk3,nextK,aentry,forall_eq_or_imp,forall_eq,List.getLast?_append,List.getLast?_singleton,List.getLast?_nil,List.getLast?_cons_cons,List.find?_cons,Option.some_or,List.mem_append,List.nil_append,List.eraseIdx_cons_zero,List.eraseIdx_cons_succ,Option.or_some,List.forall_mem_cons,List.forall_mem_nil,not_true_eq_false] | (refine awpL_loop 18 ?_; have hwq := trivial) | (refine condK_split ?_ ?_ <;> intro hwq) | (refine two_split ?_ ?_) | (refine guardK_split ?_ ?_ <;> intro hwq) | (refine guardE_split ?_ ?_ <;> intro hwq) | (refine awp_drawW [53] (by decide +kernel) ?_; have hwq := trivial) | (refine call_at [0, 1] h (by simp) (by decide) rfl rfl ?_ (V.les_refl _) ?_; (· simp [mapT_mp, mapT_mp (es := []) rfl, flatE, flatS, mapT_box, V.mapTs, V.mapT, pl]; done); have hwq := trivial) | fail))
  all_goals trace_state
theorem mk18b : AC Try.prog 18 [.ptr 0 0 0, vI 0, vB true] (hP 3 20 20 [eV 10 0 2 0 0] 1) (eqS (vI 1) (hP 3 20 20 [eV 10 0 2 0 0] 1)) := by
  refine AC_heap orders [0, 1] Try.func18 rfl (by kernel_rfl) (by kernel_rfl) Try.ntmps18 (by simp) ?_
  unfold Try.f18
  (have hwq := trivial; repeat' (first | simp (maxSteps:=9999999)-implicitDefEqProofs only [go_sem,simprocAttr,hwq,u3,a3,c3,b3,z3,k3,u4,a4,c4,b4,z4,k4,u26,a26,c26,b26,z26,k26,u39,a39,c39,b39,z39,k39,l39,u41,a41,c41,b41,z41,k41,u77,a77,c77,b77,z77,k77,u79,a79,c79,b79,z79,k79,u96,a96,c96,b96,z96,k96,u99,a99,c99,b99,z99,k99,u100,a100,c100,b100,z100,k100,u105,a105,c105,b105,z105,k105,l105,rn_mp,mapT_mp,pz_mp,flatE,flatS,lk3,nextK,aentry,forall_eq_or_imp,forall_eq,List.getLast?_append,List.getLast?_singleton,List.getLast?_nil,List.getLast?_cons_cons,List.find?_cons,Option.some_or,List.mem_append,List.nil_append,List.eraseIdx_cons_zero,List.eraseIdx_cons_succ,Option.or_some,List.forall_mem_cons,List.forall_mem_nil,not_true_eq_false] | (refine awpL_loop 18 ?_; have hwq := trivial) | (refine condK_split ?_ ?_ <;> intro hwq) | (refine two_split ?_ ?_) | (refine guardK_split ?_ ?_ <;> intro hwq) | (refine guardE_split ?_ ?_ <;> intro hwq) | (refine awp_drawW [53] (by decide +kernel) ?_; have hwq := trivial) | (refine call_at [0, 1] mk51b (by simp) (by decide) rfl rfl ?_ (V.les_refl _) ?_; (· simp [mapT_mp, mapT_mp (es := []) rfl, flatE, flatS, mapT_box, V.mapTs, V.mapT, pl]; done); have hwq := trivial) | fail))
  all_goals trace_state
theorem mk28 : AC Try.prog 28 [.ptr 0 0 0, bysV Mg] (hP 3 20 20 [] 0) (eqS (vI 0) (hP 3 20 20 [eV 10 0 2 0 0] 1)) := by
  have n55 := mn55 3 20 20 [] 0 rfl
  have n52 := mn52a 3 20 20 10 0
  have n53 := mn53 3 20 20 10 0 0 0 7 0 6 2 0 1 mh49c mh50c
  rw [e53b] at n53
  have n54 := mj54 3 20 20 10 0 2 0 0 1 (by decide) rfl
  refine AC_heap orders [0, 1] Try.func28 rfl (by kernel_rfl) (by kernel_rfl) Try.ntmps28 (by simp) ?_
  unfold Try.f28
  (have hwq := trivial; repeat' (first | simp (maxSteps:=9999999)-implicitDefEqProofs only [go_sem,simprocAttr,hwq,u3,a3,c3,b3,z3,k3,u4,a4,c4,b4,z4,k4,u5,a5,c5,b5,z5,k5,u22,a22,c22,b22,z22,k22,u23,a23,c23,b23,z23,k23,u26,a26,c26,b26,z26,k26,u39,a39,c39,b39,z39,k39,l39,u41,a41,c41,b41,z41,k41,u77,a77,c77,b77,z77,k77,u79,a79,c79,b79,z79,k79,u82,a82,c82,b82,z82,k82,u84,a84,c84,b84,z84,k84,u91,a91,c91,b91,z91,k91,u96,a96,c96,b96,z96,k96,u99,a99,c99,b99,z99,k99,u100,a100,c100,b100,z100,k100,u105,a105,c105,b105,z105,k105,l105,rn_mp,mapT_mp,pz_mp,flatE,flatS,lk3,nextK,aentry,forall_eq_or_imp,forall_eq,List.getLast?_append,List.getLast?_singleton,List.getLast?_nil,List.getLast?_cons_cons,List.find?_cons,Option.some_or,List.mem_append,List.nil_append,List.eraseIdx_cons_zero,List.eraseIdx_cons_succ,Option.or_some,List.forall_mem_cons,List.forall_mem_nil,not_true_eq_false] | (refine awpL_loop 18 ?_; have hwq := trivial) | (refine condK_split ?_ ?_ <;> intro hwq) | (refine two_split ?_ ?_) | (refine guardK_split ?_ ?_ <;> intro hwq) | (refine guardE_split ?_ ?_ <;> intro hwq) | (refine awp_drawW [53] (by decide +kernel) ?_; have hwq := trivial) | (refine call_plain mh13 rfl rfl ?_; have hwq := trivial) | (refine draw_plain mh64 rfl (fun _ => rfl) ?_; have hwq := trivial) | (refine call_at [0, 1] n55 (by simp) (by decide) rfl rfl ?_ (V.les_refl _) ?_; (· simp [mapT_mp, mapT_mp (es := []) rfl, flatE, flatS, mapT_box, V.mapTs, V.mapT, pl]; done); have hwq := trivial) | (refine call_at [0, 1] n52 (by simp) (by decide) rfl rfl ?_ (V.les_refl _) ?_; (· simp [mapT_mp, mapT_mp (es := []) rfl, flatE, flatS, mapT_box, V.mapTs, V.mapT, pl]; done); have hwq := trivial) | (refine drawW_at [0, 1] n53 (by simp) (by decide) rfl rfl ?_ (V.les_refl _) ?_; (· simp [mapT_mp, mapT_mp (es := []) rfl, flatE, flatS, mapT_box, V.mapTs, V.mapT, pl]; done); have hwq := trivial) | (refine call_at [0, 1] n54 (by simp) (by decide) rfl rfl ?_ (V.les_refl _) ?_; (· simp [mapT_mp, mapT_mp (es := []) rfl, flatE, flatS, mapT_box, V.mapTs, V.mapT, pl]; done); have hwq := trivial) | fail))
  all_goals trace_state
end Go.Ai

set_option linter.unusedVariables false
set_option linter.unusedSimpArgs false
set_option maxHeartbeats 4000000
set_option maxRecDepth 100000
namespace Go.Ai
open Go.Proofs
attribute [local go_sem] QH QR V.noimm V.noimms frzZs frzZ frzA frzV frzVs frzBox boxLen Option.isSome cond_true cond_false aopD calW flatV stepX amap stepY alookup afind aupdate adelete amlen arange ameq mapOf akeq pl V.mapT V.mapTs Option.bind stepK runK guardD stepE runD callD compact selB callK evS ofVal ofVals scalar aop ares mkRes V.rn V.rns V.cells? cellsAt Go.Ai.part aload astore setL V.atom abin aun intBin shiftBin aconv fieldOf aindexAddr aindex bound? aslice aarr abuild afill alen nilP nilS nilF aeq eqCells eqCell Go.Ai.known strBin abuiltin aappend abuildSlice arowsFill amakeSlice acopy aclear minmax rowsOf numsT notStr isIntD isByte V.pz V.pzs T.toV frz1 frz scalT scalTs chunkT List.range List.range.loop ite_true ite_false if_true if_false ne_eq implies_true forall_const eq_self IntKind.bits kPostKF_ret kPostKF_normal kPostX_ret kPostX_normal bsl nil2K nil2 kPostFW_ret kPostFW_normal kPostKM_ret kPostKM_normal kPostXK_ret kPostXK_normal
abbrev hR : List Blk := [.box [vI 3, vI 20, .mref 1, vI 20] false, .mp [eV 10 0 2 0 0] 1, .box [.ptr 0 0 0] false]
theorem mm58 : AC Try.prog 58 [vI 10, .ptr 2 0 0] (hR) (eqS (vB false) (hR)) := by
  refine AC_heap orders [0, 1, 2] Try.func58 rfl (by kernel_rfl) (by kernel_rfl) Try.ntmps58 (by simp) ?_
  unfold Try.f58
  (have hwq := trivial; repeat' (first | simp (maxSteps:=9999999)-implicitDefEqProofs only [go_sem,simprocAttr,hwq,u3,a3,c3,b3,z3,k3,u4,a4,c4,b4,z4,k4,u39,a39,c39,b39,z39,k39,l39,u41,a41,c41,b41,z41,k41,u77,a77,c77,b77,z77,k77,u79,a79,c79,b79,z79,k79,u96,a96,c96,b96,z96,k96,u100,a100,c100,b100,z100,k100,u105,a105,c105,b105,z105,k105,l105,rn_mp,mapT_mp,pz_mp,flatE,flatS,lk3,nextK,aentry,forall_eq_or_imp,forall_eq,List.getLast?_append,List.getLast?_singleton,List.getLast?_nil,List.getLast?_cons_cons,List.find?_cons,Option.some_or,List.mem_append,List.nil_append,List.eraseIdx_cons_zero,List.eraseIdx_cons_succ,Option.or_some,List.forall_mem_cons,List.forall_mem_nil,not_true_eq_false,List.map_cons,List.map_nil] | (refine awpL_loop 18 ?_; have hwq := trivial) | (refine condK_split ?_ ?_ <;> intro hwq) | (refine two_split ?_ ?_) | (refine guardK_split ?_ ?_ <;> intro hwq) | (refine guardE_split ?_ ?_ <;> intro hwq) | (refine awp_drawW [] (by decide +kernel) ?_; have hwq := trivial) | fail))
  all_goals rfl
theorem mm76 : AC Try.prog 76 [isV [10], .clo (.func 58) [] [.ptr 2 0 0]] (hR) (eqS (vI (-1)) (hR)) := by
  refine AC_heap orders [0, 1, 2] Try.func76 rfl (by kernel_rfl) (by kernel_rfl) Try.ntmps76 (by simp) ?_
  unfold Try.f76
  (have hwq := trivial; repeat' (first | simp (maxSteps:=9999999)-implicitDefEqProofs only [go_sem,simprocAttr,hwq,u3,a3,c3,b3,z3,k3,u40,a40,c40,b40,z40,k40,u102,rn_mp,mapT_mp,pz_mp,flatE,flatS,lk3,nextK,aentry,forall_eq_or_imp,forall_eq,List.getLast?_append,List.getLast?_singleton,List.getLast?_nil,List.getLast?_cons_cons,List.find?_cons,Option.some_or,List.mem_append,List.nil_append,List.eraseIdx_cons_zero,List.eraseIdx_cons_succ,Option.or_some,List.forall_mem_cons,List.forall_mem_nil,not_true_eq_false,List.map_cons,List.map_nil] | (refine awpL_loop 18 ?_; have hwq := trivial) | (refine condK_split ?_ ?_ <;> intro hwq) | (refine two_split ?_ ?_) | (refine guardK_split ?_ ?_ <;> intro hwq) | (refine guardE_split ?_ ?_ <;> intro hwq) | (refine awp_drawW [] (by decide +kernel) ?_; have hwq := trivial) | (refine call_at [0, 1, 2] mm58 (by simp) (by decide) rfl rfl ?_ (V.les_refl _) ?_; (· simp [mapT_mp, mapT_mp (es := []) rfl, flatE, flatS, mapT_box, V.mapTs, V.mapT, pl]; done); have hwq := trivial) | fail))
  all_goals rfl
theorem mm57 : AC Try.prog 57 [isV [10], .clo (.func 58) [] [.ptr 2 0 0]] (hR) (eqS (isV [10]) (hR)) := by
  refine AC_heap orders [0, 1, 2] Try.func57 rfl (by kernel_rfl) (by kernel_rfl) Try.ntmps57 (by simp) ?_
  unfold Try.f57
  (have hwq := trivial; repeat' (first | simp (maxSteps:=9999999)-implicitDefEqProofs only [go_sem,simprocAttr,hwq,u3,a3,c3,b3,z3,k3,u4,a4,c4,b4,z4,k4,u40,a40,c40,b40,z40,k40,u102,rn_mp,mapT_mp,pz_mp,flatE,flatS,lk3,nextK,aentry,forall_eq_or_imp,forall_eq,List.getLast?_append,List.getLast?_singleton,List.getLast?_nil,List.getLast?_cons_cons,List.find?_cons,Option.some_or,List.mem_append,List.nil_append,List.eraseIdx_cons_zero,List.eraseIdx_cons_succ,Option.or_some,List.forall_mem_cons,List.forall_mem_nil,not_true_eq_false,List.map_cons,List.map_nil] | (refine awpL_loop 18 ?_; have hwq := trivial) | (refine condK_split ?_ ?_ <;> intro hwq) | (refine two_split ?_ ?_) | (refine guardK_split ?_ ?_ <;> intro hwq) | (refine guardE_split ?_ ?_ <;> intro hwq) | (refine awp_drawW [] (by decide +kernel) ?_; have hwq := trivial) | (refine call_at [0, 1, 2] mm76 (by simp) (by decide) rfl rfl ?_ (V.les_refl _) ?_; (· simp [mapT_mp, mapT_mp (es := []) rfl, flatE, flatS, mapT_box, V.mapTs, V.mapT, pl]; done); have hwq := trivial) | fail))
  all_goals rfl
theorem mm22 : AC Try.prog 22 [.ptr 0 0 0] (hP 3 20 20 [eV 10 0 2 0 0] 1) (eqS (isV [10]) (hP 3 20 20 [eV 10 0 2 0 0] 1)) := by
  have n55 := mn55 3 20 20 [eV 10 0 2 0 0] 1 rfl
  have n56 := mj56 3 20 20 10 0 2 0 0 1 (by decide)
  refine AC_heapF orders [0, 1] Try.func22 rfl (by kernel_rfl) (by kernel_rfl) Try.ntmps22 (by simp) ?_
  unfold Try.f22
  (have hwq := trivial; repeat' (first | simp (maxSteps:=9999999)-implicitDefEqProofs only [go_sem,simprocAttr,hwq,u3,a3,c3,b3,z3,k3,u39,a39,c39,b39,z39,k39,l39,u40,a40,c40,b40,z40,k40,u41,a41,c41,b41,z41,k41,u77,a77,c77,b77,z77,k77,u79,a79,c79,b79,z79,k79,u96,a96,c96,b96,z96,k96,u100,a100,c100,b100,z100,k100,u102,u105,a105,c105,b105,z105,k105,l105,rn_mp,mapT_mp,pz_mp,flatE,flatS,lk3,nextK,aentry,forall_eq_or_imp,forall_eq,List.getLast?_append,List.getLast?_singleton,List.getLast?_nil,List.getLast?_cons_cons,List.find?_cons,Option.some_or,List.mem_append,List.nil_append,List.eraseIdx_cons_zero,List.eraseIdx_cons_succ,Option.or_some,List.forall_mem_cons,List.forall_mem_nil,not_true_eq_false,List.map_cons,List.map_nil] | (refine awpL_loop 18 ?_; have hwq := trivial) | (refine condK_split ?_ ?_ <;> intro hwq) | (refine two_split ?_ ?_) | (refine guardK_split ?_ ?_ <;> intro hwq) | (refine guardE_split ?_ ?_ <;> intro hwq) | (refine awp_drawW [] (by decide +kernel) ?_; have hwq := trivial) | (refine call_at [0, 1] n55 (by simp) (by decide) rfl rfl ?_ (V.les_refl _) ?_; (· simp [mapT_mp, mapT_mp (es := []) rfl, flatE, flatS, mapT_box, V.mapTs, V.mapT, pl]; done); have hwq := trivial) | (refine call_at [0, 1] n56 (by simp) (by decide) rfl rfl ?_ (V.les_refl _) ?_; (· simp [mapT_mp, mapT_mp (es := []) rfl, flatE, flatS, mapT_box, V.mapTs, V.mapT, pl]; done); have hwq := trivial) | (refine call_at [0, 1, 2] mm57 (by simp) (by decide) rfl rfl ?_ (V.les_refl _) ?_; (· simp [mapT_mp, mapT_mp (es := []) rfl, flatE, flatS, mapT_box, V.mapTs, V.mapT, pl]; done); have hwq := trivial) | fail))
  all_goals rfl
theorem mm21 : AC Try.prog 21 [isV [10], vI 10] [] (eqR (vB true)) := by
  refine AC_plain orders Try.func21 rfl (by kernel_rfl) (by kernel_rfl) Try.ntmps21 (by simp) ?_
  unfold Try.f21
  (have hwq := trivial; repeat' (first | simp (maxSteps:=9999999)-implicitDefEqProofs only [go_sem,simprocAttr,hwq,u3,a3,c3,b3,z3,k3,u4,a4,c4,b4,z4,k4,u40,a40,c40,b40,z40,k40,List.map_cons,List.map_nil] | (refine awpL_loop 18 ?_; have hwq := trivial) | (refine condK_split ?_ ?_ <;> intro hwq) | (refine two_split ?_ ?_) | (refine guardK_split ?_ ?_ <;> intro hwq) | (refine guardE_split ?_ ?_ <;> intro hwq) | (refine awp_drawW [] (by decide +kernel) ?_; have hwq := trivial) | fail))
  all_goals rfl
end Go.Ai

set_option linter.unusedVariables false
set_option linter.unusedSimpArgs false
set_option maxHeartbeats 4000000
set_option maxRecDepth 100000
namespace Go.Ai
open Go.Proofs
attribute [local go_sem] QH QR V.noimm V.noimms frzZs frzZ frzA frzV frzVs frzBox boxLen Option.isSome cond_true cond_false aopD calW flatV stepX amap stepY alookup afind aupdate adelete amlen arange ameq mapOf akeq pl V.mapT V.mapTs Option.bind stepK runK guardD stepE runD callD compact selB callK evS ofVal ofVals scalar aop ares mkRes V.rn V.rns V.cells? cellsAt Go.Ai.part aload astore setL V.atom abin aun intBin shiftBin aconv fieldOf aindexAddr aindex bound? aslice aarr abuild afill alen nilP nilS nilF aeq eqCells eqCell Go.Ai.known strBin abuiltin aappend abuildSlice arowsFill amakeSlice acopy aclear minmax rowsOf numsT notStr isIntD isByte V.pz V.pzs T.toV frz1 frz scalT scalTs chunkT List.range List.range.loop ite_true ite_false if_true if_false ne_eq implies_true forall_const eq_self IntKind.bits kPostKF_ret kPostKF_normal kPostX_ret kPostX_normal bsl nil2K nil2 kPostFW_ret kPostFW_normal kPostKM_ret kPostKM_normal kPostXK_ret kPostXK_normal
theorem mp16 : AC Try.prog 16 [] [] (eqR (vB true)) := by
  refine AC_plain orders Try.func16 rfl (by kernel_rfl) (by kernel_rfl) Try.ntmps16 (by simp) ?_
  unfold Try.f16
  (have hwq := trivial; repeat' (first | simp (maxSteps:=9999999)-implicitDefEqProofs only [go_sem,simprocAttr,hwq,u3,a3,c3,b3,z3,k3,u4,a4,c4,b4,z4,k4,u5,a5,c5,b5,z5,k5,u9,a9,c9,b9,z9,k9,u23,a23,c23,b23,z23,k23,u26,a26,c26,b26,z26,k26,u39,a39,c39,b39,z39,k39,l39,u40,a40,c40,b40,z40,k40,u41,a41,c41,b41,z41,k41,u77,a77,c77,b77,z77,k77,u79,a79,c79,b79,z79,k79,u91,a91,c91,b91,z91,k91,u96,a96,c96,b96,z96,k96,u99,a99,c99,b99,z99,k99,u100,a100,c100,b100,z100,k100,u105,a105,c105,b105,z105,k105,l105,rn_mp,mapT_mp,pz_mp,flatE,flatS,lk3,nextK,aentry,forall_eq_or_imp,forall_eq,List.getLast?_append,List.getLast?_singleton,List.getLast?_nil,List.getLast?_cons_cons,List.find?_cons,Option.some_or,List.mem_append,List.nil_append,List.eraseIdx_cons_zero,List.eraseIdx_cons_succ,Option.or_some,List.forall_mem_cons,List.forall_mem_nil,not_true_eq_false,List.map_cons,List.map_nil] | (refine awpL_loop 18 ?_; have hwq := trivial) | (refine condK_split ?_ ?_ <;> intro hwq) | (refine two_split ?_ ?_) | (refine guardK_split ?_ ?_ <;> intro hwq) | (refine guardE_split ?_ ?_ <;> intro hwq) | (refine awp_drawW [] (by decide +kernel) ?_; have hwq := trivial) | (refine call_at [] (mn17 3 20 (by decide) (by decide) (by decide) (by decide)) (by simp) (by simp) rfl rfl rfl (V.les_refl _) ?_; have hwq := trivial) | (refine call_at [0, 1] mk18a (by simp) (by decide) rfl rfl ?_ (V.les_refl _) ?_; (· simp [mapT_mp, mapT_mp (es := []) rfl, flatE, flatS, mapT_box, V.mapTs, V.mapT, pl]; done); have hwq := trivial) | (refine call_at [0, 1] mk33 (by simp) (by decide) rfl rfl ?_ (V.les_refl _) ?_; (· simp [mapT_mp, mapT_mp (es := []) rfl, flatE, flatS, mapT_box, V.mapTs, V.mapT, pl]; done); have hwq := trivial) | (refine call_at [2, 3] mk28 (by simp) (by decide) rfl rfl ?_ (V.les_refl _) ?_; (· simp [mapT_mp, mapT_mp (es := []) rfl, flatE, flatS, mapT_box, V.mapTs, V.mapT, pl]; done); have hwq := trivial) | (refine call_at [2, 3] mm22 (by simp) (by decide) rfl rfl ?_ (V.les_refl _) ?_; (· simp [mapT_mp, mapT_mp (es := []) rfl, flatE, flatS, mapT_box, V.mapTs, V.mapT, pl]; done); have hwq := trivial) | (refine call_at [2, 3] mk18b (by simp) (by decide) rfl rfl ?_ (V.les_refl _) ?_; (· simp [mapT_mp, mapT_mp (es := []) rfl, flatE, flatS, mapT_box, V.mapTs, V.mapT, pl]; done); have hwq := trivial) | (refine call_plain mh49b rfl rfl ?_; have hwq := trivial) | (refine call_plain mm21 rfl rfl ?_; have hwq := trivial) | (refine call_plain mh50d rfl rfl ?_; have hwq := trivial) | fail))
  all_goals exact absurd hwq (by decide +kernel)
end Go.Ai

set_option linter.unusedVariables false
set_option linter.unusedSimpArgs false
set_option maxHeartbeats 4000000
set_option maxRecDepth 100000
namespace Go.Ai
open Go.Proofs
attribute [local go_sem] QH QR V.noimm V.noimms frzZs frzZ frzA frzV frzVs frzBox boxLen Option.isSome cond_true cond_false aopD calW flatV stepX amap stepY alookup afind aupdate adelete amlen arange ameq mapOf akeq pl V.mapT V.mapTs Option.bind stepK runK guardD stepE runD callD compact selB callK evS ofVal ofVals scalar aop ares mkRes V.rn V.rns V.cells? cellsAt Go.Ai.part aload astore setL V.atom abin aun intBin shiftBin aconv fieldOf aindexAddr aindex bound? aslice aarr abuild afill alen nilP nilS nilF aeq eqCells eqCell Go.Ai.known strBin abuiltin aappend abuildSlice arowsFill amakeSlice acopy aclear minmax rowsOf numsT notStr isIntD isByte V.pz V.pzs T.toV frz1 frz scalT scalTs chunkT List.range List.range.loop ite_true ite_false if_true if_false ne_eq implies_true forall_const eq_self IntKind.bits kPostKF_ret kPostKF_normal kPostX_ret kPostX_normal bsl nil2K nil2 kPostFW_ret kPostFW_normal kPostKM_ret kPostKM_normal kPostXK_ret kPostXK_normal
abbrev hN : List Blk := [.box [vI 0, vI 0, .s (.map none), vI 0] false]
theorem mq10 (B : List Int) : AC Try.prog 10 [bysV B] [] (eqR (bysV (B.take 3000))) := by
  obtain ⟨m, hm0⟩ : ∃ m, min 3000 B.length = m := ⟨_, rfl⟩
  have hm : (if (3000 : Int) < (B.length : Int) then (3000 : Int) else (B.length : Int)) = (m : Int) := by split <;> omega
  have hle : m ≤ B.length := by omega
  have ht : bysV (B.take 3000) = .sl 1 ((B.map byT).take m) := by
    show V.sl 1 _ = V.sl 1 _
    rw [List.map_take, ← hm0]
    congr 1
    rw [List.take_eq_take_iff]
    simp
  rw [ht]
  refine AC_plain orders Try.func10 rfl (by kernel_rfl) (by kernel_rfl) Try.ntmps10 (by simp) ?_
  unfold Try.f10
  (have hwq := trivial; repeat' (first | simp (maxSteps:=9999999)-implicitDefEqProofs only [go_sem,simprocAttr,hwq,u3,a3,c3,b3,z3,k3,u5,a5,c5,b5,z5,k5,u23,a23,c23,b23,z23,k23,List.length_map,List.getElem?_map,Int.natCast_nonneg,List.length_append,List.map_append,hm,hle,List.drop_zero,Nat.sub_zero,Nat.zero_le] | (refine awpL_loop 18 ?_; have hwq := trivial) | (refine condK_split ?_ ?_ <;> intro hwq) | (refine two_split ?_ ?_) | (refine guardK_split ?_ ?_ <;> intro hwq) | (refine guardE_split ?_ ?_ <;> intro hwq) | (refine awp_drawW [] (by decide +kernel) ?_; have hwq := trivial) | fail))
  all_goals trace_state
end Go.Ai

set_option linter.unusedVariables false
set_option linter.unusedSimpArgs false
set_option maxHeartbeats 4000000
set_option maxRecDepth 100000
namespace Go.Ai
open Go.Proofs
attribute [local go_sem] QH QR V.noimm V.noimms frzZs frzZ frzA frzV frzVs frzBox boxLen Option.isSome cond_true cond_false aopD calW flatV stepX amap stepY alookup afind aupdate adelete amlen arange ameq mapOf akeq pl V.mapT V.mapTs Option.bind stepK runK guardD stepE runD callD compact selB callK evS ofVal ofVals scalar aop ares mkRes V.rn V.rns V.cells? cellsAt Go.Ai.part aload astore setL V.atom abin aun intBin shiftBin aconv fieldOf aindexAddr aindex bound? aslice aarr abuild afill alen nilP nilS nilF aeq eqCells eqCell Go.Ai.known strBin abuiltin aappend abuildSlice arowsFill amakeSlice acopy aclear minmax rowsOf numsT notStr isIntD isByte V.pz V.pzs T.toV frz1 frz scalT scalTs chunkT List.range List.range.loop ite_true ite_false if_true if_false ne_eq implies_true forall_const eq_self IntKind.bits kPostKF_ret kPostKF_normal kPostX_ret kPostX_normal bsl nil2K nil2 kPostFW_ret kPostFW_normal kPostKM_ret kPostKM_normal kPostXK_ret kPostXK_normal
theorem decP_small (b : List Int) : (decodeP b).1.length ≤ 64 ∧ ∀ x ∈ (decodeP b).1, x.l.length ≤ 64 := by
  by_cases h : (decodeP b).2 = 0
  · obtain ⟨h1, _, h3, _⟩ := encR_ok (decP_ok h)
    exact ⟨h1, fun x hx => (mayB_of (h3 x hx)).2.2.1⟩
  · have e : (decodeP b).1 = [] := by
      by_cases h7 : b.length < 7
      · unfold decodeP; rw [if_pos h7]
      · rw [decP_bad h7 h]
    rw [e]
    simp
theorem few_small (L : List Vc) : (fewL L).length ≤ 70 ∧ ∀ x ∈ fewL L, x.l.length ≤ 70 := by
  unfold fewL trimV
  refine ⟨by simp; omega, fun x hx => ?_⟩
  obtain ⟨y, _, rfl⟩ := List.mem_map.1 hx
  simp
  omega
theorem ml3 (L : List Vc) (B : List Int) (hB : ∀ x ∈ B, 0 ≤ x ∧ x ≤ 255) : AC Try.prog 3 [vcsV L, bysV B] [] (eqR (vB true)) := by
  obtain ⟨f1, f2⟩ := few_small L
  obtain ⟨b, hb⟩ : ∃ b, B.take 3000 = b := ⟨_, rfl⟩
  obtain ⟨M, hM⟩ : ∃ M, fewL L = M := ⟨_, rfl⟩
  have h9 := mq9 L
  have h10 := mq10 B
  have hbl : b.length ≤ 100000 := by rw [← hb, List.length_take]; omega
  have hbr : ∀ x ∈ b, 0 ≤ x ∧ x ≤ 255 := fun x hx => hB x (List.mem_of_mem_take (hb ▸ hx))
  rw [hM] at h9 f1 f2
  rw [hb] at h10
  have h11 := mc11 M (fun x hx => by have := f2 x hx; omega)
  have h12 := mr12 M (fun x hx => by have := f2 x hx; omega)
  obtain ⟨X, hX⟩ : ∃ X, encR M = X := ⟨_, rfl⟩
  obtain ⟨ex, er⟩ := X
  rw [hX] at h11 h12
  simp only at h11 h12
  have h13 := mdec b hbl hbr
  have h14 := rdec b hbl hbr
  rw [← dec_same] at h14
  obtain ⟨d1, d2⟩ := decP_small b
  obtain ⟨Y, hY⟩ : ∃ Y, decodeP b = Y := ⟨_, rfl⟩
  obtain ⟨U, g⟩ := Y
  rw [hY] at h13 h14 d1 d2
  simp only at h13 h14 d1 d2
  have h15 := mr15 U (by omega) (fun x hx => by have := d2 x hx; omega)
  have nE := numsT_by ex
  have q1 : ((strOfNums ex).toList == (strOfNums ex).toList) = true := by simp
  have q2 : (er == er) = true := by simp
  have q3 : (g == g) = true := by simp
  refine AC_plain orders Try.func3 rfl (by kernel_rfl) (by kernel_rfl) Try.ntmps3 (by simp) ?_
  unfold Try.f3
  (have hwq := trivial; repeat' (first | simp (maxSteps:=9999999)-implicitDefEqProofs only [go_sem,simprocAttr,hwq,FT3,FT4,FT5,FT9,FT22,FT23,FT82,FT84,FT91,nE,q1,q2,q3] | (refine awpL_loop 18 ?_; have hwq := trivial) | (refine condK_split ?_ ?_ <;> intro hwq) | (refine two_split ?_ ?_) | (refine guardK_split ?_ ?_ <;> intro hwq) | (refine guardE_split ?_ ?_ <;> intro hwq) | (refine awp_drawW [] (by decide +kernel) ?_; have hwq := trivial) | (refine call_plain h9 rfl rfl ?_; have hwq := trivial) | (refine call_plain h10 rfl rfl ?_; have hwq := trivial) | (refine call_plain h11 rfl rfl ?_; have hwq := trivial) | (refine call_plain h12 rfl rfl ?_; have hwq := trivial) | (refine call_plain h13 rfl rfl ?_; have hwq := trivial) | (refine call_plain h14 rfl rfl ?_; have hwq := trivial) | (refine call_plain h15 rfl rfl ?_; have hwq := trivial) | (refine call_plain mp16 rfl rfl ?_; have hwq := trivial) | fail))
end Go.Ai
