/- Contracts of functions of the loaded program: called with data in the ranges that each names, it returns this value and writes to no old memory. -/
import Derived.Test.YtdojjjjhbgkpfaaAiZ
import Derived.Test.YtdojjjjhbgkpfaaRows
set_option linter.unusedVariables false
set_option linter.unusedSimpArgs false
set_option maxHeartbeats 4000000
set_option maxRecDepth 100000
namespace Go.Ai
open Go.Proofs
attribute [local go_sem] QH QR V.noimm V.noimms frzZs frzZ frzA frzV frzVs frzBox boxLen Option.isSome cond_true cond_false aopD calW flatV stepX amap stepY alookup afind aupdate adelete amlen arange ameq mapOf akeq pl V.mapT V.mapTs Option.bind stepK runK guardD stepE runD callD compact selB callK evS ofVal ofVals scalar aop ares mkRes V.rn V.rns V.cells? cellsAt Go.Ai.part aload astore setL V.atom abin aun intBin shiftBin aconv fieldOf aindexAddr aindex bound? aslice aarr abuild afill alen nilP nilS nilF aeq eqCells eqCell Go.Ai.known strBin abuiltin aappend abuildSlice arowsFill amakeSlice acopy aclear minmax rowsOf numsT notStr isIntD isByte V.pz V.pzs T.toV frz1 frz scalT scalTs chunkT List.range List.range.loop ite_true ite_false if_true if_false ne_eq implies_true forall_const eq_self IntKind.bits kPostKF_ret kPostKF_normal kPostX_ret kPostX_normal bsl nil2K nil2 kPostFW_ret kPostFW_normal kPostKM_ret kPostKM_normal kPostXK_ret kPostXK_normal
abbrev vI (n : Int) : V := .s (.int .i64 n)
abbrev vB (b : Bool) : V := .s (.bool b)
/-- A vector. -/
structure Vc where
  al : Bool
  fi : Int
  l : List Int
  deriving DecidableEq, Inhabited
abbrev inT (n : Int) : List T := [.s (.int .i64 n)]
abbrev byT (n : Int) : List T := [.s (.int .u8 n)]
abbrev isV (l : List Int) : V := .sl 1 (l.map inT)
abbrev bysV (l : List Int) : V := .sl 1 (l.map byT)
abbrev vcT (x : Vc) : List T := [.s (.bool x.al), .s (.int .i64 x.fi), .sl 1 (x.l.map inT)]
abbrev vcV (x : Vc) : V := .agg [vB x.al, vI x.fi, isV x.l]
abbrev vcsV (L : List Vc) : V := .sl 3 (L.map vcT)
theorem take_in {α : Type} {L : List α} {j : Nat} {x : α} (h : L[j]? = some x) : L.take (j + 1) = L.take j ++ [x] := by rw [List.take_add_one, h]; rfl
theorem mem_in {α : Type} {L : List α} {j : Nat} {x : α} (h : L[j]? = some x) : x ∈ L := List.mem_of_getElem? h
/-- A block that refers to no other. -/
structure FlatB (b : Blk) : Prop where
  mt : ∀ f, b.mapT f = b
  rn : ∀ f, b.rn f = some b
  pz : ∀ m, b.pz m = b
def ixZ {α : Type} (q : α → Bool) (L : List α) : Int := match L.findIdx? q with
  | some j => j
  | none => -1
theorem ix_some {α : Type} {q : α → Bool} {L : List α} {j : Nat} {x : α} (hno : ∀ y ∈ L.take j, q y = false) (hg : L[j]? = some x) (hx : q x = true) : ixZ q L = (j : Int) := by
  obtain ⟨hj, he⟩ := List.getElem?_eq_some_iff.1 hg
  have : L.findIdx? q = some j := by
    rw [List.findIdx?_eq_some_iff_getElem]
    refine ⟨hj, by rw [he]; exact hx, fun k hk => ?_⟩
    have := hno L[k] (by rw [List.mem_take_iff_getElem]; exact ⟨k, by omega, rfl⟩)
    simp [this]
  unfold ixZ; rw [this]
theorem ix_none {α : Type} {q : α → Bool} {L : List α} (hno : ∀ y ∈ L, q y = false) : ixZ q L = -1 := by
  have : L.findIdx? q = none := by rw [List.findIdx?_eq_none_iff]; exact hno
  unfold ixZ; rw [this]
theorem ix_more {α : Type} {q : α → Bool} {L : List α} {j : Nat} {x : α} (hno : ∀ y ∈ L.take j, q y = false) (hg : L[j]? = some x) (hx : q x = false) : ∀ y ∈ L.take (j + 1), q y = false := by
  intro y hy
  rw [take_in hg] at hy
  rcases List.mem_append.1 hy with h1 | h1
  · exact hno y h1
  · simp at h1; subst h1; exact hx
theorem ix_any {α : Type} (q : α → Bool) (L : List α) : decide ((0 : Int) ≤ ixZ q L) = L.any q := by
  unfold ixZ
  cases h : L.findIdx? q with
  | none =>
    rw [List.findIdx?_eq_none_iff] at h
    have : L.any q = false := by rw [List.any_eq_false]; intro x hx; simp [h x hx]
    rw [this]; decide
  | some j =>
    obtain ⟨hj, hq, _⟩ := List.findIdx?_eq_some_iff_getElem.1 h
    have : L.any q = true := List.any_eq_true.2 ⟨L[j], List.getElem_mem hj, hq⟩
    rw [this]
    simp
def Ix79 (kf : Nat) (q : Int → Bool) (L : List Int) (k : Nat) (S : St) : Prop :=
  ∃ (j : Nat) (mv : List Nat), S = ⟨tms [(0, isV L), (1, .clo (.func kf) [] []), (6, isV L), (7, vI L.length), (8, vI j)], [], mv⟩ ∧ j ≤ L.length ∧ k = L.length - j ∧ ∀ y ∈ L.take j, q y = false
theorem mi79 (kf : Nat) (q : Int → Bool) (L : List Int) (hl : L.length ≤ 100000) (hq : ∀ x ∈ L, AC Try.prog kf [vI x] [] (eqR (vB (q x)))) :
    AC Try.prog 79 [isV L, .clo (.func kf) [] []] [] (eqR (vI (ixZ q L))) := by
  refine AC_plain orders Try.func79 rfl (by kernel_rfl) (by kernel_rfl) Try.ntmps79 (by simp) ?_
  unfold Try.f79
  (have hwq := trivial; repeat' (first | simp (maxSteps:=9999999)-implicitDefEqProofs only [go_sem,simprocAttr,hwq,u3,a3,c3,b3,z3,k3,u82,a82,c82,b82,z82,k82,u91,a91,c91,b91,z91,k91,u123] | (refine condK_split ?_ ?_ <;> intro hwq) | (refine two_split ?_ ?_) | (refine guardK_split ?_ ?_ <;> intro hwq) | (refine guardE_split ?_ ?_ <;> intro hwq) | (refine awp_drawW [] (by decide +kernel) ?_; have hwq := trivial) | fail))
  refine awp_loopK (Ix79 kf q L) L.length _ (Weak.cutI 0 [0, 1, 6, 7, 8] ?_ ?_) ⟨0, _, rfl, by omega, rfl, by simp⟩ ?_
  · simp (maxSteps:=9999999)-implicitDefEqProofs only [simprocAttr,QH,Option.isSome,cond_true,cond_false,Option.bind,selB,V.rn,V.rns,Go.Ai.known,V.pz,V.pzs,T.toV,frz1,List.range,List.range.loop,ite_true,ite_false,if_true,if_false,ne_eq,implies_true,forall_const,eq_self,IntKind.bits,upd_tmsS,selT_cons,selT_nil,List.length_map,List.getElem?_map,Int.natCast_nonneg,List.length_append,List.map_append]
  · simp (maxSteps:=9999999)-implicitDefEqProofs only [simprocAttr,QH,Option.isSome,cond_true,cond_false,Option.bind,selB,V.rn,V.rns,Go.Ai.known,V.pz,V.pzs,T.toV,frz1,List.range,List.range.loop,ite_true,ite_false,if_true,if_false,ne_eq,implies_true,forall_const,eq_self,IntKind.bits,upd_tmsS,selT_cons,selT_nil]
  rintro kk S ⟨j, mv, rfl, hj, rfl, hno⟩
  have wj : IntKind.i64.wrap ((j : Int) + 1) = (j : Int) + 1 := wI64 _ (by omega) (by omega)
  by_cases hjl : j < L.length
  · have hjl' : (j : Int) < (L.length : Int) := by omega
    have hgj : L[j]? = some L[j] := List.getElem?_eq_getElem hjl
    obtain ⟨x, hx⟩ : ∃ x, L[j] = x := ⟨_, rfl⟩
    rw [hx] at hgj
    have hc := hq x (mem_in hgj)
    cases hqx : q x with
    | true =>
      rw [hqx] at hc
      have hix := ix_some hno hgj hqx
      (have hwq := trivial; repeat' (first | simp (maxSteps:=9999999)-implicitDefEqProofs only [go_sem,simprocAttr,hwq,u3,a3,c3,b3,z3,k3,u82,a82,c82,b82,z82,k82,u91,a91,c91,b91,z91,k91,u123,List.length_map,List.getElem?_map,Int.natCast_nonneg,List.length_append,List.map_append,hjl',hgj,wj,hix] | (refine condK_split ?_ ?_ <;> intro hwq) | (refine two_split ?_ ?_) | (refine guardK_split ?_ ?_ <;> intro hwq) | (refine guardE_split ?_ ?_ <;> intro hwq) | (refine awp_drawW [] (by decide +kernel) ?_; have hwq := trivial) | (refine call_plain hc rfl rfl ?_; have hwq := trivial) | fail))
    | false =>
      rw [hqx] at hc
      (have hwq := trivial; repeat' (first | simp (maxSteps:=9999999)-implicitDefEqProofs only [go_sem,simprocAttr,hwq,u3,a3,c3,b3,z3,k3,u82,a82,c82,b82,z82,k82,u91,a91,c91,b91,z91,k91,u123,List.length_map,List.getElem?_map,Int.natCast_nonneg,List.length_append,List.map_append,hjl',hgj,wj] | (refine condK_split ?_ ?_ <;> intro hwq) | (refine two_split ?_ ?_) | (refine guardK_split ?_ ?_ <;> intro hwq) | (refine guardE_split ?_ ?_ <;> intro hwq) | (refine awp_drawW [] (by decide +kernel) ?_; have hwq := trivial) | (refine call_plain hc rfl rfl ?_; have hwq := trivial) | fail))
      refine ⟨L.length - (j + 1), _, by omega, Weak.cutI 0 [0, 1, 6, 7, 8] ?_ ?_, j + 1, _, rfl, by omega, rfl, ix_more hno hgj hqx⟩
      · simp (maxSteps:=9999999)-implicitDefEqProofs only [simprocAttr,QH,Option.isSome,cond_true,cond_false,Option.bind,selB,V.rn,V.rns,Go.Ai.known,V.pz,V.pzs,T.toV,frz1,List.range,List.range.loop,ite_true,ite_false,if_true,if_false,ne_eq,implies_true,forall_const,eq_self,IntKind.bits,upd_tmsS,selT_cons,selT_nil,List.length_map,List.getElem?_map,Int.natCast_nonneg,List.length_append,List.map_append]
      · simp (maxSteps:=9999999)-implicitDefEqProofs only [simprocAttr,QH,Option.isSome,cond_true,cond_false,Option.bind,selB,V.rn,V.rns,Go.Ai.known,V.pz,V.pzs,T.toV,frz1,List.range,List.range.loop,ite_true,ite_false,if_true,if_false,ne_eq,implies_true,forall_const,eq_self,IntKind.bits,upd_tmsS,selT_cons,selT_nil,List.length_map,List.getElem?_map,Int.natCast_nonneg,List.length_append,List.map_append]
  · have hjl' : ¬ (j : Int) < (L.length : Int) := by omega
    rw [List.take_of_length_le (by omega)] at hno
    have hix := ix_none hno
    (have hwq := trivial; repeat' (first | simp (maxSteps:=9999999)-implicitDefEqProofs only [go_sem,simprocAttr,hwq,u3,a3,c3,b3,z3,k3,u82,a82,c82,b82,z82,k82,u91,a91,c91,b91,z91,k91,u123,List.length_map,List.getElem?_map,Int.natCast_nonneg,List.length_append,List.map_append,hjl',hix] | (refine condK_split ?_ ?_ <;> intro hwq) | (refine two_split ?_ ?_) | (refine guardK_split ?_ ?_ <;> intro hwq) | (refine guardE_split ?_ ?_ <;> intro hwq) | (refine awp_drawW [] (by decide +kernel) ?_; have hwq := trivial) | fail))
theorem mc68 (kf : Nat) (q : Int → Bool) (L : List Int) (hl : L.length ≤ 100000) (hq : ∀ x ∈ L, AC Try.prog kf [vI x] [] (eqR (vB (q x)))) :
    AC Try.prog 68 [isV L, .clo (.func kf) [] []] [] (eqR (vB (L.any q))) := by
  have h := mi79 kf q L hl hq
  rw [← ix_any]
  refine AC_plain orders Try.func68 rfl (by kernel_rfl) (by kernel_rfl) Try.ntmps68 (by simp) ?_
  unfold Try.f68
  (have hwq := trivial; repeat' (first | simp (maxSteps:=9999999)-implicitDefEqProofs only [go_sem,simprocAttr,hwq,u3,a3,c3,b3,z3,k3,u4,a4,c4,b4,z4,k4,u82,a82,c82,b82,z82,k82,u91,a91,c91,b91,z91,k91,u123] | (refine awpL_loop 18 ?_; have hwq := trivial) | (refine condK_split ?_ ?_ <;> intro hwq) | (refine two_split ?_ ?_) | (refine guardK_split ?_ ?_ <;> intro hwq) | (refine guardE_split ?_ ?_ <;> intro hwq) | (refine awp_drawW [] (by decide +kernel) ?_; have hwq := trivial) | (refine call_plain h rfl rfl ?_; have hwq := trivial) | fail))
def Ix67 (kf : Nat) (q : Vc → Bool) (L : List Vc) (k : Nat) (S : St) : Prop :=
  ∃ (j : Nat) (mv : List Nat), S = ⟨tms [(0, vcsV L), (1, .clo (.func kf) [] []), (6, vcsV L), (7, vI L.length), (8, vI j)], [], mv⟩ ∧ j ≤ L.length ∧ k = L.length - j ∧ ∀ y ∈ L.take j, q y = false
theorem mi67 (kf : Nat) (q : Vc → Bool) (L : List Vc) (hl : L.length ≤ 100000) (hq : ∀ x ∈ L, AC Try.prog kf [vcV x] [] (eqR (vB (q x)))) :
    AC Try.prog 67 [vcsV L, .clo (.func kf) [] []] [] (eqR (vI (ixZ q L))) := by
  refine AC_plain orders Try.func67 rfl (by kernel_rfl) (by kernel_rfl) Try.ntmps67 (by simp) ?_
  unfold Try.f67
  (have hwq := trivial; repeat' (first | simp (maxSteps:=9999999)-implicitDefEqProofs only [go_sem,simprocAttr,hwq,u3,a3,c3,b3,z3,k3,u4,a4,c4,b4,z4,k4,u22,a22,c22,b22,z22,k22,u82,a82,c82,b82,z82,k82,u84,a84,c84,b84,z84,k84,u86,u91,a91,c91,b91,z91,k91] | (refine condK_split ?_ ?_ <;> intro hwq) | (refine two_split ?_ ?_) | (refine guardK_split ?_ ?_ <;> intro hwq) | (refine guardE_split ?_ ?_ <;> intro hwq) | (refine awp_drawW [] (by decide +kernel) ?_; have hwq := trivial) | fail))
  refine awp_loopK (Ix67 kf q L) L.length _ (Weak.cutI 0 [0, 1, 6, 7, 8] ?_ ?_) ⟨0, _, rfl, by omega, rfl, by simp⟩ ?_
  · simp (maxSteps:=9999999)-implicitDefEqProofs only [simprocAttr,QH,Option.isSome,cond_true,cond_false,Option.bind,selB,V.rn,V.rns,Go.Ai.known,V.pz,V.pzs,T.toV,frz1,List.range,List.range.loop,ite_true,ite_false,if_true,if_false,ne_eq,implies_true,forall_const,eq_self,IntKind.bits,upd_tmsS,selT_cons,selT_nil,List.length_map,List.getElem?_map,Int.natCast_nonneg,List.length_append,List.map_append]
  · simp (maxSteps:=9999999)-implicitDefEqProofs only [simprocAttr,QH,Option.isSome,cond_true,cond_false,Option.bind,selB,V.rn,V.rns,Go.Ai.known,V.pz,V.pzs,T.toV,frz1,List.range,List.range.loop,ite_true,ite_false,if_true,if_false,ne_eq,implies_true,forall_const,eq_self,IntKind.bits,upd_tmsS,selT_cons,selT_nil]
  rintro kk S ⟨j, mv, rfl, hj, rfl, hno⟩
  have wj : IntKind.i64.wrap ((j : Int) + 1) = (j : Int) + 1 := wI64 _ (by omega) (by omega)
  by_cases hjl : j < L.length
  · have hjl' : (j : Int) < (L.length : Int) := by omega
    have hgj : L[j]? = some L[j] := List.getElem?_eq_getElem hjl
    obtain ⟨x, hx⟩ : ∃ x, L[j] = x := ⟨_, rfl⟩
    rw [hx] at hgj
    have hc := hq x (mem_in hgj)
    cases hqx : q x with
    | true =>
      rw [hqx] at hc
      have hix := ix_some hno hgj hqx
      (have hwq := trivial; repeat' (first | simp (maxSteps:=9999999)-implicitDefEqProofs only [go_sem,simprocAttr,hwq,u3,a3,c3,b3,z3,k3,u4,a4,c4,b4,z4,k4,u22,a22,c22,b22,z22,k22,u82,a82,c82,b82,z82,k82,u84,a84,c84,b84,z84,k84,u86,u91,a91,c91,b91,z91,k91,List.length_map,List.getElem?_map,Int.natCast_nonneg,List.length_append,List.map_append,hjl',hgj,wj,hix] | (refine condK_split ?_ ?_ <;> intro hwq) | (refine two_split ?_ ?_) | (refine guardK_split ?_ ?_ <;> intro hwq) | (refine guardE_split ?_ ?_ <;> intro hwq) | (refine awp_drawW [] (by decide +kernel) ?_; have hwq := trivial) | (refine call_plain hc rfl rfl ?_; have hwq := trivial) | fail))
    | false =>
      rw [hqx] at hc
      (have hwq := trivial; repeat' (first | simp (maxSteps:=9999999)-implicitDefEqProofs only [go_sem,simprocAttr,hwq,u3,a3,c3,b3,z3,k3,u4,a4,c4,b4,z4,k4,u22,a22,c22,b22,z22,k22,u82,a82,c82,b82,z82,k82,u84,a84,c84,b84,z84,k84,u86,u91,a91,c91,b91,z91,k91,List.length_map,List.getElem?_map,Int.natCast_nonneg,List.length_append,List.map_append,hjl',hgj,wj] | (refine condK_split ?_ ?_ <;> intro hwq) | (refine two_split ?_ ?_) | (refine guardK_split ?_ ?_ <;> intro hwq) | (refine guardE_split ?_ ?_ <;> intro hwq) | (refine awp_drawW [] (by decide +kernel) ?_; have hwq := trivial) | (refine call_plain hc rfl rfl ?_; have hwq := trivial) | fail))
      refine ⟨L.length - (j + 1), _, by omega, Weak.cutI 0 [0, 1, 6, 7, 8] ?_ ?_, j + 1, _, rfl, by omega, rfl, ix_more hno hgj hqx⟩
      · simp (maxSteps:=9999999)-implicitDefEqProofs only [simprocAttr,QH,Option.isSome,cond_true,cond_false,Option.bind,selB,V.rn,V.rns,Go.Ai.known,V.pz,V.pzs,T.toV,frz1,List.range,List.range.loop,ite_true,ite_false,if_true,if_false,ne_eq,implies_true,forall_const,eq_self,IntKind.bits,upd_tmsS,selT_cons,selT_nil,List.length_map,List.getElem?_map,Int.natCast_nonneg,List.length_append,List.map_append]
      · simp (maxSteps:=9999999)-implicitDefEqProofs only [simprocAttr,QH,Option.isSome,cond_true,cond_false,Option.bind,selB,V.rn,V.rns,Go.Ai.known,V.pz,V.pzs,T.toV,frz1,List.range,List.range.loop,ite_true,ite_false,if_true,if_false,ne_eq,implies_true,forall_const,eq_self,IntKind.bits,upd_tmsS,selT_cons,selT_nil,List.length_map,List.getElem?_map,Int.natCast_nonneg,List.length_append,List.map_append]
  · have hjl' : ¬ (j : Int) < (L.length : Int) := by omega
    rw [List.take_of_length_le (by omega)] at hno
    have hix := ix_none hno
    (have hwq := trivial; repeat' (first | simp (maxSteps:=9999999)-implicitDefEqProofs only [go_sem,simprocAttr,hwq,u3,a3,c3,b3,z3,k3,u4,a4,c4,b4,z4,k4,u22,a22,c22,b22,z22,k22,u82,a82,c82,b82,z82,k82,u84,a84,c84,b84,z84,k84,u86,u91,a91,c91,b91,z91,k91,List.length_map,List.getElem?_map,Int.natCast_nonneg,List.length_append,List.map_append,hjl',hix] | (refine condK_split ?_ ?_ <;> intro hwq) | (refine two_split ?_ ?_) | (refine guardK_split ?_ ?_ <;> intro hwq) | (refine guardE_split ?_ ?_ <;> intro hwq) | (refine awp_drawW [] (by decide +kernel) ?_; have hwq := trivial) | fail))
theorem mc40 (kf : Nat) (q : Vc → Bool) (L : List Vc) (hl : L.length ≤ 100000) (hq : ∀ x ∈ L, AC Try.prog kf [vcV x] [] (eqR (vB (q x)))) :
    AC Try.prog 40 [vcsV L, .clo (.func kf) [] []] [] (eqR (vB (L.any q))) := by
  have h := mi67 kf q L hl hq
  rw [← ix_any]
  refine AC_plain orders Try.func40 rfl (by kernel_rfl) (by kernel_rfl) Try.ntmps40 (by simp) ?_
  unfold Try.f40
  (have hwq := trivial; repeat' (first | simp (maxSteps:=9999999)-implicitDefEqProofs only [go_sem,simprocAttr,hwq,u3,a3,c3,b3,z3,k3,u4,a4,c4,b4,z4,k4,u22,a22,c22,b22,z22,k22,u82,a82,c82,b82,z82,k82,u84,a84,c84,b84,z84,k84,u86,u91,a91,c91,b91,z91,k91] | (refine awpL_loop 18 ?_; have hwq := trivial) | (refine condK_split ?_ ?_ <;> intro hwq) | (refine two_split ?_ ?_) | (refine guardK_split ?_ ?_ <;> intro hwq) | (refine guardE_split ?_ ?_ <;> intro hwq) | (refine awp_drawW [] (by decide +kernel) ?_; have hwq := trivial) | (refine call_plain h rfl rfl ?_; have hwq := trivial) | fail))
def badA (a : Int) : Bool := decide (a < 0) || decide (5 < a)
theorem mc69 (a : Int) : AC Try.prog 69 [vI a] [] (eqR (vB (badA a))) := by
  unfold badA
  refine AC_plain orders Try.func69 rfl (by kernel_rfl) (by kernel_rfl) Try.ntmps69 (by simp) ?_
  unfold Try.f69
  (have hwq := trivial; repeat' (first | simp (maxSteps:=9999999)-implicitDefEqProofs only [go_sem,simprocAttr,hwq,u4,a4,c4,b4,z4,k4,u91,a91,c91,b91,z91,k91] | (refine awpL_loop 18 ?_; have hwq := trivial) | (refine condK_split ?_ ?_ <;> intro hwq) | (refine two_split ?_ ?_) | (refine guardK_split ?_ ?_ <;> intro hwq) | (refine guardE_split ?_ ?_ <;> intro hwq) | (refine awp_drawW [] (by decide +kernel) ?_; have hwq := trivial) | fail))
  all_goals simp_all
def mayB (x : Vc) : Bool := !(decide (x.fi < 1) || decide (4094 < x.fi) || decide ((64 : Int) < x.l.length) || decide (4095 - (x.l.length : Int) < x.fi) || (decide ((x.l.length : Int) = 0) && !x.al)) && !(x.l.any badA)
theorem mc42 (x : Vc) (hx : x.l.length ≤ 100000) : AC Try.prog 42 [vcV x] [] (eqR (vB (mayB x))) := by
  have h := mc68 69 badA x.l hx (fun a _ => mc69 a)
  have w1 : IntKind.i64.wrap (4095 - (x.l.length : Int)) = 4095 - (x.l.length : Int) := wI64 _ (by omega) (by omega)
  unfold mayB
  refine AC_plain orders Try.func42 rfl (by kernel_rfl) (by kernel_rfl) Try.ntmps42 (by simp) ?_
  unfold Try.f42
  (have hwq := trivial; repeat' (first | simp (maxSteps:=9999999)-implicitDefEqProofs only [go_sem,simprocAttr,hwq,u3,a3,c3,b3,z3,k3,u4,a4,c4,b4,z4,k4,u82,a82,c82,b82,z82,k82,u84,a84,c84,b84,z84,k84,u91,a91,c91,b91,z91,k91,u123,w1,List.length_map] | (refine awpL_loop 18 ?_; have hwq := trivial) | (refine condK_split ?_ ?_ <;> intro hwq) | (refine two_split ?_ ?_) | (refine guardK_split ?_ ?_ <;> intro hwq) | (refine guardE_split ?_ ?_ <;> intro hwq) | (refine awp_drawW [] (by decide +kernel) ?_; have hwq := trivial) | (refine call_data h rfl (V.les_refl _) rfl ?_; have hwq := trivial) | fail))
  all_goals simp_all
end Go.Ai

set_option linter.unusedVariables false
set_option maxRecDepth 100000
namespace Go.Proofs.Ytdojjjjhbgkpfaa
open Go.ChangeShapes Go.WideShapes Go.ChangeAt Go.RowKit Go.Ai
theorem own : ownKnob Try.prog.godebug = none := by kernel_rfl
theorem laidOut : laidOutB Try.prog = true := by kernel_rfl
theorem rdIn (W : World) : Rd Try.prog W 3 fun ts => ∃ n : Int, ts = inT n := Rd.mono (rd_int Try.underlying3 (by kernel_rfl)) fun ts ⟨n, e, _⟩ => ⟨n, e⟩
end Go.Proofs.Ytdojjjjhbgkpfaa

set_option linter.unusedVariables false
set_option maxRecDepth 100000
namespace Go.Proofs.Ytdojjjjhbgkpfaa
open Go.ChangeShapes Go.WideShapes Go.ChangeAt Go.RowKit Go.Ai
theorem rdCf (W : World) : Rd Try.prog W 39 fun ts => ∃ a b : Int, ts = [.s (.int .i64 a), .s (.int .i64 b)] := by
  refine Rd.mono (rd_struct Try.underlying39 (by kernel_rfl) (gs := [_, _]) ⟨by kernel_rfl, rdIn W, by kernel_rfl, rdIn W, trivial⟩) fun ts h => ?_
  obtain ⟨_, _, rfl, ⟨a, rfl⟩, _, _, rfl, ⟨b, rfl⟩, rfl⟩ := h
  exact ⟨a, b, rfl⟩
theorem got_cr {H : Type} {enc : TypeId × Value → H} {W : World} {r : Reach} {b0 : Nat} {v : Value} {d : DataW H} {ps : List MemPlace} (hval : Value.okWide Try.prog W r b0 39 v) (hd : DataW.Trod enc Try.prog W 0 (fun _ => true) true 39 v d ps) :
    ∃ x, VR noB (memI W) x v ∧ ∃ a b : Int, x = .agg [vI a, vI b] := by
  obtain ⟨x, h1, ts, rfl, a, b, rfl⟩ := got_agg (.inl ⟨_, Try.underlying39⟩) (rdCf W) hval hd
  exact ⟨_, h1, a, b, rfl⟩
end Go.Proofs.Ytdojjjjhbgkpfaa

set_option linter.unusedVariables false
set_option linter.unusedSimpArgs false
set_option maxHeartbeats 4000000
set_option maxRecDepth 100000
namespace Go.Ai
open Go.Proofs
attribute [local go_sem] QH QR V.noimm V.noimms frzZs frzZ frzA frzV frzVs frzBox boxLen Option.isSome cond_true cond_false aopD calW flatV stepX amap stepY alookup afind aupdate adelete amlen arange ameq mapOf akeq pl V.mapT V.mapTs Option.bind stepK runK guardD stepE runD callD compact selB callK evS ofVal ofVals scalar aop ares mkRes V.rn V.rns V.cells? cellsAt Go.Ai.part aload astore setL V.atom abin aun intBin shiftBin aconv fieldOf aindexAddr aindex bound? aslice aarr abuild afill alen nilP nilS nilF aeq eqCells eqCell Go.Ai.known strBin abuiltin aappend abuildSlice arowsFill amakeSlice acopy aclear minmax rowsOf numsT notStr isIntD isByte V.pz V.pzs T.toV frz1 frz scalT scalTs chunkT List.range List.range.loop ite_true ite_false if_true if_false ne_eq implies_true forall_const eq_self IntKind.bits kPostKF_ret kPostKF_normal kPostX_ret kPostX_normal bsl nil2K nil2 kPostFW_ret kPostFW_normal kPostKM_ret kPostKM_normal kPostXK_ret kPostXK_normal
theorem mc41 (x : Vc) (hx : x.l.length ≤ 100000) : AC Try.prog 41 [vcV x] [] (eqR (vB (!mayB x))) := by
  have h := mc42 x hx
  refine AC_plain orders Try.func41 rfl (by kernel_rfl) (by kernel_rfl) Try.ntmps41 (by simp) ?_
  unfold Try.f41
  (have hwq := trivial; repeat' (first | simp (maxSteps:=9999999)-implicitDefEqProofs only [go_sem,simprocAttr,hwq,u3,a3,c3,b3,z3,k3,u4,a4,c4,b4,z4,k4,u82,a82,c82,b82,z82,k82,u84,a84,c84,b84,z84,k84,u91,a91,c91,b91,z91,k91] | (refine awpL_loop 18 ?_; have hwq := trivial) | (refine condK_split ?_ ?_ <;> intro hwq) | (refine two_split ?_ ?_) | (refine guardK_split ?_ ?_ <;> intro hwq) | (refine guardE_split ?_ ?_ <;> intro hwq) | (refine awp_drawW [] (by decide +kernel) ?_; have hwq := trivial) | (refine call_data h rfl (V.les_refl _) rfl ?_; have hwq := trivial) | fail))
def twoL (n : Int) : List Int := [n / 256, n % 256]
theorem mc43 (n : Int) (h0 : 0 ≤ n) (h1 : n < 65536) : AC Try.prog 43 [vI n] [] (eqR (bysV (twoL n))) := by
  refine AC_frozen orders Try.func43 rfl (by kernel_rfl) (by kernel_rfl) Try.ntmps43 (by simp) ?_
  unfold Try.f43
  (have hwq := trivial; repeat' (first | simp (maxSteps:=9999999)-implicitDefEqProofs only [go_sem,simprocAttr,hwq,u3,a3,c3,b3,z3,k3,u5,a5,c5,b5,z5,k5,u23,a23,c23,b23,z23,k23] | (refine awpL_loop 18 ?_; have hwq := trivial) | (refine condK_split ?_ ?_ <;> intro hwq) | (refine two_split ?_ ?_) | (refine guardK_split ?_ ?_ <;> intro hwq) | (refine guardE_split ?_ ?_ <;> intro hwq) | (refine awp_drawW [] (by decide +kernel) ?_; have hwq := trivial) | fail))
  have e1 : IntKind.u8.wrap (n / 256) = n / 256 := by simp only [IntKind.wrap_u8]; omega
  have e2 : IntKind.u8.wrap n = n % 256 := by simp only [IntKind.wrap_u8]
  rw [e1, e2]
  rfl
theorem mc44 (l : List Int) : AC Try.prog 44 [isV l, vI 3] [] (eqR (.clo (.func 70) [] [.iref [.sl 1 (l.map inT)], .iref [.s (.int .i64 3)]])) := by
  refine AC_frozen orders Try.func44 rfl (by kernel_rfl) (by kernel_rfl) Try.ntmps44 (by simp) ?_
  unfold Try.f44
  (have hwq := trivial; repeat' (first | simp (maxSteps:=9999999)-implicitDefEqProofs only [go_sem,simprocAttr,hwq,u3,a3,c3,b3,z3,k3,u9,a9,c9,b9,z9,k9,u82,a82,c82,b82,z82,k82,u89,u91,a91,c91,b91,z91,k91] | (refine awpL_loop 18 ?_; have hwq := trivial) | (refine condK_split ?_ ?_ <;> intro hwq) | (refine two_split ?_ ?_) | (refine guardK_split ?_ ?_ <;> intro hwq) | (refine guardE_split ?_ ?_ <;> intro hwq) | (refine awp_drawW [] (by decide +kernel) ?_; have hwq := trivial) | fail))
end Go.Ai
