/- Contracts of functions of the loaded program: called with data in the ranges that each names, it returns this value and writes to no old memory. -/
import Derived.Test.YtdojjjjhbgkpfaaMvpYb
set_option linter.unusedVariables false
set_option linter.unusedSimpArgs false
set_option maxHeartbeats 4000000
set_option maxRecDepth 100000
namespace Go.Ai
open Go.Proofs
attribute [local go_sem] QH QR V.noimm V.noimms frzZs frzZ frzA frzV frzVs frzBox boxLen Option.isSome cond_true cond_false aopD calW flatV stepX amap stepY alookup afind aupdate adelete amlen arange ameq mapOf akeq pl V.mapT V.mapTs Option.bind stepK runK guardD stepE runD callD compact selB callK evS ofVal ofVals scalar aop ares mkRes V.rn V.rns V.cells? cellsAt Go.Ai.part aload astore setL V.atom abin aun intBin shiftBin aconv fieldOf aindexAddr aindex bound? aslice aarr abuild afill alen nilP nilS nilF aeq eqCells eqCell Go.Ai.known strBin abuiltin aappend abuildSlice arowsFill amakeSlice acopy aclear minmax rowsOf numsT notStr isIntD isByte V.pz V.pzs T.toV frz1 frz scalT scalTs chunkT List.range List.range.loop ite_true ite_false if_true if_false ne_eq implies_true forall_const eq_self IntKind.bits kPostKF_ret kPostKF_normal kPostX_ret kPostX_normal bsl nil2K nil2 kPostFW_ret kPostFW_normal kPostKM_ret kPostKM_normal kPostXK_ret kPostXK_normal
/-- What may be, but for what is said. -/
def headB (x : Vc) : Bool := decide (x.fi < 1) || decide (4094 < x.fi) || decide ((64 : Int) < x.l.length) || decide (4095 - (x.l.length : Int) < x.fi) || (decide ((x.l.length : Int) = 0) && !x.al)
theorem mayB_head (x : Vc) : mayB x = (!headB x && !(x.l.any badA)) := rfl
def Iv45 (x : Vc) (n : Nat) (S : St) : Prop :=
  ∃ (j : Nat) (mv : List Nat), S = ⟨tms [(1, .ptr 0 0 0), (3, vI j)], [.box [vB x.al, vI x.fi, isV x.l] false], mv⟩ ∧ j ≤ x.l.length ∧ n = x.l.length - j ∧ ∀ a ∈ x.l.take j, badA a = false
theorem mr45 (x : Vc) (hx : x.l.length ≤ 100000) : AC Try.prog 45 [vcV x] [] (eqR (vB (mayB x))) := by
  have w1 : IntKind.i64.wrap (4095 - (x.l.length : Int)) = 4095 - (x.l.length : Int) := wI64 _ (by omega) (by omega)
  rw [mayB_head]
  refine AC_plain orders Try.func45 rfl (by kernel_rfl) (by kernel_rfl) Try.ntmps45 (by simp) ?_
  unfold Try.f45
  cases hh : headB x with
  | true =>
    unfold headB at hh
    (have hwq := trivial; repeat' (first | simp (maxSteps:=9999999)-implicitDefEqProofs only [go_sem,simprocAttr,hwq,u3,a3,c3,b3,z3,k3,u4,a4,c4,b4,z4,k4,u82,a82,c82,b82,z82,k82,u84,a84,c84,b84,z84,k84,u91,a91,c91,b91,z91,k91,w1,List.length_map] | (refine condK_split ?_ ?_ <;> intro hwq) | (refine two_split ?_ ?_) | (refine guardK_split ?_ ?_ <;> intro hwq) | (refine guardE_split ?_ ?_ <;> intro hwq) | (refine awp_drawW [] (by decide +kernel) ?_; have hwq := trivial) | fail))
    all_goals (try rfl)
    all_goals (exfalso; simp_all)
  | false =>
    unfold headB at hh
    simp only [Bool.or_eq_false_iff, decide_eq_false_iff_not, Bool.and_eq_false_iff] at hh
    obtain ⟨⟨⟨⟨g1, g2⟩, g3⟩, g4⟩, g5⟩ := hh
    (have hwq := trivial; repeat' (first | simp (maxSteps:=9999999)-implicitDefEqProofs only [go_sem,simprocAttr,hwq,u3,a3,c3,b3,z3,k3,u4,a4,c4,b4,z4,k4,u82,a82,c82,b82,z82,k82,u84,a84,c84,b84,z84,k84,u91,a91,c91,b91,z91,k91,w1,List.length_map,g1,g2,g3,g4] | (refine condK_split ?_ ?_ <;> intro hwq) | (refine two_split ?_ ?_) | (refine guardK_split ?_ ?_ <;> intro hwq) | (refine guardE_split ?_ ?_ <;> intro hwq) | (refine awp_drawW [] (by decide +kernel) ?_; have hwq := trivial) | fail))
    all_goals first
      | (exfalso; simp_all; done)
      | skip
    all_goals
      refine awp_loopK (Iv45 x) x.l.length _ (Weak.cutI 1 [1, 3] ?_ ?_) ⟨0, _, rfl, by omega, rfl, by simp⟩ ?_
      · simp (maxSteps:=9999999)-implicitDefEqProofs only [simprocAttr,QH,Option.isSome,cond_true,cond_false,Option.bind,selB,V.rn,V.rns,Go.Ai.known,V.pz,V.pzs,T.toV,frz1,List.range,List.range.loop,ite_true,ite_false,if_true,if_false,ne_eq,implies_true,forall_const,eq_self,IntKind.bits,upd_tmsS,selT_cons,selT_nil,List.length_map,List.getElem?_map,Int.natCast_nonneg,List.length_append,List.map_append]
      · simp (maxSteps:=9999999)-implicitDefEqProofs only [simprocAttr,QH,Option.isSome,cond_true,cond_false,Option.bind,selB,V.rn,V.rns,Go.Ai.known,V.pz,V.pzs,T.toV,frz1,List.range,List.range.loop,ite_true,ite_false,if_true,if_false,ne_eq,implies_true,forall_const,eq_self,IntKind.bits,upd_tmsS,selT_cons,selT_nil]
      rintro kk S ⟨j, mv, rfl, hj, rfl, hno⟩
      have wj : IntKind.i64.wrap ((j : Int) + 1) = (j : Int) + 1 := wI64 _ (by omega) (by omega)
      by_cases hjl : j < x.l.length
      · have hjl' : (j : Int) < (x.l.length : Int) := by omega
        have hgj : x.l[j]? = some x.l[j] := List.getElem?_eq_getElem hjl
        obtain ⟨a, ha⟩ : ∃ a, x.l[j] = a := ⟨_, rfl⟩
        rw [ha] at hgj
        cases hba : badA a with
        | true =>
          have hany : x.l.any badA = true := List.any_eq_true.2 ⟨a, mem_in hgj, hba⟩
          rw [hany]
          by_cases q1 : a < 0
          · (have hwq := trivial; repeat' (first | simp (maxSteps:=9999999)-implicitDefEqProofs only [go_sem,simprocAttr,hwq,u3,a3,c3,b3,z3,k3,u4,a4,c4,b4,z4,k4,u82,a82,c82,b82,z82,k82,u84,a84,c84,b84,z84,k84,u91,a91,c91,b91,z91,k91,List.length_map,List.getElem?_map,Int.natCast_nonneg,List.length_append,List.map_append,hjl',hgj,wj,q1] | (refine condK_split ?_ ?_ <;> intro hwq) | (refine two_split ?_ ?_) | (refine guardK_split ?_ ?_ <;> intro hwq) | (refine guardE_split ?_ ?_ <;> intro hwq) | (refine awp_drawW [] (by decide +kernel) ?_; have hwq := trivial) | fail))
          · have q2 : 5 < a := by unfold badA at hba; simp at hba; omega
            (have hwq := trivial; repeat' (first | simp (maxSteps:=9999999)-implicitDefEqProofs only [go_sem,simprocAttr,hwq,u3,a3,c3,b3,z3,k3,u4,a4,c4,b4,z4,k4,u82,a82,c82,b82,z82,k82,u84,a84,c84,b84,z84,k84,u91,a91,c91,b91,z91,k91,List.length_map,List.getElem?_map,Int.natCast_nonneg,List.length_append,List.map_append,hjl',hgj,wj,q1,q2] | (refine condK_split ?_ ?_ <;> intro hwq) | (refine two_split ?_ ?_) | (refine guardK_split ?_ ?_ <;> intro hwq) | (refine guardE_split ?_ ?_ <;> intro hwq) | (refine awp_drawW [] (by decide +kernel) ?_; have hwq := trivial) | fail))
        | false =>
          have q1 : ¬ a < 0 := by unfold badA at hba; simp at hba; omega
          have q2 : ¬ 5 < a := by unfold badA at hba; simp at hba; omega
          (have hwq := trivial; repeat' (first | simp (maxSteps:=9999999)-implicitDefEqProofs only [go_sem,simprocAttr,hwq,u3,a3,c3,b3,z3,k3,u4,a4,c4,b4,z4,k4,u82,a82,c82,b82,z82,k82,u84,a84,c84,b84,z84,k84,u91,a91,c91,b91,z91,k91,List.length_map,List.getElem?_map,Int.natCast_nonneg,List.length_append,List.map_append,hjl',hgj,wj,q1,q2] | (refine condK_split ?_ ?_ <;> intro hwq) | (refine two_split ?_ ?_) | (refine guardK_split ?_ ?_ <;> intro hwq) | (refine guardE_split ?_ ?_ <;> intro hwq) | (refine awp_drawW [] (by decide +kernel) ?_; have hwq := trivial) | fail))
          refine ⟨x.l.length - (j + 1), _, by omega, Weak.cutI 1 [1, 3] ?_ ?_, j + 1, _, rfl, by omega, rfl, ix_more hno hgj hba⟩
          · simp (maxSteps:=9999999)-implicitDefEqProofs only [simprocAttr,QH,Option.isSome,cond_true,cond_false,Option.bind,selB,V.rn,V.rns,Go.Ai.known,V.pz,V.pzs,T.toV,frz1,List.range,List.range.loop,ite_true,ite_false,if_true,if_false,ne_eq,implies_true,forall_const,eq_self,IntKind.bits,upd_tmsS,selT_cons,selT_nil,List.length_map,List.getElem?_map,Int.natCast_nonneg,List.length_append,List.map_append]
          · simp (maxSteps:=9999999)-implicitDefEqProofs only [simprocAttr,QH,Option.isSome,cond_true,cond_false,Option.bind,selB,V.rn,V.rns,Go.Ai.known,V.pz,V.pzs,T.toV,frz1,List.range,List.range.loop,ite_true,ite_false,if_true,if_false,ne_eq,implies_true,forall_const,eq_self,IntKind.bits,upd_tmsS,selT_cons,selT_nil,List.length_map,List.getElem?_map,Int.natCast_nonneg,List.length_append,List.map_append]
      · have hjl' : ¬ (j : Int) < (x.l.length : Int) := by omega
        rw [List.take_of_length_le (by omega)] at hno
        have hany : x.l.any badA = false := by rw [List.any_eq_false]; intro y hy; simp [hno y hy]
        rw [hany]
        (have hwq := trivial; repeat' (first | simp (maxSteps:=9999999)-implicitDefEqProofs only [go_sem,simprocAttr,hwq,u3,a3,c3,b3,z3,k3,u4,a4,c4,b4,z4,k4,u82,a82,c82,b82,z82,k82,u84,a84,c84,b84,z84,k84,u91,a91,c91,b91,z91,k91,List.length_map,List.getElem?_map,Int.natCast_nonneg,List.length_append,List.map_append,hjl'] | (refine condK_split ?_ ?_ <;> intro hwq) | (refine two_split ?_ ?_) | (refine guardK_split ?_ ?_ <;> intro hwq) | (refine guardE_split ?_ ?_ <;> intro hwq) | (refine awp_drawW [] (by decide +kernel) ?_; have hwq := trivial) | fail))
end Go.Ai

set_option linter.unusedVariables false
set_option linter.unusedSimpArgs false
set_option maxHeartbeats 4000000
set_option maxRecDepth 100000
namespace Go.Ai
open Go.Proofs
attribute [local go_sem] QH QR V.noimm V.noimms frzZs frzZ frzA frzV frzVs frzBox boxLen Option.isSome cond_true cond_false aopD calW flatV stepX amap stepY alookup afind aupdate adelete amlen arange ameq mapOf akeq pl V.mapT V.mapTs Option.bind stepK runK guardD stepE runD callD compact selB callK evS ofVal ofVals scalar aop ares mkRes V.rn V.rns V.cells? cellsAt Go.Ai.part aload astore setL V.atom abin aun intBin shiftBin aconv fieldOf aindexAddr aindex bound? aslice aarr abuild afill alen nilP nilS nilF aeq eqCells eqCell Go.Ai.known strBin abuiltin aappend abuildSlice arowsFill amakeSlice acopy aclear minmax rowsOf numsT notStr isIntD isByte V.pz V.pzs T.toV frz1 frz scalT scalTs chunkT List.range List.range.loop ite_true ite_false if_true if_false ne_eq implies_true forall_const eq_self IntKind.bits kPostKF_ret kPostKF_normal kPostX_ret kPostX_normal bsl nil2K nil2 kPostFW_ret kPostFW_normal kPostKM_ret kPostKM_normal kPostXK_ret kPostXK_normal
theorem chk_at {l : List Int} {k i : Nat} {c : List Int} (h : chk l k = c) (hi : i < 3) : l[3 * k + i]? = c[i]? := by
  rw [← h]
  unfold chk
  rw [List.getElem?_take_of_lt hi, List.getElem?_drop]
theorem chk_len {l : List Int} {k : Nat} {c : List Int} (h : chk l k = c) : c.length = min 3 (l.length - 3 * k) := by
  rw [← h]
  unfold chk
  rw [List.length_take, List.length_drop]
def Er12 (L : List Vc) (n : Nat) (S : St) : Prop :=
  ∃ (j : Nat) (bs : List Int) (mv : List Nat), S = ⟨tms [(0, vcsV L), (4, .own 0 0 bs.length), (5, vI j)], [.rows 1 (bs.map byT) false], mv⟩ ∧ j ≤ L.length ∧ n = L.length - j ∧ bs = encB (L.take j) ∧ ∀ x ∈ L.take j, mayB x = true
def Ei12 (L : List Vc) (j : Nat) (x : Vc) (bs : List Int) (n : Nat) (S : St) : Prop :=
  ∃ (k p : Nat) (BS : List Int) (mv : List Nat), S = ⟨tms [(0, vcsV L), (4, .own 0 0 BS.length), (5, vI j), (6, .ptr 1 0 0), (8, vI p)], [.rows 1 (BS.map byT) false, .box [vB x.al, vI x.fi, isV x.l] false], mv⟩ ∧ p = 3 * k ∧ k ≤ chN x.l.length ∧ n = chN x.l.length - k ∧ BS = bs ++ vcH x ++ (List.range k).map fun i => pk3 (chk x.l i)
theorem mr12 (L : List Vc) (hL : ∀ x ∈ L, x.l.length ≤ 100000) : AC Try.prog 12 [vcsV L] [] (eqR (.tuple [bysV (encR L).1, vI (encR L).2])) := by
  unfold encR
  refine AC_frozenW orders Try.func12 rfl (by kernel_rfl) (by kernel_rfl) Try.ntmps12 (by simp) ?_
  unfold Try.f12
  by_cases h64 : (64 : Int) < (L.length : Int)
  · rw [if_pos h64]
    (have hwq := trivial; repeat' (first | simp (maxSteps:=9999999)-implicitDefEqProofs only [go_sem,simprocAttr,hwq,FT3,FT4,FT5,FT22,FT23,FT82,FT84,FT91,h64,List.length_map] | (refine condK_split ?_ ?_ <;> intro hwq) | (refine two_split ?_ ?_) | (refine guardK_split ?_ ?_ <;> intro hwq) | (refine guardE_split ?_ ?_ <;> intro hwq) | (refine awp_drawW [] (by decide +kernel) ?_; have hwq := trivial) | fail))
    exact ⟨_, rfl, by simp [V.leT, V.le, V.les]⟩
  rw [if_neg h64]
  by_cases h0 : L = []
  · subst h0
    rw [if_pos (.inl rfl)]
    (have hwq := trivial; repeat' (first | simp (maxSteps:=9999999)-implicitDefEqProofs only [go_sem,simprocAttr,hwq,FT3,FT4,FT5,FT22,FT23,FT82,FT84,FT91,h64,List.length_map] | (refine condK_split ?_ ?_ <;> intro hwq) | (refine two_split ?_ ?_) | (refine guardK_split ?_ ?_ <;> intro hwq) | (refine guardE_split ?_ ?_ <;> intro hwq) | (refine awp_drawW [] (by decide +kernel) ?_; have hwq := trivial) | fail))
    exact ⟨_, rfl, by simp [V.leT, V.le, V.les]⟩
  have hz : ((L.length : Int) == 0) = false := by simpa using h0
  (have hwq := trivial; repeat' (first | simp (maxSteps:=9999999)-implicitDefEqProofs only [go_sem,simprocAttr,hwq,FT3,FT4,FT5,FT22,FT23,FT82,FT84,FT91,h64,hz,List.length_map] | (refine condK_split ?_ ?_ <;> intro hwq) | (refine two_split ?_ ?_) | (refine guardK_split ?_ ?_ <;> intro hwq) | (refine guardE_split ?_ ?_ <;> intro hwq) | (refine awp_drawW [] (by decide +kernel) ?_; have hwq := trivial) | fail))
  refine awp_loopK (Er12 L) L.length _ (Weak.cutI 1 [0, 4, 5] ?_ ?_) ⟨0, [0, 1, 2], _, rfl, by omega, rfl, rfl, by simp⟩ ?_
  · simp (maxSteps:=9999999)-implicitDefEqProofs only [simprocAttr,QH,Option.isSome,cond_true,cond_false,Option.bind,selB,V.rn,V.rns,Go.Ai.known,V.pz,V.pzs,T.toV,frz1,List.range,List.range.loop,ite_true,ite_false,if_true,if_false,ne_eq,implies_true,forall_const,eq_self,IntKind.bits,upd_tmsS,selT_cons,selT_nil,List.length_map,List.getElem?_map,Int.natCast_nonneg,List.length_append,List.map_append]
  · simp (maxSteps:=9999999)-implicitDefEqProofs only [simprocAttr,QH,Option.isSome,cond_true,cond_false,Option.bind,selB,V.rn,V.rns,Go.Ai.known,V.pz,V.pzs,T.toV,frz1,List.range,List.range.loop,ite_true,ite_false,if_true,if_false,ne_eq,implies_true,forall_const,eq_self,IntKind.bits,upd_tmsS,selT_cons,selT_nil,List.length_map,List.getElem?_map,Int.natCast_nonneg,List.length_append,List.map_append]
  rintro kk S ⟨j, bs, mv, rfl, hj, rfl, hbs, hmy⟩
  have wj : IntKind.i64.wrap ((j : Int) + 1) = (j : Int) + 1 := wI64 _ (by omega) (by omega)
  have hbl : bs.length ≤ 3 + 26 * 64 := by
    rw [hbs]
    have := encB_len (L.take j) fun x hx => (mayB_of (hmy x hx)).2.2.1
    rw [List.length_take] at this
    omega
  by_cases hjl : j < L.length
  · have hjl' : (j : Int) < (L.length : Int) := by omega
    have hgj : L[j]? = some L[j] := List.getElem?_eq_getElem hjl
    obtain ⟨x, hx⟩ : ∃ x, L[j] = x := ⟨_, rfl⟩
    rw [hx] at hgj
    have h45 := mr45 x (hL x (mem_in hgj))
    cases hm : mayB x with
    | false =>
      rw [hm] at h45
      have hbad : L = [] ∨ L.any (fun x => !mayB x) = true := .inr (List.any_eq_true.2 ⟨x, mem_in hgj, by simp [hm]⟩)
      rw [if_pos hbad]
      (have hwq := trivial; repeat' (first | simp (maxSteps:=9999999)-implicitDefEqProofs only [go_sem,simprocAttr,hwq,FT3,FT4,FT5,FT22,FT23,FT82,FT84,FT91,List.length_map,List.getElem?_map,Int.natCast_nonneg,List.length_append,List.map_append,hjl',hgj] | (refine condK_split ?_ ?_ <;> intro hwq) | (refine two_split ?_ ?_) | (refine guardK_split ?_ ?_ <;> intro hwq) | (refine guardE_split ?_ ?_ <;> intro hwq) | (refine awp_drawW [] (by decide +kernel) ?_; have hwq := trivial) | (refine call_data h45 rfl (V.les_refl _) rfl ?_; have hwq := trivial) | fail))
      exact ⟨_, rfl, by simp [V.leT, V.le, V.les]⟩
    | true =>
      rw [hm] at h45
      obtain ⟨b1, b2, b3, b6⟩ := mayB_of hm
      have h43b := mr46 x.fi (by omega) (by omega)
      have wl : IntKind.i64.wrap ((x.l.length : Int) + 8192) = (x.l.length : Int) + 8192 := wI64 _ (by omega) (by omega)
      have gb1 : bs.length + 2 ≤ 140737488355328 := by omega
      have gb2 : bs.length + 2 + 2 ≤ 140737488355328 := by omega
      have l4a : (twoL (hdN x)).length = 2 := rfl
      have l4b : (twoL x.fi).length = 2 := rfl
      have hnew : bs ++ vcH x ++ (List.range (chN x.l.length)).map (fun k => pk3 (chk x.l k)) = encB (L.take (j + 1)) := by
        rw [take_in hgj, hbs]
        unfold encB vcB
        simp [List.flatMap_append]
      have hmy2 : ∀ y ∈ L.take (j + 1), mayB y = true := by
        intro y hy
        rw [take_in hgj] at hy
        rcases List.mem_append.1 hy with h1 | h1
        · exact hmy y h1
        · simp at h1; subst h1; exact hm
      have key : ∀ (al : Bool), x.al = al → AC Try.prog 46 [vI (if al then (x.l.length : Int) + 8192 else (x.l.length : Int))] [] (eqR (bysV (twoL (hdN x)))) := by
        intro al e
        unfold hdN
        rw [e]
        exact mr46 _ (by cases al <;> simp <;> omega) (by cases al <;> simp <;> omega)
      cases hal : x.al with
      | true =>
        have h43a := key true hal
        rw [if_pos rfl] at h43a
        have h45' : AC Try.prog 45 [.agg [vB x.al, vI x.fi, isV x.l]] [] (eqR (vB true)) := h45
        rw [hal] at h45'
        (have hwq := trivial; repeat' (first | simp (maxSteps:=9999999)-implicitDefEqProofs only [go_sem,simprocAttr,hwq,FT3,FT4,FT5,FT22,FT23,FT82,FT84,FT91,List.length_map,List.getElem?_map,Int.natCast_nonneg,List.length_append,List.map_append,hjl',hgj,wj,wl,hal,gb1,gb2,l4a,l4b,awpTr_noneT,awpTr_altT,trK_eq,TrAnd_true,List.length_map] | (refine condK_split ?_ ?_ <;> intro hwq) | (refine two_split ?_ ?_) | (refine guardK_split ?_ ?_ <;> intro hwq) | (refine guardE_split ?_ ?_ <;> intro hwq) | (refine awp_drawW [] (by decide +kernel) ?_; have hwq := trivial) | (refine call_data h45' rfl (V.les_refl _) rfl ?_; have hwq := trivial) | (refine draw_plain h43a rfl (fun _ => rfl) ?_; have hwq := trivial) | (refine draw_plain h43b rfl (fun _ => rfl) ?_; have hwq := trivial) | (refine trAnd_mk ?_ ?_; have hwq := trivial) | fail))
        refine awp_tree [] (.alt 0 (.alt 1 (.alt 2 (.alt 3 (.alt 4 (.alt 5 (.alt 6 (.alt 7 (.alt 8 .leaf .none) .none) .none) .none) .none) (.alt 4 (.alt 3 (.alt 5 (.alt 6 (.alt 7 (.alt 8 .leaf .none) .none) .none) .none) (.alt 5 (.alt 3 (.alt 6 (.alt 7 (.alt 8 .leaf .none) .none) .none) .none) .none)) .none)) (.alt 4 (.alt 2 (.alt 3 (.alt 5 (.alt 6 (.alt 7 (.alt 8 .leaf .none) .none) .none) .none) (.alt 5 (.alt 3 (.alt 6 (.alt 7 (.alt 8 .leaf .none) .none) .none) .none) .none)) (.alt 5 (.alt 2 (.alt 3 (.alt 6 (.alt 7 (.alt 8 .leaf .none) .none) .none) .none) .none) .none)) .none)) (.alt 4 (.alt 1 (.alt 2 (.alt 3 (.alt 5 (.alt 6 (.alt 7 (.alt 8 .leaf .none) .none) .none) .none) (.alt 5 (.alt 3 (.alt 6 (.alt 7 (.alt 8 .leaf .none) .none) .none) .none) .none)) (.alt 5 (.alt 2 (.alt 3 (.alt 6 (.alt 7 (.alt 8 .leaf .none) .none) .none) .none) .none) .none)) (.alt 5 (.alt 1 (.alt 2 (.alt 3 (.alt 6 (.alt 7 (.alt 8 .leaf .none) .none) .none) .none) .none) .none) .none)) .none)) (.alt 1 (.alt 0 (.alt 2 (.alt 3 (.alt 4 (.alt 5 (.alt 6 (.alt 7 (.alt 8 .leaf .none) .none) .none) .none) .none) (.alt 4 (.alt 3 (.alt 5 (.alt 6 (.alt 7 (.alt 8 .leaf .none) .none) .none) .none) (.alt 5 (.alt 3 (.alt 6 (.alt 7 (.alt 8 .leaf .none) .none) .none) .none) .none)) .none)) (.alt 4 (.alt 2 (.alt 3 (.alt 5 (.alt 6 (.alt 7 (.alt 8 .leaf .none) .none) .none) .none) (.alt 5 (.alt 3 (.alt 6 (.alt 7 (.alt 8 .leaf .none) .none) .none) .none) .none)) (.alt 5 (.alt 2 (.alt 3 (.alt 6 (.alt 7 (.alt 8 .leaf .none) .none) .none) .none) .none) .none)) .none)) (.alt 2 (.alt 0 (.alt 3 (.alt 4 (.alt 5 (.alt 6 (.alt 7 (.alt 8 .leaf .none) .none) .none) .none) .none) (.alt 4 (.alt 3 (.alt 5 (.alt 6 (.alt 7 (.alt 8 .leaf .none) .none) .none) .none) (.alt 5 (.alt 3 (.alt 6 (.alt 7 (.alt 8 .leaf .none) .none) .none) .none) .none)) .none)) (.alt 4 (.alt 0 (.alt 3 (.alt 5 (.alt 6 (.alt 7 (.alt 8 .leaf .none) .none) .none) .none) (.alt 5 (.alt 3 (.alt 6 (.alt 7 (.alt 8 .leaf .none) .none) .none) .none) .none)) (.alt 5 (.alt 0 (.alt 3 (.alt 6 (.alt 7 (.alt 8 .leaf .none) .none) .none) .none) .none) .none)) .none)) (.alt 4 (.alt 0 (.alt 2 (.alt 3 (.alt 5 (.alt 6 (.alt 7 (.alt 8 .leaf .none) .none) .none) .none) (.alt 5 (.alt 3 (.alt 6 (.alt 7 (.alt 8 .leaf .none) .none) .none) .none) .none)) (.alt 5 (.alt 2 (.alt 3 (.alt 6 (.alt 7 (.alt 8 .leaf .none) .none) .none) .none) .none) .none)) (.alt 2 (.alt 0 (.alt 3 (.alt 5 (.alt 6 (.alt 7 (.alt 8 .leaf .none) .none) .none) .none) (.alt 5 (.alt 3 (.alt 6 (.alt 7 (.alt 8 .leaf .none) .none) .none) .none) .none)) (.alt 5 (.alt 0 (.alt 3 (.alt 6 (.alt 7 (.alt 8 .leaf .none) .none) .none) .none) .none) .none)) (.alt 5 (.alt 0 (.alt 2 (.alt 3 (.alt 6 (.alt 7 (.alt 8 .leaf .none) .none) .none) .none) .none) (.alt 2 (.alt 0 (.alt 3 (.alt 6 (.alt 7 (.alt 8 .leaf .none) .none) .none) .none) .none) .none)) .none))) .none))) (.alt 4 (.alt 0 (.alt 1 (.alt 2 (.alt 3 (.alt 5 (.alt 6 (.alt 7 (.alt 8 .leaf .none) .none) .none) .none) (.alt 5 (.alt 3 (.alt 6 (.alt 7 (.alt 8 .leaf .none) .none) .none) .none) .none)) (.alt 5 (.alt 2 (.alt 3 (.alt 6 (.alt 7 (.alt 8 .leaf .none) .none) .none) .none) .none) .none)) (.alt 5 (.alt 1 (.alt 2 (.alt 3 (.alt 6 (.alt 7 (.alt 8 .leaf .none) .none) .none) .none) .none) .none) .none)) (.alt 1 (.alt 0 (.alt 2 (.alt 3 (.alt 5 (.alt 6 (.alt 7 (.alt 8 .leaf .none) .none) .none) .none) (.alt 5 (.alt 3 (.alt 6 (.alt 7 (.alt 8 .leaf .none) .none) .none) .none) .none)) (.alt 5 (.alt 2 (.alt 3 (.alt 6 (.alt 7 (.alt 8 .leaf .none) .none) .none) .none) .none) .none)) (.alt 2 (.alt 0 (.alt 3 (.alt 5 (.alt 6 (.alt 7 (.alt 8 .leaf .none) .none) .none) .none) (.alt 5 (.alt 3 (.alt 6 (.alt 7 (.alt 8 .leaf .none) .none) .none) .none) .none)) (.alt 5 (.alt 0 (.alt 3 (.alt 6 (.alt 7 (.alt 8 .leaf .none) .none) .none) .none) .none) .none)) (.alt 5 (.alt 0 (.alt 2 (.alt 3 (.alt 6 (.alt 7 (.alt 8 .leaf .none) .none) .none) .none) .none) (.alt 2 (.alt 0 (.alt 3 (.alt 6 (.alt 7 (.alt 8 .leaf .none) .none) .none) .none) .none) .none)) .none))) (.alt 5 (.alt 0 (.alt 1 (.alt 2 (.alt 3 (.alt 6 (.alt 7 (.alt 8 .leaf .none) .none) .none) .none) .none) .none) (.alt 1 (.alt 0 (.alt 2 (.alt 3 (.alt 6 (.alt 7 (.alt 8 .leaf .none) .none) .none) .none) .none) (.alt 2 (.alt 0 (.alt 3 (.alt 6 (.alt 7 (.alt 8 .leaf .none) .none) .none) .none) .none) .none)) .none)) .none))) .none))) ⟨tms [(0, vcsV L), (4, .own 0 0 (bs.length + 2 + 2)), (5, vI j), (6, .ptr 1 0 0)], [.rows 1 (bs.map byT ++ (twoL (hdN x)).map byT ++ (twoL x.fi).map byT) false, .box [vB true, vI x.fi, isV x.l] false], mv ++ [0] ++ [0] ++ List.range' 2 0⟩ (by decide +kernel) ?_ ?_
        · (have hwq := trivial; repeat' (first | simp (maxSteps:=9999999)-implicitDefEqProofs only [go_sem,simprocAttr,hwq,FT3,FT4,FT5,FT22,FT23,FT82,FT84,FT91,List.length_map,List.getElem?_map,Int.natCast_nonneg,List.length_append,List.map_append,hjl',hgj,wj,wl,hal,gb1,gb2,l4a,l4b,awpTr_noneT,awpTr_altT,trK_eq,TrAnd_true,List.length_map] | (refine condK_split ?_ ?_ <;> intro hwq) | (refine two_split ?_ ?_) | (refine guardK_split ?_ ?_ <;> intro hwq) | (refine guardE_split ?_ ?_ <;> intro hwq) | (refine awp_drawW [] (by decide +kernel) ?_; have hwq := trivial) | (refine call_data h45' rfl (V.les_refl _) rfl ?_; have hwq := trivial) | (refine draw_plain h43a rfl (fun _ => rfl) ?_; have hwq := trivial) | (refine draw_plain h43b rfl (fun _ => rfl) ?_; have hwq := trivial) | (refine trAnd_mk ?_ ?_; have hwq := trivial) | fail))
          all_goals (refine awpTr_leaf (Weak.cutI 2 [0, 4, 5, 6] ?_ ?_) <;> simp (maxSteps:=9999999)-implicitDefEqProofs only [simprocAttr,QH,Option.isSome,cond_true,cond_false,Option.bind,selB,V.rn,V.rns,Go.Ai.known,V.pz,V.pzs,T.toV,frz1,List.range,List.range.loop,ite_true,ite_false,if_true,if_false,ne_eq,implies_true,forall_const,eq_self,IntKind.bits,upd_tmsS,selT_cons,selT_nil,List.length_map,List.getElem?_map,Int.natCast_nonneg,List.length_append,List.map_append,l4a,l4b])
        (have hwq := trivial; repeat' (first | simp (maxSteps:=9999999)-implicitDefEqProofs only [go_sem,simprocAttr,hwq,FT3,FT4,FT5,FT22,FT23,FT82,FT84,FT91,List.length_map,List.getElem?_map,Int.natCast_nonneg,List.length_append,List.map_append] | (refine condK_split ?_ ?_ <;> intro hwq) | (refine two_split ?_ ?_) | (refine guardK_split ?_ ?_ <;> intro hwq) | (refine guardE_split ?_ ?_ <;> intro hwq) | (refine awp_drawW [] (by decide +kernel) ?_; have hwq := trivial) | fail))
        refine awp_loopK (Ei12 L j x bs) (chN x.l.length) ⟨tms [(0, vcsV L), (4, .own 0 0 (bs.length + 2 + 2)), (5, vI j), (6, .ptr 1 0 0), (8, vI 0)], [.rows 1 (bs.map byT ++ (twoL (hdN x)).map byT ++ (twoL x.fi).map byT) false, .box [vB true, vI x.fi, isV x.l] false], _⟩ (Weak.cutI 2 [0, 4, 5, 6, 8] ?_ ?_) ⟨0, 0, bs ++ vcH x, _, by (simp only [vcH, hal, List.length_append, List.map_append, l4a, l4b, ← Nat.add_assoc, List.append_assoc]; rfl), rfl, by omega, rfl, by simp⟩ ?_
        · simp (maxSteps:=9999999)-implicitDefEqProofs only [simprocAttr,QH,Option.isSome,cond_true,cond_false,Option.bind,selB,V.rn,V.rns,Go.Ai.known,V.pz,V.pzs,T.toV,frz1,List.range,List.range.loop,ite_true,ite_false,if_true,if_false,ne_eq,implies_true,forall_const,eq_self,IntKind.bits,upd_tmsS,selT_cons,selT_nil,List.length_map,List.getElem?_map,Int.natCast_nonneg,List.length_append,List.map_append]
        · simp (maxSteps:=9999999)-implicitDefEqProofs only [simprocAttr,QH,Option.isSome,cond_true,cond_false,Option.bind,selB,V.rn,V.rns,Go.Ai.known,V.pz,V.pzs,T.toV,frz1,List.range,List.range.loop,ite_true,ite_false,if_true,if_false,ne_eq,implies_true,forall_const,eq_self,IntKind.bits,upd_tmsS,selT_cons,selT_nil,List.length_map,List.getElem?_map,Int.natCast_nonneg,List.length_append,List.map_append]
        rintro k2 S2 ⟨k, p, BS, mv2, rfl, hp, hk, rfl, hBS⟩
        have hcn : chN x.l.length ≤ 22 := by unfold chN; omega
        have hgB : BS.length + 1 ≤ 140737488355328 := by
          rw [hBS]
          simp only [List.length_append, List.length_map, vcH, l4a, l4b, List.length_range]
          omega
        have wp : IntKind.i64.wrap (p : Int) = (p : Int) := wI64 _ (by omega) (by omega)
        obtain ⟨p1, hp1⟩ : ∃ p1 : Nat, p + 1 = p1 := ⟨_, rfl⟩
        obtain ⟨p2, hp2⟩ : ∃ p2 : Nat, p + 2 = p2 := ⟨_, rfl⟩
        obtain ⟨p3, hp3⟩ : ∃ p3 : Nat, p + 3 = p3 := ⟨_, rfl⟩
        have wp1 : IntKind.i64.wrap ((p : Int) + 1) = (p1 : Int) := by rw [wI64 _ (by omega) (by omega)]; omega
        have wp2 : IntKind.i64.wrap ((p : Int) + 2) = (p2 : Int) := by rw [wI64 _ (by omega) (by omega)]; omega
        have wp3 : IntKind.i64.wrap ((p : Int) + 3) = (p3 : Int) := by rw [wI64 _ (by omega) (by omega)]; omega
        by_cases hpl : p < x.l.length
        · have hkc : k < chN x.l.length := by unfold chN; omega
          rcases chk_cases x.l b6 k with hck | ⟨a, hck, ha⟩ | ⟨a, b, hck, ha, hb⟩ | ⟨a, b, d, hck, ha, hb, hd⟩
          · have := chk_len hck
            simp at this
            omega
          · have q0 : x.l[p]? = some a := by rw [hp]; exact chk_at (i := 0) hck (by omega)
            have hcl := chk_len hck
            simp only [List.length_cons, List.length_nil] at hcl
            have r0 : (p : Int) < (x.l.length : Int) := by omega
            have r1 : ¬ (p1 : Int) < (x.l.length : Int) := by omega
            have r2 : ¬ (p2 : Int) < (x.l.length : Int) := by omega
            have x0 : IntKind.i64.wrap a = a := wI64 _ (by omega) (by omega)
            have x1 : IntKind.i64.wrap (a * 6) = a * 6 := wI64 _ (by omega) (by omega)
            have x2 : True := trivial
            have x3 : IntKind.i64.wrap (a * 6 * 6) = a * 6 * 6 := wI64 _ (by omega) (by omega)
            have x4 : True := trivial
            have x5 : IntKind.u8.wrap (a * 6 * 6) = a * 6 * 6 := by simp only [IntKind.wrap_u8]; omega
            have hpk : pk3 (chk x.l k) = a * 6 * 6 := by rw [hck]; simp [pk3]
            (have hwq := trivial; repeat' (first | simp (maxSteps:=9999999)-implicitDefEqProofs only [go_sem,simprocAttr,hwq,FT3,FT4,FT5,FT22,FT23,FT82,FT84,FT91,List.length_map,List.getElem?_map,Int.natCast_nonneg,List.length_append,List.map_append,r0,r1,r2,x0,x1,x2,x3,x4,x5,wp,wp1,wp2,wp3,hgB,q0,Int.zero_mul,Int.zero_add,Int.add_zero] | (refine awpL_loop 18 ?_; have hwq := trivial) | (refine condK_split ?_ ?_ <;> intro hwq) | (refine two_split ?_ ?_) | (refine guardK_split ?_ ?_ <;> intro hwq) | (refine guardE_split ?_ ?_ <;> intro hwq) | (refine awp_drawW [] (by decide +kernel) ?_; have hwq := trivial) | fail))
            refine ⟨chN x.l.length - (k + 1), _, by omega, Weak.cutI 2 [0, 4, 5, 6, 8] ?_ ?_, k + 1, p3, BS ++ [pk3 (chk x.l k)], _, rfl, by omega, by omega, rfl, by rw [hBS, List.range_succ, List.map_append]; simp⟩
            · simp (maxSteps:=9999999)-implicitDefEqProofs only [simprocAttr,QH,Option.isSome,cond_true,cond_false,Option.bind,selB,V.rn,V.rns,Go.Ai.known,V.pz,V.pzs,T.toV,frz1,List.range,List.range.loop,ite_true,ite_false,if_true,if_false,ne_eq,implies_true,forall_const,eq_self,IntKind.bits,upd_tmsS,selT_cons,selT_nil,List.length_map,List.getElem?_map,Int.natCast_nonneg,List.length_append,List.map_append,List.length_cons,List.length_nil]
            · rw [hpk]
              simp (maxSteps:=9999999)-implicitDefEqProofs only [simprocAttr,QH,Option.isSome,cond_true,cond_false,Option.bind,selB,V.rn,V.rns,Go.Ai.known,V.pz,V.pzs,T.toV,frz1,List.range,List.range.loop,ite_true,ite_false,if_true,if_false,ne_eq,implies_true,forall_const,eq_self,IntKind.bits,upd_tmsS,selT_cons,selT_nil,List.length_map,List.getElem?_map,Int.natCast_nonneg,List.length_append,List.map_append,List.map_cons,List.map_nil]
          · have q0 : x.l[p]? = some a := by rw [hp]; exact chk_at (i := 0) hck (by omega)
            have q1 : x.l[p1]? = some b := by rw [← hp1, hp]; exact chk_at (i := 1) hck (by omega)
            have hcl := chk_len hck
            simp only [List.length_cons, List.length_nil] at hcl
            have r0 : (p : Int) < (x.l.length : Int) := by omega
            have r1 : (p1 : Int) < (x.l.length : Int) := by omega
            have r2 : ¬ (p2 : Int) < (x.l.length : Int) := by omega
            have x0 : IntKind.i64.wrap a = a := wI64 _ (by omega) (by omega)
            have x1 : IntKind.i64.wrap (a * 6) = a * 6 := wI64 _ (by omega) (by omega)
            have x2 : IntKind.i64.wrap (a * 6 + b) = a * 6 + b := wI64 _ (by omega) (by omega)
            have x3 : IntKind.i64.wrap ((a * 6 + b) * 6) = (a * 6 + b) * 6 := wI64 _ (by omega) (by omega)
            have x4 : True := trivial
            have x5 : IntKind.u8.wrap ((a * 6 + b) * 6) = (a * 6 + b) * 6 := by simp only [IntKind.wrap_u8]; omega
            have hpk : pk3 (chk x.l k) = (a * 6 + b) * 6 := by rw [hck]; simp [pk3]
            (have hwq := trivial; repeat' (first | simp (maxSteps:=9999999)-implicitDefEqProofs only [go_sem,simprocAttr,hwq,FT3,FT4,FT5,FT22,FT23,FT82,FT84,FT91,List.length_map,List.getElem?_map,Int.natCast_nonneg,List.length_append,List.map_append,r0,r1,r2,x0,x1,x2,x3,x4,x5,wp,wp1,wp2,wp3,hgB,q0,q1,Int.zero_mul,Int.zero_add,Int.add_zero] | (refine awpL_loop 18 ?_; have hwq := trivial) | (refine condK_split ?_ ?_ <;> intro hwq) | (refine two_split ?_ ?_) | (refine guardK_split ?_ ?_ <;> intro hwq) | (refine guardE_split ?_ ?_ <;> intro hwq) | (refine awp_drawW [] (by decide +kernel) ?_; have hwq := trivial) | fail))
            refine ⟨chN x.l.length - (k + 1), _, by omega, Weak.cutI 2 [0, 4, 5, 6, 8] ?_ ?_, k + 1, p3, BS ++ [pk3 (chk x.l k)], _, rfl, by omega, by omega, rfl, by rw [hBS, List.range_succ, List.map_append]; simp⟩
            · simp (maxSteps:=9999999)-implicitDefEqProofs only [simprocAttr,QH,Option.isSome,cond_true,cond_false,Option.bind,selB,V.rn,V.rns,Go.Ai.known,V.pz,V.pzs,T.toV,frz1,List.range,List.range.loop,ite_true,ite_false,if_true,if_false,ne_eq,implies_true,forall_const,eq_self,IntKind.bits,upd_tmsS,selT_cons,selT_nil,List.length_map,List.getElem?_map,Int.natCast_nonneg,List.length_append,List.map_append,List.length_cons,List.length_nil]
            · rw [hpk]
              simp (maxSteps:=9999999)-implicitDefEqProofs only [simprocAttr,QH,Option.isSome,cond_true,cond_false,Option.bind,selB,V.rn,V.rns,Go.Ai.known,V.pz,V.pzs,T.toV,frz1,List.range,List.range.loop,ite_true,ite_false,if_true,if_false,ne_eq,implies_true,forall_const,eq_self,IntKind.bits,upd_tmsS,selT_cons,selT_nil,List.length_map,List.getElem?_map,Int.natCast_nonneg,List.length_append,List.map_append,List.map_cons,List.map_nil]
          · have q0 : x.l[p]? = some a := by rw [hp]; exact chk_at (i := 0) hck (by omega)
            have q1 : x.l[p1]? = some b := by rw [← hp1, hp]; exact chk_at (i := 1) hck (by omega)
            have q2 : x.l[p2]? = some d := by rw [← hp2, hp]; exact chk_at (i := 2) hck (by omega)
            have hcl := chk_len hck
            simp only [List.length_cons, List.length_nil] at hcl
            have r0 : (p : Int) < (x.l.length : Int) := by omega
            have r1 : (p1 : Int) < (x.l.length : Int) := by omega
            have r2 : (p2 : Int) < (x.l.length : Int) := by omega
            have x0 : IntKind.i64.wrap a = a := wI64 _ (by omega) (by omega)
            have x1 : IntKind.i64.wrap (a * 6) = a * 6 := wI64 _ (by omega) (by omega)
            have x2 : IntKind.i64.wrap (a * 6 + b) = a * 6 + b := wI64 _ (by omega) (by omega)
            have x3 : IntKind.i64.wrap ((a * 6 + b) * 6) = (a * 6 + b) * 6 := wI64 _ (by omega) (by omega)
            have x4 : IntKind.i64.wrap ((a * 6 + b) * 6 + d) = (a * 6 + b) * 6 + d := wI64 _ (by omega) (by omega)
            have x5 : IntKind.u8.wrap ((a * 6 + b) * 6 + d) = (a * 6 + b) * 6 + d := by simp only [IntKind.wrap_u8]; omega
            have hpk : pk3 (chk x.l k) = (a * 6 + b) * 6 + d := by rw [hck]; simp [pk3]
            (have hwq := trivial; repeat' (first | simp (maxSteps:=9999999)-implicitDefEqProofs only [go_sem,simprocAttr,hwq,FT3,FT4,FT5,FT22,FT23,FT82,FT84,FT91,List.length_map,List.getElem?_map,Int.natCast_nonneg,List.length_append,List.map_append,r0,r1,r2,x0,x1,x2,x3,x4,x5,wp,wp1,wp2,wp3,hgB,q0,q1,q2,Int.zero_mul,Int.zero_add,Int.add_zero] | (refine awpL_loop 18 ?_; have hwq := trivial) | (refine condK_split ?_ ?_ <;> intro hwq) | (refine two_split ?_ ?_) | (refine guardK_split ?_ ?_ <;> intro hwq) | (refine guardE_split ?_ ?_ <;> intro hwq) | (refine awp_drawW [] (by decide +kernel) ?_; have hwq := trivial) | fail))
            refine ⟨chN x.l.length - (k + 1), _, by omega, Weak.cutI 2 [0, 4, 5, 6, 8] ?_ ?_, k + 1, p3, BS ++ [pk3 (chk x.l k)], _, rfl, by omega, by omega, rfl, by rw [hBS, List.range_succ, List.map_append]; simp⟩
            · simp (maxSteps:=9999999)-implicitDefEqProofs only [simprocAttr,QH,Option.isSome,cond_true,cond_false,Option.bind,selB,V.rn,V.rns,Go.Ai.known,V.pz,V.pzs,T.toV,frz1,List.range,List.range.loop,ite_true,ite_false,if_true,if_false,ne_eq,implies_true,forall_const,eq_self,IntKind.bits,upd_tmsS,selT_cons,selT_nil,List.length_map,List.getElem?_map,Int.natCast_nonneg,List.length_append,List.map_append,List.length_cons,List.length_nil]
            · rw [hpk]
              simp (maxSteps:=9999999)-implicitDefEqProofs only [simprocAttr,QH,Option.isSome,cond_true,cond_false,Option.bind,selB,V.rn,V.rns,Go.Ai.known,V.pz,V.pzs,T.toV,frz1,List.range,List.range.loop,ite_true,ite_false,if_true,if_false,ne_eq,implies_true,forall_const,eq_self,IntKind.bits,upd_tmsS,selT_cons,selT_nil,List.length_map,List.getElem?_map,Int.natCast_nonneg,List.length_append,List.map_append,List.map_cons,List.map_nil]
        · have hpl' : ¬ (p : Int) < (x.l.length : Int) := by omega
          obtain rfl : k = chN x.l.length := by unfold chN at hk ⊢; omega
          rw [hnew] at hBS
          (have hwq := trivial; repeat' (first | simp (maxSteps:=9999999)-implicitDefEqProofs only [go_sem,simprocAttr,hwq,FT3,FT4,FT5,FT22,FT23,FT82,FT84,FT91,List.length_map,List.getElem?_map,Int.natCast_nonneg,List.length_append,List.map_append,hpl',wj] | (refine condK_split ?_ ?_ <;> intro hwq) | (refine two_split ?_ ?_) | (refine guardK_split ?_ ?_ <;> intro hwq) | (refine guardE_split ?_ ?_ <;> intro hwq) | (refine awp_drawW [] (by decide +kernel) ?_; have hwq := trivial) | fail))
          refine ⟨L.length - (j + 1), _, by omega, Weak.cutI 1 [0, 4, 5] ?_ ?_, j + 1, BS, _, rfl, by omega, rfl, hBS, hmy2⟩
          · simp (maxSteps:=9999999)-implicitDefEqProofs only [simprocAttr,QH,Option.isSome,cond_true,cond_false,Option.bind,selB,V.rn,V.rns,Go.Ai.known,V.pz,V.pzs,T.toV,frz1,List.range,List.range.loop,ite_true,ite_false,if_true,if_false,ne_eq,implies_true,forall_const,eq_self,IntKind.bits,upd_tmsS,selT_cons,selT_nil,List.length_map,List.getElem?_map,Int.natCast_nonneg,List.length_append,List.map_append]
          · simp (maxSteps:=9999999)-implicitDefEqProofs only [simprocAttr,QH,Option.isSome,cond_true,cond_false,Option.bind,selB,V.rn,V.rns,Go.Ai.known,V.pz,V.pzs,T.toV,frz1,List.range,List.range.loop,ite_true,ite_false,if_true,if_false,ne_eq,implies_true,forall_const,eq_self,IntKind.bits,upd_tmsS,selT_cons,selT_nil,List.length_map,List.getElem?_map,Int.natCast_nonneg,List.length_append,List.map_append]
      | false =>
        have h43a := key false hal
        rw [if_neg (by decide)] at h43a
        have h45' : AC Try.prog 45 [.agg [vB x.al, vI x.fi, isV x.l]] [] (eqR (vB true)) := h45
        rw [hal] at h45'
        (have hwq := trivial; repeat' (first | simp (maxSteps:=9999999)-implicitDefEqProofs only [go_sem,simprocAttr,hwq,FT3,FT4,FT5,FT22,FT23,FT82,FT84,FT91,List.length_map,List.getElem?_map,Int.natCast_nonneg,List.length_append,List.map_append,hjl',hgj,wj,wl,hal,gb1,gb2,l4a,l4b,awpTr_noneT,awpTr_altT,trK_eq,TrAnd_true,List.length_map] | (refine condK_split ?_ ?_ <;> intro hwq) | (refine two_split ?_ ?_) | (refine guardK_split ?_ ?_ <;> intro hwq) | (refine guardE_split ?_ ?_ <;> intro hwq) | (refine awp_drawW [] (by decide +kernel) ?_; have hwq := trivial) | (refine call_data h45' rfl (V.les_refl _) rfl ?_; have hwq := trivial) | (refine draw_plain h43a rfl (fun _ => rfl) ?_; have hwq := trivial) | (refine draw_plain h43b rfl (fun _ => rfl) ?_; have hwq := trivial) | (refine trAnd_mk ?_ ?_; have hwq := trivial) | fail))
        refine awp_tree [] (.alt 0 (.alt 1 (.alt 2 (.alt 3 (.alt 4 (.alt 5 (.alt 6 (.alt 7 (.alt 8 .leaf .none) .none) .none) .none) .none) (.alt 4 (.alt 3 (.alt 5 (.alt 6 (.alt 7 (.alt 8 .leaf .none) .none) .none) .none) (.alt 5 (.alt 3 (.alt 6 (.alt 7 (.alt 8 .leaf .none) .none) .none) .none) .none)) .none)) (.alt 4 (.alt 2 (.alt 3 (.alt 5 (.alt 6 (.alt 7 (.alt 8 .leaf .none) .none) .none) .none) (.alt 5 (.alt 3 (.alt 6 (.alt 7 (.alt 8 .leaf .none) .none) .none) .none) .none)) (.alt 5 (.alt 2 (.alt 3 (.alt 6 (.alt 7 (.alt 8 .leaf .none) .none) .none) .none) .none) .none)) .none)) (.alt 4 (.alt 1 (.alt 2 (.alt 3 (.alt 5 (.alt 6 (.alt 7 (.alt 8 .leaf .none) .none) .none) .none) (.alt 5 (.alt 3 (.alt 6 (.alt 7 (.alt 8 .leaf .none) .none) .none) .none) .none)) (.alt 5 (.alt 2 (.alt 3 (.alt 6 (.alt 7 (.alt 8 .leaf .none) .none) .none) .none) .none) .none)) (.alt 5 (.alt 1 (.alt 2 (.alt 3 (.alt 6 (.alt 7 (.alt 8 .leaf .none) .none) .none) .none) .none) .none) .none)) .none)) (.alt 1 (.alt 0 (.alt 2 (.alt 3 (.alt 4 (.alt 5 (.alt 6 (.alt 7 (.alt 8 .leaf .none) .none) .none) .none) .none) (.alt 4 (.alt 3 (.alt 5 (.alt 6 (.alt 7 (.alt 8 .leaf .none) .none) .none) .none) (.alt 5 (.alt 3 (.alt 6 (.alt 7 (.alt 8 .leaf .none) .none) .none) .none) .none)) .none)) (.alt 4 (.alt 2 (.alt 3 (.alt 5 (.alt 6 (.alt 7 (.alt 8 .leaf .none) .none) .none) .none) (.alt 5 (.alt 3 (.alt 6 (.alt 7 (.alt 8 .leaf .none) .none) .none) .none) .none)) (.alt 5 (.alt 2 (.alt 3 (.alt 6 (.alt 7 (.alt 8 .leaf .none) .none) .none) .none) .none) .none)) .none)) (.alt 2 (.alt 0 (.alt 3 (.alt 4 (.alt 5 (.alt 6 (.alt 7 (.alt 8 .leaf .none) .none) .none) .none) .none) (.alt 4 (.alt 3 (.alt 5 (.alt 6 (.alt 7 (.alt 8 .leaf .none) .none) .none) .none) (.alt 5 (.alt 3 (.alt 6 (.alt 7 (.alt 8 .leaf .none) .none) .none) .none) .none)) .none)) (.alt 4 (.alt 0 (.alt 3 (.alt 5 (.alt 6 (.alt 7 (.alt 8 .leaf .none) .none) .none) .none) (.alt 5 (.alt 3 (.alt 6 (.alt 7 (.alt 8 .leaf .none) .none) .none) .none) .none)) (.alt 5 (.alt 0 (.alt 3 (.alt 6 (.alt 7 (.alt 8 .leaf .none) .none) .none) .none) .none) .none)) .none)) (.alt 4 (.alt 0 (.alt 2 (.alt 3 (.alt 5 (.alt 6 (.alt 7 (.alt 8 .leaf .none) .none) .none) .none) (.alt 5 (.alt 3 (.alt 6 (.alt 7 (.alt 8 .leaf .none) .none) .none) .none) .none)) (.alt 5 (.alt 2 (.alt 3 (.alt 6 (.alt 7 (.alt 8 .leaf .none) .none) .none) .none) .none) .none)) (.alt 2 (.alt 0 (.alt 3 (.alt 5 (.alt 6 (.alt 7 (.alt 8 .leaf .none) .none) .none) .none) (.alt 5 (.alt 3 (.alt 6 (.alt 7 (.alt 8 .leaf .none) .none) .none) .none) .none)) (.alt 5 (.alt 0 (.alt 3 (.alt 6 (.alt 7 (.alt 8 .leaf .none) .none) .none) .none) .none) .none)) (.alt 5 (.alt 0 (.alt 2 (.alt 3 (.alt 6 (.alt 7 (.alt 8 .leaf .none) .none) .none) .none) .none) (.alt 2 (.alt 0 (.alt 3 (.alt 6 (.alt 7 (.alt 8 .leaf .none) .none) .none) .none) .none) .none)) .none))) .none))) (.alt 4 (.alt 0 (.alt 1 (.alt 2 (.alt 3 (.alt 5 (.alt 6 (.alt 7 (.alt 8 .leaf .none) .none) .none) .none) (.alt 5 (.alt 3 (.alt 6 (.alt 7 (.alt 8 .leaf .none) .none) .none) .none) .none)) (.alt 5 (.alt 2 (.alt 3 (.alt 6 (.alt 7 (.alt 8 .leaf .none) .none) .none) .none) .none) .none)) (.alt 5 (.alt 1 (.alt 2 (.alt 3 (.alt 6 (.alt 7 (.alt 8 .leaf .none) .none) .none) .none) .none) .none) .none)) (.alt 1 (.alt 0 (.alt 2 (.alt 3 (.alt 5 (.alt 6 (.alt 7 (.alt 8 .leaf .none) .none) .none) .none) (.alt 5 (.alt 3 (.alt 6 (.alt 7 (.alt 8 .leaf .none) .none) .none) .none) .none)) (.alt 5 (.alt 2 (.alt 3 (.alt 6 (.alt 7 (.alt 8 .leaf .none) .none) .none) .none) .none) .none)) (.alt 2 (.alt 0 (.alt 3 (.alt 5 (.alt 6 (.alt 7 (.alt 8 .leaf .none) .none) .none) .none) (.alt 5 (.alt 3 (.alt 6 (.alt 7 (.alt 8 .leaf .none) .none) .none) .none) .none)) (.alt 5 (.alt 0 (.alt 3 (.alt 6 (.alt 7 (.alt 8 .leaf .none) .none) .none) .none) .none) .none)) (.alt 5 (.alt 0 (.alt 2 (.alt 3 (.alt 6 (.alt 7 (.alt 8 .leaf .none) .none) .none) .none) .none) (.alt 2 (.alt 0 (.alt 3 (.alt 6 (.alt 7 (.alt 8 .leaf .none) .none) .none) .none) .none) .none)) .none))) (.alt 5 (.alt 0 (.alt 1 (.alt 2 (.alt 3 (.alt 6 (.alt 7 (.alt 8 .leaf .none) .none) .none) .none) .none) .none) (.alt 1 (.alt 0 (.alt 2 (.alt 3 (.alt 6 (.alt 7 (.alt 8 .leaf .none) .none) .none) .none) .none) (.alt 2 (.alt 0 (.alt 3 (.alt 6 (.alt 7 (.alt 8 .leaf .none) .none) .none) .none) .none) .none)) .none)) .none))) .none))) ⟨tms [(0, vcsV L), (4, .own 0 0 (bs.length + 2 + 2)), (5, vI j), (6, .ptr 1 0 0)], [.rows 1 (bs.map byT ++ (twoL (hdN x)).map byT ++ (twoL x.fi).map byT) false, .box [vB false, vI x.fi, isV x.l] false], mv ++ [0] ++ [0] ++ List.range' 2 0⟩ (by decide +kernel) ?_ ?_
        · (have hwq := trivial; repeat' (first | simp (maxSteps:=9999999)-implicitDefEqProofs only [go_sem,simprocAttr,hwq,FT3,FT4,FT5,FT22,FT23,FT82,FT84,FT91,List.length_map,List.getElem?_map,Int.natCast_nonneg,List.length_append,List.map_append,hjl',hgj,wj,wl,hal,gb1,gb2,l4a,l4b,awpTr_noneT,awpTr_altT,trK_eq,TrAnd_true,List.length_map] | (refine condK_split ?_ ?_ <;> intro hwq) | (refine two_split ?_ ?_) | (refine guardK_split ?_ ?_ <;> intro hwq) | (refine guardE_split ?_ ?_ <;> intro hwq) | (refine awp_drawW [] (by decide +kernel) ?_; have hwq := trivial) | (refine call_data h45' rfl (V.les_refl _) rfl ?_; have hwq := trivial) | (refine draw_plain h43a rfl (fun _ => rfl) ?_; have hwq := trivial) | (refine draw_plain h43b rfl (fun _ => rfl) ?_; have hwq := trivial) | (refine trAnd_mk ?_ ?_; have hwq := trivial) | fail))
          all_goals (refine awpTr_leaf (Weak.cutI 2 [0, 4, 5, 6] ?_ ?_) <;> simp (maxSteps:=9999999)-implicitDefEqProofs only [simprocAttr,QH,Option.isSome,cond_true,cond_false,Option.bind,selB,V.rn,V.rns,Go.Ai.known,V.pz,V.pzs,T.toV,frz1,List.range,List.range.loop,ite_true,ite_false,if_true,if_false,ne_eq,implies_true,forall_const,eq_self,IntKind.bits,upd_tmsS,selT_cons,selT_nil,List.length_map,List.getElem?_map,Int.natCast_nonneg,List.length_append,List.map_append,l4a,l4b])
        (have hwq := trivial; repeat' (first | simp (maxSteps:=9999999)-implicitDefEqProofs only [go_sem,simprocAttr,hwq,FT3,FT4,FT5,FT22,FT23,FT82,FT84,FT91,List.length_map,List.getElem?_map,Int.natCast_nonneg,List.length_append,List.map_append] | (refine condK_split ?_ ?_ <;> intro hwq) | (refine two_split ?_ ?_) | (refine guardK_split ?_ ?_ <;> intro hwq) | (refine guardE_split ?_ ?_ <;> intro hwq) | (refine awp_drawW [] (by decide +kernel) ?_; have hwq := trivial) | fail))
        refine awp_loopK (Ei12 L j x bs) (chN x.l.length) ⟨tms [(0, vcsV L), (4, .own 0 0 (bs.length + 2 + 2)), (5, vI j), (6, .ptr 1 0 0), (8, vI 0)], [.rows 1 (bs.map byT ++ (twoL (hdN x)).map byT ++ (twoL x.fi).map byT) false, .box [vB false, vI x.fi, isV x.l] false], _⟩ (Weak.cutI 2 [0, 4, 5, 6, 8] ?_ ?_) ⟨0, 0, bs ++ vcH x, _, by (simp only [vcH, hal, List.length_append, List.map_append, l4a, l4b, ← Nat.add_assoc, List.append_assoc]; rfl), rfl, by omega, rfl, by simp⟩ ?_
        · simp (maxSteps:=9999999)-implicitDefEqProofs only [simprocAttr,QH,Option.isSome,cond_true,cond_false,Option.bind,selB,V.rn,V.rns,Go.Ai.known,V.pz,V.pzs,T.toV,frz1,List.range,List.range.loop,ite_true,ite_false,if_true,if_false,ne_eq,implies_true,forall_const,eq_self,IntKind.bits,upd_tmsS,selT_cons,selT_nil,List.length_map,List.getElem?_map,Int.natCast_nonneg,List.length_append,List.map_append]
        · simp (maxSteps:=9999999)-implicitDefEqProofs only [simprocAttr,QH,Option.isSome,cond_true,cond_false,Option.bind,selB,V.rn,V.rns,Go.Ai.known,V.pz,V.pzs,T.toV,frz1,List.range,List.range.loop,ite_true,ite_false,if_true,if_false,ne_eq,implies_true,forall_const,eq_self,IntKind.bits,upd_tmsS,selT_cons,selT_nil,List.length_map,List.getElem?_map,Int.natCast_nonneg,List.length_append,List.map_append]
        rintro k2 S2 ⟨k, p, BS, mv2, rfl, hp, hk, rfl, hBS⟩
        have hcn : chN x.l.length ≤ 22 := by unfold chN; omega
        have hgB : BS.length + 1 ≤ 140737488355328 := by
          rw [hBS]
          simp only [List.length_append, List.length_map, vcH, l4a, l4b, List.length_range]
          omega
        have wp : IntKind.i64.wrap (p : Int) = (p : Int) := wI64 _ (by omega) (by omega)
        obtain ⟨p1, hp1⟩ : ∃ p1 : Nat, p + 1 = p1 := ⟨_, rfl⟩
        obtain ⟨p2, hp2⟩ : ∃ p2 : Nat, p + 2 = p2 := ⟨_, rfl⟩
        obtain ⟨p3, hp3⟩ : ∃ p3 : Nat, p + 3 = p3 := ⟨_, rfl⟩
        have wp1 : IntKind.i64.wrap ((p : Int) + 1) = (p1 : Int) := by rw [wI64 _ (by omega) (by omega)]; omega
        have wp2 : IntKind.i64.wrap ((p : Int) + 2) = (p2 : Int) := by rw [wI64 _ (by omega) (by omega)]; omega
        have wp3 : IntKind.i64.wrap ((p : Int) + 3) = (p3 : Int) := by rw [wI64 _ (by omega) (by omega)]; omega
        by_cases hpl : p < x.l.length
        · have hkc : k < chN x.l.length := by unfold chN; omega
          rcases chk_cases x.l b6 k with hck | ⟨a, hck, ha⟩ | ⟨a, b, hck, ha, hb⟩ | ⟨a, b, d, hck, ha, hb, hd⟩
          · have := chk_len hck
            simp at this
            omega
          · have q0 : x.l[p]? = some a := by rw [hp]; exact chk_at (i := 0) hck (by omega)
            have hcl := chk_len hck
            simp only [List.length_cons, List.length_nil] at hcl
            have r0 : (p : Int) < (x.l.length : Int) := by omega
            have r1 : ¬ (p1 : Int) < (x.l.length : Int) := by omega
            have r2 : ¬ (p2 : Int) < (x.l.length : Int) := by omega
            have x0 : IntKind.i64.wrap a = a := wI64 _ (by omega) (by omega)
            have x1 : IntKind.i64.wrap (a * 6) = a * 6 := wI64 _ (by omega) (by omega)
            have x2 : True := trivial
            have x3 : IntKind.i64.wrap (a * 6 * 6) = a * 6 * 6 := wI64 _ (by omega) (by omega)
            have x4 : True := trivial
            have x5 : IntKind.u8.wrap (a * 6 * 6) = a * 6 * 6 := by simp only [IntKind.wrap_u8]; omega
            have hpk : pk3 (chk x.l k) = a * 6 * 6 := by rw [hck]; simp [pk3]
            (have hwq := trivial; repeat' (first | simp (maxSteps:=9999999)-implicitDefEqProofs only [go_sem,simprocAttr,hwq,FT3,FT4,FT5,FT22,FT23,FT82,FT84,FT91,List.length_map,List.getElem?_map,Int.natCast_nonneg,List.length_append,List.map_append,r0,r1,r2,x0,x1,x2,x3,x4,x5,wp,wp1,wp2,wp3,hgB,q0,Int.zero_mul,Int.zero_add,Int.add_zero] | (refine awpL_loop 18 ?_; have hwq := trivial) | (refine condK_split ?_ ?_ <;> intro hwq) | (refine two_split ?_ ?_) | (refine guardK_split ?_ ?_ <;> intro hwq) | (refine guardE_split ?_ ?_ <;> intro hwq) | (refine awp_drawW [] (by decide +kernel) ?_; have hwq := trivial) | fail))
            refine ⟨chN x.l.length - (k + 1), _, by omega, Weak.cutI 2 [0, 4, 5, 6, 8] ?_ ?_, k + 1, p3, BS ++ [pk3 (chk x.l k)], _, rfl, by omega, by omega, rfl, by rw [hBS, List.range_succ, List.map_append]; simp⟩
            · simp (maxSteps:=9999999)-implicitDefEqProofs only [simprocAttr,QH,Option.isSome,cond_true,cond_false,Option.bind,selB,V.rn,V.rns,Go.Ai.known,V.pz,V.pzs,T.toV,frz1,List.range,List.range.loop,ite_true,ite_false,if_true,if_false,ne_eq,implies_true,forall_const,eq_self,IntKind.bits,upd_tmsS,selT_cons,selT_nil,List.length_map,List.getElem?_map,Int.natCast_nonneg,List.length_append,List.map_append,List.length_cons,List.length_nil]
            · rw [hpk]
              simp (maxSteps:=9999999)-implicitDefEqProofs only [simprocAttr,QH,Option.isSome,cond_true,cond_false,Option.bind,selB,V.rn,V.rns,Go.Ai.known,V.pz,V.pzs,T.toV,frz1,List.range,List.range.loop,ite_true,ite_false,if_true,if_false,ne_eq,implies_true,forall_const,eq_self,IntKind.bits,upd_tmsS,selT_cons,selT_nil,List.length_map,List.getElem?_map,Int.natCast_nonneg,List.length_append,List.map_append,List.map_cons,List.map_nil]
          · have q0 : x.l[p]? = some a := by rw [hp]; exact chk_at (i := 0) hck (by omega)
            have q1 : x.l[p1]? = some b := by rw [← hp1, hp]; exact chk_at (i := 1) hck (by omega)
            have hcl := chk_len hck
            simp only [List.length_cons, List.length_nil] at hcl
            have r0 : (p : Int) < (x.l.length : Int) := by omega
            have r1 : (p1 : Int) < (x.l.length : Int) := by omega
            have r2 : ¬ (p2 : Int) < (x.l.length : Int) := by omega
            have x0 : IntKind.i64.wrap a = a := wI64 _ (by omega) (by omega)
            have x1 : IntKind.i64.wrap (a * 6) = a * 6 := wI64 _ (by omega) (by omega)
            have x2 : IntKind.i64.wrap (a * 6 + b) = a * 6 + b := wI64 _ (by omega) (by omega)
            have x3 : IntKind.i64.wrap ((a * 6 + b) * 6) = (a * 6 + b) * 6 := wI64 _ (by omega) (by omega)
            have x4 : True := trivial
            have x5 : IntKind.u8.wrap ((a * 6 + b) * 6) = (a * 6 + b) * 6 := by simp only [IntKind.wrap_u8]; omega
            have hpk : pk3 (chk x.l k) = (a * 6 + b) * 6 := by rw [hck]; simp [pk3]
            (have hwq := trivial; repeat' (first | simp (maxSteps:=9999999)-implicitDefEqProofs only [go_sem,simprocAttr,hwq,FT3,FT4,FT5,FT22,FT23,FT82,FT84,FT91,List.length_map,List.getElem?_map,Int.natCast_nonneg,List.length_append,List.map_append,r0,r1,r2,x0,x1,x2,x3,x4,x5,wp,wp1,wp2,wp3,hgB,q0,q1,Int.zero_mul,Int.zero_add,Int.add_zero] | (refine awpL_loop 18 ?_; have hwq := trivial) | (refine condK_split ?_ ?_ <;> intro hwq) | (refine two_split ?_ ?_) | (refine guardK_split ?_ ?_ <;> intro hwq) | (refine guardE_split ?_ ?_ <;> intro hwq) | (refine awp_drawW [] (by decide +kernel) ?_; have hwq := trivial) | fail))
            refine ⟨chN x.l.length - (k + 1), _, by omega, Weak.cutI 2 [0, 4, 5, 6, 8] ?_ ?_, k + 1, p3, BS ++ [pk3 (chk x.l k)], _, rfl, by omega, by omega, rfl, by rw [hBS, List.range_succ, List.map_append]; simp⟩
            · simp (maxSteps:=9999999)-implicitDefEqProofs only [simprocAttr,QH,Option.isSome,cond_true,cond_false,Option.bind,selB,V.rn,V.rns,Go.Ai.known,V.pz,V.pzs,T.toV,frz1,List.range,List.range.loop,ite_true,ite_false,if_true,if_false,ne_eq,implies_true,forall_const,eq_self,IntKind.bits,upd_tmsS,selT_cons,selT_nil,List.length_map,List.getElem?_map,Int.natCast_nonneg,List.length_append,List.map_append,List.length_cons,List.length_nil]
            · rw [hpk]
              simp (maxSteps:=9999999)-implicitDefEqProofs only [simprocAttr,QH,Option.isSome,cond_true,cond_false,Option.bind,selB,V.rn,V.rns,Go.Ai.known,V.pz,V.pzs,T.toV,frz1,List.range,List.range.loop,ite_true,ite_false,if_true,if_false,ne_eq,implies_true,forall_const,eq_self,IntKind.bits,upd_tmsS,selT_cons,selT_nil,List.length_map,List.getElem?_map,Int.natCast_nonneg,List.length_append,List.map_append,List.map_cons,List.map_nil]
          · have q0 : x.l[p]? = some a := by rw [hp]; exact chk_at (i := 0) hck (by omega)
            have q1 : x.l[p1]? = some b := by rw [← hp1, hp]; exact chk_at (i := 1) hck (by omega)
            have q2 : x.l[p2]? = some d := by rw [← hp2, hp]; exact chk_at (i := 2) hck (by omega)
            have hcl := chk_len hck
            simp only [List.length_cons, List.length_nil] at hcl
            have r0 : (p : Int) < (x.l.length : Int) := by omega
            have r1 : (p1 : Int) < (x.l.length : Int) := by omega
            have r2 : (p2 : Int) < (x.l.length : Int) := by omega
            have x0 : IntKind.i64.wrap a = a := wI64 _ (by omega) (by omega)
            have x1 : IntKind.i64.wrap (a * 6) = a * 6 := wI64 _ (by omega) (by omega)
            have x2 : IntKind.i64.wrap (a * 6 + b) = a * 6 + b := wI64 _ (by omega) (by omega)
            have x3 : IntKind.i64.wrap ((a * 6 + b) * 6) = (a * 6 + b) * 6 := wI64 _ (by omega) (by omega)
            have x4 : IntKind.i64.wrap ((a * 6 + b) * 6 + d) = (a * 6 + b) * 6 + d := wI64 _ (by omega) (by omega)
            have x5 : IntKind.u8.wrap ((a * 6 + b) * 6 + d) = (a * 6 + b) * 6 + d := by simp only [IntKind.wrap_u8]; omega
            have hpk : pk3 (chk x.l k) = (a * 6 + b) * 6 + d := by rw [hck]; simp [pk3]
            (have hwq := trivial; repeat' (first | simp (maxSteps:=9999999)-implicitDefEqProofs only [go_sem,simprocAttr,hwq,FT3,FT4,FT5,FT22,FT23,FT82,FT84,FT91,List.length_map,List.getElem?_map,Int.natCast_nonneg,List.length_append,List.map_append,r0,r1,r2,x0,x1,x2,x3,x4,x5,wp,wp1,wp2,wp3,hgB,q0,q1,q2,Int.zero_mul,Int.zero_add,Int.add_zero] | (refine awpL_loop 18 ?_; have hwq := trivial) | (refine condK_split ?_ ?_ <;> intro hwq) | (refine two_split ?_ ?_) | (refine guardK_split ?_ ?_ <;> intro hwq) | (refine guardE_split ?_ ?_ <;> intro hwq) | (refine awp_drawW [] (by decide +kernel) ?_; have hwq := trivial) | fail))
            refine ⟨chN x.l.length - (k + 1), _, by omega, Weak.cutI 2 [0, 4, 5, 6, 8] ?_ ?_, k + 1, p3, BS ++ [pk3 (chk x.l k)], _, rfl, by omega, by omega, rfl, by rw [hBS, List.range_succ, List.map_append]; simp⟩
            · simp (maxSteps:=9999999)-implicitDefEqProofs only [simprocAttr,QH,Option.isSome,cond_true,cond_false,Option.bind,selB,V.rn,V.rns,Go.Ai.known,V.pz,V.pzs,T.toV,frz1,List.range,List.range.loop,ite_true,ite_false,if_true,if_false,ne_eq,implies_true,forall_const,eq_self,IntKind.bits,upd_tmsS,selT_cons,selT_nil,List.length_map,List.getElem?_map,Int.natCast_nonneg,List.length_append,List.map_append,List.length_cons,List.length_nil]
            · rw [hpk]
              simp (maxSteps:=9999999)-implicitDefEqProofs only [simprocAttr,QH,Option.isSome,cond_true,cond_false,Option.bind,selB,V.rn,V.rns,Go.Ai.known,V.pz,V.pzs,T.toV,frz1,List.range,List.range.loop,ite_true,ite_false,if_true,if_false,ne_eq,implies_true,forall_const,eq_self,IntKind.bits,upd_tmsS,selT_cons,selT_nil,List.length_map,List.getElem?_map,Int.natCast_nonneg,List.length_append,List.map_append,List.map_cons,List.map_nil]
        · have hpl' : ¬ (p : Int) < (x.l.length : Int) := by omega
          obtain rfl : k = chN x.l.length := by unfold chN at hk ⊢; omega
          rw [hnew] at hBS
          (have hwq := trivial; repeat' (first | simp (maxSteps:=9999999)-implicitDefEqProofs only [go_sem,simprocAttr,hwq,FT3,FT4,FT5,FT22,FT23,FT82,FT84,FT91,List.length_map,List.getElem?_map,Int.natCast_nonneg,List.length_append,List.map_append,hpl',wj] | (refine condK_split ?_ ?_ <;> intro hwq) | (refine two_split ?_ ?_) | (refine guardK_split ?_ ?_ <;> intro hwq) | (refine guardE_split ?_ ?_ <;> intro hwq) | (refine awp_drawW [] (by decide +kernel) ?_; have hwq := trivial) | fail))
          refine ⟨L.length - (j + 1), _, by omega, Weak.cutI 1 [0, 4, 5] ?_ ?_, j + 1, BS, _, rfl, by omega, rfl, hBS, hmy2⟩
          · simp (maxSteps:=9999999)-implicitDefEqProofs only [simprocAttr,QH,Option.isSome,cond_true,cond_false,Option.bind,selB,V.rn,V.rns,Go.Ai.known,V.pz,V.pzs,T.toV,frz1,List.range,List.range.loop,ite_true,ite_false,if_true,if_false,ne_eq,implies_true,forall_const,eq_self,IntKind.bits,upd_tmsS,selT_cons,selT_nil,List.length_map,List.getElem?_map,Int.natCast_nonneg,List.length_append,List.map_append]
          · simp (maxSteps:=9999999)-implicitDefEqProofs only [simprocAttr,QH,Option.isSome,cond_true,cond_false,Option.bind,selB,V.rn,V.rns,Go.Ai.known,V.pz,V.pzs,T.toV,frz1,List.range,List.range.loop,ite_true,ite_false,if_true,if_false,ne_eq,implies_true,forall_const,eq_self,IntKind.bits,upd_tmsS,selT_cons,selT_nil,List.length_map,List.getElem?_map,Int.natCast_nonneg,List.length_append,List.map_append]
  · have hjl' : ¬ (j : Int) < (L.length : Int) := by omega
    obtain rfl : j = L.length := by omega
    rw [List.take_length] at hbs hmy
    have gb4 : bs.length + 4 ≤ 140737488355328 := by omega
    have hok : ¬ (L = [] ∨ L.any (fun x => !mayB x) = true) := by
      rintro (h1 | h1)
      · exact h0 h1
      · obtain ⟨y, hy, h2⟩ := List.any_eq_true.1 h1
        rw [hmy y hy] at h2
        simp at h2
    rw [if_neg hok]
    (have hwq := trivial; repeat' (first | simp (maxSteps:=9999999)-implicitDefEqProofs only [go_sem,simprocAttr,hwq,FT3,FT4,FT5,FT22,FT23,FT82,FT84,FT91,List.length_map,List.getElem?_map,Int.natCast_nonneg,List.length_append,List.map_append,hjl',List.length_map,gb4,List.length_cons,List.length_nil] | (refine condK_split ?_ ?_ <;> intro hwq) | (refine two_split ?_ ?_) | (refine guardK_split ?_ ?_ <;> intro hwq) | (refine guardE_split ?_ ?_ <;> intro hwq) | (refine awp_drawW [] (by decide +kernel) ?_; have hwq := trivial) | fail))
    refine ⟨_, rfl, ?_⟩
    rw [← hbs]
    simp [V.leT, V.le, V.les]
    rw [List.take_of_length_le (by simp)]
end Go.Ai

set_option linter.unusedVariables false
set_option linter.unusedSimpArgs false
set_option maxHeartbeats 4000000
set_option maxRecDepth 100000
namespace Go.Ai
open Go.Proofs
attribute [local go_sem] QH QR V.noimm V.noimms frzZs frzZ frzA frzV frzVs frzBox boxLen Option.isSome cond_true cond_false aopD calW flatV stepX amap stepY alookup afind aupdate adelete amlen arange ameq mapOf akeq pl V.mapT V.mapTs Option.bind stepK runK guardD stepE runD callD compact selB callK evS ofVal ofVals scalar aop ares mkRes V.rn V.rns V.cells? cellsAt Go.Ai.part aload astore setL V.atom abin aun intBin shiftBin aconv fieldOf aindexAddr aindex bound? aslice aarr abuild afill alen nilP nilS nilF aeq eqCells eqCell Go.Ai.known strBin abuiltin aappend abuildSlice arowsFill amakeSlice acopy aclear minmax rowsOf numsT notStr isIntD isByte V.pz V.pzs T.toV frz1 frz scalT scalTs chunkT List.range List.range.loop ite_true ite_false if_true if_false ne_eq implies_true forall_const eq_self IntKind.bits kPostKF_ret kPostKF_normal kPostX_ret kPostX_normal bsl nil2K nil2 kPostFW_ret kPostFW_normal kPostKM_ret kPostKM_normal kPostXK_ret kPostXK_normal
def trimV (x : Vc) : Vc := ⟨x.al, x.fi, x.l.take 70⟩
def fewL (L : List Vc) : List Vc := (L.take 70).map trimV
def Fw9 (L : List Vc) (n : Nat) (S : St) : Prop :=
  ∃ (j : Nat) (M : List Vc) (mv : List Nat), S = ⟨tms [(0, vcsV L), (3, .own 0 0 M.length), (4, vI j)], [.rows 3 (M.map vcT) false], mv⟩ ∧ j ≤ L.length ∧ j ≤ 70 ∧ n = 70 - j ∧ M = (L.take j).map trimV
theorem mq9 (L : List Vc) : AC Try.prog 9 [vcsV L] [] (eqR (vcsV (fewL L))) := by
  refine AC_frozenW orders Try.func9 rfl (by kernel_rfl) (by kernel_rfl) Try.ntmps9 (by simp) ?_
  unfold Try.f9
  (have hwq := trivial; repeat' (first | simp (maxSteps:=9999999)-implicitDefEqProofs only [go_sem,simprocAttr,hwq,FT3,FT4,FT22,FT82,FT84,FT91,List.length_map,List.getElem?_map,Int.natCast_nonneg,List.length_append,List.map_append] | (refine condK_split ?_ ?_ <;> intro hwq) | (refine two_split ?_ ?_) | (refine guardK_split ?_ ?_ <;> intro hwq) | (refine guardE_split ?_ ?_ <;> intro hwq) | (refine awp_drawW [] (by decide +kernel) ?_; have hwq := trivial) | fail))
  refine awp_loopK (Fw9 L) 70 _ (Weak.trans (Weak.virt 3 3 (.inl rfl)) (Weak.cutI 1 [0, 3, 4] ?_ ?_)) ⟨0, [], _, rfl, by omega, by omega, rfl, rfl⟩ ?_
  · simp (maxSteps:=9999999)-implicitDefEqProofs only [simprocAttr,QH,Option.isSome,cond_true,cond_false,Option.bind,selB,V.rn,V.rns,Go.Ai.known,V.pz,V.pzs,T.toV,frz1,List.range,List.range.loop,ite_true,ite_false,if_true,if_false,ne_eq,implies_true,forall_const,eq_self,IntKind.bits,upd_tmsS,selT_cons,selT_nil,List.length_map,List.getElem?_map,Int.natCast_nonneg,List.length_append,List.map_append]
  · simp (maxSteps:=9999999)-implicitDefEqProofs only [simprocAttr,QH,Option.isSome,cond_true,cond_false,Option.bind,selB,V.rn,V.rns,Go.Ai.known,V.pz,V.pzs,T.toV,frz1,List.range,List.range.loop,ite_true,ite_false,if_true,if_false,ne_eq,implies_true,forall_const,eq_self,IntKind.bits,upd_tmsS,selT_cons,selT_nil,List.length_map,List.getElem?_map,Int.natCast_nonneg,List.length_append,List.map_append,List.map_nil]
  rintro kk S ⟨j, M, mv, rfl, hj, hj7, rfl, hM⟩
  have wj : IntKind.i64.wrap ((j : Int) + 1) = (j : Int) + 1 := wI64 _ (by omega) (by omega)
  by_cases hjl : j < L.length
  · have hjl' : (j : Int) < (L.length : Int) := by omega
    by_cases hj70 : j < 70
    · have hj70' : (j : Int) < 70 := by omega
      have hgj : L[j]? = some L[j] := List.getElem?_eq_getElem hjl
      obtain ⟨x, hx⟩ : ∃ x, L[j] = x := ⟨_, rfl⟩
      rw [hx] at hgj
      obtain ⟨m, hm0⟩ : ∃ m, min 70 x.l.length = m := ⟨_, rfl⟩
      have hm : (if (70 : Int) < (x.l.length : Int) then (70 : Int) else (x.l.length : Int)) = (m : Int) := by split <;> omega
      have hle : m ≤ x.l.length := by omega
      have ht : ((x.l.map inT).take m) = (x.l.take 70).map inT := by
        rw [List.map_take, ← hm0]
        rw [List.take_eq_take_iff]
        simp
      have hMl : M.length = j := by rw [hM]; simp; omega
      have gm : (M.length + 1) * 40 ≤ 140737488355328 := by omega
      (have hwq := trivial; repeat' (first | simp (maxSteps:=9999999)-implicitDefEqProofs only [go_sem,simprocAttr,hwq,FT3,FT4,FT22,FT82,FT84,FT91,List.length_map,List.getElem?_map,Int.natCast_nonneg,List.length_append,List.map_append,hjl',hj70',hgj,hm,hle,ht,gm,List.drop_zero,Nat.sub_zero,Nat.zero_le,wj] | (refine condK_split ?_ ?_ <;> intro hwq) | (refine two_split ?_ ?_) | (refine guardK_split ?_ ?_ <;> intro hwq) | (refine guardE_split ?_ ?_ <;> intro hwq) | (refine awp_drawW [] (by decide +kernel) ?_; have hwq := trivial) | fail))
      refine ⟨70 - (j + 1), _, by omega, Weak.cutI 1 [0, 3, 4] ?_ ?_, j + 1, M ++ [trimV x], _, rfl, by omega, by omega, rfl, by rw [take_in hgj, List.map_append, hM]; rfl⟩
      · simp (maxSteps:=9999999)-implicitDefEqProofs only [simprocAttr,QH,Option.isSome,cond_true,cond_false,Option.bind,selB,V.rn,V.rns,Go.Ai.known,V.pz,V.pzs,T.toV,frz1,List.range,List.range.loop,ite_true,ite_false,if_true,if_false,ne_eq,implies_true,forall_const,eq_self,IntKind.bits,upd_tmsS,selT_cons,selT_nil,List.length_map,List.getElem?_map,Int.natCast_nonneg,List.length_append,List.map_append,List.length_cons,List.length_nil]
      · simp (maxSteps:=9999999)-implicitDefEqProofs only [simprocAttr,QH,Option.isSome,cond_true,cond_false,Option.bind,selB,V.rn,V.rns,Go.Ai.known,V.pz,V.pzs,T.toV,frz1,List.range,List.range.loop,ite_true,ite_false,if_true,if_false,ne_eq,implies_true,forall_const,eq_self,IntKind.bits,upd_tmsS,selT_cons,selT_nil,List.length_map,List.getElem?_map,Int.natCast_nonneg,List.length_append,List.map_append,List.map_cons,List.map_nil,trimV]
    · have hj70' : ¬ (j : Int) < 70 := by omega
      have e : fewL L = M := by rw [hM]; unfold fewL; rw [show j = 70 by omega]
      rw [e]
      (have hwq := trivial; repeat' (first | simp (maxSteps:=9999999)-implicitDefEqProofs only [go_sem,simprocAttr,hwq,FT3,FT4,FT22,FT82,FT84,FT91,List.length_map,List.getElem?_map,Int.natCast_nonneg,List.length_append,List.map_append,hjl',hj70'] | (refine condK_split ?_ ?_ <;> intro hwq) | (refine two_split ?_ ?_) | (refine guardK_split ?_ ?_ <;> intro hwq) | (refine guardE_split ?_ ?_ <;> intro hwq) | (refine awp_drawW [] (by decide +kernel) ?_; have hwq := trivial) | fail))
      exact ⟨_, rfl, by simp [V.leT, V.le, V.les]; exact .inl (List.take_of_length_le (by simp))⟩
  · have hjl' : ¬ (j : Int) < (L.length : Int) := by omega
    have e : fewL L = M := by
      rw [hM]; unfold fewL
      rw [List.take_of_length_le (by omega), List.take_of_length_le (by omega)]
    rw [e]
    (have hwq := trivial; repeat' (first | simp (maxSteps:=9999999)-implicitDefEqProofs only [go_sem,simprocAttr,hwq,FT3,FT4,FT22,FT82,FT84,FT91,List.length_map,List.getElem?_map,Int.natCast_nonneg,List.length_append,List.map_append,hjl'] | (refine condK_split ?_ ?_ <;> intro hwq) | (refine two_split ?_ ?_) | (refine guardK_split ?_ ?_ <;> intro hwq) | (refine guardE_split ?_ ?_ <;> intro hwq) | (refine awp_drawW [] (by decide +kernel) ?_; have hwq := trivial) | fail))
    exact ⟨_, rfl, by simp [V.leT, V.le, V.les]; exact .inl (List.take_of_length_le (by simp))⟩
def Sv15 (L : List Vc) (n : Nat) (S : St) : Prop :=
  ∃ (j : Nat) (mv : List Nat), S = ⟨tms [(0, vcsV L), (1, vcsV L), (5, vI j)], [], mv⟩ ∧ j ≤ L.length ∧ n = L.length - j
def Sw15 (L : List Vc) (j : Nat) (x : Vc) (n : Nat) (S : St) : Prop :=
  ∃ (i : Nat) (mv : List Nat), S = ⟨tms [(0, vcsV L), (1, vcsV L), (5, vI j), (6, vI i)], [], mv⟩ ∧ i ≤ x.l.length ∧ n = x.l.length - i
theorem mr15 (L : List Vc) (hL : L.length ≤ 100000) (hx : ∀ x ∈ L, x.l.length ≤ 100000) : AC Try.prog 15 [vcsV L, vcsV L] [] (eqR (vB true)) := by
  refine AC_plain orders Try.func15 rfl (by kernel_rfl) (by kernel_rfl) Try.ntmps15 (by simp) ?_
  unfold Try.f15
  have hll : ((L.length : Int) != (L.length : Int)) = false := by simp
  (have hwq := trivial; repeat' (first | simp (maxSteps:=9999999)-implicitDefEqProofs only [go_sem,simprocAttr,hwq,FT3,FT4,FT22,FT82,FT84,FT91,List.length_map,List.getElem?_map,Int.natCast_nonneg,List.length_append,List.map_append,hll] | (refine condK_split ?_ ?_ <;> intro hwq) | (refine two_split ?_ ?_) | (refine guardK_split ?_ ?_ <;> intro hwq) | (refine guardE_split ?_ ?_ <;> intro hwq) | (refine awp_drawI 6 [] (List.range 39) [0, 0, 3, 7, 15, 0, 0, 96, 224, 480, 1023, 2047, 4095, 4095, 16383, 32767, 65535, 4095, 4095, 397311, 921599, 1970175, 4194303, 8388607, 16777215, 33554431, 33554431, 134217727, 268435455, 536870911, 1073741823, 33554431, 33554431, 6476005375, 15065939967, 32245809151, 66605547519, 137438953471, 274877906943] (by decide +kernel) ?_; have hwq := trivial) | (refine awp_drawI 11 [] (List.range 17) [0, 0, 3, 7, 15, 0, 63, 127, 0, 0, 768, 1792, 3840, 0, 16128, 32512, 65535] (by decide +kernel) ?_; have hwq := trivial) | (refine awp_drawW [] (by decide +kernel) ?_; have hwq := trivial) | fail))
  refine awp_loopK (Sv15 L) L.length _ (Weak.cutI 0 [0, 1, 5] ?_ ?_) ⟨0, _, rfl, by omega, rfl⟩ ?_
  · simp (maxSteps:=9999999)-implicitDefEqProofs only [simprocAttr,QH,Option.isSome,cond_true,cond_false,Option.bind,selB,V.rn,V.rns,Go.Ai.known,V.pz,V.pzs,T.toV,frz1,List.range,List.range.loop,ite_true,ite_false,if_true,if_false,ne_eq,implies_true,forall_const,eq_self,IntKind.bits,upd_tmsS,selT_cons,selT_nil,List.length_map,List.getElem?_map,Int.natCast_nonneg,List.length_append,List.map_append]
  · simp (maxSteps:=9999999)-implicitDefEqProofs only [simprocAttr,QH,Option.isSome,cond_true,cond_false,Option.bind,selB,V.rn,V.rns,Go.Ai.known,V.pz,V.pzs,T.toV,frz1,List.range,List.range.loop,ite_true,ite_false,if_true,if_false,ne_eq,implies_true,forall_const,eq_self,IntKind.bits,upd_tmsS,selT_cons,selT_nil]
  rintro kk S ⟨j, mv, rfl, hj, rfl⟩
  have wj : IntKind.i64.wrap ((j : Int) + 1) = (j : Int) + 1 := wI64 _ (by omega) (by omega)
  by_cases hjl : j < L.length
  · have hjl' : (j : Int) < (L.length : Int) := by omega
    have hgj : L[j]? = some L[j] := List.getElem?_eq_getElem hjl
    obtain ⟨x, hx0⟩ : ∃ x, L[j] = x := ⟨_, rfl⟩
    rw [hx0] at hgj
    have hxl := hx x (mem_in hgj)
    have q1 : (x.al != x.al) = false := by simp
    have q2 : (x.fi != x.fi) = false := by simp
    have q3 : ((x.l.length : Int) != (x.l.length : Int)) = false := by simp
    (have hwq := trivial; repeat' (first | simp (maxSteps:=9999999)-implicitDefEqProofs only [go_sem,simprocAttr,hwq,FT3,FT4,FT22,FT82,FT84,FT91,List.length_map,List.getElem?_map,Int.natCast_nonneg,List.length_append,List.map_append,hjl',hgj,q1,q2,q3] | (refine condK_split ?_ ?_ <;> intro hwq) | (refine two_split ?_ ?_) | (refine guardK_split ?_ ?_ <;> intro hwq) | (refine guardE_split ?_ ?_ <;> intro hwq) | (refine awp_drawI 6 [] (List.range 39) [0, 0, 3, 7, 15, 0, 0, 96, 224, 480, 1023, 2047, 4095, 4095, 16383, 32767, 65535, 4095, 4095, 397311, 921599, 1970175, 4194303, 8388607, 16777215, 33554431, 33554431, 134217727, 268435455, 536870911, 1073741823, 33554431, 33554431, 6476005375, 15065939967, 32245809151, 66605547519, 137438953471, 274877906943] (by decide +kernel) ?_; have hwq := trivial) | (refine awp_drawI 11 [] (List.range 17) [0, 0, 3, 7, 15, 0, 63, 127, 0, 0, 768, 1792, 3840, 0, 16128, 32512, 65535] (by decide +kernel) ?_; have hwq := trivial) | (refine awp_drawW [] (by decide +kernel) ?_; have hwq := trivial) | fail))
    refine awp_loopK (Sw15 L j x) x.l.length _ (Weak.cutI 0 [0, 1, 5, 6] ?_ ?_) ⟨0, _, rfl, by omega, rfl⟩ ?_
    · simp (maxSteps:=9999999)-implicitDefEqProofs only [simprocAttr,QH,Option.isSome,cond_true,cond_false,Option.bind,selB,V.rn,V.rns,Go.Ai.known,V.pz,V.pzs,T.toV,frz1,List.range,List.range.loop,ite_true,ite_false,if_true,if_false,ne_eq,implies_true,forall_const,eq_self,IntKind.bits,upd_tmsS,selT_cons,selT_nil,List.length_map,List.getElem?_map,Int.natCast_nonneg,List.length_append,List.map_append]
    · simp (maxSteps:=9999999)-implicitDefEqProofs only [simprocAttr,QH,Option.isSome,cond_true,cond_false,Option.bind,selB,V.rn,V.rns,Go.Ai.known,V.pz,V.pzs,T.toV,frz1,List.range,List.range.loop,ite_true,ite_false,if_true,if_false,ne_eq,implies_true,forall_const,eq_self,IntKind.bits,upd_tmsS,selT_cons,selT_nil]
    rintro k2 S2 ⟨i, mv2, rfl, hi, rfl⟩
    have wi : IntKind.i64.wrap ((i : Int) + 1) = (i : Int) + 1 := wI64 _ (by omega) (by omega)
    by_cases hil : i < x.l.length
    · have hil' : (i : Int) < (x.l.length : Int) := by omega
      have hgi : x.l[i]? = some x.l[i] := List.getElem?_eq_getElem hil
      obtain ⟨a, ha⟩ : ∃ a, x.l[i] = a := ⟨_, rfl⟩
      rw [ha] at hgi
      have q4 : (a != a) = false := by simp
      (have hwq := trivial; repeat' (first | simp (maxSteps:=9999999)-implicitDefEqProofs only [go_sem,simprocAttr,hwq,FT3,FT4,FT22,FT82,FT84,FT91,List.length_map,List.getElem?_map,Int.natCast_nonneg,List.length_append,List.map_append,hjl',hgj,hil',hgi,q4,wi] | (refine condK_split ?_ ?_ <;> intro hwq) | (refine two_split ?_ ?_) | (refine guardK_split ?_ ?_ <;> intro hwq) | (refine guardE_split ?_ ?_ <;> intro hwq) | (refine awp_drawI 6 [] (List.range 39) [0, 0, 3, 7, 15, 0, 0, 96, 224, 480, 1023, 2047, 4095, 4095, 16383, 32767, 65535, 4095, 4095, 397311, 921599, 1970175, 4194303, 8388607, 16777215, 33554431, 33554431, 134217727, 268435455, 536870911, 1073741823, 33554431, 33554431, 6476005375, 15065939967, 32245809151, 66605547519, 137438953471, 274877906943] (by decide +kernel) ?_; have hwq := trivial) | (refine awp_drawI 11 [] (List.range 17) [0, 0, 3, 7, 15, 0, 63, 127, 0, 0, 768, 1792, 3840, 0, 16128, 32512, 65535] (by decide +kernel) ?_; have hwq := trivial) | (refine awp_drawW [] (by decide +kernel) ?_; have hwq := trivial) | fail))
      refine ⟨x.l.length - (i + 1), _, by omega, Weak.cutI 0 [0, 1, 5, 6] ?_ ?_, i + 1, _, rfl, by omega, rfl⟩
      · simp (maxSteps:=9999999)-implicitDefEqProofs only [simprocAttr,QH,Option.isSome,cond_true,cond_false,Option.bind,selB,V.rn,V.rns,Go.Ai.known,V.pz,V.pzs,T.toV,frz1,List.range,List.range.loop,ite_true,ite_false,if_true,if_false,ne_eq,implies_true,forall_const,eq_self,IntKind.bits,upd_tmsS,selT_cons,selT_nil,List.length_map,List.getElem?_map,Int.natCast_nonneg,List.length_append,List.map_append]
      · simp (maxSteps:=9999999)-implicitDefEqProofs only [simprocAttr,QH,Option.isSome,cond_true,cond_false,Option.bind,selB,V.rn,V.rns,Go.Ai.known,V.pz,V.pzs,T.toV,frz1,List.range,List.range.loop,ite_true,ite_false,if_true,if_false,ne_eq,implies_true,forall_const,eq_self,IntKind.bits,upd_tmsS,selT_cons,selT_nil,List.length_map,List.getElem?_map,Int.natCast_nonneg,List.length_append,List.map_append]
    · have hil' : ¬ (i : Int) < (x.l.length : Int) := by omega
      (have hwq := trivial; repeat' (first | simp (maxSteps:=9999999)-implicitDefEqProofs only [go_sem,simprocAttr,hwq,FT3,FT4,FT22,FT82,FT84,FT91,List.length_map,List.getElem?_map,Int.natCast_nonneg,List.length_append,List.map_append,hjl',hgj,hil',wj] | (refine condK_split ?_ ?_ <;> intro hwq) | (refine two_split ?_ ?_) | (refine guardK_split ?_ ?_ <;> intro hwq) | (refine guardE_split ?_ ?_ <;> intro hwq) | (refine awp_drawI 6 [] (List.range 39) [0, 0, 3, 7, 15, 0, 0, 96, 224, 480, 1023, 2047, 4095, 4095, 16383, 32767, 65535, 4095, 4095, 397311, 921599, 1970175, 4194303, 8388607, 16777215, 33554431, 33554431, 134217727, 268435455, 536870911, 1073741823, 33554431, 33554431, 6476005375, 15065939967, 32245809151, 66605547519, 137438953471, 274877906943] (by decide +kernel) ?_; have hwq := trivial) | (refine awp_drawI 11 [] (List.range 17) [0, 0, 3, 7, 15, 0, 63, 127, 0, 0, 768, 1792, 3840, 0, 16128, 32512, 65535] (by decide +kernel) ?_; have hwq := trivial) | (refine awp_drawW [] (by decide +kernel) ?_; have hwq := trivial) | fail))
      refine ⟨L.length - (j + 1), _, by omega, Weak.cutI 0 [0, 1, 5] ?_ ?_, j + 1, _, rfl, by omega, rfl⟩
      · simp (maxSteps:=9999999)-implicitDefEqProofs only [simprocAttr,QH,Option.isSome,cond_true,cond_false,Option.bind,selB,V.rn,V.rns,Go.Ai.known,V.pz,V.pzs,T.toV,frz1,List.range,List.range.loop,ite_true,ite_false,if_true,if_false,ne_eq,implies_true,forall_const,eq_self,IntKind.bits,upd_tmsS,selT_cons,selT_nil,List.length_map,List.getElem?_map,Int.natCast_nonneg,List.length_append,List.map_append]
      · simp (maxSteps:=9999999)-implicitDefEqProofs only [simprocAttr,QH,Option.isSome,cond_true,cond_false,Option.bind,selB,V.rn,V.rns,Go.Ai.known,V.pz,V.pzs,T.toV,frz1,List.range,List.range.loop,ite_true,ite_false,if_true,if_false,ne_eq,implies_true,forall_const,eq_self,IntKind.bits,upd_tmsS,selT_cons,selT_nil,List.length_map,List.getElem?_map,Int.natCast_nonneg,List.length_append,List.map_append]
  · have hjl' : ¬ (j : Int) < (L.length : Int) := by omega
    (have hwq := trivial; repeat' (first | simp (maxSteps:=9999999)-implicitDefEqProofs only [go_sem,simprocAttr,hwq,FT3,FT4,FT22,FT82,FT84,FT91,List.length_map,List.getElem?_map,Int.natCast_nonneg,List.length_append,List.map_append,hjl'] | (refine condK_split ?_ ?_ <;> intro hwq) | (refine two_split ?_ ?_) | (refine guardK_split ?_ ?_ <;> intro hwq) | (refine guardE_split ?_ ?_ <;> intro hwq) | (refine awp_drawI 6 [] (List.range 39) [0, 0, 3, 7, 15, 0, 0, 96, 224, 480, 1023, 2047, 4095, 4095, 16383, 32767, 65535, 4095, 4095, 397311, 921599, 1970175, 4194303, 8388607, 16777215, 33554431, 33554431, 134217727, 268435455, 536870911, 1073741823, 33554431, 33554431, 6476005375, 15065939967, 32245809151, 66605547519, 137438953471, 274877906943] (by decide +kernel) ?_; have hwq := trivial) | (refine awp_drawI 11 [] (List.range 17) [0, 0, 3, 7, 15, 0, 63, 127, 0, 0, 768, 1792, 3840, 0, 16128, 32512, 65535] (by decide +kernel) ?_; have hwq := trivial) | (refine awp_drawW [] (by decide +kernel) ?_; have hwq := trivial) | fail))
end Go.Ai
