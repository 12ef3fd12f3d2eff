/- Contracts of functions of the loaded program: called with data in the ranges that each names, it returns this value and writes to no old memory. -/
import Derived.Test.YtdojjjjhbgkpfaaAiRh
set_option linter.unusedVariables false
set_option linter.unusedSimpArgs false
set_option maxHeartbeats 4000000
set_option maxRecDepth 100000
namespace Go.Ai
open Go.Proofs
attribute [local go_sem] QH QR V.noimm V.noimms frzZs frzZ frzA frzV frzVs frzBox boxLen Option.isSome cond_true cond_false aopD calW flatV stepX amap stepY alookup afind aupdate adelete amlen arange ameq mapOf akeq pl V.mapT V.mapTs Option.bind stepK runK guardD stepE runD callD compact selB callK evS ofVal ofVals scalar aop ares mkRes V.rn V.rns V.cells? cellsAt Go.Ai.part aload astore setL V.atom abin aun intBin shiftBin aconv fieldOf aindexAddr aindex bound? aslice aarr abuild afill alen nilP nilS nilF aeq eqCells eqCell Go.Ai.known strBin abuiltin aappend abuildSlice arowsFill amakeSlice acopy aclear minmax rowsOf numsT notStr isIntD isByte V.pz V.pzs T.toV frz1 frz scalT scalTs chunkT List.range List.range.loop ite_true ite_false if_true if_false ne_eq implies_true forall_const eq_self IntKind.bits kPostKF_ret kPostKF_normal kPostX_ret kPostX_normal bsl nil2K nil2 kPostFW_ret kPostFW_normal kPostKM_ret kPostKM_normal kPostXK_ret kPostXK_normal
/-- What stands for three. -/
def pk3 (c : List Int) : Int := (c.getD 0 0 * 6 + c.getD 1 0) * 6 + c.getD 2 0
def hdN (x : Vc) : Int := if x.al then (x.l.length : Int) + 8192 else (x.l.length : Int)
def vcH (x : Vc) : List Int := twoL (hdN x) ++ twoL x.fi
def vcB (x : Vc) : List Int := vcH x ++ (List.range (chN x.l.length)).map fun k => pk3 (chk x.l k)
def encB (L : List Vc) : List Int := [0, 1, 2] ++ L.flatMap vcB
def encR (L : List Vc) : List Int × Int := if (64 : Int) < L.length then ([], 3) else if L = [] ∨ L.any (fun x => !mayB x) = true then ([], 290) else (encB L ++ [0, 0, 0, 0], 0)
theorem vcB_len (x : Vc) (h : x.l.length ≤ 64) : (vcB x).length ≤ 26 := by
  unfold vcB vcH twoL chN
  simp
  omega
theorem encB_len : ∀ (L : List Vc), (∀ x ∈ L, x.l.length ≤ 64) → (encB L).length ≤ 3 + 26 * L.length := by
  intro L
  unfold encB
  induction L with
  | nil => intro _; simp
  | cons x L ih =>
    intro h
    have h1 := vcB_len x (h x (by simp))
    have h2 := ih fun y hy => h y (by simp [hy])
    simp only [List.length_append, List.flatMap_cons, List.length_cons, List.length_nil] at h2 ⊢
    omega
theorem mayB_of {x : Vc} (h : mayB x = true) : 1 ≤ x.fi ∧ x.fi ≤ 4094 ∧ x.l.length ≤ 64 ∧ ∀ a ∈ x.l, 0 ≤ a ∧ a ≤ 5 := by
  unfold mayB badA at h
  simp only [Bool.and_eq_true, Bool.not_eq_true', Bool.or_eq_false_iff, decide_eq_false_iff_not, List.any_eq_false] at h
  obtain ⟨⟨⟨⟨⟨h1, h2⟩, h3⟩, h4⟩, _⟩, h5⟩ := h
  refine ⟨by omega, by omega, by omega, fun a ha => ?_⟩
  have := h5 a ha
  simp at this
  omega
theorem chk_cases (l : List Int) (h : ∀ a ∈ l, 0 ≤ a ∧ a ≤ 5) (k : Nat) : chk l k = [] ∨ (∃ a, chk l k = [a] ∧ 0 ≤ a ∧ a ≤ 5) ∨ (∃ a b, chk l k = [a, b] ∧ (0 ≤ a ∧ a ≤ 5) ∧ 0 ≤ b ∧ b ≤ 5) ∨ ∃ a b d, chk l k = [a, b, d] ∧ (0 ≤ a ∧ a ≤ 5) ∧ (0 ≤ b ∧ b ≤ 5) ∧ 0 ≤ d ∧ d ≤ 5 := by
  have hl : (chk l k).length ≤ 3 := by unfold chk; rw [List.length_take]; omega
  have hm : ∀ a ∈ chk l k, 0 ≤ a ∧ a ≤ 5 := fun a ha => h a (List.mem_of_mem_drop (List.mem_of_mem_take ha))
  match hc : chk l k with
  | [] => exact .inl rfl
  | [a] => rw [hc] at hm; exact .inr (.inl ⟨a, rfl, hm a (by simp)⟩)
  | [a, b] => rw [hc] at hm; exact .inr (.inr (.inl ⟨a, b, rfl, hm a (by simp), hm b (by simp)⟩))
  | [a, b, d] => rw [hc] at hm; exact .inr (.inr (.inr ⟨a, b, d, rfl, hm a (by simp), hm b (by simp), hm d (by simp)⟩))
  | _ :: _ :: _ :: _ :: _ => rw [hc] at hl; simp at hl
def El11 (L : List Vc) (n : Nat) (S : St) : Prop :=
  ∃ (j : Nat) (bs : List Int) (mv : List Nat), S = ⟨tms [(4, .ptr 1 0 0), (21, vcsV L), (22, vI L.length), (23, vI j)], [.rows 1 (bs.map byT) false, .box [.own 0 0 bs.length] false], mv⟩ ∧ j ≤ L.length ∧ n = L.length - j ∧ bs = encB (L.take j)
def JR (bs : List Int) (x : Vc) (pre : List Nat) (σ : List Blk) : Prop :=
  ∃ BS : List Int, σ = [.rows 1 (BS.map byT) false, .box [.own 0 0 BS.length] false, .box [vB x.al, vI x.fi, isV x.l] false] ∧ BS = bs ++ vcH x ++ pre.map fun k => pk3 (chk x.l k)
theorem mc11 (L : List Vc) (hL : ∀ x ∈ L, x.l.length ≤ 100000) : AC Try.prog 11 [vcsV L] [] (eqR (.tuple [bysV (encR L).1, vI (encR L).2])) := by
  unfold encR
  refine AC_frozenW orders Try.func11 rfl (by kernel_rfl) (by kernel_rfl) Try.ntmps11 (by simp) ?_
  unfold Try.f11
  by_cases h64 : (64 : Int) < (L.length : Int)
  · rw [if_pos h64]
    (have hwq := trivial; repeat' (first | simp (maxSteps:=9999999)-implicitDefEqProofs only [go_sem,simprocAttr,hwq,u3,a3,c3,b3,z3,k3,u4,a4,c4,b4,z4,k4,u5,a5,c5,b5,z5,k5,u22,a22,c22,b22,z22,k22,u23,a23,c23,b23,z23,k23,u26,a26,c26,b26,z26,k26,u82,a82,c82,b82,z82,k82,u84,a84,c84,b84,z84,k84,u86,u91,a91,c91,b91,z91,k91,u92,a92,c92,b92,z92,k92,l92,h64,List.length_map] | (refine condK_split ?_ ?_ <;> intro hwq) | (refine two_split ?_ ?_) | (refine guardK_split ?_ ?_ <;> intro hwq) | (refine guardE_split ?_ ?_ <;> intro hwq) | (refine awp_drawW [] (by decide +kernel) ?_; have hwq := trivial) | fail))
    exact ⟨_, rfl, by simp [V.leT, V.le, V.les]⟩
  rw [if_neg h64]
  by_cases h0 : L = []
  · subst h0
    rw [if_pos (.inl rfl)]
    (have hwq := trivial; repeat' (first | simp (maxSteps:=9999999)-implicitDefEqProofs only [go_sem,simprocAttr,hwq,u3,a3,c3,b3,z3,k3,u4,a4,c4,b4,z4,k4,u5,a5,c5,b5,z5,k5,u22,a22,c22,b22,z22,k22,u23,a23,c23,b23,z23,k23,u26,a26,c26,b26,z26,k26,u82,a82,c82,b82,z82,k82,u84,a84,c84,b84,z84,k84,u86,u91,a91,c91,b91,z91,k91,u92,a92,c92,b92,z92,k92,l92,h64,List.length_map] | (refine condK_split ?_ ?_ <;> intro hwq) | (refine two_split ?_ ?_) | (refine guardK_split ?_ ?_ <;> intro hwq) | (refine guardE_split ?_ ?_ <;> intro hwq) | (refine awp_drawW [] (by decide +kernel) ?_; have hwq := trivial) | fail))
    exact ⟨_, rfl, by simp [V.leT, V.le, V.les]⟩
  have hz : ((L.length : Int) == 0) = false := by simpa using h0
  have h40 := mc40 41 (fun x => !mayB x) L (by omega) (fun x hx => mc41 x (hL x hx))
  cases hany : L.any (fun x => !mayB x) with
  | true =>
    rw [hany] at h40
    rw [if_pos (.inr rfl)]
    (have hwq := trivial; repeat' (first | simp (maxSteps:=9999999)-implicitDefEqProofs only [go_sem,simprocAttr,hwq,u3,a3,c3,b3,z3,k3,u4,a4,c4,b4,z4,k4,u5,a5,c5,b5,z5,k5,u22,a22,c22,b22,z22,k22,u23,a23,c23,b23,z23,k23,u26,a26,c26,b26,z26,k26,u82,a82,c82,b82,z82,k82,u84,a84,c84,b84,z84,k84,u86,u91,a91,c91,b91,z91,k91,u92,a92,c92,b92,z92,k92,l92,h64,hz,List.length_map] | (refine condK_split ?_ ?_ <;> intro hwq) | (refine two_split ?_ ?_) | (refine guardK_split ?_ ?_ <;> intro hwq) | (refine guardE_split ?_ ?_ <;> intro hwq) | (refine awp_drawW [] (by decide +kernel) ?_; have hwq := trivial) | (refine call_data h40 rfl (V.les_refl _) rfl ?_; have hwq := trivial) | fail))
    exact ⟨_, rfl, by simp [V.leT, V.le, V.les]⟩
  | false =>
    rw [hany] at h40
    rw [if_neg (by simp [h0])]
    have hmay : ∀ x ∈ L, mayB x = true := by simpa using hany
    have h6 : ∀ x ∈ L, x.l.length ≤ 64 := fun x hx => (mayB_of (hmay x hx)).2.2.1
    (have hwq := trivial; repeat' (first | simp (maxSteps:=9999999)-implicitDefEqProofs only [go_sem,simprocAttr,hwq,u3,a3,c3,b3,z3,k3,u4,a4,c4,b4,z4,k4,u5,a5,c5,b5,z5,k5,u22,a22,c22,b22,z22,k22,u23,a23,c23,b23,z23,k23,u26,a26,c26,b26,z26,k26,u82,a82,c82,b82,z82,k82,u84,a84,c84,b84,z84,k84,u86,u91,a91,c91,b91,z91,k91,u92,a92,c92,b92,z92,k92,l92,h64,hz,List.length_map] | (refine condK_split ?_ ?_ <;> intro hwq) | (refine two_split ?_ ?_) | (refine guardK_split ?_ ?_ <;> intro hwq) | (refine guardE_split ?_ ?_ <;> intro hwq) | (refine awp_drawW [] (by decide +kernel) ?_; have hwq := trivial) | (refine call_data h40 rfl (V.les_refl _) rfl ?_; have hwq := trivial) | fail))
    refine awp_loopK (El11 L) L.length _ (Weak.cutI 2 [4, 21, 22, 23] ?_ ?_) ⟨0, [0, 1, 2], _, rfl, by omega, rfl, rfl⟩ ?_
    · simp (maxSteps:=9999999)-implicitDefEqProofs only [simprocAttr,QH,Option.isSome,cond_true,cond_false,Option.bind,selB,V.rn,V.rns,Go.Ai.known,V.pz,V.pzs,T.toV,frz1,List.range,List.range.loop,ite_true,ite_false,if_true,if_false,ne_eq,implies_true,forall_const,eq_self,IntKind.bits,upd_tmsS,selT_cons,selT_nil,List.length_map,List.getElem?_map,Int.natCast_nonneg,List.length_append,List.map_append]
    · simp (maxSteps:=9999999)-implicitDefEqProofs only [simprocAttr,QH,Option.isSome,cond_true,cond_false,Option.bind,selB,V.rn,V.rns,Go.Ai.known,V.pz,V.pzs,T.toV,frz1,List.range,List.range.loop,ite_true,ite_false,if_true,if_false,ne_eq,implies_true,forall_const,eq_self,IntKind.bits,upd_tmsS,selT_cons,selT_nil,List.length_map,List.getElem?_map,Int.natCast_nonneg,List.length_append,List.map_append]
    rintro kk S ⟨j, bs, mv, rfl, hj, rfl, hbs⟩
    have wj : IntKind.i64.wrap ((j : Int) + 1) = (j : Int) + 1 := wI64 _ (by omega) (by omega)
    have hbl : bs.length ≤ 3 + 26 * 64 := by
      rw [hbs]
      have := encB_len (L.take j) fun x hx => h6 x (List.mem_of_mem_take hx)
      rw [List.length_take] at this
      omega
    by_cases hjl : j < L.length
    · have hjl' : (j : Int) < (L.length : Int) := by omega
      have hgj : L[j]? = some L[j] := List.getElem?_eq_getElem hjl
      obtain ⟨x, hx⟩ : ∃ x, L[j] = x := ⟨_, rfl⟩
      rw [hx] at hgj
      have hm := hmay x (mem_in hgj)
      obtain ⟨b1, b2, b3, b6⟩ := mayB_of hm
      have h43b := mc43 x.fi (by omega) (by omega)
      have wl : IntKind.i64.wrap ((x.l.length : Int) + 8192) = (x.l.length : Int) + 8192 := wI64 _ (by omega) (by omega)
      have h44 := mc44 x.l
      have gb1 : bs.length + 2 ≤ 140737488355328 := by omega
      have gb2 : bs.length + 2 + 2 ≤ 140737488355328 := by omega
      have l4a : (twoL (hdN x)).length = 2 := rfl
      have l4b : (twoL x.fi).length = 2 := rfl
      have hnew : bs ++ vcH x ++ (List.range (chN x.l.length)).map (fun k => pk3 (chk x.l k)) = encB (L.take (j + 1)) := by
        rw [take_in hgj, hbs]
        unfold encB vcB
        simp [List.flatMap_append]
      have key : ∀ (al : Bool), x.al = al → AC Try.prog 43 [vI (if al then (x.l.length : Int) + 8192 else (x.l.length : Int))] [] (eqR (bysV (twoL (hdN x)))) := by
        intro al e
        unfold hdN
        rw [e]
        exact mc43 _ (by cases al <;> simp <;> omega) (by cases al <;> simp <;> omega)
      cases hal : x.al with
      | true =>
        have h43a := key true hal
        rw [if_pos rfl] at h43a
        (have hwq := trivial; repeat' (first | simp (maxSteps:=9999999)-implicitDefEqProofs only [go_sem,simprocAttr,hwq,u3,a3,c3,b3,z3,k3,u4,a4,c4,b4,z4,k4,u5,a5,c5,b5,z5,k5,u22,a22,c22,b22,z22,k22,u23,a23,c23,b23,z23,k23,u26,a26,c26,b26,z26,k26,u82,a82,c82,b82,z82,k82,u84,a84,c84,b84,z84,k84,u86,u91,a91,c91,b91,z91,k91,u92,a92,c92,b92,z92,k92,l92,List.length_map,List.getElem?_map,Int.natCast_nonneg,List.length_append,List.map_append,hjl',hgj,wj,wl,hal,gb1,gb2,l4a,l4b,awpTr_noneT,awpTr_altT,trK_eq,TrAnd_true,List.length_map] | (refine condK_split ?_ ?_ <;> intro hwq) | (refine two_split ?_ ?_) | (refine guardK_split ?_ ?_ <;> intro hwq) | (refine guardE_split ?_ ?_ <;> intro hwq) | (refine awp_drawW [] (by decide +kernel) ?_; have hwq := trivial) | (refine draw_plain h43a rfl (fun _ => rfl) ?_; have hwq := trivial) | (refine draw_plain h43b rfl (fun _ => rfl) ?_; have hwq := trivial) | (refine trAnd_mk ?_ ?_; have hwq := trivial) | fail))
        refine awp_tree [] (.alt 0 (.alt 1 (.alt 2 (.alt 3 (.alt 4 (.alt 5 (.alt 6 (.alt 7 (.alt 8 .leaf .none) .none) .none) .none) .none) (.alt 4 (.alt 3 (.alt 5 (.alt 6 (.alt 7 (.alt 8 .leaf .none) .none) .none) .none) (.alt 5 (.alt 3 (.alt 6 (.alt 7 (.alt 8 .leaf .none) .none) .none) .none) .none)) .none)) (.alt 4 (.alt 2 (.alt 3 (.alt 5 (.alt 6 (.alt 7 (.alt 8 .leaf .none) .none) .none) .none) (.alt 5 (.alt 3 (.alt 6 (.alt 7 (.alt 8 .leaf .none) .none) .none) .none) .none)) (.alt 5 (.alt 2 (.alt 3 (.alt 6 (.alt 7 (.alt 8 .leaf .none) .none) .none) .none) .none) .none)) .none)) (.alt 4 (.alt 1 (.alt 2 (.alt 3 (.alt 5 (.alt 6 (.alt 7 (.alt 8 .leaf .none) .none) .none) .none) (.alt 5 (.alt 3 (.alt 6 (.alt 7 (.alt 8 .leaf .none) .none) .none) .none) .none)) (.alt 5 (.alt 2 (.alt 3 (.alt 6 (.alt 7 (.alt 8 .leaf .none) .none) .none) .none) .none) .none)) (.alt 5 (.alt 1 (.alt 2 (.alt 3 (.alt 6 (.alt 7 (.alt 8 .leaf .none) .none) .none) .none) .none) .none) .none)) .none)) (.alt 1 (.alt 0 (.alt 2 (.alt 3 (.alt 4 (.alt 5 (.alt 6 (.alt 7 (.alt 8 .leaf .none) .none) .none) .none) .none) (.alt 4 (.alt 3 (.alt 5 (.alt 6 (.alt 7 (.alt 8 .leaf .none) .none) .none) .none) (.alt 5 (.alt 3 (.alt 6 (.alt 7 (.alt 8 .leaf .none) .none) .none) .none) .none)) .none)) (.alt 4 (.alt 2 (.alt 3 (.alt 5 (.alt 6 (.alt 7 (.alt 8 .leaf .none) .none) .none) .none) (.alt 5 (.alt 3 (.alt 6 (.alt 7 (.alt 8 .leaf .none) .none) .none) .none) .none)) (.alt 5 (.alt 2 (.alt 3 (.alt 6 (.alt 7 (.alt 8 .leaf .none) .none) .none) .none) .none) .none)) .none)) (.alt 2 (.alt 0 (.alt 3 (.alt 4 (.alt 5 (.alt 6 (.alt 7 (.alt 8 .leaf .none) .none) .none) .none) .none) (.alt 4 (.alt 3 (.alt 5 (.alt 6 (.alt 7 (.alt 8 .leaf .none) .none) .none) .none) (.alt 5 (.alt 3 (.alt 6 (.alt 7 (.alt 8 .leaf .none) .none) .none) .none) .none)) .none)) (.alt 4 (.alt 0 (.alt 3 (.alt 5 (.alt 6 (.alt 7 (.alt 8 .leaf .none) .none) .none) .none) (.alt 5 (.alt 3 (.alt 6 (.alt 7 (.alt 8 .leaf .none) .none) .none) .none) .none)) (.alt 5 (.alt 0 (.alt 3 (.alt 6 (.alt 7 (.alt 8 .leaf .none) .none) .none) .none) .none) .none)) .none)) (.alt 4 (.alt 0 (.alt 2 (.alt 3 (.alt 5 (.alt 6 (.alt 7 (.alt 8 .leaf .none) .none) .none) .none) (.alt 5 (.alt 3 (.alt 6 (.alt 7 (.alt 8 .leaf .none) .none) .none) .none) .none)) (.alt 5 (.alt 2 (.alt 3 (.alt 6 (.alt 7 (.alt 8 .leaf .none) .none) .none) .none) .none) .none)) (.alt 2 (.alt 0 (.alt 3 (.alt 5 (.alt 6 (.alt 7 (.alt 8 .leaf .none) .none) .none) .none) (.alt 5 (.alt 3 (.alt 6 (.alt 7 (.alt 8 .leaf .none) .none) .none) .none) .none)) (.alt 5 (.alt 0 (.alt 3 (.alt 6 (.alt 7 (.alt 8 .leaf .none) .none) .none) .none) .none) .none)) (.alt 5 (.alt 0 (.alt 2 (.alt 3 (.alt 6 (.alt 7 (.alt 8 .leaf .none) .none) .none) .none) .none) (.alt 2 (.alt 0 (.alt 3 (.alt 6 (.alt 7 (.alt 8 .leaf .none) .none) .none) .none) .none) .none)) .none))) .none))) (.alt 4 (.alt 0 (.alt 1 (.alt 2 (.alt 3 (.alt 5 (.alt 6 (.alt 7 (.alt 8 .leaf .none) .none) .none) .none) (.alt 5 (.alt 3 (.alt 6 (.alt 7 (.alt 8 .leaf .none) .none) .none) .none) .none)) (.alt 5 (.alt 2 (.alt 3 (.alt 6 (.alt 7 (.alt 8 .leaf .none) .none) .none) .none) .none) .none)) (.alt 5 (.alt 1 (.alt 2 (.alt 3 (.alt 6 (.alt 7 (.alt 8 .leaf .none) .none) .none) .none) .none) .none) .none)) (.alt 1 (.alt 0 (.alt 2 (.alt 3 (.alt 5 (.alt 6 (.alt 7 (.alt 8 .leaf .none) .none) .none) .none) (.alt 5 (.alt 3 (.alt 6 (.alt 7 (.alt 8 .leaf .none) .none) .none) .none) .none)) (.alt 5 (.alt 2 (.alt 3 (.alt 6 (.alt 7 (.alt 8 .leaf .none) .none) .none) .none) .none) .none)) (.alt 2 (.alt 0 (.alt 3 (.alt 5 (.alt 6 (.alt 7 (.alt 8 .leaf .none) .none) .none) .none) (.alt 5 (.alt 3 (.alt 6 (.alt 7 (.alt 8 .leaf .none) .none) .none) .none) .none)) (.alt 5 (.alt 0 (.alt 3 (.alt 6 (.alt 7 (.alt 8 .leaf .none) .none) .none) .none) .none) .none)) (.alt 5 (.alt 0 (.alt 2 (.alt 3 (.alt 6 (.alt 7 (.alt 8 .leaf .none) .none) .none) .none) .none) (.alt 2 (.alt 0 (.alt 3 (.alt 6 (.alt 7 (.alt 8 .leaf .none) .none) .none) .none) .none) .none)) .none))) (.alt 5 (.alt 0 (.alt 1 (.alt 2 (.alt 3 (.alt 6 (.alt 7 (.alt 8 .leaf .none) .none) .none) .none) .none) .none) (.alt 1 (.alt 0 (.alt 2 (.alt 3 (.alt 6 (.alt 7 (.alt 8 .leaf .none) .none) .none) .none) .none) (.alt 2 (.alt 0 (.alt 3 (.alt 6 (.alt 7 (.alt 8 .leaf .none) .none) .none) .none) .none) .none)) .none)) .none))) .none))) ⟨tms [(4, .ptr 1 0 0), (6, .ptr 2 0 0), (21, vcsV L), (22, vI L.length), (23, vI j)], [.rows 1 (bs.map byT ++ (twoL (hdN x)).map byT ++ (twoL x.fi).map byT) false, .box [.own 0 0 (bs.length + 2 + 2)] false, .box [vB true, vI x.fi, isV x.l] false], mv ++ [0] ++ [0] ++ List.range' 3 0⟩ (by decide +kernel) ?_ ?_
        · (have hwq := trivial; repeat' (first | simp (maxSteps:=9999999)-implicitDefEqProofs only [go_sem,simprocAttr,hwq,u3,a3,c3,b3,z3,k3,u4,a4,c4,b4,z4,k4,u5,a5,c5,b5,z5,k5,u22,a22,c22,b22,z22,k22,u23,a23,c23,b23,z23,k23,u26,a26,c26,b26,z26,k26,u82,a82,c82,b82,z82,k82,u84,a84,c84,b84,z84,k84,u86,u91,a91,c91,b91,z91,k91,u92,a92,c92,b92,z92,k92,l92,List.length_map,List.getElem?_map,Int.natCast_nonneg,List.length_append,List.map_append,hjl',hgj,wj,wl,hal,gb1,gb2,l4a,l4b,awpTr_noneT,awpTr_altT,trK_eq,TrAnd_true,List.length_map] | (refine condK_split ?_ ?_ <;> intro hwq) | (refine two_split ?_ ?_) | (refine guardK_split ?_ ?_ <;> intro hwq) | (refine guardE_split ?_ ?_ <;> intro hwq) | (refine awp_drawW [] (by decide +kernel) ?_; have hwq := trivial) | (refine draw_plain h43a rfl (fun _ => rfl) ?_; have hwq := trivial) | (refine draw_plain h43b rfl (fun _ => rfl) ?_; have hwq := trivial) | (refine trAnd_mk ?_ ?_; have hwq := trivial) | fail))
          all_goals (refine awpTr_leaf (Weak.cutI 3 [4, 6, 21, 22, 23] ?_ ?_) <;> simp (maxSteps:=9999999)-implicitDefEqProofs only [simprocAttr,QH,Option.isSome,cond_true,cond_false,Option.bind,selB,V.rn,V.rns,Go.Ai.known,V.pz,V.pzs,T.toV,frz1,List.range,List.range.loop,ite_true,ite_false,if_true,if_false,ne_eq,implies_true,forall_const,eq_self,IntKind.bits,upd_tmsS,selT_cons,selT_nil,List.length_map,List.getElem?_map,Int.natCast_nonneg,List.length_append,List.map_append,l4a,l4b])
        (have hwq := trivial; repeat' (first | simp (maxSteps:=9999999)-implicitDefEqProofs only [go_sem,simprocAttr,hwq,u3,a3,c3,b3,z3,k3,u4,a4,c4,b4,z4,k4,u5,a5,c5,b5,z5,k5,u22,a22,c22,b22,z22,k22,u23,a23,c23,b23,z23,k23,u26,a26,c26,b26,z26,k26,u82,a82,c82,b82,z82,k82,u84,a84,c84,b84,z84,k84,u86,u91,a91,c91,b91,z91,k91,u92,a92,c92,b92,z92,k92,l92,List.length_map,List.getElem?_map,Int.natCast_nonneg,List.length_append,List.map_append,h44] | (refine condK_split ?_ ?_ <;> intro hwq) | (refine two_split ?_ ?_) | (refine guardK_split ?_ ?_ <;> intro hwq) | (refine guardE_split ?_ ?_ <;> intro hwq) | (refine awp_drawW [] (by decide +kernel) ?_; have hwq := trivial) | (refine call_data h44 rfl (V.les_refl _) rfl ?_; have hwq := trivial) | fail))
        refine awp_range (rangeBy_mv (α := Nat) (gf := 70) (lbV := [.iref [.sl 1 (x.l.map inT)], .iref [.s (.int .i64 3)]]) (p0 := 45) (p1 := 8) (tms [(4, .ptr 1 0 0), (21, vcsV L), (22, vI L.length), (23, vI j)]) [0] (JR bs x) (fun ys => ys = List.range (chN x.l.length)) (chN x.l.length) (fun k => isV (chk x.l k)) rfl (by kernel_rfl) rfl ?_ ?_ ?_ ?_ ?_ ?_ ?_ ?_) ?_
        · intro N h
          simpa [codeOKr, opsOK, nodef] using h
        · intro F m tmps W K hK
          exact wpIn_assign1 hK
        · refine tms_sub ?_
          intro p hp
          simp only [List.mem_cons, List.not_mem_nil, or_false] at hp
          rcases hp with rfl | rfl | rfl | rfl <;> rfl
        · intro mv2 hmv
          have h1 : 1 ∉ mv2 := fun h => by rcases hmv 1 h with h2 | h2 <;> simp at h2
          refine tms_pz ?_
          intro p hp
          simp only [List.mem_cons, List.not_mem_nil, or_false] at hp
          rcases hp with rfl | rfl | rfl | rfl <;> simp [V.pz, h1]
        · rintro pre σ ⟨BS, rfl, _⟩
          simp [cellsOnly, Blk.cellsK]
        · refine ⟨bs ++ vcH x, ?_, by simp⟩
          simp [vcH, hal, l4a, l4b, Nat.add_assoc]
        · intro β I w lb hi hv
          exact chunk_stops x.l (by omega) hi hv
        · rintro pre k σ ⟨BS, rfl, hBS⟩ hlen
          have hcn : chN x.l.length ≤ 22 := by unfold chN; omega
          have hgB : BS.length + 1 ≤ 140737488355328 := by
            rw [hBS]
            simp only [List.length_append, List.length_map, vcH, l4a, l4b]
            omega
          rcases chk_cases x.l b6 k with hck | ⟨a, hck, ha⟩ | ⟨a, b, hck, ha, hb⟩ | ⟨a, b, d, hck, ha, hb, hd⟩
          · have hpk : pk3 (chk x.l k) = (0 * 6 + 0) * 6 + 0 := by rw [hck]; rfl
            have x1 : IntKind.i64.wrap (0 * 6) = 0 * 6 := wI64 _ (by omega) (by omega)
            have x2 : IntKind.i64.wrap (0 * 6 + 0) = 0 * 6 + 0 := wI64 _ (by omega) (by omega)
            have x3 : IntKind.i64.wrap ((0 * 6 + 0) * 6) = (0 * 6 + 0) * 6 := wI64 _ (by omega) (by omega)
            have x4 : IntKind.i64.wrap ((0 * 6 + 0) * 6 + 0) = (0 * 6 + 0) * 6 + 0 := wI64 _ (by omega) (by omega)
            have x5 : IntKind.u8.wrap ((0 * 6 + 0) * 6 + 0) = (0 * 6 + 0) * 6 + 0 := by simp only [IntKind.wrap_u8]; omega
            rw [hck]
            (have hwq := trivial; repeat' (first | simp (maxSteps:=9999999)-implicitDefEqProofs only [go_sem,simprocAttr,hwq,u3,a3,c3,b3,z3,k3,u4,a4,c4,b4,z4,k4,u5,a5,c5,b5,z5,k5,u22,a22,c22,b22,z22,k22,u23,a23,c23,b23,z23,k23,u26,a26,c26,b26,z26,k26,u82,a82,c82,b82,z82,k82,u84,a84,c84,b84,z84,k84,u86,u91,a91,c91,b91,z91,k91,u92,a92,c92,b92,z92,k92,l92,List.length_map,List.getElem?_map,Int.natCast_nonneg,List.length_append,List.map_append,hgB,x1,x2,x3,x4,x5,List.map_cons,List.map_nil,upd_tmsS,setT,List.forall_mem_cons,List.forall_mem_nil,forall_eq_or_imp,forall_eq,List.mem_cons,List.not_mem_nil,List.length_cons,List.length_nil,List.take_succ_cons,List.take_zero,List.take_nil,List.flatten_cons,List.flatten_nil,List.append_nil,List.nil_append,List.cons_append,List.drop_succ_cons,List.drop_zero,List.drop_nil,or_false] | (refine condK_split ?_ ?_ <;> intro hwq) | (refine two_split ?_ ?_) | (refine guardK_split ?_ ?_ <;> intro hwq) | (refine guardE_split ?_ ?_ <;> intro hwq) | (refine awp_drawW [] (by decide +kernel) ?_; have hwq := trivial) | fail))
            refine ⟨_, _, ⟨BS ++ [pk3 (chk x.l k)], rfl, by rw [hBS]; simp⟩, ?_, Weak.cutI (l := []) 3 [] rfl ?_⟩
            · simp [List.mem_range'_1]
              intro t h1 h2
              exact .inr h1
            · rw [hpk]
              simp (maxSteps:=9999999)-implicitDefEqProofs only [simprocAttr,QH,Option.isSome,cond_true,cond_false,Option.bind,selB,V.rn,V.rns,Go.Ai.known,V.pz,V.pzs,T.toV,frz1,List.range,List.range.loop,ite_true,ite_false,if_true,if_false,ne_eq,implies_true,forall_const,eq_self,IntKind.bits,upd_tmsS,selT_cons,selT_nil,List.length_map,List.getElem?_map,Int.natCast_nonneg,List.length_append,List.map_append,List.map_cons,List.map_nil,List.length_cons,List.length_nil]
          · have hpk : pk3 (chk x.l k) = (a * 6 + 0) * 6 + 0 := by rw [hck]; rfl
            have x1 : IntKind.i64.wrap (a * 6) = a * 6 := wI64 _ (by omega) (by omega)
            have x2 : IntKind.i64.wrap (a * 6 + 0) = a * 6 + 0 := wI64 _ (by omega) (by omega)
            have x3 : IntKind.i64.wrap ((a * 6 + 0) * 6) = (a * 6 + 0) * 6 := wI64 _ (by omega) (by omega)
            have x4 : IntKind.i64.wrap ((a * 6 + 0) * 6 + 0) = (a * 6 + 0) * 6 + 0 := wI64 _ (by omega) (by omega)
            have x5 : IntKind.u8.wrap ((a * 6 + 0) * 6 + 0) = (a * 6 + 0) * 6 + 0 := by simp only [IntKind.wrap_u8]; omega
            rw [hck]
            (have hwq := trivial; repeat' (first | simp (maxSteps:=9999999)-implicitDefEqProofs only [go_sem,simprocAttr,hwq,u3,a3,c3,b3,z3,k3,u4,a4,c4,b4,z4,k4,u5,a5,c5,b5,z5,k5,u22,a22,c22,b22,z22,k22,u23,a23,c23,b23,z23,k23,u26,a26,c26,b26,z26,k26,u82,a82,c82,b82,z82,k82,u84,a84,c84,b84,z84,k84,u86,u91,a91,c91,b91,z91,k91,u92,a92,c92,b92,z92,k92,l92,List.length_map,List.getElem?_map,Int.natCast_nonneg,List.length_append,List.map_append,hgB,x1,x2,x3,x4,x5,List.map_cons,List.map_nil,upd_tmsS,setT,List.forall_mem_cons,List.forall_mem_nil,forall_eq_or_imp,forall_eq,List.mem_cons,List.not_mem_nil,List.length_cons,List.length_nil,List.take_succ_cons,List.take_zero,List.take_nil,List.flatten_cons,List.flatten_nil,List.append_nil,List.nil_append,List.cons_append,List.drop_succ_cons,List.drop_zero,List.drop_nil,or_false] | (refine condK_split ?_ ?_ <;> intro hwq) | (refine two_split ?_ ?_) | (refine guardK_split ?_ ?_ <;> intro hwq) | (refine guardE_split ?_ ?_ <;> intro hwq) | (refine awp_drawW [] (by decide +kernel) ?_; have hwq := trivial) | fail))
            refine ⟨_, _, ⟨BS ++ [pk3 (chk x.l k)], rfl, by rw [hBS]; simp⟩, ?_, Weak.cutI (l := []) 3 [] rfl ?_⟩
            · simp [List.mem_range'_1]
              intro t h1 h2
              exact .inr h1
            · rw [hpk]
              simp (maxSteps:=9999999)-implicitDefEqProofs only [simprocAttr,QH,Option.isSome,cond_true,cond_false,Option.bind,selB,V.rn,V.rns,Go.Ai.known,V.pz,V.pzs,T.toV,frz1,List.range,List.range.loop,ite_true,ite_false,if_true,if_false,ne_eq,implies_true,forall_const,eq_self,IntKind.bits,upd_tmsS,selT_cons,selT_nil,List.length_map,List.getElem?_map,Int.natCast_nonneg,List.length_append,List.map_append,List.map_cons,List.map_nil,List.length_cons,List.length_nil]
          · have hpk : pk3 (chk x.l k) = (a * 6 + b) * 6 + 0 := by rw [hck]; rfl
            have x1 : IntKind.i64.wrap (a * 6) = a * 6 := wI64 _ (by omega) (by omega)
            have x2 : IntKind.i64.wrap (a * 6 + b) = a * 6 + b := wI64 _ (by omega) (by omega)
            have x3 : IntKind.i64.wrap ((a * 6 + b) * 6) = (a * 6 + b) * 6 := wI64 _ (by omega) (by omega)
            have x4 : IntKind.i64.wrap ((a * 6 + b) * 6 + 0) = (a * 6 + b) * 6 + 0 := wI64 _ (by omega) (by omega)
            have x5 : IntKind.u8.wrap ((a * 6 + b) * 6 + 0) = (a * 6 + b) * 6 + 0 := by simp only [IntKind.wrap_u8]; omega
            rw [hck]
            (have hwq := trivial; repeat' (first | simp (maxSteps:=9999999)-implicitDefEqProofs only [go_sem,simprocAttr,hwq,u3,a3,c3,b3,z3,k3,u4,a4,c4,b4,z4,k4,u5,a5,c5,b5,z5,k5,u22,a22,c22,b22,z22,k22,u23,a23,c23,b23,z23,k23,u26,a26,c26,b26,z26,k26,u82,a82,c82,b82,z82,k82,u84,a84,c84,b84,z84,k84,u86,u91,a91,c91,b91,z91,k91,u92,a92,c92,b92,z92,k92,l92,List.length_map,List.getElem?_map,Int.natCast_nonneg,List.length_append,List.map_append,hgB,x1,x2,x3,x4,x5,List.map_cons,List.map_nil,upd_tmsS,setT,List.forall_mem_cons,List.forall_mem_nil,forall_eq_or_imp,forall_eq,List.mem_cons,List.not_mem_nil,List.length_cons,List.length_nil,List.take_succ_cons,List.take_zero,List.take_nil,List.flatten_cons,List.flatten_nil,List.append_nil,List.nil_append,List.cons_append,List.drop_succ_cons,List.drop_zero,List.drop_nil,or_false] | (refine condK_split ?_ ?_ <;> intro hwq) | (refine two_split ?_ ?_) | (refine guardK_split ?_ ?_ <;> intro hwq) | (refine guardE_split ?_ ?_ <;> intro hwq) | (refine awp_drawW [] (by decide +kernel) ?_; have hwq := trivial) | fail))
            refine ⟨_, _, ⟨BS ++ [pk3 (chk x.l k)], rfl, by rw [hBS]; simp⟩, ?_, Weak.cutI (l := []) 3 [] rfl ?_⟩
            · simp [List.mem_range'_1]
              intro t h1 h2
              exact .inr h1
            · rw [hpk]
              simp (maxSteps:=9999999)-implicitDefEqProofs only [simprocAttr,QH,Option.isSome,cond_true,cond_false,Option.bind,selB,V.rn,V.rns,Go.Ai.known,V.pz,V.pzs,T.toV,frz1,List.range,List.range.loop,ite_true,ite_false,if_true,if_false,ne_eq,implies_true,forall_const,eq_self,IntKind.bits,upd_tmsS,selT_cons,selT_nil,List.length_map,List.getElem?_map,Int.natCast_nonneg,List.length_append,List.map_append,List.map_cons,List.map_nil,List.length_cons,List.length_nil]
          · have hpk : pk3 (chk x.l k) = (a * 6 + b) * 6 + d := by rw [hck]; rfl
            have x1 : IntKind.i64.wrap (a * 6) = a * 6 := wI64 _ (by omega) (by omega)
            have x2 : IntKind.i64.wrap (a * 6 + b) = a * 6 + b := wI64 _ (by omega) (by omega)
            have x3 : IntKind.i64.wrap ((a * 6 + b) * 6) = (a * 6 + b) * 6 := wI64 _ (by omega) (by omega)
            have x4 : IntKind.i64.wrap ((a * 6 + b) * 6 + d) = (a * 6 + b) * 6 + d := wI64 _ (by omega) (by omega)
            have x5 : IntKind.u8.wrap ((a * 6 + b) * 6 + d) = (a * 6 + b) * 6 + d := by simp only [IntKind.wrap_u8]; omega
            rw [hck]
            (have hwq := trivial; repeat' (first | simp (maxSteps:=9999999)-implicitDefEqProofs only [go_sem,simprocAttr,hwq,u3,a3,c3,b3,z3,k3,u4,a4,c4,b4,z4,k4,u5,a5,c5,b5,z5,k5,u22,a22,c22,b22,z22,k22,u23,a23,c23,b23,z23,k23,u26,a26,c26,b26,z26,k26,u82,a82,c82,b82,z82,k82,u84,a84,c84,b84,z84,k84,u86,u91,a91,c91,b91,z91,k91,u92,a92,c92,b92,z92,k92,l92,List.length_map,List.getElem?_map,Int.natCast_nonneg,List.length_append,List.map_append,hgB,x1,x2,x3,x4,x5,List.map_cons,List.map_nil,upd_tmsS,setT,List.forall_mem_cons,List.forall_mem_nil,forall_eq_or_imp,forall_eq,List.mem_cons,List.not_mem_nil,List.length_cons,List.length_nil,List.take_succ_cons,List.take_zero,List.take_nil,List.flatten_cons,List.flatten_nil,List.append_nil,List.nil_append,List.cons_append,List.drop_succ_cons,List.drop_zero,List.drop_nil,or_false] | (refine condK_split ?_ ?_ <;> intro hwq) | (refine two_split ?_ ?_) | (refine guardK_split ?_ ?_ <;> intro hwq) | (refine guardE_split ?_ ?_ <;> intro hwq) | (refine awp_drawW [] (by decide +kernel) ?_; have hwq := trivial) | fail))
            refine ⟨_, _, ⟨BS ++ [pk3 (chk x.l k)], rfl, by rw [hBS]; simp⟩, ?_, Weak.cutI (l := []) 3 [] rfl ?_⟩
            · simp [List.mem_range'_1]
              intro t h1 h2
              exact .inr h1
            · rw [hpk]
              simp (maxSteps:=9999999)-implicitDefEqProofs only [simprocAttr,QH,Option.isSome,cond_true,cond_false,Option.bind,selB,V.rn,V.rns,Go.Ai.known,V.pz,V.pzs,T.toV,frz1,List.range,List.range.loop,ite_true,ite_false,if_true,if_false,ne_eq,implies_true,forall_const,eq_self,IntKind.bits,upd_tmsS,selT_cons,selT_nil,List.length_map,List.getElem?_map,Int.natCast_nonneg,List.length_append,List.map_append,List.map_cons,List.map_nil,List.length_cons,List.length_nil]
        · rintro S' ⟨ys, σ, mv2, rfl, ⟨BS, rfl, hBS⟩, rfl⟩
          rw [hnew] at hBS
          (have hwq := trivial; repeat' (first | simp (maxSteps:=9999999)-implicitDefEqProofs only [go_sem,simprocAttr,hwq,u3,a3,c3,b3,z3,k3,u4,a4,c4,b4,z4,k4,u5,a5,c5,b5,z5,k5,u22,a22,c22,b22,z22,k22,u23,a23,c23,b23,z23,k23,u26,a26,c26,b26,z26,k26,u82,a82,c82,b82,z82,k82,u84,a84,c84,b84,z84,k84,u86,u91,a91,c91,b91,z91,k91,u92,a92,c92,b92,z92,k92,l92,List.length_map,List.getElem?_map,Int.natCast_nonneg,List.length_append,List.map_append,wj] | (refine condK_split ?_ ?_ <;> intro hwq) | (refine two_split ?_ ?_) | (refine guardK_split ?_ ?_ <;> intro hwq) | (refine guardE_split ?_ ?_ <;> intro hwq) | (refine awp_drawW [] (by decide +kernel) ?_; have hwq := trivial) | fail))
          refine ⟨L.length - (j + 1), _, by omega, Weak.cutI 2 [4, 21, 22, 23] ?_ ?_, j + 1, BS, _, rfl, by omega, rfl, hBS⟩
          · simp (maxSteps:=9999999)-implicitDefEqProofs only [simprocAttr,QH,Option.isSome,cond_true,cond_false,Option.bind,selB,V.rn,V.rns,Go.Ai.known,V.pz,V.pzs,T.toV,frz1,List.range,List.range.loop,ite_true,ite_false,if_true,if_false,ne_eq,implies_true,forall_const,eq_self,IntKind.bits,upd_tmsS,selT_cons,selT_nil,List.length_map,List.getElem?_map,Int.natCast_nonneg,List.length_append,List.map_append]
          · simp (maxSteps:=9999999)-implicitDefEqProofs only [simprocAttr,QH,Option.isSome,cond_true,cond_false,Option.bind,selB,V.rn,V.rns,Go.Ai.known,V.pz,V.pzs,T.toV,frz1,List.range,List.range.loop,ite_true,ite_false,if_true,if_false,ne_eq,implies_true,forall_const,eq_self,IntKind.bits,upd_tmsS,selT_cons,selT_nil,List.length_map,List.getElem?_map,Int.natCast_nonneg,List.length_append,List.map_append]
      | false =>
        have h43a := key false hal
        rw [if_neg (by decide)] at h43a
        (have hwq := trivial; repeat' (first | simp (maxSteps:=9999999)-implicitDefEqProofs only [go_sem,simprocAttr,hwq,u3,a3,c3,b3,z3,k3,u4,a4,c4,b4,z4,k4,u5,a5,c5,b5,z5,k5,u22,a22,c22,b22,z22,k22,u23,a23,c23,b23,z23,k23,u26,a26,c26,b26,z26,k26,u82,a82,c82,b82,z82,k82,u84,a84,c84,b84,z84,k84,u86,u91,a91,c91,b91,z91,k91,u92,a92,c92,b92,z92,k92,l92,List.length_map,List.getElem?_map,Int.natCast_nonneg,List.length_append,List.map_append,hjl',hgj,wj,wl,hal,gb1,gb2,l4a,l4b,awpTr_noneT,awpTr_altT,trK_eq,TrAnd_true,List.length_map] | (refine condK_split ?_ ?_ <;> intro hwq) | (refine two_split ?_ ?_) | (refine guardK_split ?_ ?_ <;> intro hwq) | (refine guardE_split ?_ ?_ <;> intro hwq) | (refine awp_drawW [] (by decide +kernel) ?_; have hwq := trivial) | (refine draw_plain h43a rfl (fun _ => rfl) ?_; have hwq := trivial) | (refine draw_plain h43b rfl (fun _ => rfl) ?_; have hwq := trivial) | (refine trAnd_mk ?_ ?_; have hwq := trivial) | fail))
        refine awp_tree [] (.alt 0 (.alt 1 (.alt 2 (.alt 3 (.alt 4 (.alt 5 (.alt 6 (.alt 7 (.alt 8 .leaf .none) .none) .none) .none) .none) (.alt 4 (.alt 3 (.alt 5 (.alt 6 (.alt 7 (.alt 8 .leaf .none) .none) .none) .none) (.alt 5 (.alt 3 (.alt 6 (.alt 7 (.alt 8 .leaf .none) .none) .none) .none) .none)) .none)) (.alt 4 (.alt 2 (.alt 3 (.alt 5 (.alt 6 (.alt 7 (.alt 8 .leaf .none) .none) .none) .none) (.alt 5 (.alt 3 (.alt 6 (.alt 7 (.alt 8 .leaf .none) .none) .none) .none) .none)) (.alt 5 (.alt 2 (.alt 3 (.alt 6 (.alt 7 (.alt 8 .leaf .none) .none) .none) .none) .none) .none)) .none)) (.alt 4 (.alt 1 (.alt 2 (.alt 3 (.alt 5 (.alt 6 (.alt 7 (.alt 8 .leaf .none) .none) .none) .none) (.alt 5 (.alt 3 (.alt 6 (.alt 7 (.alt 8 .leaf .none) .none) .none) .none) .none)) (.alt 5 (.alt 2 (.alt 3 (.alt 6 (.alt 7 (.alt 8 .leaf .none) .none) .none) .none) .none) .none)) (.alt 5 (.alt 1 (.alt 2 (.alt 3 (.alt 6 (.alt 7 (.alt 8 .leaf .none) .none) .none) .none) .none) .none) .none)) .none)) (.alt 1 (.alt 0 (.alt 2 (.alt 3 (.alt 4 (.alt 5 (.alt 6 (.alt 7 (.alt 8 .leaf .none) .none) .none) .none) .none) (.alt 4 (.alt 3 (.alt 5 (.alt 6 (.alt 7 (.alt 8 .leaf .none) .none) .none) .none) (.alt 5 (.alt 3 (.alt 6 (.alt 7 (.alt 8 .leaf .none) .none) .none) .none) .none)) .none)) (.alt 4 (.alt 2 (.alt 3 (.alt 5 (.alt 6 (.alt 7 (.alt 8 .leaf .none) .none) .none) .none) (.alt 5 (.alt 3 (.alt 6 (.alt 7 (.alt 8 .leaf .none) .none) .none) .none) .none)) (.alt 5 (.alt 2 (.alt 3 (.alt 6 (.alt 7 (.alt 8 .leaf .none) .none) .none) .none) .none) .none)) .none)) (.alt 2 (.alt 0 (.alt 3 (.alt 4 (.alt 5 (.alt 6 (.alt 7 (.alt 8 .leaf .none) .none) .none) .none) .none) (.alt 4 (.alt 3 (.alt 5 (.alt 6 (.alt 7 (.alt 8 .leaf .none) .none) .none) .none) (.alt 5 (.alt 3 (.alt 6 (.alt 7 (.alt 8 .leaf .none) .none) .none) .none) .none)) .none)) (.alt 4 (.alt 0 (.alt 3 (.alt 5 (.alt 6 (.alt 7 (.alt 8 .leaf .none) .none) .none) .none) (.alt 5 (.alt 3 (.alt 6 (.alt 7 (.alt 8 .leaf .none) .none) .none) .none) .none)) (.alt 5 (.alt 0 (.alt 3 (.alt 6 (.alt 7 (.alt 8 .leaf .none) .none) .none) .none) .none) .none)) .none)) (.alt 4 (.alt 0 (.alt 2 (.alt 3 (.alt 5 (.alt 6 (.alt 7 (.alt 8 .leaf .none) .none) .none) .none) (.alt 5 (.alt 3 (.alt 6 (.alt 7 (.alt 8 .leaf .none) .none) .none) .none) .none)) (.alt 5 (.alt 2 (.alt 3 (.alt 6 (.alt 7 (.alt 8 .leaf .none) .none) .none) .none) .none) .none)) (.alt 2 (.alt 0 (.alt 3 (.alt 5 (.alt 6 (.alt 7 (.alt 8 .leaf .none) .none) .none) .none) (.alt 5 (.alt 3 (.alt 6 (.alt 7 (.alt 8 .leaf .none) .none) .none) .none) .none)) (.alt 5 (.alt 0 (.alt 3 (.alt 6 (.alt 7 (.alt 8 .leaf .none) .none) .none) .none) .none) .none)) (.alt 5 (.alt 0 (.alt 2 (.alt 3 (.alt 6 (.alt 7 (.alt 8 .leaf .none) .none) .none) .none) .none) (.alt 2 (.alt 0 (.alt 3 (.alt 6 (.alt 7 (.alt 8 .leaf .none) .none) .none) .none) .none) .none)) .none))) .none))) (.alt 4 (.alt 0 (.alt 1 (.alt 2 (.alt 3 (.alt 5 (.alt 6 (.alt 7 (.alt 8 .leaf .none) .none) .none) .none) (.alt 5 (.alt 3 (.alt 6 (.alt 7 (.alt 8 .leaf .none) .none) .none) .none) .none)) (.alt 5 (.alt 2 (.alt 3 (.alt 6 (.alt 7 (.alt 8 .leaf .none) .none) .none) .none) .none) .none)) (.alt 5 (.alt 1 (.alt 2 (.alt 3 (.alt 6 (.alt 7 (.alt 8 .leaf .none) .none) .none) .none) .none) .none) .none)) (.alt 1 (.alt 0 (.alt 2 (.alt 3 (.alt 5 (.alt 6 (.alt 7 (.alt 8 .leaf .none) .none) .none) .none) (.alt 5 (.alt 3 (.alt 6 (.alt 7 (.alt 8 .leaf .none) .none) .none) .none) .none)) (.alt 5 (.alt 2 (.alt 3 (.alt 6 (.alt 7 (.alt 8 .leaf .none) .none) .none) .none) .none) .none)) (.alt 2 (.alt 0 (.alt 3 (.alt 5 (.alt 6 (.alt 7 (.alt 8 .leaf .none) .none) .none) .none) (.alt 5 (.alt 3 (.alt 6 (.alt 7 (.alt 8 .leaf .none) .none) .none) .none) .none)) (.alt 5 (.alt 0 (.alt 3 (.alt 6 (.alt 7 (.alt 8 .leaf .none) .none) .none) .none) .none) .none)) (.alt 5 (.alt 0 (.alt 2 (.alt 3 (.alt 6 (.alt 7 (.alt 8 .leaf .none) .none) .none) .none) .none) (.alt 2 (.alt 0 (.alt 3 (.alt 6 (.alt 7 (.alt 8 .leaf .none) .none) .none) .none) .none) .none)) .none))) (.alt 5 (.alt 0 (.alt 1 (.alt 2 (.alt 3 (.alt 6 (.alt 7 (.alt 8 .leaf .none) .none) .none) .none) .none) .none) (.alt 1 (.alt 0 (.alt 2 (.alt 3 (.alt 6 (.alt 7 (.alt 8 .leaf .none) .none) .none) .none) .none) (.alt 2 (.alt 0 (.alt 3 (.alt 6 (.alt 7 (.alt 8 .leaf .none) .none) .none) .none) .none) .none)) .none)) .none))) .none))) ⟨tms [(4, .ptr 1 0 0), (6, .ptr 2 0 0), (21, vcsV L), (22, vI L.length), (23, vI j)], [.rows 1 (bs.map byT ++ (twoL (hdN x)).map byT ++ (twoL x.fi).map byT) false, .box [.own 0 0 (bs.length + 2 + 2)] false, .box [vB false, vI x.fi, isV x.l] false], mv ++ [0] ++ [0] ++ List.range' 3 0⟩ (by decide +kernel) ?_ ?_
        · (have hwq := trivial; repeat' (first | simp (maxSteps:=9999999)-implicitDefEqProofs only [go_sem,simprocAttr,hwq,u3,a3,c3,b3,z3,k3,u4,a4,c4,b4,z4,k4,u5,a5,c5,b5,z5,k5,u22,a22,c22,b22,z22,k22,u23,a23,c23,b23,z23,k23,u26,a26,c26,b26,z26,k26,u82,a82,c82,b82,z82,k82,u84,a84,c84,b84,z84,k84,u86,u91,a91,c91,b91,z91,k91,u92,a92,c92,b92,z92,k92,l92,List.length_map,List.getElem?_map,Int.natCast_nonneg,List.length_append,List.map_append,hjl',hgj,wj,wl,hal,gb1,gb2,l4a,l4b,awpTr_noneT,awpTr_altT,trK_eq,TrAnd_true,List.length_map] | (refine condK_split ?_ ?_ <;> intro hwq) | (refine two_split ?_ ?_) | (refine guardK_split ?_ ?_ <;> intro hwq) | (refine guardE_split ?_ ?_ <;> intro hwq) | (refine awp_drawW [] (by decide +kernel) ?_; have hwq := trivial) | (refine draw_plain h43a rfl (fun _ => rfl) ?_; have hwq := trivial) | (refine draw_plain h43b rfl (fun _ => rfl) ?_; have hwq := trivial) | (refine trAnd_mk ?_ ?_; have hwq := trivial) | fail))
          all_goals (refine awpTr_leaf (Weak.cutI 3 [4, 6, 21, 22, 23] ?_ ?_) <;> simp (maxSteps:=9999999)-implicitDefEqProofs only [simprocAttr,QH,Option.isSome,cond_true,cond_false,Option.bind,selB,V.rn,V.rns,Go.Ai.known,V.pz,V.pzs,T.toV,frz1,List.range,List.range.loop,ite_true,ite_false,if_true,if_false,ne_eq,implies_true,forall_const,eq_self,IntKind.bits,upd_tmsS,selT_cons,selT_nil,List.length_map,List.getElem?_map,Int.natCast_nonneg,List.length_append,List.map_append,l4a,l4b])
        (have hwq := trivial; repeat' (first | simp (maxSteps:=9999999)-implicitDefEqProofs only [go_sem,simprocAttr,hwq,u3,a3,c3,b3,z3,k3,u4,a4,c4,b4,z4,k4,u5,a5,c5,b5,z5,k5,u22,a22,c22,b22,z22,k22,u23,a23,c23,b23,z23,k23,u26,a26,c26,b26,z26,k26,u82,a82,c82,b82,z82,k82,u84,a84,c84,b84,z84,k84,u86,u91,a91,c91,b91,z91,k91,u92,a92,c92,b92,z92,k92,l92,List.length_map,List.getElem?_map,Int.natCast_nonneg,List.length_append,List.map_append,h44] | (refine condK_split ?_ ?_ <;> intro hwq) | (refine two_split ?_ ?_) | (refine guardK_split ?_ ?_ <;> intro hwq) | (refine guardE_split ?_ ?_ <;> intro hwq) | (refine awp_drawW [] (by decide +kernel) ?_; have hwq := trivial) | (refine call_data h44 rfl (V.les_refl _) rfl ?_; have hwq := trivial) | fail))
        refine awp_range (rangeBy_mv (α := Nat) (gf := 70) (lbV := [.iref [.sl 1 (x.l.map inT)], .iref [.s (.int .i64 3)]]) (p0 := 45) (p1 := 8) (tms [(4, .ptr 1 0 0), (21, vcsV L), (22, vI L.length), (23, vI j)]) [0] (JR bs x) (fun ys => ys = List.range (chN x.l.length)) (chN x.l.length) (fun k => isV (chk x.l k)) rfl (by kernel_rfl) rfl ?_ ?_ ?_ ?_ ?_ ?_ ?_ ?_) ?_
        · intro N h
          simpa [codeOKr, opsOK, nodef] using h
        · intro F m tmps W K hK
          exact wpIn_assign1 hK
        · refine tms_sub ?_
          intro p hp
          simp only [List.mem_cons, List.not_mem_nil, or_false] at hp
          rcases hp with rfl | rfl | rfl | rfl <;> rfl
        · intro mv2 hmv
          have h1 : 1 ∉ mv2 := fun h => by rcases hmv 1 h with h2 | h2 <;> simp at h2
          refine tms_pz ?_
          intro p hp
          simp only [List.mem_cons, List.not_mem_nil, or_false] at hp
          rcases hp with rfl | rfl | rfl | rfl <;> simp [V.pz, h1]
        · rintro pre σ ⟨BS, rfl, _⟩
          simp [cellsOnly, Blk.cellsK]
        · refine ⟨bs ++ vcH x, ?_, by simp⟩
          simp [vcH, hal, l4a, l4b, Nat.add_assoc]
        · intro β I w lb hi hv
          exact chunk_stops x.l (by omega) hi hv
        · rintro pre k σ ⟨BS, rfl, hBS⟩ hlen
          have hcn : chN x.l.length ≤ 22 := by unfold chN; omega
          have hgB : BS.length + 1 ≤ 140737488355328 := by
            rw [hBS]
            simp only [List.length_append, List.length_map, vcH, l4a, l4b]
            omega
          rcases chk_cases x.l b6 k with hck | ⟨a, hck, ha⟩ | ⟨a, b, hck, ha, hb⟩ | ⟨a, b, d, hck, ha, hb, hd⟩
          · have hpk : pk3 (chk x.l k) = (0 * 6 + 0) * 6 + 0 := by rw [hck]; rfl
            have x1 : IntKind.i64.wrap (0 * 6) = 0 * 6 := wI64 _ (by omega) (by omega)
            have x2 : IntKind.i64.wrap (0 * 6 + 0) = 0 * 6 + 0 := wI64 _ (by omega) (by omega)
            have x3 : IntKind.i64.wrap ((0 * 6 + 0) * 6) = (0 * 6 + 0) * 6 := wI64 _ (by omega) (by omega)
            have x4 : IntKind.i64.wrap ((0 * 6 + 0) * 6 + 0) = (0 * 6 + 0) * 6 + 0 := wI64 _ (by omega) (by omega)
            have x5 : IntKind.u8.wrap ((0 * 6 + 0) * 6 + 0) = (0 * 6 + 0) * 6 + 0 := by simp only [IntKind.wrap_u8]; omega
            rw [hck]
            (have hwq := trivial; repeat' (first | simp (maxSteps:=9999999)-implicitDefEqProofs only [go_sem,simprocAttr,hwq,u3,a3,c3,b3,z3,k3,u4,a4,c4,b4,z4,k4,u5,a5,c5,b5,z5,k5,u22,a22,c22,b22,z22,k22,u23,a23,c23,b23,z23,k23,u26,a26,c26,b26,z26,k26,u82,a82,c82,b82,z82,k82,u84,a84,c84,b84,z84,k84,u86,u91,a91,c91,b91,z91,k91,u92,a92,c92,b92,z92,k92,l92,List.length_map,List.getElem?_map,Int.natCast_nonneg,List.length_append,List.map_append,hgB,x1,x2,x3,x4,x5,List.map_cons,List.map_nil,upd_tmsS,setT,List.forall_mem_cons,List.forall_mem_nil,forall_eq_or_imp,forall_eq,List.mem_cons,List.not_mem_nil,List.length_cons,List.length_nil,List.take_succ_cons,List.take_zero,List.take_nil,List.flatten_cons,List.flatten_nil,List.append_nil,List.nil_append,List.cons_append,List.drop_succ_cons,List.drop_zero,List.drop_nil,or_false] | (refine condK_split ?_ ?_ <;> intro hwq) | (refine two_split ?_ ?_) | (refine guardK_split ?_ ?_ <;> intro hwq) | (refine guardE_split ?_ ?_ <;> intro hwq) | (refine awp_drawW [] (by decide +kernel) ?_; have hwq := trivial) | fail))
            refine ⟨_, _, ⟨BS ++ [pk3 (chk x.l k)], rfl, by rw [hBS]; simp⟩, ?_, Weak.cutI (l := []) 3 [] rfl ?_⟩
            · simp [List.mem_range'_1]
              intro t h1 h2
              exact .inr h1
            · rw [hpk]
              simp (maxSteps:=9999999)-implicitDefEqProofs only [simprocAttr,QH,Option.isSome,cond_true,cond_false,Option.bind,selB,V.rn,V.rns,Go.Ai.known,V.pz,V.pzs,T.toV,frz1,List.range,List.range.loop,ite_true,ite_false,if_true,if_false,ne_eq,implies_true,forall_const,eq_self,IntKind.bits,upd_tmsS,selT_cons,selT_nil,List.length_map,List.getElem?_map,Int.natCast_nonneg,List.length_append,List.map_append,List.map_cons,List.map_nil,List.length_cons,List.length_nil]
          · have hpk : pk3 (chk x.l k) = (a * 6 + 0) * 6 + 0 := by rw [hck]; rfl
            have x1 : IntKind.i64.wrap (a * 6) = a * 6 := wI64 _ (by omega) (by omega)
            have x2 : IntKind.i64.wrap (a * 6 + 0) = a * 6 + 0 := wI64 _ (by omega) (by omega)
            have x3 : IntKind.i64.wrap ((a * 6 + 0) * 6) = (a * 6 + 0) * 6 := wI64 _ (by omega) (by omega)
            have x4 : IntKind.i64.wrap ((a * 6 + 0) * 6 + 0) = (a * 6 + 0) * 6 + 0 := wI64 _ (by omega) (by omega)
            have x5 : IntKind.u8.wrap ((a * 6 + 0) * 6 + 0) = (a * 6 + 0) * 6 + 0 := by simp only [IntKind.wrap_u8]; omega
            rw [hck]
            (have hwq := trivial; repeat' (first | simp (maxSteps:=9999999)-implicitDefEqProofs only [go_sem,simprocAttr,hwq,u3,a3,c3,b3,z3,k3,u4,a4,c4,b4,z4,k4,u5,a5,c5,b5,z5,k5,u22,a22,c22,b22,z22,k22,u23,a23,c23,b23,z23,k23,u26,a26,c26,b26,z26,k26,u82,a82,c82,b82,z82,k82,u84,a84,c84,b84,z84,k84,u86,u91,a91,c91,b91,z91,k91,u92,a92,c92,b92,z92,k92,l92,List.length_map,List.getElem?_map,Int.natCast_nonneg,List.length_append,List.map_append,hgB,x1,x2,x3,x4,x5,List.map_cons,List.map_nil,upd_tmsS,setT,List.forall_mem_cons,List.forall_mem_nil,forall_eq_or_imp,forall_eq,List.mem_cons,List.not_mem_nil,List.length_cons,List.length_nil,List.take_succ_cons,List.take_zero,List.take_nil,List.flatten_cons,List.flatten_nil,List.append_nil,List.nil_append,List.cons_append,List.drop_succ_cons,List.drop_zero,List.drop_nil,or_false] | (refine condK_split ?_ ?_ <;> intro hwq) | (refine two_split ?_ ?_) | (refine guardK_split ?_ ?_ <;> intro hwq) | (refine guardE_split ?_ ?_ <;> intro hwq) | (refine awp_drawW [] (by decide +kernel) ?_; have hwq := trivial) | fail))
            refine ⟨_, _, ⟨BS ++ [pk3 (chk x.l k)], rfl, by rw [hBS]; simp⟩, ?_, Weak.cutI (l := []) 3 [] rfl ?_⟩
            · simp [List.mem_range'_1]
              intro t h1 h2
              exact .inr h1
            · rw [hpk]
              simp (maxSteps:=9999999)-implicitDefEqProofs only [simprocAttr,QH,Option.isSome,cond_true,cond_false,Option.bind,selB,V.rn,V.rns,Go.Ai.known,V.pz,V.pzs,T.toV,frz1,List.range,List.range.loop,ite_true,ite_false,if_true,if_false,ne_eq,implies_true,forall_const,eq_self,IntKind.bits,upd_tmsS,selT_cons,selT_nil,List.length_map,List.getElem?_map,Int.natCast_nonneg,List.length_append,List.map_append,List.map_cons,List.map_nil,List.length_cons,List.length_nil]
          · have hpk : pk3 (chk x.l k) = (a * 6 + b) * 6 + 0 := by rw [hck]; rfl
            have x1 : IntKind.i64.wrap (a * 6) = a * 6 := wI64 _ (by omega) (by omega)
            have x2 : IntKind.i64.wrap (a * 6 + b) = a * 6 + b := wI64 _ (by omega) (by omega)
            have x3 : IntKind.i64.wrap ((a * 6 + b) * 6) = (a * 6 + b) * 6 := wI64 _ (by omega) (by omega)
            have x4 : IntKind.i64.wrap ((a * 6 + b) * 6 + 0) = (a * 6 + b) * 6 + 0 := wI64 _ (by omega) (by omega)
            have x5 : IntKind.u8.wrap ((a * 6 + b) * 6 + 0) = (a * 6 + b) * 6 + 0 := by simp only [IntKind.wrap_u8]; omega
            rw [hck]
            (have hwq := trivial; repeat' (first | simp (maxSteps:=9999999)-implicitDefEqProofs only [go_sem,simprocAttr,hwq,u3,a3,c3,b3,z3,k3,u4,a4,c4,b4,z4,k4,u5,a5,c5,b5,z5,k5,u22,a22,c22,b22,z22,k22,u23,a23,c23,b23,z23,k23,u26,a26,c26,b26,z26,k26,u82,a82,c82,b82,z82,k82,u84,a84,c84,b84,z84,k84,u86,u91,a91,c91,b91,z91,k91,u92,a92,c92,b92,z92,k92,l92,List.length_map,List.getElem?_map,Int.natCast_nonneg,List.length_append,List.map_append,hgB,x1,x2,x3,x4,x5,List.map_cons,List.map_nil,upd_tmsS,setT,List.forall_mem_cons,List.forall_mem_nil,forall_eq_or_imp,forall_eq,List.mem_cons,List.not_mem_nil,List.length_cons,List.length_nil,List.take_succ_cons,List.take_zero,List.take_nil,List.flatten_cons,List.flatten_nil,List.append_nil,List.nil_append,List.cons_append,List.drop_succ_cons,List.drop_zero,List.drop_nil,or_false] | (refine condK_split ?_ ?_ <;> intro hwq) | (refine two_split ?_ ?_) | (refine guardK_split ?_ ?_ <;> intro hwq) | (refine guardE_split ?_ ?_ <;> intro hwq) | (refine awp_drawW [] (by decide +kernel) ?_; have hwq := trivial) | fail))
            refine ⟨_, _, ⟨BS ++ [pk3 (chk x.l k)], rfl, by rw [hBS]; simp⟩, ?_, Weak.cutI (l := []) 3 [] rfl ?_⟩
            · simp [List.mem_range'_1]
              intro t h1 h2
              exact .inr h1
            · rw [hpk]
              simp (maxSteps:=9999999)-implicitDefEqProofs only [simprocAttr,QH,Option.isSome,cond_true,cond_false,Option.bind,selB,V.rn,V.rns,Go.Ai.known,V.pz,V.pzs,T.toV,frz1,List.range,List.range.loop,ite_true,ite_false,if_true,if_false,ne_eq,implies_true,forall_const,eq_self,IntKind.bits,upd_tmsS,selT_cons,selT_nil,List.length_map,List.getElem?_map,Int.natCast_nonneg,List.length_append,List.map_append,List.map_cons,List.map_nil,List.length_cons,List.length_nil]
          · have hpk : pk3 (chk x.l k) = (a * 6 + b) * 6 + d := by rw [hck]; rfl
            have x1 : IntKind.i64.wrap (a * 6) = a * 6 := wI64 _ (by omega) (by omega)
            have x2 : IntKind.i64.wrap (a * 6 + b) = a * 6 + b := wI64 _ (by omega) (by omega)
            have x3 : IntKind.i64.wrap ((a * 6 + b) * 6) = (a * 6 + b) * 6 := wI64 _ (by omega) (by omega)
            have x4 : IntKind.i64.wrap ((a * 6 + b) * 6 + d) = (a * 6 + b) * 6 + d := wI64 _ (by omega) (by omega)
            have x5 : IntKind.u8.wrap ((a * 6 + b) * 6 + d) = (a * 6 + b) * 6 + d := by simp only [IntKind.wrap_u8]; omega
            rw [hck]
            (have hwq := trivial; repeat' (first | simp (maxSteps:=9999999)-implicitDefEqProofs only [go_sem,simprocAttr,hwq,u3,a3,c3,b3,z3,k3,u4,a4,c4,b4,z4,k4,u5,a5,c5,b5,z5,k5,u22,a22,c22,b22,z22,k22,u23,a23,c23,b23,z23,k23,u26,a26,c26,b26,z26,k26,u82,a82,c82,b82,z82,k82,u84,a84,c84,b84,z84,k84,u86,u91,a91,c91,b91,z91,k91,u92,a92,c92,b92,z92,k92,l92,List.length_map,List.getElem?_map,Int.natCast_nonneg,List.length_append,List.map_append,hgB,x1,x2,x3,x4,x5,List.map_cons,List.map_nil,upd_tmsS,setT,List.forall_mem_cons,List.forall_mem_nil,forall_eq_or_imp,forall_eq,List.mem_cons,List.not_mem_nil,List.length_cons,List.length_nil,List.take_succ_cons,List.take_zero,List.take_nil,List.flatten_cons,List.flatten_nil,List.append_nil,List.nil_append,List.cons_append,List.drop_succ_cons,List.drop_zero,List.drop_nil,or_false] | (refine condK_split ?_ ?_ <;> intro hwq) | (refine two_split ?_ ?_) | (refine guardK_split ?_ ?_ <;> intro hwq) | (refine guardE_split ?_ ?_ <;> intro hwq) | (refine awp_drawW [] (by decide +kernel) ?_; have hwq := trivial) | fail))
            refine ⟨_, _, ⟨BS ++ [pk3 (chk x.l k)], rfl, by rw [hBS]; simp⟩, ?_, Weak.cutI (l := []) 3 [] rfl ?_⟩
            · simp [List.mem_range'_1]
              intro t h1 h2
              exact .inr h1
            · rw [hpk]
              simp (maxSteps:=9999999)-implicitDefEqProofs only [simprocAttr,QH,Option.isSome,cond_true,cond_false,Option.bind,selB,V.rn,V.rns,Go.Ai.known,V.pz,V.pzs,T.toV,frz1,List.range,List.range.loop,ite_true,ite_false,if_true,if_false,ne_eq,implies_true,forall_const,eq_self,IntKind.bits,upd_tmsS,selT_cons,selT_nil,List.length_map,List.getElem?_map,Int.natCast_nonneg,List.length_append,List.map_append,List.map_cons,List.map_nil,List.length_cons,List.length_nil]
        · rintro S' ⟨ys, σ, mv2, rfl, ⟨BS, rfl, hBS⟩, rfl⟩
          rw [hnew] at hBS
          (have hwq := trivial; repeat' (first | simp (maxSteps:=9999999)-implicitDefEqProofs only [go_sem,simprocAttr,hwq,u3,a3,c3,b3,z3,k3,u4,a4,c4,b4,z4,k4,u5,a5,c5,b5,z5,k5,u22,a22,c22,b22,z22,k22,u23,a23,c23,b23,z23,k23,u26,a26,c26,b26,z26,k26,u82,a82,c82,b82,z82,k82,u84,a84,c84,b84,z84,k84,u86,u91,a91,c91,b91,z91,k91,u92,a92,c92,b92,z92,k92,l92,List.length_map,List.getElem?_map,Int.natCast_nonneg,List.length_append,List.map_append,wj] | (refine condK_split ?_ ?_ <;> intro hwq) | (refine two_split ?_ ?_) | (refine guardK_split ?_ ?_ <;> intro hwq) | (refine guardE_split ?_ ?_ <;> intro hwq) | (refine awp_drawW [] (by decide +kernel) ?_; have hwq := trivial) | fail))
          refine ⟨L.length - (j + 1), _, by omega, Weak.cutI 2 [4, 21, 22, 23] ?_ ?_, j + 1, BS, _, rfl, by omega, rfl, hBS⟩
          · simp (maxSteps:=9999999)-implicitDefEqProofs only [simprocAttr,QH,Option.isSome,cond_true,cond_false,Option.bind,selB,V.rn,V.rns,Go.Ai.known,V.pz,V.pzs,T.toV,frz1,List.range,List.range.loop,ite_true,ite_false,if_true,if_false,ne_eq,implies_true,forall_const,eq_self,IntKind.bits,upd_tmsS,selT_cons,selT_nil,List.length_map,List.getElem?_map,Int.natCast_nonneg,List.length_append,List.map_append]
          · simp (maxSteps:=9999999)-implicitDefEqProofs only [simprocAttr,QH,Option.isSome,cond_true,cond_false,Option.bind,selB,V.rn,V.rns,Go.Ai.known,V.pz,V.pzs,T.toV,frz1,List.range,List.range.loop,ite_true,ite_false,if_true,if_false,ne_eq,implies_true,forall_const,eq_self,IntKind.bits,upd_tmsS,selT_cons,selT_nil,List.length_map,List.getElem?_map,Int.natCast_nonneg,List.length_append,List.map_append]
    · have hjl' : ¬ (j : Int) < (L.length : Int) := by omega
      obtain rfl : j = L.length := by omega
      rw [List.take_length] at hbs
      have gb4 : bs.length + 4 ≤ 140737488355328 := by omega
      (have hwq := trivial; repeat' (first | simp (maxSteps:=9999999)-implicitDefEqProofs only [go_sem,simprocAttr,hwq,u3,a3,c3,b3,z3,k3,u4,a4,c4,b4,z4,k4,u5,a5,c5,b5,z5,k5,u22,a22,c22,b22,z22,k22,u23,a23,c23,b23,z23,k23,u26,a26,c26,b26,z26,k26,u82,a82,c82,b82,z82,k82,u84,a84,c84,b84,z84,k84,u86,u91,a91,c91,b91,z91,k91,u92,a92,c92,b92,z92,k92,l92,List.length_map,List.getElem?_map,Int.natCast_nonneg,List.length_append,List.map_append,hjl',List.length_map,gb4,List.length_cons,List.length_nil] | (refine condK_split ?_ ?_ <;> intro hwq) | (refine two_split ?_ ?_) | (refine guardK_split ?_ ?_ <;> intro hwq) | (refine guardE_split ?_ ?_ <;> intro hwq) | (refine awp_drawW [] (by decide +kernel) ?_; have hwq := trivial) | fail))
      refine ⟨_, rfl, ?_⟩
      rw [← hbs]
      simp [V.leT, V.le, V.les]
      rw [List.take_of_length_le (by simp)]
end Go.Ai

set_option linter.unusedVariables false
set_option linter.unusedSimpArgs false
set_option maxHeartbeats 1000000
namespace Go.Ai
open Go.Proofs
theorem bv_split (x y : BitVec 64) : (x &&& ~~~y) + (x &&& y) = x := by
  rw [BitVec.add_eq_or_of_and_eq_zero]
  · apply BitVec.eq_of_getElem_eq
    intro i hi
    simp only [BitVec.getElem_or, BitVec.getElem_and, BitVec.getElem_not]
    cases x[i] <;> cases y[i] <;> rfl
  · apply BitVec.eq_of_getElem_eq
    intro i hi
    simp only [BitVec.getElem_zero, BitVec.getElem_and, BitVec.getElem_not]
    cases x[i] <;> cases y[i] <;> rfl
def vecN (h : Nat) : Nat := if h / 8192 % 2 = 1 then h - 8192 else h
theorem andn13 (n : Nat) (hn : n < 65536) : bAndNot .i64 (n : Int) 8192 = (vecN n : Nat) := by
  have e1 : (BitVec.ofInt 64 (n : Int)).toNat = n := by
    rw [BitVec.toNat_ofInt]
    omega
  have e2 : (BitVec.ofInt 64 (8192 : Int)).toNat = 2 ^ 13 := by
    rw [BitVec.toNat_ofInt]
    omega
  have h1 : (BitVec.ofInt 64 (n : Int) &&& BitVec.ofInt 64 8192).toNat = if n / 8192 % 2 = 1 then 8192 else 0 := by
    rw [BitVec.toNat_and, e1, e2, and_pow, Nat.testBit_eq_decide_div_mod_eq]
    by_cases h : n / 8192 % 2 = 1
    · have h' : n / 2 ^ 13 % 2 = 1 := h
      simp [h, h']
    · have h' : ¬ n / 2 ^ 13 % 2 = 1 := h
      simp only [h, h', decide_false, if_false]
      rfl
  have h2 := congrArg BitVec.toNat (bv_split (BitVec.ofInt 64 (n : Int)) (BitVec.ofInt 64 8192))
  have h3 : (BitVec.ofInt 64 (n : Int) &&& ~~~BitVec.ofInt 64 8192).toNat ≤ n := by
    rw [BitVec.toNat_and, e1]
    exact Nat.and_le_left
  rw [BitVec.toNat_add, h1, e1] at h2
  have h4 : (BitVec.ofInt 64 (n : Int) &&& ~~~BitVec.ofInt 64 8192).toNat = vecN n := by
    unfold vecN
    split at h2 <;> rename_i hc
    · rw [if_pos hc]; omega
    · rw [if_neg hc]; omega
  show IntKind.i64.wrap ((BitVec.ofInt 64 (n : Int) &&& ~~~BitVec.ofInt 64 8192).toNat : Int) = _
  rw [h4]
  have h5 : vecN n ≤ n := by unfold vecN; split <;> omega
  exact wI64 _ (by omega) (by omega)
/-- What a byte holds. -/
def unp3 (x : Int) : List Int := [x / 36, x / 6 % 6, x % 6]
def unpR (x : Int) : List Int := [x / 36 % 6, x / 6 % 6, x % 6]
def vecK (b : List Int) : Option (Vc × List Int) :=
  match b with
  | b0 :: b1 :: b2 :: b3 :: r =>
    if 64 < vecN (b0 * 256 + b1).toNat ∨ r.length < (vecN (b0 * 256 + b1).toNat + 2) / 3 then none
    else some (⟨decide ((b0 * 256 + b1).toNat / 8192 % 2 = 1), b2 * 256 + b3, ((r.take ((vecN (b0 * 256 + b1).toNat + 2) / 3)).flatMap unp3).take (vecN (b0 * 256 + b1).toNat)⟩, r.drop ((vecN (b0 * 256 + b1).toNat + 2) / 3))
  | _ => none
def decP : Nat → List Int → List Vc → List Vc
  | 0, _, l => l
  | k + 1, rest, l => match vecK rest with
    | none => l
    | some (v, more) => if mayB v then decP k more (l ++ [v]) else l
def decodeP (b : List Int) : List Vc × Int :=
  if b.length < 7 then ([], 6) else if encR (decP 64 (b.drop 3) []) = (b, 0) then (decP 64 (b.drop 3) [], 0) else ([], 290)
def pkL (l : List Int) : List Int := (List.range (chN l.length)).map fun k => pk3 (chk l k)
theorem pkL_cons (a b c : Int) (t : List Int) : pkL (a :: b :: c :: t) = pk3 [a, b, c] :: pkL t := by
  unfold pkL
  have h : chN (a :: b :: c :: t).length = chN t.length + 1 := by unfold chN; simp; omega
  rw [h, List.range_succ_eq_map, List.map_cons, List.map_map]
  rfl
theorem pk3_unp (a b c : Int) (ha : 0 ≤ a ∧ a ≤ 5) (hb : 0 ≤ b ∧ b ≤ 5) (hc : 0 ≤ c ∧ c ≤ 5) : unp3 (pk3 [a, b, c]) = [a, b, c] ∧ unpR (pk3 [a, b, c]) = [a, b, c] := by
  have h : pk3 [a, b, c] = (a * 6 + b) * 6 + c := rfl
  rw [h]
  unfold unp3 unpR
  simp only [List.cons.injEq, and_true]
  omega
theorem pk_back : ∀ (l : List Int), (∀ a ∈ l, 0 ≤ a ∧ a ≤ 5) → ((pkL l).flatMap unp3).take l.length = l ∧ ((pkL l).flatMap unpR).take l.length = l
  | [], _ => ⟨rfl, rfl⟩
  | [a], h => by
    have h1 := h a (by simp)
    have e : pkL [a] = [pk3 [a, 0, 0]] := by simp [pkL, chN, chk, pk3, List.range_succ]
    obtain ⟨p1, p2⟩ := pk3_unp a 0 0 h1 (by omega) (by omega)
    rw [e]; simp [p1, p2]
  | [a, b], h => by
    have h1 := h a (by simp)
    have h2 := h b (by simp)
    have e : pkL [a, b] = [pk3 [a, b, 0]] := by simp [pkL, chN, chk, pk3, List.range_succ]
    obtain ⟨p1, p2⟩ := pk3_unp a b 0 h1 h2 (by omega)
    rw [e]; simp [p1, p2]
  | a :: b :: c :: t, h => by
    obtain ⟨p1, p2⟩ := pk3_unp a b c (h a (by simp)) (h b (by simp)) (h c (by simp))
    obtain ⟨i1, i2⟩ := pk_back t fun x hx => h x (by simp [hx])
    rw [pkL_cons]
    simp [p1, p2, i1, i2]
theorem pkL_len (l : List Int) : (pkL l).length = (l.length + 2) / 3 := by simp [pkL, chN]
theorem vcB_eq (x : Vc) : vcB x = hdN x / 256 :: hdN x % 256 :: x.fi / 256 :: x.fi % 256 :: pkL x.l := rfl
theorem hdN_nat {x : Vc} (h : x.l.length ≤ 64) : (hdN x / 256 * 256 + hdN x % 256).toNat = if x.al then x.l.length + 8192 else x.l.length := by
  unfold hdN
  cases x.al <;> simp <;> omega
theorem hdN_vec {x : Vc} (h : x.l.length ≤ 64) : vecN (hdN x / 256 * 256 + hdN x % 256).toNat = x.l.length ∧ decide ((hdN x / 256 * 256 + hdN x % 256).toNat / 8192 % 2 = 1) = x.al := by
  rw [hdN_nat h]
  unfold vecN
  cases x.al
  · have : ¬ (x.l.length / 8192 % 2 = 1) := by omega
    simp [this]
  · have : (x.l.length + 8192) / 8192 % 2 = 1 := by omega
    refine ⟨?_, ?_⟩
    · simp only [↓reduceIte, this]; omega
    · simp only [↓reduceIte, this]; rfl
theorem vecK_vcB (x : Vc) (hm : mayB x = true) (r : List Int) : vecK (vcB x ++ r) = some (x, r) := by
  obtain ⟨b1, b2, b3, b6⟩ := mayB_of hm
  obtain ⟨n1, n2⟩ := hdN_vec b3
  rw [vcB_eq]
  simp only [List.cons_append, vecK]
  rw [n1, n2]
  have hl := pkL_len x.l
  rw [if_neg (by simp [hl]; omega), ← hl, List.take_left, List.drop_left, (pk_back x.l b6).1]
  have e : x.fi / 256 * 256 + x.fi % 256 = x.fi := by omega
  rw [e]
theorem decP_enc : ∀ (L : List Vc) (k : Nat) (l : List Vc), (∀ x ∈ L, mayB x = true) → L.length ≤ k → decP k (L.flatMap vcB ++ [0, 0, 0, 0]) l = l ++ L
  | [], 0, l, _, _ => by simp [decP]
  | [], k + 1, l, _, _ => by
    have h : vecK ([] ++ [0, 0, 0, 0]) = some (⟨false, 0, []⟩, []) := by decide
    rw [List.flatMap_nil]
    unfold decP
    rw [h]
    simp [mayB]
  | x :: L, 0, l, _, h => by simp at h
  | x :: L, k + 1, l, hm, h => by
    have hx := hm x (by simp)
    rw [List.flatMap_cons, List.append_assoc]
    unfold decP
    rw [vecK_vcB x hx]
    simp only [hx, if_true]
    rw [decP_enc L k (l ++ [x]) (fun y hy => hm y (by simp [hy])) (by simpa using h), List.append_assoc]
    rfl
theorem encR_ok {L : List Vc} {b : List Int} (h : encR L = (b, 0)) : L.length ≤ 64 ∧ L ≠ [] ∧ (∀ x ∈ L, mayB x = true) ∧ b = [0, 1, 2] ++ (L.flatMap vcB ++ [0, 0, 0, 0]) := by
  unfold encR at h
  split at h
  · simp at h
  split at h
  · simp at h
  rename_i h1 h2
  simp only [Prod.mk.injEq, and_true] at h
  refine ⟨by omega, fun e => h2 (.inl e), fun x hx => ?_, ?_⟩
  · cases hm : mayB x
    · exact absurd (.inr (List.any_eq_true.2 ⟨x, hx, by simp [hm]⟩)) h2
    · rfl
  · rw [← h]; simp [encB]
theorem enc_decP {L : List Vc} {b : List Int} (h : encR L = (b, 0)) : decodeP b = (L, 0) := by
  obtain ⟨h1, h2, h3, rfl⟩ := encR_ok h
  unfold decodeP
  rw [if_neg (by simp)]
  have e : ([0, 1, 2] ++ (L.flatMap vcB ++ [0, 0, 0, 0])).drop 3 = L.flatMap vcB ++ [0, 0, 0, 0] := rfl
  rw [e, decP_enc L 64 [] h3 h1, List.nil_append, if_pos h]
theorem decP_ok {b : List Int} (h : (decodeP b).2 = 0) : encR (decodeP b).1 = (b, 0) := by
  unfold decodeP at h ⊢
  split at h
  · simp at h
  split at h
  · rename_i h1 h2; rw [if_neg h1, if_pos h2]; exact h2
  · simp at h
theorem decP_bad {b : List Int} (h7 : ¬ b.length < 7) (h : (decodeP b).2 ≠ 0) : decodeP b = ([], 290) := by
  unfold decodeP at h ⊢
  rw [if_neg h7] at h ⊢
  split at h
  · simp at h
  · rename_i h1; rw [if_neg h1]
end Go.Ai
