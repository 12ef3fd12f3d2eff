/- Contracts of functions of the loaded program: called with data in the ranges that each names, it returns this value and writes to no old memory. -/
import Derived.Test.YtdojjjjhbgkpfaaAiRh
set_option linter.unusedVariables false
set_option linter.unusedSimpArgs false
set_option maxHeartbeats 4000000
set_option maxRecDepth 100000
namespace Go.Ai
open Go.Proofs
attribute [local go_sem] QH QR V.noimm V.noimms frzZs frzZ frzA frzV frzVs frzBox boxLen Option.isSome cond_true cond_false aopD calW flatV stepX amap stepY alookup afind aupdate adelete amlen arange ameq mapOf akeq pl V.mapT V.mapTs Option.bind stepK runK guardD stepE runD callD compact selB callK evS ofVal ofVals scalar aop ares mkRes V.rn V.rns V.cells? cellsAt Go.Ai.part aload astore setL V.atom abin aun intBin shiftBin aconv fieldOf aindexAddr aindex bound? aslice aarr abuild afill alen nilP nilS nilF aeq eqCells eqCell Go.Ai.known strBin abuiltin aappend abuildSlice arowsFill amakeSlice acopy aclear minmax rowsOf numsT notStr isIntD isByte V.pz V.pzs T.toV frz1 frz scalT scalTs chunkT List.range List.range.loop ite_true ite_false if_true if_false ne_eq implies_true forall_const eq_self IntKind.bits kPostKF_ret kPostKF_normal kPostX_ret kPostX_normal bsl nil2K nil2 kPostFW_ret kPostFW_normal kPostKM_ret kPostKM_normal kPostXK_ret kPostXK_normal
/-- What stands for three. -/
def pk3 (c : List Int) : Int := (c.getD 0 0 * 6 + c.getD 1 0) * 6 + c.getD 2 0
def hdN (x : Vc) : Int := if x.al then (x.l.length : Int) + 8192 else (x.l.length : Int)
def vcH (x : Vc) : List Int := twoL (hdN x) ++ twoL x.fi
def vcB (x : Vc) : List Int := vcH x ++ (List.range (chN x.l.length)).map fun k => pk3 (chk x.l k)
def encB (L : List Vc) : List Int := [0, 1, 2] ++ L.flatMap vcB
def encR (L : List Vc) : List Int × Int := if (64 : Int) < L.length then ([], 3) else if L = [] ∨ L.any (fun x => !mayB x) = true then ([], 290) else (encB L ++ [0, 0, 0, 0], 0)
theorem vcB_len (x : Vc) (h : x.l.length ≤ 64) : (vcB x).length ≤ 26 := by
  unfold vcB vcH twoL chN
  simp
  omega
theorem encB_len : ∀ (L : List Vc), (∀ x ∈ L, x.l.length ≤ 64) → (encB L).length ≤ 3 + 26 * L.length := by
  intro L
  unfold encB
  induction L with
  | nil => intro _; simp
  | cons x L ih =>
    intro h
    have h1 := vcB_len x (h x (by simp))
    have h2 := ih fun y hy => h y (by simp [hy])
    simp only [List.length_append, List.flatMap_cons, List.length_cons, List.length_nil] at h2 ⊢
    omega
theorem mayB_of {x : Vc} (h : mayB x = true) : 1 ≤ x.fi ∧ x.fi ≤ 4094 ∧ x.l.length ≤ 64 ∧ ∀ a ∈ x.l, 0 ≤ a ∧ a ≤ 5 := by
  unfold mayB badA at h
  simp only [Bool.and_eq_true, Bool.not_eq_true', Bool.or_eq_false_iff, decide_eq_false_iff_not, List.any_eq_false] at h
  obtain ⟨⟨⟨⟨⟨h1, h2⟩, h3⟩, h4⟩, _⟩, h5⟩ := h
  refine ⟨by omega, by omega, by omega, fun a ha => ?_⟩
  have := h5 a ha
  simp at this
  omega
theorem chk_cases (l : List Int) (h : ∀ a ∈ l, 0 ≤ a ∧ a ≤ 5) (k : Nat) : chk l k = [] ∨ (∃ a, chk l k = [a] ∧ 0 ≤ a ∧ a ≤ 5) ∨ (∃ a b, chk l k = [a, b] ∧ (0 ≤ a ∧ a ≤ 5) ∧ 0 ≤ b ∧ b ≤ 5) ∨ ∃ a b d, chk l k = [a, b, d] ∧ (0 ≤ a ∧ a ≤ 5) ∧ (0 ≤ b ∧ b ≤ 5) ∧ 0 ≤ d ∧ d ≤ 5 := by
  have hl : (chk l k).length ≤ 3 := by unfold chk; rw [List.length_take]; omega
  have hm : ∀ a ∈ chk l k, 0 ≤ a ∧ a ≤ 5 := fun a ha => h a (List.mem_of_mem_drop (List.mem_of_mem_take ha))
  match hc : chk l k with
  | [] => exact .inl rfl
  | [a] => rw [hc] at hm; exact .inr (.inl ⟨a, rfl, hm a (by simp)⟩)
  | [a, b] => rw [hc] at hm; exact .inr (.inr (.inl ⟨a, b, rfl, hm a (by simp), hm b (by simp)⟩))
  | [a, b, d] => rw [hc] at hm; exact .inr (.inr (.inr ⟨a, b, d, rfl, hm a (by simp), hm b (by simp), hm d (by simp)⟩))
  | _ :: _ :: _ :: _ :: _ => rw [hc] at hl; simp at hl
def El11 (L : List Vc) (n : Nat) (S : St) : Prop :=
  ∃ (j : Nat) (bs : List Int) (mv : List Nat), S = ⟨tms [(4, .ptr 1 0 0), (21, vcsV L), (22, vI L.length), (23, vI j)], [.rows 1 (bs.map byT) false, .box [.own 0 0 bs.length] false], mv⟩ ∧ j ≤ L.length ∧ n = L.length - j ∧ bs = encB (L.take j)
def JR (bs : List Int) (x : Vc) (pre : List Nat) (σ : List Blk) : Prop :=
  ∃ BS : List Int, σ = [.rows 1 (BS.map byT) false, .box [.own 0 0 BS.length] false, .box [vB x.al, vI x.fi, isV x.l] false] ∧ BS = bs ++ vcH x ++ pre.map fun k => pk3 (chk x.l k)
theorem mc11 (L : List Vc) (hL : ∀ x ∈ L, x.l.length ≤ 100000) : AC Try.prog 11 [vcsV L] [] (eqR (.tuple [bysV (encR L).1, vI (encR L).2])) := by
  unfold encR
  refine AC_frozenW orders Try.func11 rfl (by kernel_rfl) (by kernel_rfl) Try.ntmps11 (by simp) ?_
  unfold Try.f11
  by_cases h64 : (64 : Int) < (L.length : Int)
  · rw [if_pos h64]
    (have hwq := trivial; repeat' (first | simp (maxSteps:=9999999)-implicitDefEqProofs only [go_sem,simprocAttr,hwq,u3,a3,c3,b3,z3,k3,u4,a4,c4,b4,z4,k4,u5,a5,c5,b5,z5,k5,u22,a22,c22,b22,z22,k22,u23,a23,c23,b23,z23,k23,u26,a26,c26,b26,z26,k26,u82,a82,c82,b82,z82,k82,u84,a84,c84,b84,z84,k84,u86,u91,a91,c91,b91,z91,k91,u92,a92,c92,b92,z92,k92,l92,h64,List.length_map] | (refine condK_split ?_ ?_ <;> intro hwq) | (refine two_split ?_ ?_) | (refine guardK_split ?_ ?_ <;> intro hwq) | (refine guardE_split ?_ ?_ <;> intro hwq) | (refine awp_drawW [] (by decide +kernel) ?_; have hwq := trivial) | fail))
    exact ⟨_, rfl, by simp [V.leT, V.le, V.les]⟩
  rw [if_neg h64]
  by_cases h0 : L = []
  · subst h0
    rw [if_pos (.inl rfl)]
    (have hwq := trivial; repeat' (first | simp (maxSteps:=9999999)-implicitDefEqProofs only [go_sem,simprocAttr,hwq,u3,a3,c3,b3,z3,k3,u4,a4,c4,b4,z4,k4,u5,a5,c5,b5,z5,k5,u22,a22,c22,b22,z22,k22,u23,a23,c23,b23,z23,k23,u26,a26,c26,b26,z26,k26,u82,a82,c82,b82,z82,k82,u84,a84,c84,b84,z84,k84,u86,u91,a91,c91,b91,z91,k91,u92,a92,c92,b92,z92,k92,l92,h64,List.length_map] | (refine condK_split ?_ ?_ <;> intro hwq) | (refine two_split ?_ ?_) | (refine guardK_split ?_ ?_ <;> intro hwq) | (refine guardE_split ?_ ?_ <;> intro hwq) | (refine awp_drawW [] (by decide +kernel) ?_; have hwq := trivial) | fail))
    exact ⟨_, rfl, by simp [V.leT, V.le, V.les]⟩
  have hz : ((L.length : Int) == 0) = false := by simpa using h0
  have h40 := mc40 41 (fun x => !mayB x) L (by omega) (fun x hx => mc41 x (hL x hx))
  cases hany : L.any (fun x => !mayB x) with
  | true =>
    rw [hany] at h40
    rw [if_pos (.inr rfl)]
    (have hwq := trivial; repeat' (first | simp (maxSteps:=9999999)-implicitDefEqProofs only [go_sem,simprocAttr,hwq,u3,a3,c3,b3,z3,k3,u4,a4,c4,b4,z4,k4,u5,a5,c5,b5,z5,k5,u22,a22,c22,b22,z22,k22,u23,a23,c23,b23,z23,k23,u26,a26,c26,b26,z26,k26,u82,a82,c82,b82,z82,k82,u84,a84,c84,b84,z84,k84,u86,u91,a91,c91,b91,z91,k91,u92,a92,c92,b92,z92,k92,l92,h64,hz,List.length_map] | (refine condK_split ?_ ?_ <;> intro hwq) | (refine two_split ?_ ?_) | (refine guardK_split ?_ ?_ <;> intro hwq) | (refine guardE_split ?_ ?_ <;> intro hwq) | (refine awp_drawW [] (by decide +kernel) ?_; have hwq := trivial) | (refine call_data h40 rfl (V.les_refl _) rfl ?_; have hwq := trivial) | fail))
    exact ⟨_, rfl, by simp [V.leT, V.le, V.les]⟩
  | false =>
    rw [hany] at h40
    rw [if_neg (by simp [h0])]
    have hmay : ∀ x ∈ L, mayB x = true := by simpa using hany
    have h6 : ∀ x ∈ L, x.l.length ≤ 64 := fun x hx => (mayB_of (hmay x hx)).2.2.1
    (have hwq := trivial; repeat' (first | simp (maxSteps:=9999999)-implicitDefEqProofs only [go_sem,simprocAttr,hwq,u3,a3,c3,b3,z3,k3,u4,a4,c4,b4,z4,k4,u5,a5,c5,b5,z5,k5,u22,a22,c22,b22,z22,k22,u23,a23,c23,b23,z23,k23,u26,a26,c26,b26,z26,k26,u82,a82,c82,b82,z82,k82,u84,a84,c84,b84,z84,k84,u86,u91,a91,c91,b91,z91,k91,u92,a92,c92,b92,z92,k92,l92,h64,hz,List.length_map] | (refine condK_split ?_ ?_ <;> intro hwq) | (refine two_split ?_ ?_) | (refine guardK_split ?_ ?_ <;> intro hwq) | (refine guardE_split ?_ ?_ <;> intro hwq) | (refine awp_drawW [] (by decide +kernel) ?_; have hwq := trivial) | (refine call_data h40 rfl (V.les_refl _) rfl ?_; have hwq := trivial) | fail))
    refine awp_loopK (El11 L) L.length _ (Weak.cutI 2 [4, 21, 22, 23] ?_ ?_) ⟨0, [0, 1, 2], _, rfl, by omega, rfl, rfl⟩ ?_
    · simp (maxSteps:=9999999)-implicitDefEqProofs only [simprocAttr,QH,Option.isSome,cond_true,cond_false,Option.bind,selB,V.rn,V.rns,Go.Ai.known,V.pz,V.pzs,T.toV,frz1,List.range,List.range.loop,ite_true,ite_false,if_true,if_false,ne_eq,implies_true,forall_const,eq_self,IntKind.bits,upd_tmsS,selT_cons,selT_nil,List.length_map,List.getElem?_map,Int.natCast_nonneg,List.length_append,List.map_append]
    · simp (maxSteps:=9999999)-implicitDefEqProofs only [simprocAttr,QH,Option.isSome,cond_true,cond_false,Option.bind,selB,V.rn,V.rns,Go.Ai.known,V.pz,V.pzs,T.toV,frz1,List.range,List.range.loop,ite_true,ite_false,if_true,if_false,ne_eq,implies_true,forall_const,eq_self,IntKind.bits,upd_tmsS,selT_cons,selT_nil,List.length_map,List.getElem?_map,Int.natCast_nonneg,List.length_append,List.map_append]
    rintro kk S ⟨j, bs, mv, rfl, hj, rfl, hbs⟩
    have wj : IntKind.i64.wrap ((j : Int) + 1) = (j : Int) + 1 := wI64 _ (by omega) (by omega)
    have hbl : bs.length ≤ 3 + 26 * 64 := by
      rw [hbs]
      have := encB_len (L.take j) fun x hx => h6 x (List.mem_of_mem_take hx)
      rw [List.length_take] at this
      omega
    by_cases hjl : j < L.length
    · have hjl' : (j : Int) < (L.length : Int) := by omega
      have hgj : L[j]? = some L[j] := List.getElem?_eq_getElem hjl
      obtain ⟨x, hx⟩ : ∃ x, L[j] = x := ⟨_, rfl⟩
      rw [hx] at hgj
      have hm := hmay x (mem_in hgj)
      obtain ⟨b1, b2, b3, b6⟩ := mayB_of hm
      have h43b := mc43 x.fi (by omega) (by omega)
      have wl : IntKind.i64.wrap ((x.l.length : Int) + 8192) = (x.l.length : Int) + 8192 := wI64 _ (by omega) (by omega)
      have h44 := mc44 x.l
      have gb1 : bs.length + 2 ≤ 140737488355328 := by omega
      have gb2 : bs.length + 2 + 2 ≤ 140737488355328 := by omega
      have l4a : (twoL (hdN x)).length = 2 := rfl
      have l4b : (twoL x.fi).length = 2 := rfl
      have hnew : bs ++ vcH x ++ (List.range (chN x.l.length)).map (fun k => pk3 (chk x.l k)) = encB (L.take (j + 1)) := by
        rw [take_in hgj, hbs]
        unfold encB vcB
        simp [List.flatMap_append]
      have key : ∀ (al : Bool), x.al = al → AC Try.prog 43 [vI (if al then (x.l.length : Int) + 8192 else (x.l.length : Int))] [] (eqR (bysV (twoL (hdN x)))) := by
        intro al e
        unfold hdN
        rw [e]
        exact mc43 _ (by cases al <;> simp <;> omega) (by cases al <;> simp <;> omega)
      cases hal : x.al with
      | true =>
        have h43a := key true hal
        rw [if_pos rfl] at h43a
        (have hwq := trivial; repeat' (first | simp (maxSteps:=9999999)-implicitDefEqProofs only [go_sem,simprocAttr,hwq,u3,a3,c3,b3,z3,k3,u4,a4,c4,b4,z4,k4,u5,a5,c5,b5,z5,k5,u22,a22,c22,b22,z22,k22,u23,a23,c23,b23,z23,k23,u26,a26,c26,b26,z26,k26,u82,a82,c82,b82,z82,k82,u84,a84,c84,b84,z84,k84,u86,u91,a91,c91,b91,z91,k91,u92,a92,c92,b92,z92,k92,l92,List.length_map,List.getElem?_map,Int.natCast_nonneg,List.length_append,List.map_append,hjl',hgj,wj,wl,hal,gb1,gb2,l4a,l4b,awpTr_noneT,awpTr_altT,trK_eq,TrAnd_true,List.length_map] | (refine condK_split ?_ ?_ <;> intro hwq) | (refine two_split ?_ ?_) | (refine guardK_split ?_ ?_ <;> intro hwq) | (refine guardE_split ?_ ?_ <;> intro hwq) | (refine awp_drawW [] (by decide +kernel) ?_; have hwq := trivial) | (refine draw_plain h43a rfl (fun _ => rfl) ?_; have hwq := trivial) | (refine draw_plain h43b rfl (fun _ => rfl) ?_; have hwq := trivial) | (refine trAnd_mk ?_ ?_; have hwq := trivial) | fail))
        refine awp_tree [] (.alt 0 (.alt 1 (.alt 2 (.alt 3 (.alt 4 (.alt 5 (.alt 6 (.alt 7 (.alt 8 .leaf .none) .none) .none) .none) .none) (.alt 4 (.alt 3 (.alt 5 (.alt 6 (.alt 7 (.alt 8 .leaf .none) .none) .none) .none) (.alt 5 (.alt 3 (.alt 6 (.alt 7 (.alt 8 .leaf .none) .none) .none) .none) .none)) .none)) (.alt 4 (.alt 2 (.alt 3 (.alt 5 (.alt 6 (.alt 7 (.alt 8 .leaf .none) .none) .none) .none) (.alt 5 (.alt 3 (.alt 6 (.alt 7 (.alt 8 .leaf .none) .none) .none) .none) .none)) (.alt 5 (.alt 2 (.alt 3 (.alt 6 (.alt 7 (.alt 8 .leaf .none) .none) .none) .none) .none) .none)) .none)) (.alt 4 (.alt 1 (.alt 2 (.alt 3 (.alt 5 (.alt 6 (.alt 7 (.alt 8 .leaf .none) .none) .none) .none) (.alt 5 (.alt 3 (.alt 6 (.alt 7 (.alt 8 .leaf .none) .none) .none) .none) .none)) (.alt 5 (.alt 2 (.alt 3 (.alt 6 (.alt 7 (.alt 8 .leaf .none) .none) .none) .none) .none) .none)) (.alt 5 (.alt 1 (.alt 2 (.alt 3 (.alt 6 (.alt 7 (.alt 8 .leaf .none) .none) .none) .none) .none) .none) .none)) .none)) (.alt 1 (.alt 0 (.alt 2 (.alt 3 (.alt 4 (.alt 5 (.alt 6 (.alt 7 (.alt 8 .leaf .none) .none) .none) .none) .none) (.alt 4 (.alt 3 (.alt 5 (.alt 6 (.alt 7 (.alt 8 .leaf .none) .none) .none) .none) (.alt 5 (.alt 3 (.alt 6 (.alt 7 (.alt 8 .leaf .none) .none) .none) .none) .none)) .none)) (.alt 4 (.alt 2 (.alt 3 (.alt 5 (.alt 6 (.alt 7 (.alt 8 .leaf .none) .none) .none) .none) (.alt 5 (.alt 3 (.alt 6 (.alt 7 (.alt 8 .leaf .none) .none) .none) .none) .none)) (.alt 5 (.alt 2 (.alt 3 (.alt 6 (.alt 7 (.alt 8 .leaf .none) .none) .none) .none) .none) .none)) .none)) (.alt 2 (.alt 0 (.alt 3 (.alt 4 (.alt 5 (.alt 6 (.alt 7 (.alt 8 .leaf .none) .none) .none) .none) .none) (.alt 4 (.alt 3 (.alt 5 (.alt 6 (.alt 7 (.alt 8 .leaf .none) .none) .none) .none) (.alt 5 (.alt 3 (.alt 6 (.alt 7 (.alt 8 .leaf .none) .none) .none) .none) .none)) .none)) (.alt 4 (.alt 0 (.alt 3 (.alt 5 (.alt 6 (.alt 7 (.alt 8 .leaf .none) .none) .none) .none) (.alt 5 (.alt 3 (.alt 6 (.alt 7 (.alt 8 .leaf .none) .none) .none) .none) .none)) (.alt 5 (.alt 0 (.alt 3 (.alt 6 (.alt 7 (.alt 8 .leaf .none) .none) .none) .none) .none) .none)) .none)) (.alt 4 (.alt 0 (.alt 2 (.alt 3 (.alt 5 (.alt 6 (.alt 7 (.alt 8 .leaf .none) .none) .none) .none) (.alt 5 (.alt 3 (.alt 6 (.alt 7 (.alt 8 .leaf .none) .none) .none) .none) .none)) (.alt 5 (.alt 2 (.alt 3 (.alt 6 (.alt 7 (.alt 8 .leaf .none) .none) .none) .none) .none) .none)) (.alt 2 (.alt 0 (.alt 3 (.alt 5 (.alt 6 (.alt 7 (.alt 8 .leaf .none) .none) .none) .none) (.alt 5 (.alt 3 (.alt 6 (.alt 7 (.alt 8 .leaf .none) .none) .none) .none) .none)) (.alt 5 (.alt 0 (.alt 3 (.alt 6 (.alt 7 (.alt 8 .leaf .none) .none) .none) .none) .none) .none)) (.alt 5 (.alt 0 (.alt 2 (.alt 3 (.alt 6 (.alt 7 (.alt 8 .leaf .none) .none) .none) .none) .none) (.alt 2 (.alt 0 (.alt 3 (.alt 6 (.alt 7 (.alt 8 .leaf .none) .none) .none) .none) .none) .none)) .none))) .none))) (.alt 4 (.alt 0 (.alt 1 (.alt 2 (.alt 3 (.alt 5 (.alt 6 (.alt 7 (.alt 8 .leaf .none) .none) .none) .none) (.alt 5 (.alt 3 (.alt 6 (.alt 7 (.alt 8 .leaf .none) .none) .none) .none) .none)) (.alt 5 (.alt 2 (.alt 3 (.alt 6 (.alt 7 (.alt 8 .leaf .none) .none) .none) .none) .none) .none)) (.alt 5 (.alt 1 (.alt 2 (.alt 3 (.alt 6 (.alt 7 (.alt 8 .leaf .none) .none) .none) .none) .none) .none) .none)) (.alt 1 (.alt 0 (.alt 2 (.alt 3 (.alt 5 (.alt 6 (.alt 7 (.alt 8 .leaf .none) .none) .none) .none) (.alt 5 (.alt 3 (.alt 6 (.alt 7 (.alt 8 .leaf .none) .none) .none) .none) .none)) (.alt 5 (.alt 2 (.alt 3 (.alt 6 (.alt 7 (.alt 8 .leaf .none) .none) .none) .none) .none) .none)) (.alt 2 (.alt 0 (.alt 3 (.alt 5 (.alt 6 (.alt 7 (.alt 8 .leaf .none) .none) .none) .none) (.alt 5 (.alt 3 (.alt 6 (.alt 7 (.alt 8 .leaf .none) .none) .none) .none) .none)) (.alt 5 (.alt 0 (.alt 3 (.alt 6 (.alt 7 (.alt 8 .leaf .none) .none) .none) .none) .none) .none)) (.alt 5 (.alt 0 (.alt 2 (.alt 3 (.alt 6 (.alt 7 (.alt 8 .leaf .none) .none) .none) .none) .none) (.alt 2 (.alt 0 (.alt 3 (.alt 6 (.alt 7 (.alt 8 .leaf .none) .none) .none) .none) .none) .none)) .none))) (.alt 5 (.alt 0 (.alt 1 (.alt 2 (.alt 3 (.alt 6 (.alt 7 (.alt 8 .leaf .none) .none) .none) .none) .none) .none) (.alt 1 (.alt 0 (.alt 2 (.alt 3 (.alt 6 (.alt 7 (.alt 8 .leaf .none) .none) .none) .none) .none) (.alt 2 (.alt 0 (.alt 3 (.alt 6 (.alt 7 (.alt 8 .leaf .none) .none) .none) .none) .none) .none)) .none)) .none))) .none))) ⟨tms [(4, .ptr 1 0 0), (6, .ptr 2 0 0), (21, vcsV L), (22, vI L.length), (23, vI j)], [.rows 1 (bs.map byT ++ (twoL (hdN x)).map byT ++ (twoL x.fi).map byT) false, .box [.own 0 0 (bs.length + 2 + 2)] false, .box [vB true, vI x.fi, isV x.l] false], mv ++ [0] ++ [0] ++ List.range' 3 0⟩ (by decide +kernel) ?_ ?_
        · (have hwq := trivial; repeat' (first | simp (maxSteps:=9999999)-implicitDefEqProofs only [go_sem,simprocAttr,hwq,u3,a3,c3,b3,z3,k3,u4,a4,c4,b4,z4,k4,u5,a5,c5,b5,z5,k5,u22,a22,c22,b22,z22,k22,u23,a23,c23,b23,z23,k23,u26,a26,c26,b26,z26,k26,u82,a82,c82,b82,z82,k82,u84,a84,c84,b84,z84,k84,u86,u91,a91,c91,b91,z91,k91,u92,a92,c92,b92,z92,k92,l92,List.length_map,List.getElem?_map,Int.natCast_nonneg,List.length_append,List.map_append,hjl',hgj,wj,wl,hal,gb1,gb2,l4a,l4b,awpTr_noneT,awpTr_altT,trK_eq,TrAnd_true,List.length_map] | (refine condK_split ?_ ?_ <;> intro hwq) | (refine two_split ?_ ?_) | (refine guardK_split ?_ ?_ <;> intro hwq) | (refine guardE_split ?_ ?_ <;> intro hwq) | (refine awp_drawW [] (by decide +kernel) ?_; have hwq := trivial) | (refine draw_plain h43a rfl (fun _ => rfl) ?_; have hwq := trivial) | (refine draw_plain h43b rfl (fun _ => rfl) ?_; have hwq := trivial) | (refine trAnd_mk ?_ ?_; have hwq := trivial) | fail))
          all_goals (refine awpTr_leaf (Weak.cutI 3 [4, 6, 21, 22, 23] ?_ ?_) <;> simp (maxSteps:=9999999)-implicitDefEqProofs only [simprocAttr,QH,Option.isSome,cond_true,cond_false,Option.bind,selB,V.rn,V.rns,Go.Ai.known,V.pz,V.pzs,T.toV,frz1,List.range,List.range.loop,ite_true,ite_false,if_true,if_false,ne_eq,implies_true,forall_const,eq_self,IntKind.bits,upd_tmsS,selT_cons,selT_nil,List.length_map,List.getElem?_map,Int.natCast_nonneg,List.length_append,List.map_append,l4a,l4b])
        (have hwq := trivial; repeat' (first | simp (maxSteps:=9999999)-implicitDefEqProofs only [go_sem,simprocAttr,hwq,u3,a3,c3,b3,z3,k3,u4,a4,c4,b4,z4,k4,u5,a5,c5,b5,z5,k5,u22,a22,c22,b22,z22,k22,u23,a23,c23,b23,z23,k23,u26,a26,c26,b26,z26,k26,u82,a82,c82,b82,z82,k82,u84,a84,c84,b84,z84,k84,u86,u91,a91,c91,b91,z91,k91,u92,a92,c92,b92,z92,k92,l92,List.length_map,List.getElem?_map,Int.natCast_nonneg,List.length_append,List.map_append,h44] | (refine condK_split ?_ ?_ <;> intro hwq) | (refine two_split ?_ ?_) | (refine guardK_split ?_ ?_ <;> intro hwq) | (refine guardE_split ?_ ?_ <;> intro hwq) | (refine awp_drawW [] (by decide +kernel) ?_; have hwq := trivial) | (refine call_data h44 rfl (V.les_refl _) rfl ?_; have hwq := trivial) | fail))
        refine awp_range (rangeBy_mv (α := Nat) (gf := 70) (lbV := [.iref [.sl 1 (x.l.map inT)], .iref [.s (.int .i64 3)]]) (p0 := 45) (p1 := 8) (tms [(4, .ptr 1 0 0), (21, vcsV L), (22, vI L.length), (23, vI j)]) [0] (JR bs x) (fun ys => ys = List.range (chN x.l.length)) (chN x.l.length) (fun k => isV (chk x.l k)) rfl (by kernel_rfl) rfl ?_ ?_ ?_ ?_ ?_ ?_ ?_ ?_) ?_
        · intro N h
          simpa [codeOKr, opsOK, nodef] using h
        · intro F m tmps W K hK
          exact wpIn_assign1 hK
        · refine tms_sub ?_
          intro p hp
          simp only [List.mem_cons, List.not_mem_nil, or_false] at hp
          rcases hp with rfl | rfl | rfl | rfl <;> rfl
        · intro mv2 hmv
          have h1 : 1 ∉ mv2 := fun h => by rcases hmv 1 h with h2 | h2 <;> simp at h2
          refine tms_pz ?_
          intro p hp
          simp only [List.mem_cons, List.not_mem_nil, or_false] at hp
          rcases hp with rfl | rfl | rfl | rfl <;> simp [V.pz, h1]
        · rintro pre σ ⟨BS, rfl, _⟩
          simp [cellsOnly, Blk.cellsK]
        · refine ⟨bs ++ vcH x, ?_, by simp⟩
          simp [vcH, hal, l4a, l4b, Nat.add_assoc]
        · intro β I w lb hi hv
          exact chunk_stops x.l (by omega) hi hv
        · rintro pre k σ ⟨BS, rfl, hBS⟩ hlen
          have hcn : chN x.l.length ≤ 22 := by unfold chN; omega
          have hgB : BS.length + 1 ≤ 140737488355328 := by
            rw [hBS]
            simp only [List.length_append, List.length_map, vcH, l4a, l4b]
            omega
          rcases chk_cases x.l b6 k with hck | ⟨a, hck, ha⟩ | ⟨a, b, hck, ha, hb⟩ | ⟨a, b, d, hck, ha, hb, hd⟩
          · have hpk : pk3 (chk x.l k) = (0 * 6 + 0) * 6 + 0 := by rw [hck]; rfl
            have x1 : IntKind.i64.wrap (0 * 6) = 0 * 6 := wI64 _ (by omega) (by omega)
            have x2 : IntKind.i64.wrap (0 * 6 + 0) = 0 * 6 + 0 := wI64 _ (by omega) (by omega)
            have x3 : IntKind.i64.wrap ((0 * 6 + 0) * 6) = (0 * 6 + 0) * 6 := wI64 _ (by omega) (by omega)
            have x4 : IntKind.i64.wrap ((0 * 6 + 0) * 6 + 0) = (0 * 6 + 0) * 6 + 0 := wI64 _ (by omega) (by omega)
            have x5 : IntKind.u8.wrap ((0 * 6 + 0) * 6 + 0) = (0 * 6 + 0) * 6 + 0 := by simp only [IntKind.wrap_u8]; omega
            rw [hck]
            (have hwq := trivial; repeat' (first | simp (maxSteps:=9999999)-implicitDefEqProofs only [go_sem,simprocAttr,hwq,u3,a3,c3,b3,z3,k3,u4,a4,c4,b4,z4,k4,u5,a5,c5,b5,z5,k5,u22,a22,c22,b22,z22,k22,u23,a23,c23,b23,z23,k23,u26,a26,c26,b26,z26,k26,u82,a82,c82,b82,z82,k82,u84,a84,c84,b84,z84,k84,u86,u91,a91,c91,b91,z91,k91,u92,a92,c92,b92,z92,k92,l92,List.length_map,List.getElem?_map,Int.natCast_nonneg,List.length_append,List.map_append,hgB,x1,x2,x3,x4,x5,List.map_cons,List.map_nil,upd_tmsS,setT,List.forall_mem_cons,List.forall_mem_nil,forall_eq_or_imp,forall_eq,List.mem_cons,List.not_mem_nil,List.length_cons,List.length_nil,List.take_succ_cons,List.take_zero,List.take_nil,List.flatten_cons,List.flatten_nil,List.append_nil,List.nil_append,List.cons_append,List.drop_succ_cons,List.drop_zero,List.drop_nil,or_false] | (refine condK_split ?_ ?_ <;> intro hwq) | (refine two_split ?_ ?_) | (refine guardK_split ?_ ?_ <;> intro hwq) | (refine guardE_split ?_ ?_ <;> intro hwq) | (refine awp_drawW [] (by decide +kernel) ?_; have hwq := trivial) | fail))
            refine ⟨_, _, ⟨BS ++ [pk3 (chk x.l k)], rfl, by rw [hBS]; simp⟩, ?_, Weak.cutI (l := []) 3 [] rfl ?_⟩
            · simp [List.mem_range'_1]
              intro t h1 h2
              exact .inr h1
            · rw [hpk]
              simp (maxSteps:=9999999)-implicitDefEqProofs only [simprocAttr,QH,Option.isSome,cond_true,cond_false,Option.bind,selB,V.rn,V.rns,Go.Ai.known,V.pz,V.pzs,T.toV,frz1,List.range,List.range.loop,ite_true,ite_false,if_true,if_false,ne_eq,implies_true,forall_const,eq_self,IntKind.bits,upd_tmsS,selT_cons,selT_nil,List.length_map,List.getElem?_map,Int.natCast_nonneg,List.length_append,List.map_append,List.map_cons,List.map_nil,List.length_cons,List.length_nil]
          · have hpk : pk3 (chk x.l k) = (a * 6 + 0) * 6 + 0 := by rw [hck]; rfl
            have x1 : IntKind.i64.wrap (a * 6) = a * 6 := wI64 _ (by omega) (by omega)
            have x2 : IntKind.i64.wrap (a * 6 + 0) = a * 6 + 0 := wI64 _ (by omega) (by omega)
            have x3 : IntKind.i64.wrap ((a * 6 + 0) * 6) = (a * 6 + 0) * 6 := wI64 _ (by omega) (by omega)
            have x4 : IntKind.i64.wrap ((a * 6 + 0) * 6 + 0) = (a * 6 + 0) * 6 + 0 := wI64 _ (by omega) (by omega)
            have x5 : IntKind.u8.wrap ((a * 6 + 0) * 6 + 0) = (a * 6 + 0) * 6 + 0 := by simp only [IntKind.wrap_u8]; omega
            rw [hck]
            (have hwq := trivial; repeat' (first | simp (maxSteps:=9999999)-implicitDefEqProofs only [go_sem,simprocAttr,hwq,u3,a3,c3,b3,z3,k3,u4,a4,c4,b4,z4,k4,u5,a5,c5,b5,z5,k5,u22,a22,c22,b22,z22,k22,u23,a23,c23,b23,z23,k23,u26,a26,c26,b26,z26,k26,u82,a82,c82,b82,z82,k82,u84,a84,c84,b84,z84,k84,u86,u91,a91,c91,b91,z91,k91,u92,a92,c92,b92,z92,k92,l92,List.length_map,List.getElem?_map,Int.natCast_nonneg,List.length_append,List.map_append,hgB,x1,x2,x3,x4,x5,List.map_cons,List.map_nil,upd_tmsS,setT,List.forall_mem_cons,List.forall_mem_nil,forall_eq_or_imp,forall_eq,List.mem_cons,List.not_mem_nil,List.length_cons,List.length_nil,List.take_succ_cons,List.take_zero,List.take_nil,List.flatten_cons,List.flatten_nil,List.append_nil,List.nil_append,List.cons_append,List.drop_succ_cons,List.drop_zero,List.drop_nil,or_false] | (refine condK_split ?_ ?_ <;> intro hwq) | (refine two_split ?_ ?_) | (refine guardK_split ?_ ?_ <;> intro hwq) | (refine guardE_split ?_ ?_ <;> intro hwq) | (refine awp_drawW [] (by decide +kernel) ?_; have hwq := trivial) | fail))
            refine ⟨_, _, ⟨BS ++ [pk3 (chk x.l k)], rfl, by rw [hBS]; simp⟩, ?_, Weak.cutI (l := []) 3 [] rfl ?_⟩
            · simp [List.mem_range'_1]
              intro t h1 h2
              exact .inr h1
            · rw [hpk]
              simp (maxSteps:=9999999)-implicitDefEqProofs only [simprocAttr,QH,Option.isSome,cond_true,cond_false,Option.bind,selB,V.rn,V.rns,Go.Ai.known,V.pz,V.pzs,T.toV,frz1,List.range,List.range.loop,ite_true,ite_false,if_true,if_false,ne_eq,implies_true,forall_const,eq_self,IntKind.bits,upd_tmsS,selT_cons,selT_nil,List.length_map,List.getElem?_map,Int.natCast_nonneg,List.length_append,List.map_append,List.map_cons,List.map_nil,List.length_cons,List.length_nil]
          · have hpk : pk3 (chk x.l k) = (a * 6 + b) * 6 + 0 := by rw [hck]; rfl
            have x1 : IntKind.i64.wrap (a * 6) = a * 6 := wI64 _ (by omega) (by omega)
            have x2 : IntKind.i64.wrap (a * 6 + b) = a * 6 + b := wI64 _ (by omega) (by omega)
            have x3 : IntKind.i64.wrap ((a * 6 + b) * 6) = (a * 6 + b) * 6 := wI64 _ (by omega) (by omega)
            have x4 : IntKind.i64.wrap ((a * 6 + b) * 6 + 0) = (a * 6 + b) * 6 + 0 := wI64 _ (by omega) (by omega)
            have x5 : IntKind.u8.wrap ((a * 6 + b) * 6 + 0) = (a * 6 + b) * 6 + 0 := by simp only [IntKind.wrap_u8]; omega
            rw [hck]
            (have hwq := trivial; repeat' (first | simp (maxSteps:=9999999)-implicitDefEqProofs only [go_sem,simprocAttr,hwq,u3,a3,c3,b3,z3,k3,u4,a4,c4,b4,z4,k4,u5,a5,c5,b5,z5,k5,u22,a22,c22,b22,z22,k22,u23,a23,c23,b23,z23,k23,u26,a26,c26,b26,z26,k26,u82,a82,c82,b82,z82,k82,u84,a84,c84,b84,z84,k84,u86,u91,a91,c91,b91,z91,k91,u92,a92,c92,b92,z92,k92,l92,List.length_map,List.getElem?_map,Int.natCast_nonneg,List.length_append,List.map_append,hgB,x1,x2,x3,x4,x5,List.map_cons,List.map_nil,upd_tmsS,setT,List.forall_mem_cons,List.forall_mem_nil,forall_eq_or_imp,forall_eq,List.mem_cons,List.not_mem_nil,List.length_cons,List.length_nil,List.take_succ_cons,List.take_zero,List.take_nil,List.flatten_cons,List.flatten_nil,List.append_nil,List.nil_append,List.cons_append,List.drop_succ_cons,List.drop_zero,List.drop_nil,or_false] | (refine condK_split ?_ ?_ <;> intro hwq) | (refine two_split ?_ ?_) | (refine guardK_split ?_ ?_ <;> intro hwq) | (refine guardE_split ?_ ?_ <;> intro hwq) | (refine awp_drawW [] (by decide +kernel) ?_; have hwq := trivial) | fail))
            refine ⟨_, _, ⟨BS ++ [pk3 (chk x.l k)], rfl, by rw [hBS]; simp⟩, ?_, Weak.cutI (l := []) 3 [] rfl ?_⟩
            · simp [List.mem_range'_1]
              intro t h1 h2
              exact .inr h1
            · rw [hpk]
              simp (maxSteps:=9999999)-implicitDefEqProofs only [simprocAttr,QH,Option.isSome,cond_true,cond_false,Option.bind,selB,V.rn,V.rns,Go.Ai.known,V.pz,V.pzs,T.toV,frz1,List.range,List.range.loop,ite_true,ite_false,if_true,if_false,ne_eq,implies_true,forall_const,eq_self,IntKind.bits,upd_tmsS,selT_cons,selT_nil,List.length_map,List.getElem?_map,Int.natCast_nonneg,List.length_append,List.map_append,List.map_cons,List.map_nil,List.length_cons,List.length_nil]
          · have hpk : pk3 (chk x.l k) = (a * 6 + b) * 6 + d := by rw [hck]; rfl
            have x1 : IntKind.i64.wrap (a * 6) = a * 6 := wI64 _ (by omega) (by omega)
            have x2 : IntKind.i64.wrap (a * 6 + b) = a * 6 + b := wI64 _ (by omega) (by omega)
            have x3 : IntKind.i64.wrap ((a * 6 + b) * 6) = (a * 6 + b) * 6 := wI64 _ (by omega) (by omega)
            have x4 : IntKind.i64.wrap ((a * 6 + b) * 6 + d) = (a * 6 + b) * 6 + d := wI64 _ (by omega) (by omega)
            have x5 : IntKind.u8.wrap ((a * 6 + b) * 6 + d) = (a * 6 + b) * 6 + d := by simp only [IntKind.wrap_u8]; omega
            rw [hck]
            (have hwq := trivial; repeat' (first | simp (maxSteps:=9999999)-implicitDefEqProofs only [go_sem,simprocAttr,hwq,u3,a3,c3,b3,z3,k3,u4,a4,c4,b4,z4,k4,u5,a5,c5,b5,z5,k5,u22,a22,c22,b22,z22,k22,u23,a23,c23,b23,z23,k23,u26,a26,c26,b26,z26,k26,u82,a82,c82,b82,z82,k82,u84,a84,c84,b84,z84,k84,u86,u91,a91,c91,b91,z91,k91,u92,a92,c92,b92,z92,k92,l92,List.length_map,List.getElem?_map,Int.natCast_nonneg,List.length_append,List.map_append,hgB,x1,x2,x3,x4,x5,List.map_cons,List.map_nil,upd_tmsS,setT,List.forall_mem_cons,List.forall_mem_nil,forall_eq_or_imp,forall_eq,List.mem_cons,List.not_mem_nil,List.length_cons,List.length_nil,List.take_succ_cons,List.take_zero,List.take_nil,List.flatten_cons,List.flatten_nil,List.append_nil,List.nil_append,List.cons_append,List.drop_succ_cons,List.drop_zero,List.drop_nil,or_false] | (refine condK_split ?_ ?_ <;> intro hwq) | (refine two_split ?_ ?_) | (refine guardK_split ?_ ?_ <;> intro hwq) | (refine guardE_split ?_ ?_ <;> intro hwq) | (refine awp_drawW [] (by decide +kernel) ?_; have hwq := trivial) | fail))
            refine ⟨_, _, ⟨BS ++ [pk3 (chk x.l k)], rfl, by rw [hBS]; simp⟩, ?_, Weak.cutI (l := []) 3 [] rfl ?_⟩
            · simp [List.mem_range'_1]
              intro t h1 h2
              exact .inr h1
            · rw [hpk]
              simp (maxSteps:=9999999)-implicitDefEqProofs only [simprocAttr,QH,Option.isSome,cond_true,cond_false,Option.bind,selB,V.rn,V.rns,Go.Ai.known,V.pz,V.pzs,T.toV,frz1,List.range,List.range.loop,ite_true,ite_false,if_true,if_false,ne_eq,implies_true,forall_const,eq_self,IntKind.bits,upd_tmsS,selT_cons,selT_nil,List.length_map,List.getElem?_map,Int.natCast_nonneg,List.length_append,List.map_append,List.map_cons,List.map_nil,List.length_cons,List.length_nil]
        · rintro S' ⟨ys, σ, mv2, rfl, ⟨BS, rfl, hBS⟩, rfl⟩
          rw [hnew] at hBS
          (have hwq := trivial; repeat' (first | simp (maxSteps:=9999999)-implicitDefEqProofs only [go_sem,simprocAttr,hwq,u3,a3,c3,b3,z3,k3,u4,a4,c4,b4,z4,k4,u5,a5,c5,b5,z5,k5,u22,a22,c22,b22,z22,k22,u23,a23,c23,b23,z23,k23,u26,a26,c26,b26,z26,k26,u82,a82,c82,b82,z82,k82,u84,a84,c84,b84,z84,k84,u86,u91,a91,c91,b91,z91,k91,u92,a92,c92,b92,z92,k92,l92,List.length_map,List.getElem?_map,Int.natCast_nonneg,List.length_append,List.map_append,wj] | (refine condK_split ?_ ?_ <;> intro hwq) | (refine two_split ?_ ?_) | (refine guardK_split ?_ ?_ <;> intro hwq) | (refine guardE_split ?_ ?_ <;> intro hwq) | (refine awp_drawW [] (by decide +kernel) ?_; have hwq := trivial) | fail))
          refine ⟨L.length - (j + 1), _, by omega, Weak.cutI 2 [4, 21, 22, 23] ?_ ?_, j + 1, BS, _, rfl, by omega, rfl, hBS⟩
          · simp (maxSteps:=9999999)-implicitDefEqProofs only [simprocAttr,QH,Option.isSome,cond_true,cond_false,Option.bind,selB,V.rn,V.rns,Go.Ai.known,V.pz,V.pzs,T.toV,frz1,List.range,List.range.loop,ite_true,ite_false,if_true,if_false,ne_eq,implies_true,forall_const,eq_self,IntKind.bits,upd_tmsS,selT_cons,selT_nil,List.length_map,List.getElem?_map,Int.natCast_nonneg,List.length_append,List.map_append]
          · simp (maxSteps:=9999999)-implicitDefEqProofs only [simprocAttr,QH,Option.isSome,cond_true,cond_false,Option.bind,selB,V.rn,V.rns,Go.Ai.known,V.pz,V.pzs,T.toV,frz1,List.range,List.range.loop,ite_true,ite_false,if_true,if_false,ne_eq,implies_true,forall_const,eq_self,IntKind.bits,upd_tmsS,selT_cons,selT_nil,List.length_map,List.getElem?_map,Int.natCast_nonneg,List.length_append,List.map_append]
      | false =>
        have h43a := key false hal
        rw [if_neg (by decide)] at h43a
        (have hwq := trivial; repeat' (first | simp (maxSteps:=9999999)-implicitDefEqProofs only [go_sem,simprocAttr,hwq,u3,a3,c3,b3,z3,k3,u4,a4,c4,b4,z4,k4,u5,a5,c5,b5,z5,k5,u22,a22,c22,b22,z22,k22,u23,a23,c23,b23,z23,k23,u26,a26,c26,b26,z26,k26,u82,a82,c82,b82,z82,k82,u84,a84,c84,b84,z84,k84,u86,u91,a91,c91,b91,z91,k91,u92,a92,c92,b92,z92,k92,l92,List.length_map,List.getElem?_map,Int.natCast_nonneg,List.length_append,List.map_append,hjl',hgj,wj,wl,hal,gb1,gb2,l4a,l4b,awpTr_noneT,awpTr_altT,trK_eq,TrAnd_true,List.length_map] | (refine condK_split ?_ ?_ <;> intro hwq) | (refine two_split ?_ ?_) | (refine guardK_split ?_ ?_ <;> intro hwq) | (refine guardE_split ?_ ?_ <;> intro hwq) | (refine awp_drawW [] (by decide +kernel) ?_; have hwq := trivial) | (refine draw_plain h43a rfl (fun _ => rfl) ?_; have hwq := trivial) | (refine draw_plain h43b rfl (fun _ => rfl) ?_; have hwq := trivial) | (refine trAnd_mk ?_ ?_; have hwq := trivial) | fail))
        refine awp_tree [] (.alt 0 (.alt 1 (.alt 2 (.alt 3 (.alt 4 (.alt 5 (.alt 6 (.alt 7 (.alt 8 .leaf .none) .none) .none) .none) .none) (.alt 4 (.alt 3 (.alt 5 (.alt 6 (.alt 7 (.alt 8 .leaf .none) .none) .none) .none) (.alt 5 (.alt 3 (.alt 6 (.alt 7 (.alt 8 .leaf .none) .none) .none) .none) .none)) .none)) (.alt 4 (.alt 2 (.alt 3 (.alt 5 (.alt 6 (.alt 7 (.alt 8 .leaf .none) .none) .none) .none) (.alt 5 (.alt 3 (.alt 6 (.alt 7 (.alt 8 .leaf .none) .none) .none) .none) .none)) (.alt 5 (.alt 2 (.alt 3 (.alt 6 (.alt 7 (.alt 8 .leaf .none) .none) .none) .none) .none) .none)) .none)) (.alt 4 (.alt 1 (.alt 2 (.alt 3 (.alt 5 (.alt 6 (.alt 7 (.alt 8 .leaf .none) .none) .none) .none) (.alt 5 (.alt 3 (.alt 6 (.alt 7 (.alt 8 .leaf .none) .none) .none) .none) .none)) (.alt 5 (.alt 2 (.alt 3 (.alt 6 (.alt 7 (.alt 8 .leaf .none) .none) .none) .none) .none) .none)) (.alt 5 (.alt 1 (.alt 2 (.alt 3 (.alt 6 (.alt 7 (.alt 8 .leaf .none) .none) .none) .none) .none) .none) .none)) .none)) (.alt 1 (.alt 0 (.alt 2 (.alt 3 (.alt 4 (.alt 5 (.alt 6 (.alt 7 (.alt 8 .leaf .none) .none) .none) .none) .none) (.alt 4 (.alt 3 (.alt 5 (.alt 6 (.alt 7 (.alt 8 .leaf .none) .none) .none) .none) (.alt 5 (.alt 3 (.alt 6 (.alt 7 (.alt 8 .leaf .none) .none) .none) .none) .none)) .none)) (.alt 4 (.alt 2 (.alt 3 (.alt 5 (.alt 6 (.alt 7 (.alt 8 .leaf .none) .none) .none) .none) (.alt 5 (.alt 3 (.alt 6 (.alt 7 (.alt 8 .leaf .none) .none) .none) .none) .none)) (.alt 5 (.alt 2 (.alt 3 (.alt 6 (.alt 7 (.alt 8 .leaf .none) .none) .none) .none) .none) .none)) .none)) (.alt 2 (.alt 0 (.alt 3 (.alt 4 (.alt 5 (.alt 6 (.alt 7 (.alt 8 .leaf .none) .none) .none) .none) .none) (.alt 4 (.alt 3 (.alt 5 (.alt 6 (.alt 7 (.alt 8 .leaf .none) .none) .none) .none) (.alt 5 (.alt 3 (.alt 6 (.alt 7 (.alt 8 .leaf .none) .none) .none) .none) .none)) .none)) (.alt 4 (.alt 0 (.alt 3 (.alt 5 (.alt 6 (.alt 7 (.alt 8 .leaf .none) .none) .none) .none) (.alt 5 (.alt 3 (.alt 6 (.alt 7 (.alt 8 .leaf .none) .none) .none) .none) .none)) (.alt 5 (.alt 0 (.alt 3 (.alt 6 (.alt 7 (.alt 8 .leaf .none) .none) .none) .none) .none) .none)) .none)) (.alt 4 (.alt 0 (.alt 2 (.alt 3 (.alt 5 (.alt 6 (.alt 7 (.alt 8 .leaf .none) .none) .none) .none) (.alt 5 (.alt 3 (.alt 6 (.alt 7 (.alt 8 .leaf .none) .none) .none) .none) .none)) (.alt 5 (.alt 2 (.alt 3 (.alt 6 (.alt 7 (.alt 8 .leaf .none) .none) .none) .none) .none) .none)) (.alt 2 (.alt 0 (.alt 3 (.alt 5 (.alt 6 (.alt 7 (.alt 8 .leaf .none) .none) .none) .none) (.alt 5 (.alt 3 (.alt 6 (.alt 7 (.alt 8 .leaf .none) .none) .none) .none) .none)) (.alt 5 (.alt 0 (.alt 3 (.alt 6 (.alt 7 (.alt 8 .leaf .none) .none) .none) .none) .none) .none)) (.alt 5 (.alt 0 (.alt 2 (.alt 3 (.alt 6 (.alt 7 (.alt 8 .leaf .none) .none) .none) .none) .none) (.alt 2 (.alt 0 (.alt 3 (.alt 6 (.alt 7 (.alt 8 .leaf .none) .none) .none) .none) .none) .none)) .none))) .none))) (.alt 4 (.alt 0 (.alt 1 (.alt 2 (.alt 3 (.alt 5 (.alt 6 (.alt 7 (.alt 8 .leaf .none) .none) .none) .none) (.alt 5 (.alt 3 (.alt 6 (.alt 7 (.alt 8 .leaf .none) .none) .none) .none) .none)) (.alt 5 (.alt 2 (.alt 3 (.alt 6 (.alt 7 (.alt 8 .leaf .none) .none) .none) .none) .none) .none)) (.alt 5 (.alt 1 (.alt 2 (.alt 3 (.alt 6 (.alt 7 (.alt 8 .leaf .none) .none) .none) .none) .none) .none) .none)) (.alt 1 (.alt 0 (.alt 2 (.alt 3 (.alt 5 (.alt 6 (.alt 7 (.alt 8 .leaf .none) .none) .none) .none) (.alt 5 (.alt 3 (.alt 6 (.alt 7 (.alt 8 .leaf .none) .none) .none) .none) .none)) (.alt 5 (.alt 2 (.alt 3 (.alt 6 (.alt 7 (.alt 8 .leaf .none) .none) .none) .none) .none) .none)) (.alt 2 (.alt 0 (.alt 3 (.alt 5 (.alt 6 (.alt 7 (.alt 8 .leaf .none) .none) .none) .none) (.alt 5 (.alt 3 (.alt 6 (.alt 7 (.alt 8 .leaf .none) .none) .none) .none) .none)) (.alt 5 (.alt 0 (.alt 3 (.alt 6 (.alt 7 (.alt 8 .leaf .none) .none) .none) .none) .none) .none)) (.alt 5 (.alt 0 (.alt 2 (.alt 3 (.alt 6 (.alt 7 (.alt 8 .leaf .none) .none) .none) .none) .none) (.alt 2 (.alt 0 (.alt 3 (.alt 6 (.alt 7 (.alt 8 .leaf .none) .none) .none) .none) .none) .none)) .none))) (.alt 5 (.alt 0 (.alt 1 (.alt 2 (.alt 3 (.alt 6 (.alt 7 (.alt 8 .leaf .none) .none) .none) .none) .none) .none) (.alt 1 (.alt 0 (.alt 2 (.alt 3 (.alt 6 (.alt 7 (.alt 8 .leaf .none) .none) .none) .none) .none) (.alt 2 (.alt 0 (.alt 3 (.alt 6 (.alt 7 (.alt 8 .leaf .none) .none) .none) .none) .none) .none)) .none)) .none))) .none))) ⟨tms [(4, .ptr 1 0 0), (6, .ptr 2 0 0), (21, vcsV L), (22, vI L.length), (23, vI j)], [.rows 1 (bs.map byT ++ (twoL (hdN x)).map byT ++ (twoL x.fi).map byT) false, .box [.own 0 0 (bs.length + 2 + 2)] false, .box [vB false, vI x.fi, isV x.l] false], mv ++ [0] ++ [0] ++ List.range' 3 0⟩ (by decide +kernel) ?_ ?_
        · (have hwq := trivial; repeat' (first | simp (maxSteps:=9999999)-implicitDefEqProofs only [go_sem,simprocAttr,hwq,u3,a3,c3,b3,z3,k3,u4,a4,c4,b4,z4,k4,u5,a5,c5,b5,z5,k5,u22,a22,c22,b22,z22,k22,u23,a23,c23,b23,z23,k23,u26,a26,c26,b26,z26,k26,u82,a82,c82,b82,z82,k82,u84,a84,c84,b84,z84,k84,u86,u91,a91,c91,b91,z91,k91,u92,a92,c92,b92,z92,k92,l92,List.length_map,List.getElem?_map,Int.natCast_nonneg,List.length_append,List.map_append,hjl',hgj,wj,wl,hal,gb1,gb2,l4a,l4b,awpTr_noneT,awpTr_altT,trK_eq,TrAnd_true,List.length_map] | (refine condK_split ?_ ?_ <;> intro hwq) | (refine two_split ?_ ?_) | (refine guardK_split ?_ ?_ <;> intro hwq) | (refine guardE_split ?_ ?_ <;> intro hwq) | (refine awp_drawW [] (by decide +kernel) ?_; have hwq := trivial) | (refine draw_plain h43a rfl (fun _ => rfl) ?_; have hwq := trivial) | (refine draw_plain h43b rfl (fun _ => rfl) ?_; have hwq := trivial) | (refine trAnd_mk ?_ ?_; have hwq := trivial) | fail))
          all_goals (refine awpTr_leaf (Weak.cutI 3 [4, 6, 21, 22, 23] ?_ ?_) <;> simp (maxSteps:=9999999)-implicitDefEqProofs only [simprocAttr,QH,Option.isSome,cond_true,cond_false,Option.bind,selB,V.rn,V.rns,Go.Ai.known,V.pz,V.pzs,T.toV,frz1,List.range,List.range.loop,ite_true,ite_false,if_true,if_false,ne_eq,implies_true,forall_const,eq_self,IntKind.bits,upd_tmsS,selT_cons,selT_nil,List.length_map,List.getElem?_map,Int.natCast_nonneg,List.length_append,List.map_append,l4a,l4b])
        (have hwq := trivial; repeat' (first | simp (maxSteps:=9999999)-implicitDefEqProofs only [go_sem,simprocAttr,hwq,u3,a3,c3,b3,z3,k3,u4,a4,c4,b4,z4,k4,u5,a5,c5,b5,z5,k5,u22,a22,c22,b22,z22,k22,u23,a23,c23,b23,z23,k23,u26,a26,c26,b26,z26,k26,u82,a82,c82,b82,z82,k82,u84,a84,c84,b84,z84,k84,u86,u91,a91,c91,b91,z91,k91,u92,a92,c92,b92,z92,k92,l92,List.length_map,List.getElem?_map,Int.natCast_nonneg,List.length_append,List.map_append,h44] | (refine condK_split ?_ ?_ <;> intro hwq) | (refine two_split ?_ ?_) | (refine guardK_split ?_ ?_ <;> intro hwq) | (refine guardE_split ?_ ?_ <;> intro hwq) | (refine awp_drawW [] (by decide +kernel) ?_; have hwq := trivial) | (refine call_data h44 rfl (V.les_refl _) rfl ?_; have hwq := trivial) | fail))
        refine awp_range (rangeBy_mv (α := Nat) (gf := 70) (lbV := [.iref [.sl 1 (x.l.map inT)], .iref [.s (.int .i64 3)]]) (p0 := 45) (p1 := 8) (tms [(4, .ptr 1 0 0), (21, vcsV L), (22, vI L.length), (23, vI j)]) [0] (JR bs x) (fun ys => ys = List.range (chN x.l.length)) (chN x.l.length) (fun k => isV (chk x.l k)) rfl (by kernel_rfl) rfl ?_ ?_ ?_ ?_ ?_ ?_ ?_ ?_) ?_
        · intro N h
          simpa [codeOKr, opsOK, nodef] using h
        · intro F m tmps W K hK
          exact wpIn_assign1 hK
        · refine tms_sub ?_
          intro p hp
          simp only [List.mem_cons, List.not_mem_nil, or_false] at hp
          rcases hp with rfl | rfl | rfl | rfl <;> rfl
        · intro mv2 hmv
          have h1 : 1 ∉ mv2 := fun h => by rcases hmv 1 h with h2 | h2 <;> simp at h2
          refine tms_pz ?_
          intro p hp
          simp only [List.mem_cons, List.not_mem_nil, or_false] at hp
          rcases hp with rfl | rfl | rfl | rfl <;> simp [V.pz, h1]
        · rintro pre σ ⟨BS, rfl, _⟩
          simp [cellsOnly, Blk.cellsK]
        · refine ⟨bs ++ vcH x, ?_, by simp⟩
          simp [vcH, hal, l4a, l4b, Nat.add_assoc]
        · intro β I w lb hi hv
          exact chunk_stops x.l (by omega) hi hv
        · rintro pre k σ ⟨BS, rfl, hBS⟩ hlen
          have hcn : chN x.l.length ≤ 22 := by unfold chN; omega
          have hgB : BS.length + 1 ≤ 140737488355328 := by
            rw [hBS]
            simp only [List.length_append, List.length_map, vcH, l4a, l4b]
            omega
          rcases chk_cases x.l b6 k with hck | ⟨a, hck, ha⟩ | ⟨a, b, hck, ha, hb⟩ | ⟨a, b, d, hck, ha, hb, hd⟩
          · have hpk : pk3 (chk x.l k) = (0 * 6 + 0) * 6 + 0 := by rw [hck]; rfl
            have x1 : IntKind.i64.wrap (0 * 6) = 0 * 6 := wI64 _ (by omega) (by omega)
            have x2 : IntKind.i64.wrap (0 * 6 + 0) = 0 * 6 + 0 := wI64 _ (by omega) (by omega)
            have x3 : IntKind.i64.wrap ((0 * 6 + 0) * 6) = (0 * 6 + 0) * 6 := wI64 _ (by omega) (by omega)
            have x4 : IntKind.i64.wrap ((0 * 6 + 0) * 6 + 0) = (0 * 6 + 0) * 6 + 0 := wI64 _ (by omega) (by omega)
            have x5 : IntKind.u8.wrap ((0 * 6 + 0) * 6 + 0) = (0 * 6 + 0) * 6 + 0 := by simp only [IntKind.wrap_u8]; omega
            rw [hck]
            (have hwq := trivial; repeat' (first | simp (maxSteps:=9999999)-implicitDefEqProofs only [go_sem,simprocAttr,hwq,u3,a3,c3,b3,z3,k3,u4,a4,c4,b4,z4,k4,u5,a5,c5,b5,z5,k5,u22,a22,c22,b22,z22,k22,u23,a23,c23,b23,z23,k23,u26,a26,c26,b26,z26,k26,u82,a82,c82,b82,z82,k82,u84,a84,c84,b84,z84,k84,u86,u91,a91,c91,b91,z91,k91,u92,a92,c92,b92,z92,k92,l92,List.length_map,List.getElem?_map,Int.natCast_nonneg,List.length_append,List.map_append,hgB,x1,x2,x3,x4,x5,List.map_cons,List.map_nil,upd_tmsS,setT,List.forall_mem_cons,List.forall_mem_nil,forall_eq_or_imp,forall_eq,List.mem_cons,List.not_mem_nil,List.length_cons,List.length_nil,List.take_succ_cons,List.take_zero,List.take_nil,List.flatten_cons,List.flatten_nil,List.append_nil,List.nil_append,List.cons_append,List.drop_succ_cons,List.drop_zero,List.drop_nil,or_false] | (refine condK_split ?_ ?_ <;> intro hwq) | (refine two_split ?_ ?_) | (refine guardK_split ?_ ?_ <;> intro hwq) | (refine guardE_split ?_ ?_ <;> intro hwq) | (refine awp_drawW [] (by decide +kernel) ?_; have hwq := trivial) | fail))
            refine ⟨_, _, ⟨BS ++ [pk3 (chk x.l k)], rfl, by rw [hBS]; simp⟩, ?_, Weak.cutI (l := []) 3 [] rfl ?_⟩
            · simp [List.mem_range'_1]
              intro t h1 h2
              exact .inr h1
            · rw [hpk]
              simp (maxSteps:=9999999)-implicitDefEqProofs only [simprocAttr,QH,Option.isSome,cond_true,cond_false,Option.bind,selB,V.rn,V.rns,Go.Ai.known,V.pz,V.pzs,T.toV,frz1,List.range,List.range.loop,ite_true,ite_false,if_true,if_false,ne_eq,implies_true,forall_const,eq_self,IntKind.bits,upd_tmsS,selT_cons,selT_nil,List.length_map,List.getElem?_map,Int.natCast_nonneg,List.length_append,List.map_append,List.map_cons,List.map_nil,List.length_cons,List.length_nil]
          · have hpk : pk3 (chk x.l k) = (a * 6 + 0) * 6 + 0 := by rw [hck]; rfl
            have x1 : IntKind.i64.wrap (a * 6) = a * 6 := wI64 _ (by omega) (by omega)
            have x2 : IntKind.i64.wrap (a * 6 + 0) = a * 6 + 0 := wI64 _ (by omega) (by omega)
            have x3 : IntKind.i64.wrap ((a * 6 + 0) * 6) = (a * 6 + 0) * 6 := wI64 _ (by omega) (by omega)
            have x4 : IntKind.i64.wrap ((a * 6 + 0) * 6 + 0) = (a * 6 + 0) * 6 + 0 := wI64 _ (by omega) (by omega)
            have x5 : IntKind.u8.wrap ((a * 6 + 0) * 6 + 0) = (a * 6 + 0) * 6 + 0 := by simp only [IntKind.wrap_u8]; omega
            rw [hck]
            (have hwq := trivial; repeat' (first | simp (maxSteps:=9999999)-implicitDefEqProofs only [go_sem,simprocAttr,hwq,u3,a3,c3,b3,z3,k3,u4,a4,c4,b4,z4,k4,u5,a5,c5,b5,z5,k5,u22,a22,c22,b22,z22,k22,u23,a23,c23,b23,z23,k23,u26,a26,c26,b26,z26,k26,u82,a82,c82,b82,z82,k82,u84,a84,c84,b84,z84,k84,u86,u91,a91,c91,b91,z91,k91,u92,a92,c92,b92,z92,k92,l92,List.length_map,List.getElem?_map,Int.natCast_nonneg,List.length_append,List.map_append,hgB,x1,x2,x3,x4,x5,List.map_cons,List.map_nil,upd_tmsS,setT,List.forall_mem_cons,List.forall_mem_nil,forall_eq_or_imp,forall_eq,List.mem_cons,List.not_mem_nil,List.length_cons,List.length_nil,List.take_succ_cons,List.take_zero,List.take_nil,List.flatten_cons,List.flatten_nil,List.append_nil,List.nil_append,List.cons_append,List.drop_succ_cons,List.drop_zero,List.drop_nil,or_false] | (refine condK_split ?_ ?_ <;> intro hwq) | (refine two_split ?_ ?_) | (refine guardK_split ?_ ?_ <;> intro hwq) | (refine guardE_split ?_ ?_ <;> intro hwq) | (refine awp_drawW [] (by decide +kernel) ?_; have hwq := trivial) | fail))
            refine ⟨_, _, ⟨BS ++ [pk3 (chk x.l k)], rfl, by rw [hBS]; simp⟩, ?_, Weak.cutI (l := []) 3 [] rfl ?_⟩
            · simp [List.mem_range'_1]
              intro t h1 h2
              exact .inr h1
            · rw [hpk]
              simp (maxSteps:=9999999)-implicitDefEqProofs only [simprocAttr,QH,Option.isSome,cond_true,cond_false,Option.bind,selB,V.rn,V.rns,Go.Ai.known,V.pz,V.pzs,T.toV,frz1,List.range,List.range.loop,ite_true,ite_false,if_true,if_false,ne_eq,implies_true,forall_const,eq_self,IntKind.bits,upd_tmsS,selT_cons,selT_nil,List.length_map,List.getElem?_map,Int.natCast_nonneg,List.length_append,List.map_append,List.map_cons,List.map_nil,List.length_cons,List.length_nil]
          · have hpk : pk3 (chk x.l k) = (a * 6 + b) * 6 + 0 := by rw [hck]; rfl
            have x1 : IntKind.i64.wrap (a * 6) = a * 6 := wI64 _ (by omega) (by omega)
            have x2 : IntKind.i64.wrap (a * 6 + b) = a * 6 + b := wI64 _ (by omega) (by omega)
            have x3 : IntKind.i64.wrap ((a * 6 + b) * 6) = (a * 6 + b) * 6 := wI64 _ (by omega) (by omega)
            have x4 : IntKind.i64.wrap ((a * 6 + b) * 6 + 0) = (a * 6 + b) * 6 + 0 := wI64 _ (by omega) (by omega)
            have x5 : IntKind.u8.wrap ((a * 6 + b) * 6 + 0) = (a * 6 + b) * 6 + 0 := by simp only [IntKind.wrap_u8]; omega
            rw [hck]
            (have hwq := trivial; repeat' (first | simp (maxSteps:=9999999)-implicitDefEqProofs only [go_sem,simprocAttr,hwq,u3,a3,c3,b3,z3,k3,u4,a4,c4,b4,z4,k4,u5,a5,c5,b5,z5,k5,u22,a22,c22,b22,z22,k22,u23,a23,c23,b23,z23,k23,u26,a26,c26,b26,z26,k26,u82,a82,c82,b82,z82,k82,u84,a84,c84,b84,z84,k84,u86,u91,a91,c91,b91,z91,k91,u92,a92,c92,b92,z92,k92,l92,List.length_map,List.getElem?_map,Int.natCast_nonneg,List.length_append,List.map_append,hgB,x1,x2,x3,x4,x5,List.map_cons,List.map_nil,upd_tmsS,setT,List.forall_mem_cons,List.forall_mem_nil,forall_eq_or_imp,forall_eq,List.mem_cons,List.not_mem_nil,List.length_cons,List.length_nil,List.take_succ_cons,List.take_zero,List.take_nil,List.flatten_cons,List.flatten_nil,List.append_nil,List.nil_append,List.cons_append,List.drop_succ_cons,List.drop_zero,List.drop_nil,or_false] | (refine condK_split ?_ ?_ <;> intro hwq) | (refine two_split ?_ ?_) | (refine guardK_split ?_ ?_ <;> intro hwq) | (refine guardE_split ?_ ?_ <;> intro hwq) | (refine awp_drawW [] (by decide +kernel) ?_; have hwq := trivial) | fail))
            refine ⟨_, _, ⟨BS ++ [pk3 (chk x.l k)], rfl, by rw [hBS]; simp⟩, ?_, Weak.cutI (l := []) 3 [] rfl ?_⟩
            · simp [List.mem_range'_1]
              intro t h1 h2
              exact .inr h1
            · rw [hpk]
              simp (maxSteps:=9999999)-implicitDefEqProofs only [simprocAttr,QH,Option.isSome,cond_true,cond_false,Option.bind,selB,V.rn,V.rns,Go.Ai.known,V.pz,V.pzs,T.toV,frz1,List.range,List.range.loop,ite_true,ite_false,if_true,if_false,ne_eq,implies_true,forall_const,eq_self,IntKind.bits,upd_tmsS,selT_cons,selT_nil,List.length_map,List.getElem?_map,Int.natCast_nonneg,List.length_append,List.map_append,List.map_cons,List.map_nil,List.length_cons,List.length_nil]
          · have hpk : pk3 (chk x.l k) = (a * 6 + b) * 6 + d := by rw [hck]; rfl
            have x1 : IntKind.i64.wrap (a * 6) = a * 6 := wI64 _ (by omega) (by omega)
            have x2 : IntKind.i64.wrap (a * 6 + b) = a * 6 + b := wI64 _ (by omega) (by omega)
            have x3 : IntKind.i64.wrap ((a * 6 + b) * 6) = (a * 6 + b) * 6 := wI64 _ (by omega) (by omega)
            have x4 : IntKind.i64.wrap ((a * 6 + b) * 6 + d) = (a * 6 + b) * 6 + d := wI64 _ (by omega) (by omega)
            have x5 : IntKind.u8.wrap ((a * 6 + b) * 6 + d) = (a * 6 + b) * 6 + d := by simp only [IntKind.wrap_u8]; omega
            rw [hck]
            (have hwq := trivial; repeat' (first | simp (maxSteps:=9999999)-implicitDefEqProofs only [go_sem,simprocAttr,hwq,u3,a3,c3,b3,z3,k3,u4,a4,c4,b4,z4,k4,u5,a5,c5,b5,z5,k5,u22,a22,c22,b22,z22,k22,u23,a23,c23,b23,z23,k23,u26,a26,c26,b26,z26,k26,u82,a82,c82,b82,z82,k82,u84,a84,c84,b84,z84,k84,u86,u91,a91,c91,b91,z91,k91,u92,a92,c92,b92,z92,k92,l92,List.length_map,List.getElem?_map,Int.natCast_nonneg,List.length_append,List.map_append,hgB,x1,x2,x3,x4,x5,List.map_cons,List.map_nil,upd_tmsS,setT,List.forall_mem_cons,List.forall_mem_nil,forall_eq_or_imp,forall_eq,List.mem_cons,List.not_mem_nil,List.length_cons,List.length_nil,List.take_succ_cons,List.take_zero,List.take_nil,List.flatten_cons,List.flatten_nil,List.append_nil,List.nil_append,List.cons_append,List.drop_succ_cons,List.drop_zero,List.drop_nil,or_false] | (refine condK_split ?_ ?_ <;> intro hwq) | (refine two_split ?_ ?_) | (refine guardK_split ?_ ?_ <;> intro hwq) | (refine guardE_split ?_ ?_ <;> intro hwq) | (refine awp_drawW [] (by decide +kernel) ?_; have hwq := trivial) | fail))
            refine ⟨_, _, ⟨BS ++ [pk3 (chk x.l k)], rfl, by rw [hBS]; simp⟩, ?_, Weak.cutI (l := []) 3 [] rfl ?_⟩
            · simp [List.mem_range'_1]
              intro t h1 h2
              exact .inr h1
            · rw [hpk]
              simp (maxSteps:=9999999)-implicitDefEqProofs only [simprocAttr,QH,Option.isSome,cond_true,cond_false,Option.bind,selB,V.rn,V.rns,Go.Ai.known,V.pz,V.pzs,T.toV,frz1,List.range,List.range.loop,ite_true,ite_false,if_true,if_false,ne_eq,implies_true,forall_const,eq_self,IntKind.bits,upd_tmsS,selT_cons,selT_nil,List.length_map,List.getElem?_map,Int.natCast_nonneg,List.length_append,List.map_append,List.map_cons,List.map_nil,List.length_cons,List.length_nil]
        · rintro S' ⟨ys, σ, mv2, rfl, ⟨BS, rfl, hBS⟩, rfl⟩
          rw [hnew] at hBS
          (have hwq := trivial; repeat' (first | simp (maxSteps:=9999999)-implicitDefEqProofs only [go_sem,simprocAttr,hwq,u3,a3,c3,b3,z3,k3,u4,a4,c4,b4,z4,k4,u5,a5,c5,b5,z5,k5,u22,a22,c22,b22,z22,k22,u23,a23,c23,b23,z23,k23,u26,a26,c26,b26,z26,k26,u82,a82,c82,b82,z82,k82,u84,a84,c84,b84,z84,k84,u86,u91,a91,c91,b91,z91,k91,u92,a92,c92,b92,z92,k92,l92,List.length_map,List.getElem?_map,Int.natCast_nonneg,List.length_append,List.map_append,wj] | (refine condK_split ?_ ?_ <;> intro hwq) | (refine two_split ?_ ?_) | (refine guardK_split ?_ ?_ <;> intro hwq) | (refine guardE_split ?_ ?_ <;> intro hwq) | (refine awp_drawW [] (by decide +kernel) ?_; have hwq := trivial) | fail))
          refine ⟨L.length - (j + 1), _, by omega, Weak.cutI 2 [4, 21, 22, 23] ?_ ?_, j + 1, BS, _, rfl, by omega, rfl, hBS⟩
          · simp (maxSteps:=9999999)-implicitDefEqProofs only [simprocAttr,QH,Option.isSome,cond_true,cond_false,Option.bind,selB,V.rn,V.rns,Go.Ai.known,V.pz,V.pzs,T.toV,frz1,List.range,List.range.loop,ite_true,ite_false,if_true,if_false,ne_eq,implies_true,forall_const,eq_self,IntKind.bits,upd_tmsS,selT_cons,selT_nil,List.length_map,List.getElem?_map,Int.natCast_nonneg,List.length_append,List.map_append]
          · simp (maxSteps:=9999999)-implicitDefEqProofs only [simprocAttr,QH,Option.isSome,cond_true,cond_false,Option.bind,selB,V.rn,V.rns,Go.Ai.known,V.pz,V.pzs,T.toV,frz1,List.range,List.range.loop,ite_true,ite_false,if_true,if_false,ne_eq,implies_true,forall_const,eq_self,IntKind.bits,upd_tmsS,selT_cons,selT_nil,List.length_map,List.getElem?_map,Int.natCast_nonneg,List.length_append,List.map_append]
    · have hjl' : ¬ (j : Int) < (L.length : Int) := by omega
      obtain rfl : j = L.length := by omega
      rw [List.take_length] at hbs
      have gb4 : bs.length + 4 ≤ 140737488355328 := by omega
      (have hwq := trivial; repeat' (first | simp (maxSteps:=9999999)-implicitDefEqProofs only [go_sem,simprocAttr,hwq,u3,a3,c3,b3,z3,k3,u4,a4,c4,b4,z4,k4,u5,a5,c5,b5,z5,k5,u22,a22,c22,b22,z22,k22,u23,a23,c23,b23,z23,k23,u26,a26,c26,b26,z26,k26,u82,a82,c82,b82,z82,k82,u84,a84,c84,b84,z84,k84,u86,u91,a91,c91,b91,z91,k91,u92,a92,c92,b92,z92,k92,l92,List.length_map,List.getElem?_map,Int.natCast_nonneg,List.length_append,List.map_append,hjl',List.length_map,gb4,List.length_cons,List.length_nil] | (refine condK_split ?_ ?_ <;> intro hwq) | (refine two_split ?_ ?_) | (refine guardK_split ?_ ?_ <;> intro hwq) | (refine guardE_split ?_ ?_ <;> intro hwq) | (refine awp_drawW [] (by decide +kernel) ?_; have hwq := trivial) | fail))
      refine ⟨_, rfl, ?_⟩
      rw [← hbs]
      simp [V.leT, V.le, V.les]
      rw [List.take_of_length_le (by simp)]
end Go.Ai

set_option linter.unusedVariables false
set_option linter.unusedSimpArgs false
set_option maxHeartbeats 4000000
set_option maxRecDepth 100000
namespace Go.Ai
open Go.Proofs
attribute [local go_sem] QH QR V.noimm V.noimms frzZs frzZ frzA frzV frzVs frzBox boxLen Option.isSome cond_true cond_false aopD calW flatV stepX amap stepY alookup afind aupdate adelete amlen arange ameq mapOf akeq pl V.mapT V.mapTs Option.bind stepK runK guardD stepE runD callD compact selB callK evS ofVal ofVals scalar aop ares mkRes V.rn V.rns V.cells? cellsAt Go.Ai.part aload astore setL V.atom abin aun intBin shiftBin aconv fieldOf aindexAddr aindex bound? aslice aarr abuild afill alen nilP nilS nilF aeq eqCells eqCell Go.Ai.known strBin abuiltin aappend abuildSlice arowsFill amakeSlice acopy aclear minmax rowsOf numsT notStr isIntD isByte V.pz V.pzs T.toV frz1 frz scalT scalTs chunkT List.range List.range.loop ite_true ite_false if_true if_false ne_eq implies_true forall_const eq_self IntKind.bits kPostKF_ret kPostKF_normal kPostX_ret kPostX_normal bsl nil2K nil2 kPostFW_ret kPostFW_normal kPostKM_ret kPostKM_normal kPostXK_ret kPostXK_normal
theorem call_own {P : Program} (ps : List Nat) {f : FuncId} {args0 args : List V} {σ0 σ0' σ : List Blk} {v : V} {K : V → List Blk → List Nat → Prop} (h : AC P f args0 σ0 (eqS v σ0')) (hlen : σ0.length ≤ σ0'.length) (hn : ps.Nodup) (hl : ps.length = σ0.length)
    (hb : (ps.map fun p => σ[p]?) = σ0.map fun k => some (k.mapT (pl ps σ.length))) (ha : V.les args (V.mapTs (pl ps σ.length) args0))
    (hk : K (v.mapT (pl ps σ.length)) (putAll σ ps (σ0'.map (Blk.mapT (pl ps σ.length)))) []) : AC P f args σ K :=
  AC.mono (AC_frame h (fun r σ' mv hh => by obtain ⟨rfl, rfl, rfl⟩ := hh; exact ⟨rfl, hlen⟩) hn hl (fun β I w vs hi hv => ⟨I, hi, Step.refl _ _ _, hv⟩) (at_blocks hb) ha) fun r2 σ2 mv2 hh => by
    obtain ⟨rfl, r, σ', ⟨rfl, rfl, _⟩, rfl, rfl⟩ := hh
    exact hk
theorem call_dataF {P : Program} {k : FuncId} {args args1 args' : List V} {σ σ1 : List Blk} {v : V} {K : V → List Blk → List Nat → Prop} (h : AC P k args' [] (eqR v)) (hs : frzVs false σ args = some (args1, σ1)) (hle : V.les args1 args') (hv : v.mapT (· + σ.length) = v) (hn : v.noimm = false) (hk : K v σ1 []) : AC P k args σ K :=
  call_data h hs hle hv (by rw [hn]; exact hk)
theorem mz99 : AC Try.prog 99 [.s (.int .u64 1)] [] (eqR (vI 1)) := by
  refine AC_plain orders Try.func99 rfl (by kernel_rfl) (by kernel_rfl) Try.ntmps99 (by simp) ?_
  unfold Try.f99
  (have hwq := trivial; repeat' (first | simp (maxSteps:=9999999)-implicitDefEqProofs only [go_sem,simprocAttr,hwq,u3,a3,c3,b3,z3,k3,u5,a5,c5,b5,z5,k5,u9,a9,c9,b9,z9,k9,u153,a153,c153,b153,z153,k153] | (refine awpL_loop 18 ?_; have hwq := trivial) | (refine condK_split ?_ ?_ <;> intro hwq) | (refine two_split ?_ ?_) | (refine guardK_split ?_ ?_ <;> intro hwq) | (refine guardE_split ?_ ?_ <;> intro hwq) | (refine awp_drawW [] (by decide +kernel) ?_; have hwq := trivial) | fail))
theorem mz86 : AC Try.prog 86 [.s (.int .u64 1)] [] (eqR (vI 1)) := by
  refine AC_plain orders Try.func86 rfl (by kernel_rfl) (by kernel_rfl) Try.ntmps86 (by simp) ?_
  unfold Try.f86
  (have hwq := trivial; repeat' (first | simp (maxSteps:=9999999)-implicitDefEqProofs only [go_sem,simprocAttr,hwq,u3,a3,c3,b3,z3,k3,u124,a124,c124,b124,z124,k124,u151,a151,c151,b151,z151,k151,u153,a153,c153,b153,z153,k153] | (refine awpL_loop 18 ?_; have hwq := trivial) | (refine condK_split ?_ ?_ <;> intro hwq) | (refine two_split ?_ ?_) | (refine guardK_split ?_ ?_ <;> intro hwq) | (refine guardE_split ?_ ?_ <;> intro hwq) | (refine awp_drawW [] (by decide +kernel) ?_; have hwq := trivial) | (refine call_plain mz99 rfl rfl ?_; have hwq := trivial) | fail))
theorem mz89 (v : Int) : AC Try.prog 89 [.own 0 0 1, vI 0, vI 1] [.rows 1 [inT v] false] (eqS (.tuple []) [.rows 1 [inT v] false]) := by
  refine AC_heap orders [0] Try.func89 rfl (by kernel_rfl) (by kernel_rfl) Try.ntmps89 (by simp) ?_
  unfold Try.f89
  (have hwq := trivial; repeat' (first | simp (maxSteps:=9999999)-implicitDefEqProofs only [go_sem,simprocAttr,hwq,u3,a3,c3,b3,z3,k3,u40,a40,c40,b40,z40,k40] | (refine awpL_loop 18 ?_; have hwq := trivial) | (refine condK_split ?_ ?_ <;> intro hwq) | (refine two_split ?_ ?_) | (refine guardK_split ?_ ?_ <;> intro hwq) | (refine guardE_split ?_ ?_ <;> intro hwq) | (refine awp_drawI 6 [] (List.range 18) [0, 0, 0, 0, 8, 0, 0, 64, 224, 480, 0, 0, 3072, 7168, 16355, 32739, 65535, 131071] (by decide +kernel) ?_; have hwq := trivial) | (refine awp_drawW [] (by decide +kernel) ?_; have hwq := trivial) | fail))
theorem mz85 (v : Int) : AC Try.prog 85 [.own 0 0 1, vI 0, vI 1, vI 1] [.rows 1 [inT v] false] (eqS (.tuple []) [.rows 1 [inT v] false]) := by
  refine AC_heap orders [0] Try.func85 rfl (by kernel_rfl) (by kernel_rfl) Try.ntmps85 (by simp) ?_
  unfold Try.f85
  (have hwq := trivial; repeat' (first | simp (maxSteps:=9999999)-implicitDefEqProofs only [go_sem,simprocAttr,hwq,u3,a3,c3,b3,z3,k3,u4,a4,c4,b4,z4,k4,u40,a40,c40,b40,z40,k40,u143,a143,c143,b143,z143,k143] | (refine awpL_loop 18 ?_; have hwq := trivial) | (refine condK_split ?_ ?_ <;> intro hwq) | (refine two_split ?_ ?_) | (refine guardK_split ?_ ?_ <;> intro hwq) | (refine guardE_split ?_ ?_ <;> intro hwq) | (refine awp_drawW [] (by decide +kernel) ?_; have hwq := trivial) | (refine call_here (mz89 v) ?_; have hwq := trivial) | fail))
theorem mz75 (v : Int) : AC Try.prog 75 [.own 0 0 1] [.rows 1 [inT v] false] (eqS (.tuple []) [.rows 1 [inT v] false]) := by
  refine AC_heap orders [0] Try.func75 rfl (by kernel_rfl) (by kernel_rfl) Try.ntmps75 (by simp) ?_
  unfold Try.f75
  (have hwq := trivial; repeat' (first | simp (maxSteps:=9999999)-implicitDefEqProofs only [go_sem,simprocAttr,hwq,u3,a3,c3,b3,z3,k3,u40,a40,c40,b40,z40,k40,u124,a124,c124,b124,z124,k124] | (refine awpL_loop 18 ?_; have hwq := trivial) | (refine condK_split ?_ ?_ <;> intro hwq) | (refine two_split ?_ ?_) | (refine guardK_split ?_ ?_ <;> intro hwq) | (refine guardE_split ?_ ?_ <;> intro hwq) | (refine awp_drawW [] (by decide +kernel) ?_; have hwq := trivial) | (refine call_plain mz86 rfl rfl ?_; have hwq := trivial) | (refine call_here (mz85 v) ?_; have hwq := trivial) | fail))
end Go.Ai

set_option linter.unusedVariables false
set_option linter.unusedSimpArgs false
set_option maxHeartbeats 4000000
set_option maxRecDepth 100000
namespace Go.Ai
open Go.Proofs
attribute [local go_sem] QH QR V.noimm V.noimms frzZs frzZ frzA frzV frzVs frzBox boxLen Option.isSome cond_true cond_false aopD calW flatV stepX amap stepY alookup afind aupdate adelete amlen arange ameq mapOf akeq pl V.mapT V.mapTs Option.bind stepK runK guardD stepE runD callD compact selB callK evS ofVal ofVals scalar aop ares mkRes V.rn V.rns V.cells? cellsAt Go.Ai.part aload astore setL V.atom abin aun intBin shiftBin aconv fieldOf aindexAddr aindex bound? aslice aarr abuild afill alen nilP nilS nilF aeq eqCells eqCell Go.Ai.known strBin abuiltin aappend abuildSlice arowsFill amakeSlice acopy aclear minmax rowsOf numsT notStr isIntD isByte V.pz V.pzs T.toV frz1 frz scalT scalTs chunkT List.range List.range.loop ite_true ite_false if_true if_false ne_eq implies_true forall_const eq_self IntKind.bits kPostKF_ret kPostKF_normal kPostX_ret kPostX_normal bsl nil2K nil2 kPostFW_ret kPostFW_normal kPostKM_ret kPostKM_normal kPostXK_ret kPostXK_normal
/-- A party, and one VLAN that is known. -/
abbrev hP (lv al ck : Int) (es : List (V × V × Nat)) (c : Nat) : List Blk := [.box [vI lv, vI al, .mref 1, vI ck] false, .mp es c]
abbrev eV (v a r t : Int) (b : Nat) : V × V × Nat := (vI v, .agg [vI a, vI r, vI t], b)
theorem lk3 : leafK Try.prog 20 3 = some [.i] := by simp [leafK, leafKs, tiles, List.replicate, u3, c3, h3]
theorem mn55 (lv al ck : Int) (es : List (V × V × Nat)) (c : Nat) (he : flatE es = true) : AC Try.prog 55 [.ptr 0 0 0] (hP lv al ck es c) (eqS (vB false) (hP lv al ck es c)) := by
  have hr := rn_mp he
  refine AC_heap orders [0, 1] Try.func55 rfl (by kernel_rfl) (by kernel_rfl) Try.ntmps55 (by simp) ?_
  unfold Try.f55
  (have hwq := trivial; repeat' (first | simp (maxSteps:=9999999)-implicitDefEqProofs only [go_sem,simprocAttr,hwq,u3,a3,c3,b3,z3,k3,u4,a4,c4,b4,z4,k4,u39,a39,c39,b39,z39,k39,l39,u41,a41,c41,b41,z41,k41,u77,a77,c77,b77,z77,k77,u79,a79,c79,b79,z79,k79,u96,a96,c96,b96,z96,k96,u100,a100,c100,b100,z100,k100,u105,a105,c105,b105,z105,k105,l105,hr] | (refine awpL_loop 18 ?_; have hwq := trivial) | (refine condK_split ?_ ?_ <;> intro hwq) | (refine two_split ?_ ?_) | (refine guardK_split ?_ ?_ <;> intro hwq) | (refine guardE_split ?_ ?_ <;> intro hwq) | (refine awp_drawW [] (by decide +kernel) ?_; have hwq := trivial) | fail))
theorem mn17 (lv al : Int) (h1 : 1 ≤ lv) (h2 : lv ≤ 100) (h3 : 2 ≤ al) (h4 : al ≤ 1000) : AC Try.prog 17 [.agg [vI lv, vI al]] [] (eqS (.tuple [.ptr 0 0 0, vI 0]) (hP lv al al [] 0)) := by
  have g1 : ¬ lv < 1 := by omega
  have g2 : ¬ 100 < lv := by omega
  have g3 : ¬ al < 2 := by omega
  have g4 : ¬ 1000 < al := by omega
  refine AC_heap orders [2, 1] Try.func17 rfl (by kernel_rfl) (by kernel_rfl) Try.ntmps17 (by simp) ?_
  unfold Try.f17
  (have hwq := trivial; repeat' (first | simp (maxSteps:=9999999)-implicitDefEqProofs only [go_sem,simprocAttr,hwq,u3,a3,c3,b3,z3,k3,u26,a26,c26,b26,z26,k26,u39,a39,c39,b39,z39,k39,l39,u41,a41,c41,b41,z41,k41,u77,a77,c77,b77,z77,k77,u79,a79,c79,b79,z79,k79,u96,a96,c96,b96,z96,k96,u100,a100,c100,b100,z100,k100,u105,a105,c105,b105,z105,k105,l105,rn_mp,flatE,g1,g2,g3,g4] | (refine awpL_loop 18 ?_; have hwq := trivial) | (refine condK_split ?_ ?_ <;> intro hwq) | (refine two_split ?_ ?_) | (refine guardK_split ?_ ?_ <;> intro hwq) | (refine guardE_split ?_ ?_ <;> intro hwq) | (refine awp_drawW [] (by decide +kernel) ?_; have hwq := trivial) | fail))
  all_goals trace_state
theorem mn51 (lv al ck : Int) (es : List (V × V × Nat)) (c : Nat) (he : flatE es = true) (v : Int) (hv : 1 ≤ v) (hv2 : v ≤ 4094) : AC Try.prog 51 [.ptr 0 0 0, vI v] (hP lv al ck es c) (eqS (vI 0) (hP lv al ck es c)) := by
  have hr := rn_mp he
  have hm := mapT_mp he
  have g1 : ¬ v < 1 := by omega
  have g2 : ¬ 4094 < v := by omega
  have h := mn55 lv al ck es c he
  refine AC_heap orders [0, 1] Try.func51 rfl (by kernel_rfl) (by kernel_rfl) Try.ntmps51 (by simp) ?_
  unfold Try.f51
  (have hwq := trivial; repeat' (first | simp (maxSteps:=9999999)-implicitDefEqProofs only [go_sem,simprocAttr,hwq,u3,a3,c3,b3,z3,k3,u26,a26,c26,b26,z26,k26,u39,a39,c39,b39,z39,k39,l39,u41,a41,c41,b41,z41,k41,u77,a77,c77,b77,z77,k77,u79,a79,c79,b79,z79,k79,u96,a96,c96,b96,z96,k96,u100,a100,c100,b100,z100,k100,u105,a105,c105,b105,z105,k105,l105,hr,hm,g1,g2] | (refine awpL_loop 18 ?_; have hwq := trivial) | (refine condK_split ?_ ?_ <;> intro hwq) | (refine two_split ?_ ?_) | (refine guardK_split ?_ ?_ <;> intro hwq) | (refine guardE_split ?_ ?_ <;> intro hwq) | (refine awp_drawW [] (by decide +kernel) ?_; have hwq := trivial) | (refine call_at [0, 1] h (by simp) (by decide) rfl rfl ?_ (V.les_refl _) ?_; (· simp [mapT_mp, hm, mapT_box, V.mapTs, V.mapT, pl]; done); have hwq := trivial) | fail))
  all_goals trace_state
theorem mn52a (lv al ck v : Int) (c : Nat) : AC Try.prog 52 [.ptr 0 0 0, vI v] (hP lv al ck [] c) (eqS (vB true) (hP lv al ck [eV v 0 0 0 c] (c + 1))) := by
  refine AC_heap orders [0, 1] Try.func52 rfl (by kernel_rfl) (by kernel_rfl) Try.ntmps52 (by simp) ?_
  unfold Try.f52
  (have hwq := trivial; repeat' (first | simp (maxSteps:=9999999)-implicitDefEqProofs only [go_sem,simprocAttr,hwq,u3,a3,c3,b3,z3,k3,u4,a4,c4,b4,z4,k4,u39,a39,c39,b39,z39,k39,l39,u41,a41,c41,b41,z41,k41,u77,a77,c77,b77,z77,k77,u79,a79,c79,b79,z79,k79,u96,a96,c96,b96,z96,k96,u100,a100,c100,b100,z100,k100,u105,a105,c105,b105,z105,k105,l105,rn_mp,mapT_mp,pz_mp,flatE,flatS,lk3] | (refine awpL_loop 18 ?_; have hwq := trivial) | (refine condK_split ?_ ?_ <;> intro hwq) | (refine two_split ?_ ?_) | (refine guardK_split ?_ ?_ <;> intro hwq) | (refine guardE_split ?_ ?_ <;> intro hwq) | (refine awp_drawW [] (by decide +kernel) ?_; have hwq := trivial) | fail))
  all_goals trace_state
theorem mn53 (lv al ck v a r t e a' s r' : Int) (n c : Nat) (h49 : AC Try.prog 49 [vI a, vI e, vI r] [] (eqR (.tuple [vI a', vI s]))) (h50 : AC Try.prog 50 [vI r, vI e] [] (eqR (vI r'))) :
    AC Try.prog 53 [.ptr 0 0 0, vI v, vI e] (hP lv al ck [eV v a r t n] c) (eqS (vI s) (hP lv al ck [eV v a' r' (if r' == 1 && r != 1 then lv else t) n] c)) := by
  refine AC_heap orders [0, 1] Try.func53 rfl (by kernel_rfl) (by kernel_rfl) Try.ntmps53 (by simp) ?_
  unfold Try.f53
  (have hwq := trivial; repeat' (first | simp (maxSteps:=9999999)-implicitDefEqProofs only [go_sem,simprocAttr,hwq,u3,a3,c3,b3,z3,k3,u39,a39,c39,b39,z39,k39,l39,u41,a41,c41,b41,z41,k41,u77,a77,c77,b77,z77,k77,u79,a79,c79,b79,z79,k79,u91,a91,c91,b91,z91,k91,u96,a96,c96,b96,z96,k96,u99,a99,c99,b99,z99,k99,u100,a100,c100,b100,z100,k100,u105,a105,c105,b105,z105,k105,l105,rn_mp,mapT_mp,pz_mp,flatE,flatS,lk3] | (refine awpL_loop 18 ?_; have hwq := trivial) | (refine condK_split ?_ ?_ <;> intro hwq) | (refine two_split ?_ ?_) | (refine guardK_split ?_ ?_ <;> intro hwq) | (refine guardE_split ?_ ?_ <;> intro hwq) | (refine awp_drawW [] (by decide +kernel) ?_; have hwq := trivial) | (refine call_plain h49 rfl rfl ?_; have hwq := trivial) | (refine call_plain h50 rfl rfl ?_; have hwq := trivial) | fail))
  all_goals trace_state
end Go.Ai

set_option linter.unusedVariables false
set_option linter.unusedSimpArgs false
set_option maxHeartbeats 4000000
set_option maxRecDepth 100000
namespace Go.Ai
open Go.Proofs
attribute [local go_sem] QH QR V.noimm V.noimms frzZs frzZ frzA frzV frzVs frzBox boxLen Option.isSome cond_true cond_false aopD calW flatV stepX amap stepY alookup afind aupdate adelete amlen arange ameq mapOf akeq pl V.mapT V.mapTs Option.bind stepK runK guardD stepE runD callD compact selB callK evS ofVal ofVals scalar aop ares mkRes V.rn V.rns V.cells? cellsAt Go.Ai.part aload astore setL V.atom abin aun intBin shiftBin aconv fieldOf aindexAddr aindex bound? aslice aarr abuild afill alen nilP nilS nilF aeq eqCells eqCell Go.Ai.known strBin abuiltin aappend abuildSlice arowsFill amakeSlice acopy aclear minmax rowsOf numsT notStr isIntD isByte V.pz V.pzs T.toV frz1 frz scalT scalTs chunkT List.range List.range.loop ite_true ite_false if_true if_false ne_eq implies_true forall_const eq_self IntKind.bits kPostKF_ret kPostKF_normal kPostX_ret kPostX_normal bsl nil2K nil2 kPostFW_ret kPostFW_normal kPostKM_ret kPostKM_normal kPostXK_ret kPostXK_normal
theorem mh71 : AC Try.prog 71 [vI 0, vI 2] [] (eqR (vI 1)) := by
  refine AC_plain orders Try.func71 rfl (by kernel_rfl) (by kernel_rfl) Try.ntmps71 (by simp) ?_
  unfold Try.f71
  (have hwq := trivial; repeat' (first | simp (maxSteps:=9999999)-implicitDefEqProofs only [go_sem,simprocAttr,hwq,u96,a96,c96,b96,z96,k96,u99,a99,c99,b99,z99,k99] | (refine awpL_loop 18 ?_; have hwq := trivial) | (refine condK_split ?_ ?_ <;> intro hwq) | (refine two_split ?_ ?_) | (refine guardK_split ?_ ?_ <;> intro hwq) | (refine guardE_split ?_ ?_ <;> intro hwq) | (refine awp_drawW [] (by decide +kernel) ?_; have hwq := trivial) | fail))
theorem mh80 : AC Try.prog 80 [vI 0] [] (eqR (vI 3)) := by
  refine AC_plain orders Try.func80 rfl (by kernel_rfl) (by kernel_rfl) Try.ntmps80 (by simp) ?_
  unfold Try.f80
  (have hwq := trivial; repeat' (first | simp (maxSteps:=9999999)-implicitDefEqProofs only [go_sem,simprocAttr,hwq,u91,a91,c91,b91,z91,k91,u100,a100,c100,b100,z100,k100] | (refine awpL_loop 18 ?_; have hwq := trivial) | (refine condK_split ?_ ?_ <;> intro hwq) | (refine two_split ?_ ?_) | (refine guardK_split ?_ ?_ <;> intro hwq) | (refine guardE_split ?_ ?_ <;> intro hwq) | (refine awp_drawW [] (by decide +kernel) ?_; have hwq := trivial) | fail))
theorem mh72 : AC Try.prog 72 [vI 1, vI 0] [] (eqR (.tuple [vI 4, vI 3])) := by
  refine AC_plain orders Try.func72 rfl (by kernel_rfl) (by kernel_rfl) Try.ntmps72 (by simp) ?_
  unfold Try.f72
  (have hwq := trivial; repeat' (first | simp (maxSteps:=9999999)-implicitDefEqProofs only [go_sem,simprocAttr,hwq,u91,a91,c91,b91,z91,k91,u96,a96,c96,b96,z96,k96,u100,a100,c100,b100,z100,k100] | (refine awpL_loop 18 ?_; have hwq := trivial) | (refine condK_split ?_ ?_ <;> intro hwq) | (refine two_split ?_ ?_) | (refine guardK_split ?_ ?_ <;> intro hwq) | (refine guardE_split ?_ ?_ <;> intro hwq) | (refine awp_drawW [] (by decide +kernel) ?_; have hwq := trivial) | (refine call_plain mh80 rfl rfl ?_; have hwq := trivial) | fail))
theorem mh83 : AC Try.prog 83 [vI 0] [] (eqR (vI 0)) := by
  refine AC_plain orders Try.func83 rfl (by kernel_rfl) (by kernel_rfl) Try.ntmps83 (by simp) ?_
  unfold Try.f83
  (have hwq := trivial; repeat' (first | simp (maxSteps:=9999999)-implicitDefEqProofs only [go_sem,simprocAttr,hwq,u96,a96,c96,b96,z96,k96] | (refine awpL_loop 18 ?_; have hwq := trivial) | (refine condK_split ?_ ?_ <;> intro hwq) | (refine two_split ?_ ?_) | (refine guardK_split ?_ ?_ <;> intro hwq) | (refine guardE_split ?_ ?_ <;> intro hwq) | (refine awp_drawW [] (by decide +kernel) ?_; have hwq := trivial) | fail))
theorem mh74 : AC Try.prog 74 [vI 0, vI 7] [] (eqR (vI 0)) := by
  refine AC_plain orders Try.func74 rfl (by kernel_rfl) (by kernel_rfl) Try.ntmps74 (by simp) ?_
  unfold Try.f74
  (have hwq := trivial; repeat' (first | simp (maxSteps:=9999999)-implicitDefEqProofs only [go_sem,simprocAttr,hwq,u96,a96,c96,b96,z96,k96,u99,a99,c99,b99,z99,k99] | (refine awpL_loop 18 ?_; have hwq := trivial) | (refine condK_split ?_ ?_ <;> intro hwq) | (refine two_split ?_ ?_) | (refine guardK_split ?_ ?_ <;> intro hwq) | (refine guardE_split ?_ ?_ <;> intro hwq) | (refine awp_drawW [] (by decide +kernel) ?_; have hwq := trivial) | (refine call_plain mh83 rfl rfl ?_; have hwq := trivial) | fail))
theorem mh49a : AC Try.prog 49 [vI 0, vI 2, vI 0] [] (eqR (.tuple [vI 1, vI 6])) := by
  refine AC_plain orders Try.func49 rfl (by kernel_rfl) (by kernel_rfl) Try.ntmps49 (by simp) ?_
  unfold Try.f49
  (have hwq := trivial; repeat' (first | simp (maxSteps:=9999999)-implicitDefEqProofs only [go_sem,simprocAttr,hwq,u91,a91,c91,b91,z91,k91,u96,a96,c96,b96,z96,k96,u99,a99,c99,b99,z99,k99,u100,a100,c100,b100,z100,k100] | (refine awpL_loop 18 ?_; have hwq := trivial) | (refine condK_split ?_ ?_ <;> intro hwq) | (refine two_split ?_ ?_) | (refine guardK_split ?_ ?_ <;> intro hwq) | (refine guardE_split ?_ ?_ <;> intro hwq) | (refine awp_drawW [] (by decide +kernel) ?_; have hwq := trivial) | (refine call_plain mh71 rfl rfl ?_; have hwq := trivial) | fail))
theorem mh49b : AC Try.prog 49 [vI 1, vI 12, vI 0] [] (eqR (.tuple [vI 4, vI 3])) := by
  refine AC_plain orders Try.func49 rfl (by kernel_rfl) (by kernel_rfl) Try.ntmps49 (by simp) ?_
  unfold Try.f49
  (have hwq := trivial; repeat' (first | simp (maxSteps:=9999999)-implicitDefEqProofs only [go_sem,simprocAttr,hwq,u91,a91,c91,b91,z91,k91,u96,a96,c96,b96,z96,k96,u99,a99,c99,b99,z99,k99,u100,a100,c100,b100,z100,k100] | (refine awpL_loop 18 ?_; have hwq := trivial) | (refine condK_split ?_ ?_ <;> intro hwq) | (refine two_split ?_ ?_) | (refine guardK_split ?_ ?_ <;> intro hwq) | (refine guardE_split ?_ ?_ <;> intro hwq) | (refine awp_drawW [] (by decide +kernel) ?_; have hwq := trivial) | (refine call_plain mh72 rfl rfl ?_; have hwq := trivial) | fail))
theorem mh49c : AC Try.prog 49 [vI 0, vI 7, vI 0] [] (eqR (.tuple [vI 0, vI 6])) := by
  refine AC_plain orders Try.func49 rfl (by kernel_rfl) (by kernel_rfl) Try.ntmps49 (by simp) ?_
  unfold Try.f49
  (have hwq := trivial; repeat' (first | simp (maxSteps:=9999999)-implicitDefEqProofs only [go_sem,simprocAttr,hwq,u91,a91,c91,b91,z91,k91,u96,a96,c96,b96,z96,k96,u99,a99,c99,b99,z99,k99,u100,a100,c100,b100,z100,k100] | (refine awpL_loop 18 ?_; have hwq := trivial) | (refine condK_split ?_ ?_ <;> intro hwq) | (refine two_split ?_ ?_) | (refine guardK_split ?_ ?_ <;> intro hwq) | (refine guardE_split ?_ ?_ <;> intro hwq) | (refine awp_drawW [] (by decide +kernel) ?_; have hwq := trivial) | (refine call_plain mh74 rfl rfl ?_; have hwq := trivial) | fail))
theorem mh50a : AC Try.prog 50 [vI 0, vI 2] [] (eqR (vI 0)) := by
  refine AC_plain orders Try.func50 rfl (by kernel_rfl) (by kernel_rfl) Try.ntmps50 (by simp) ?_
  unfold Try.f50
  (have hwq := trivial; repeat' (first | simp (maxSteps:=9999999)-implicitDefEqProofs only [go_sem,simprocAttr,hwq,u99,a99,c99,b99,z99,k99,u100,a100,c100,b100,z100,k100] | (refine awpL_loop 18 ?_; have hwq := trivial) | (refine condK_split ?_ ?_ <;> intro hwq) | (refine two_split ?_ ?_) | (refine guardK_split ?_ ?_ <;> intro hwq) | (refine guardE_split ?_ ?_ <;> intro hwq) | (refine awp_drawW [] (by decide +kernel) ?_; have hwq := trivial) | fail))
theorem mh50b : AC Try.prog 50 [vI 0, vI 12] [] (eqR (vI 0)) := by
  refine AC_plain orders Try.func50 rfl (by kernel_rfl) (by kernel_rfl) Try.ntmps50 (by simp) ?_
  unfold Try.f50
  (have hwq := trivial; repeat' (first | simp (maxSteps:=9999999)-implicitDefEqProofs only [go_sem,simprocAttr,hwq,u99,a99,c99,b99,z99,k99,u100,a100,c100,b100,z100,k100] | (refine awpL_loop 18 ?_; have hwq := trivial) | (refine condK_split ?_ ?_ <;> intro hwq) | (refine two_split ?_ ?_) | (refine guardK_split ?_ ?_ <;> intro hwq) | (refine guardE_split ?_ ?_ <;> intro hwq) | (refine awp_drawW [] (by decide +kernel) ?_; have hwq := trivial) | fail))
theorem mh50c : AC Try.prog 50 [vI 0, vI 7] [] (eqR (vI 2)) := by
  refine AC_plain orders Try.func50 rfl (by kernel_rfl) (by kernel_rfl) Try.ntmps50 (by simp) ?_
  unfold Try.f50
  (have hwq := trivial; repeat' (first | simp (maxSteps:=9999999)-implicitDefEqProofs only [go_sem,simprocAttr,hwq,u99,a99,c99,b99,z99,k99,u100,a100,c100,b100,z100,k100] | (refine awpL_loop 18 ?_; have hwq := trivial) | (refine condK_split ?_ ?_ <;> intro hwq) | (refine two_split ?_ ?_) | (refine guardK_split ?_ ?_ <;> intro hwq) | (refine guardE_split ?_ ?_ <;> intro hwq) | (refine awp_drawW [] (by decide +kernel) ?_; have hwq := trivial) | fail))
theorem mh50d : AC Try.prog 50 [vI 2, vI 9] [] (eqR (vI 1)) := by
  refine AC_plain orders Try.func50 rfl (by kernel_rfl) (by kernel_rfl) Try.ntmps50 (by simp) ?_
  unfold Try.f50
  (have hwq := trivial; repeat' (first | simp (maxSteps:=9999999)-implicitDefEqProofs only [go_sem,simprocAttr,hwq,u99,a99,c99,b99,z99,k99,u100,a100,c100,b100,z100,k100] | (refine awpL_loop 18 ?_; have hwq := trivial) | (refine condK_split ?_ ?_ <;> intro hwq) | (refine two_split ?_ ?_) | (refine guardK_split ?_ ?_ <;> intro hwq) | (refine guardE_split ?_ ?_ <;> intro hwq) | (refine awp_drawW [] (by decide +kernel) ?_; have hwq := trivial) | fail))
theorem mh64 : AC Try.prog 64 [vI 3] [] (eqR (vI 7)) := by
  refine AC_plain orders Try.func64 rfl (by kernel_rfl) (by kernel_rfl) Try.ntmps64 (by simp) ?_
  unfold Try.f64
  (have hwq := trivial; repeat' (first | simp (maxSteps:=9999999)-implicitDefEqProofs only [go_sem,simprocAttr,hwq,u91,a91,c91,b91,z91,k91,u99,a99,c99,b99,z99,k99,u131,a131,c131,b131,z131,k131,l131] | (refine awpL_loop 18 ?_; have hwq := trivial) | (refine condK_split ?_ ?_ <;> intro hwq) | (refine two_split ?_ ?_) | (refine guardK_split ?_ ?_ <;> intro hwq) | (refine guardE_split ?_ ?_ <;> intro hwq) | (refine awp_drawW [] (by decide +kernel) ?_; have hwq := trivial) | fail))
abbrev Mg : List Int := [0, 1, 2, 0, 1, 0, 10, 108, 0, 0, 0, 0]
theorem mh48 : AC Try.prog 48 [bysV Mg, bysV Mg] [] (eqR (vB true)) := by
  refine AC_plain orders Try.func48 rfl (by kernel_rfl) (by kernel_rfl) Try.ntmps48 (by simp) ?_
  unfold Try.f48
  (have hwq := trivial; repeat' (first | simp (maxSteps:=9999999)-implicitDefEqProofs only [go_sem,simprocAttr,hwq,u3,a3,c3,b3,z3,k3,u4,a4,c4,b4,z4,k4,u5,a5,c5,b5,z5,k5,u23,a23,c23,b23,z23,k23,List.map_cons,List.map_nil] | (refine awpL_loop 18 ?_; have hwq := trivial) | (refine condK_split ?_ ?_ <;> intro hwq) | (refine two_split ?_ ?_) | (refine guardK_split ?_ ?_ <;> intro hwq) | (refine guardE_split ?_ ?_ <;> intro hwq) | (refine awp_drawW [] (by decide +kernel) ?_; have hwq := trivial) | fail))
  all_goals trace_state
theorem encM : encR [⟨false, 10, [3]⟩] = (Mg, 0) := by decide
theorem mh11 : AC Try.prog 11 [vcsV [⟨false, 10, [3]⟩]] [] (eqR (.tuple [bysV Mg, vI 0])) := by
  have h := mc11 [⟨false, 10, [3]⟩] (by simp)
  rwa [encM] at h
theorem mh42a : AC Try.prog 42 [vcV ⟨false, 10, [3]⟩] [] (eqR (vB true)) := mc42 _ (by simp)
theorem mh42b : AC Try.prog 42 [vcV ⟨false, 0, []⟩] [] (eqR (vB false)) := mc42 _ (by simp)
end Go.Ai

set_option linter.unusedVariables false
set_option linter.unusedSimpArgs false
set_option maxHeartbeats 4000000
set_option maxRecDepth 100000
namespace Go.Ai
open Go.Proofs
attribute [local go_sem] QH QR V.noimm V.noimms frzZs frzZ frzA frzV frzVs frzBox boxLen Option.isSome cond_true cond_false aopD calW flatV stepX amap stepY alookup afind aupdate adelete amlen arange ameq mapOf akeq pl V.mapT V.mapTs Option.bind stepK runK guardD stepE runD callD compact selB callK evS ofVal ofVals scalar aop ares mkRes V.rn V.rns V.cells? cellsAt Go.Ai.part aload astore setL V.atom abin aun intBin shiftBin aconv fieldOf aindexAddr aindex bound? aslice aarr abuild afill alen nilP nilS nilF aeq eqCells eqCell Go.Ai.known strBin abuiltin aappend abuildSlice arowsFill amakeSlice acopy aclear minmax rowsOf numsT notStr isIntD isByte V.pz V.pzs T.toV frz1 frz scalT scalTs chunkT List.range List.range.loop ite_true ite_false if_true if_false ne_eq implies_true forall_const eq_self IntKind.bits kPostKF_ret kPostKF_normal kPostX_ret kPostX_normal bsl nil2K nil2 kPostFW_ret kPostFW_normal kPostKM_ret kPostKM_normal kPostXK_ret kPostXK_normal
theorem mh47a : AC Try.prog 47 [bysV [0, 1, 0, 10, 108, 0, 0, 0, 0]] [] (eqR (.tuple [vcV ⟨false, 10, [3]⟩, bysV [0, 0, 0, 0], vB true])) := by
  have v1 : bOr .i64 0 1 = 1 := by decide
  have v2 : bAndNot .i64 1 8192 = 1 := by decide
  have v3 : bAnd .i64 1 8192 = 0 := by decide
  have v4 : bOr .i64 0 10 = 10 := by decide
  have v5 : bOr .i64 0 0 = 0 := by decide
  have v6 : bAnd .i64 0 8192 = 0 := by decide
  have v7 : bAndNot .i64 0 8192 = 0 := by decide
  have v8 : (3 : Int).tdiv 3 = 1 := by decide
  have v9 : (2 : Int).tdiv 3 = 0 := by decide
  have v10 : (108 : Int).tdiv 36 = 3 := by decide
  have v11 : (108 : Int).tdiv 6 = 18 := by decide
  have v12 : (18 : Int).tmod 6 = 0 := by decide
  have v13 : (108 : Int).tmod 6 = 0 := by decide
  have v14 : IntKind.i64.wrap 3 = 3 := by decide
  have v15 : IntKind.i64.wrap 2 = 2 := by decide
  have v16 : IntKind.i64.wrap 5 = 5 := by decide
  have v17 : IntKind.i64.wrap 1 = 1 := by decide
  have v18 : IntKind.i64.wrap 4 = 4 := by decide
  refine AC_frozenW orders Try.func47 rfl (by kernel_rfl) (by kernel_rfl) Try.ntmps47 (by simp) ?_
  unfold Try.f47
  (have hwq := trivial; repeat' (first | simp (maxSteps:=9999999)-implicitDefEqProofs only [go_sem,simprocAttr,hwq,u3,a3,c3,b3,z3,k3,u4,a4,c4,b4,z4,k4,u5,a5,c5,b5,z5,k5,u23,a23,c23,b23,z23,k23,u82,a82,c82,b82,z82,k82,u84,a84,c84,b84,z84,k84,u91,a91,c91,b91,z91,k91,u126,a126,c126,b126,z126,k126,l126,List.map_cons,List.map_nil,v1,v2,v3,v4,v5,v6,v7,v8,v9,v10,v11,v12,v13,v14,v15,v16,v17,v18,List.drop_succ_cons,List.drop_zero,List.drop_nil,List.take_succ_cons,List.take_zero,List.take_nil,List.length_cons,List.length_nil] | (refine awpL_loop 18 ?_; have hwq := trivial) | (refine condK_split ?_ ?_ <;> intro hwq) | (refine two_split ?_ ?_) | (refine guardK_split ?_ ?_ <;> intro hwq) | (refine guardE_split ?_ ?_ <;> intro hwq) | (refine awp_drawI 3 [] (List.range 22) [0, 1, 3, 7, 15, 0, 32, 96, 224, 511, 0, 1024, 3072, 7168, 15360, 0, 32768, 98304, 229376, 523264, 1023, 2097151] (by decide +kernel) ?_; have hwq := trivial) | (refine awp_drawW [] (by decide +kernel) ?_; have hwq := trivial) | fail))
  all_goals
    refine awp_drawT [] [0, 1, 2, 3] 4 5 [6, 7] [6, 7] [0, 0, 0, 4, 14, 1, 63, 127] [0, 0, 0, 4, 14, 1, 63, 127] (by decide +kernel) ?_
    (have hwq := trivial; repeat' (first | simp (maxSteps:=9999999)-implicitDefEqProofs only [go_sem,simprocAttr,hwq,u3,a3,c3,b3,z3,k3,u4,a4,c4,b4,z4,k4,u5,a5,c5,b5,z5,k5,u23,a23,c23,b23,z23,k23,u82,a82,c82,b82,z82,k82,u84,a84,c84,b84,z84,k84,u91,a91,c91,b91,z91,k91,u126,a126,c126,b126,z126,k126,l126,List.map_cons,List.map_nil,v1,v2,v3,v4,v5,v6,v7,v8,v9,v10,v11,v12,v13,v14,v15,v16,v17,v18,List.drop_succ_cons,List.drop_zero,List.drop_nil,List.take_succ_cons,List.take_zero,List.take_nil,List.length_cons,List.length_nil] | (refine awpL_loop 18 ?_; have hwq := trivial) | (refine condK_split ?_ ?_ <;> intro hwq) | (refine two_split ?_ ?_) | (refine guardK_split ?_ ?_ <;> intro hwq) | (refine guardE_split ?_ ?_ <;> intro hwq) | (refine awp_drawI 3 [] (List.range 22) [0, 1, 3, 7, 15, 0, 32, 96, 224, 511, 0, 1024, 3072, 7168, 15360, 0, 32768, 98304, 229376, 523264, 1023, 2097151] (by decide +kernel) ?_; have hwq := trivial) | (refine awp_drawW [] (by decide +kernel) ?_; have hwq := trivial) | fail))
    refine two_mk ⟨tms [(2, .ptr 0 0 0), (3, bysV [0, 0, 0, 0]), (4, vB true)], [.box [vB false, vI 10, .own 3 0 1] false, .box [vB false, vI 10, .own 3 0 1] false, .rows 1 [inT 3] false, .rows 1 [inT 3] false], [] ++ List.range' 4 0⟩ ?_ ?_ ?_
    · (have hwq := trivial; repeat' (first | simp (maxSteps:=9999999)-implicitDefEqProofs only [go_sem,simprocAttr,hwq,u3,a3,c3,b3,z3,k3,u4,a4,c4,b4,z4,k4,u5,a5,c5,b5,z5,k5,u23,a23,c23,b23,z23,k23,u82,a82,c82,b82,z82,k82,u84,a84,c84,b84,z84,k84,u91,a91,c91,b91,z91,k91,u126,a126,c126,b126,z126,k126,l126,List.map_cons,List.map_nil,v1,v2,v3,v4,v5,v6,v7,v8,v9,v10,v11,v12,v13,v14,v15,v16,v17,v18,List.drop_succ_cons,List.drop_zero,List.drop_nil,List.take_succ_cons,List.take_zero,List.take_nil,List.length_cons,List.length_nil] | (refine awpL_loop 18 ?_; have hwq := trivial) | (refine condK_split ?_ ?_ <;> intro hwq) | (refine two_split ?_ ?_) | (refine guardK_split ?_ ?_ <;> intro hwq) | (refine guardE_split ?_ ?_ <;> intro hwq) | (refine awp_drawI 3 [] (List.range 22) [0, 1, 3, 7, 15, 0, 32, 96, 224, 511, 0, 1024, 3072, 7168, 15360, 0, 32768, 98304, 229376, 523264, 1023, 2097151] (by decide +kernel) ?_; have hwq := trivial) | (refine awp_drawW [] (by decide +kernel) ?_; have hwq := trivial) | fail))
      refine weak_mk (Weak.cutI 4 [2, 3, 4] ?_ ?_)
      · simp (maxSteps:=9999999)-implicitDefEqProofs only [simprocAttr,QH,Option.isSome,cond_true,cond_false,Option.bind,selB,V.rn,V.rns,Go.Ai.known,V.pz,V.pzs,T.toV,frz1,List.range,List.range.loop,ite_true,ite_false,if_true,if_false,ne_eq,implies_true,forall_const,eq_self,IntKind.bits,upd_tmsS,selT_cons,selT_nil,List.map_cons,List.map_nil,v1,v2,v3,v4,v5,v6,v7,v8,v9,v10,v11,v12,v13,v14,v15,v16,v17,v18,List.drop_succ_cons,List.drop_zero,List.drop_nil,List.take_succ_cons,List.take_zero,List.take_nil,List.length_cons,List.length_nil]
        rfl
      · simp (maxSteps:=9999999)-implicitDefEqProofs only [simprocAttr,QH,Option.isSome,cond_true,cond_false,Option.bind,selB,V.rn,V.rns,Go.Ai.known,V.pz,V.pzs,T.toV,frz1,List.range,List.range.loop,ite_true,ite_false,if_true,if_false,ne_eq,implies_true,forall_const,eq_self,IntKind.bits,upd_tmsS,selT_cons,selT_nil,List.map_cons,List.map_nil,v1,v2,v3,v4,v5,v6,v7,v8,v9,v10,v11,v12,v13,v14,v15,v16,v17,v18,List.drop_succ_cons,List.drop_zero,List.drop_nil,List.take_succ_cons,List.take_zero,List.take_nil,List.length_cons,List.length_nil]
    · (have hwq := trivial; repeat' (first | simp (maxSteps:=9999999)-implicitDefEqProofs only [go_sem,simprocAttr,hwq,u3,a3,c3,b3,z3,k3,u4,a4,c4,b4,z4,k4,u5,a5,c5,b5,z5,k5,u23,a23,c23,b23,z23,k23,u82,a82,c82,b82,z82,k82,u84,a84,c84,b84,z84,k84,u91,a91,c91,b91,z91,k91,u126,a126,c126,b126,z126,k126,l126,List.map_cons,List.map_nil,v1,v2,v3,v4,v5,v6,v7,v8,v9,v10,v11,v12,v13,v14,v15,v16,v17,v18,List.drop_succ_cons,List.drop_zero,List.drop_nil,List.take_succ_cons,List.take_zero,List.take_nil,List.length_cons,List.length_nil] | (refine awpL_loop 18 ?_; have hwq := trivial) | (refine condK_split ?_ ?_ <;> intro hwq) | (refine two_split ?_ ?_) | (refine guardK_split ?_ ?_ <;> intro hwq) | (refine guardE_split ?_ ?_ <;> intro hwq) | (refine awp_drawI 3 [] (List.range 22) [0, 1, 3, 7, 15, 0, 32, 96, 224, 511, 0, 1024, 3072, 7168, 15360, 0, 32768, 98304, 229376, 523264, 1023, 2097151] (by decide +kernel) ?_; have hwq := trivial) | (refine awp_drawW [] (by decide +kernel) ?_; have hwq := trivial) | fail))
      refine weak_mk (Weak.cutI 4 [2, 3, 4] ?_ ?_)
      · simp (maxSteps:=9999999)-implicitDefEqProofs only [simprocAttr,QH,Option.isSome,cond_true,cond_false,Option.bind,selB,V.rn,V.rns,Go.Ai.known,V.pz,V.pzs,T.toV,frz1,List.range,List.range.loop,ite_true,ite_false,if_true,if_false,ne_eq,implies_true,forall_const,eq_self,IntKind.bits,upd_tmsS,selT_cons,selT_nil,List.map_cons,List.map_nil,v1,v2,v3,v4,v5,v6,v7,v8,v9,v10,v11,v12,v13,v14,v15,v16,v17,v18,List.drop_succ_cons,List.drop_zero,List.drop_nil,List.take_succ_cons,List.take_zero,List.take_nil,List.length_cons,List.length_nil]
        rfl
      · simp (maxSteps:=9999999)-implicitDefEqProofs only [simprocAttr,QH,Option.isSome,cond_true,cond_false,Option.bind,selB,V.rn,V.rns,Go.Ai.known,V.pz,V.pzs,T.toV,frz1,List.range,List.range.loop,ite_true,ite_false,if_true,if_false,ne_eq,implies_true,forall_const,eq_self,IntKind.bits,upd_tmsS,selT_cons,selT_nil,List.map_cons,List.map_nil,v1,v2,v3,v4,v5,v6,v7,v8,v9,v10,v11,v12,v13,v14,v15,v16,v17,v18,List.drop_succ_cons,List.drop_zero,List.drop_nil,List.take_succ_cons,List.take_zero,List.take_nil,List.length_cons,List.length_nil]
    (have hwq := trivial; repeat' (first | simp (maxSteps:=9999999)-implicitDefEqProofs only [go_sem,simprocAttr,hwq,u3,a3,c3,b3,z3,k3,u4,a4,c4,b4,z4,k4,u5,a5,c5,b5,z5,k5,u23,a23,c23,b23,z23,k23,u82,a82,c82,b82,z82,k82,u84,a84,c84,b84,z84,k84,u91,a91,c91,b91,z91,k91,u126,a126,c126,b126,z126,k126,l126,List.map_cons,List.map_nil,v1,v2,v3,v4,v5,v6,v7,v8,v9,v10,v11,v12,v13,v14,v15,v16,v17,v18,List.drop_succ_cons,List.drop_zero,List.drop_nil,List.take_succ_cons,List.take_zero,List.take_nil,List.length_cons,List.length_nil] | (refine awpL_loop 18 ?_; have hwq := trivial) | (refine condK_split ?_ ?_ <;> intro hwq) | (refine two_split ?_ ?_) | (refine guardK_split ?_ ?_ <;> intro hwq) | (refine guardE_split ?_ ?_ <;> intro hwq) | (refine awp_drawI 3 [] (List.range 22) [0, 1, 3, 7, 15, 0, 32, 96, 224, 511, 0, 1024, 3072, 7168, 15360, 0, 32768, 98304, 229376, 523264, 1023, 2097151] (by decide +kernel) ?_; have hwq := trivial) | (refine awp_drawW [] (by decide +kernel) ?_; have hwq := trivial) | fail))
    exact ⟨_, rfl, by simp [V.leT, V.le, V.les]⟩
theorem mh47b : AC Try.prog 47 [bysV [0, 0, 0, 0]] [] (eqR (.tuple [vcV ⟨false, 0, []⟩, bysV [], vB true])) := by
  have v1 : bOr .i64 0 1 = 1 := by decide
  have v2 : bAndNot .i64 1 8192 = 1 := by decide
  have v3 : bAnd .i64 1 8192 = 0 := by decide
  have v4 : bOr .i64 0 10 = 10 := by decide
  have v5 : bOr .i64 0 0 = 0 := by decide
  have v6 : bAnd .i64 0 8192 = 0 := by decide
  have v7 : bAndNot .i64 0 8192 = 0 := by decide
  have v8 : (3 : Int).tdiv 3 = 1 := by decide
  have v9 : (2 : Int).tdiv 3 = 0 := by decide
  have v10 : (108 : Int).tdiv 36 = 3 := by decide
  have v11 : (108 : Int).tdiv 6 = 18 := by decide
  have v12 : (18 : Int).tmod 6 = 0 := by decide
  have v13 : (108 : Int).tmod 6 = 0 := by decide
  have v14 : IntKind.i64.wrap 3 = 3 := by decide
  have v15 : IntKind.i64.wrap 2 = 2 := by decide
  have v16 : IntKind.i64.wrap 5 = 5 := by decide
  have v17 : IntKind.i64.wrap 1 = 1 := by decide
  have v18 : IntKind.i64.wrap 4 = 4 := by decide
  refine AC_frozenW orders Try.func47 rfl (by kernel_rfl) (by kernel_rfl) Try.ntmps47 (by simp) ?_
  unfold Try.f47
  (have hwq := trivial; repeat' (first | simp (maxSteps:=9999999)-implicitDefEqProofs only [go_sem,simprocAttr,hwq,u3,a3,c3,b3,z3,k3,u4,a4,c4,b4,z4,k4,u5,a5,c5,b5,z5,k5,u23,a23,c23,b23,z23,k23,u82,a82,c82,b82,z82,k82,u84,a84,c84,b84,z84,k84,u91,a91,c91,b91,z91,k91,u126,a126,c126,b126,z126,k126,l126,List.map_cons,List.map_nil,v1,v2,v3,v4,v5,v6,v7,v8,v9,v10,v11,v12,v13,v14,v15,v16,v17,v18,List.drop_succ_cons,List.drop_zero,List.drop_nil,List.take_succ_cons,List.take_zero,List.take_nil,List.length_cons,List.length_nil] | (refine awpL_loop 18 ?_; have hwq := trivial) | (refine condK_split ?_ ?_ <;> intro hwq) | (refine two_split ?_ ?_) | (refine guardK_split ?_ ?_ <;> intro hwq) | (refine guardE_split ?_ ?_ <;> intro hwq) | (refine awp_drawI 3 [] (List.range 22) [0, 1, 3, 7, 15, 0, 32, 96, 224, 511, 0, 1024, 3072, 7168, 15360, 0, 32768, 98304, 229376, 523264, 1023, 2097151] (by decide +kernel) ?_; have hwq := trivial) | (refine awp_drawW [] (by decide +kernel) ?_; have hwq := trivial) | fail))
  all_goals
    refine awp_drawT [] [0, 1, 2, 3] 4 5 [6, 7] [6, 7] [0, 0, 0, 4, 14, 1, 63, 127] [0, 0, 0, 4, 14, 1, 63, 127] (by decide +kernel) ?_
    (have hwq := trivial; repeat' (first | simp (maxSteps:=9999999)-implicitDefEqProofs only [go_sem,simprocAttr,hwq,u3,a3,c3,b3,z3,k3,u4,a4,c4,b4,z4,k4,u5,a5,c5,b5,z5,k5,u23,a23,c23,b23,z23,k23,u82,a82,c82,b82,z82,k82,u84,a84,c84,b84,z84,k84,u91,a91,c91,b91,z91,k91,u126,a126,c126,b126,z126,k126,l126,List.map_cons,List.map_nil,v1,v2,v3,v4,v5,v6,v7,v8,v9,v10,v11,v12,v13,v14,v15,v16,v17,v18,List.drop_succ_cons,List.drop_zero,List.drop_nil,List.take_succ_cons,List.take_zero,List.take_nil,List.length_cons,List.length_nil] | (refine awpL_loop 18 ?_; have hwq := trivial) | (refine condK_split ?_ ?_ <;> intro hwq) | (refine two_split ?_ ?_) | (refine guardK_split ?_ ?_ <;> intro hwq) | (refine guardE_split ?_ ?_ <;> intro hwq) | (refine awp_drawI 3 [] (List.range 22) [0, 1, 3, 7, 15, 0, 32, 96, 224, 511, 0, 1024, 3072, 7168, 15360, 0, 32768, 98304, 229376, 523264, 1023, 2097151] (by decide +kernel) ?_; have hwq := trivial) | (refine awp_drawW [] (by decide +kernel) ?_; have hwq := trivial) | fail))
    refine two_mk ⟨tms [(2, .ptr 0 0 0), (3, bysV []), (4, vB true)], [.box [vB false, vI 0, .s (.slice none 0 0)] false, .box [vB false, vI 0, .s (.slice none 0 0)] false], [] ++ List.range' 2 0⟩ ?_ ?_ ?_
    · (have hwq := trivial; repeat' (first | simp (maxSteps:=9999999)-implicitDefEqProofs only [go_sem,simprocAttr,hwq,u3,a3,c3,b3,z3,k3,u4,a4,c4,b4,z4,k4,u5,a5,c5,b5,z5,k5,u23,a23,c23,b23,z23,k23,u82,a82,c82,b82,z82,k82,u84,a84,c84,b84,z84,k84,u91,a91,c91,b91,z91,k91,u126,a126,c126,b126,z126,k126,l126,List.map_cons,List.map_nil,v1,v2,v3,v4,v5,v6,v7,v8,v9,v10,v11,v12,v13,v14,v15,v16,v17,v18,List.drop_succ_cons,List.drop_zero,List.drop_nil,List.take_succ_cons,List.take_zero,List.take_nil,List.length_cons,List.length_nil] | (refine awpL_loop 18 ?_; have hwq := trivial) | (refine condK_split ?_ ?_ <;> intro hwq) | (refine two_split ?_ ?_) | (refine guardK_split ?_ ?_ <;> intro hwq) | (refine guardE_split ?_ ?_ <;> intro hwq) | (refine awp_drawI 3 [] (List.range 22) [0, 1, 3, 7, 15, 0, 32, 96, 224, 511, 0, 1024, 3072, 7168, 15360, 0, 32768, 98304, 229376, 523264, 1023, 2097151] (by decide +kernel) ?_; have hwq := trivial) | (refine awp_drawW [] (by decide +kernel) ?_; have hwq := trivial) | fail))
      refine weak_mk (Weak.cutI 2 [2, 3, 4] ?_ ?_)
      · simp (maxSteps:=9999999)-implicitDefEqProofs only [simprocAttr,QH,Option.isSome,cond_true,cond_false,Option.bind,selB,V.rn,V.rns,Go.Ai.known,V.pz,V.pzs,T.toV,frz1,List.range,List.range.loop,ite_true,ite_false,if_true,if_false,ne_eq,implies_true,forall_const,eq_self,IntKind.bits,upd_tmsS,selT_cons,selT_nil,List.map_cons,List.map_nil,v1,v2,v3,v4,v5,v6,v7,v8,v9,v10,v11,v12,v13,v14,v15,v16,v17,v18,List.drop_succ_cons,List.drop_zero,List.drop_nil,List.take_succ_cons,List.take_zero,List.take_nil,List.length_cons,List.length_nil]
        rfl
      · simp (maxSteps:=9999999)-implicitDefEqProofs only [simprocAttr,QH,Option.isSome,cond_true,cond_false,Option.bind,selB,V.rn,V.rns,Go.Ai.known,V.pz,V.pzs,T.toV,frz1,List.range,List.range.loop,ite_true,ite_false,if_true,if_false,ne_eq,implies_true,forall_const,eq_self,IntKind.bits,upd_tmsS,selT_cons,selT_nil,List.map_cons,List.map_nil,v1,v2,v3,v4,v5,v6,v7,v8,v9,v10,v11,v12,v13,v14,v15,v16,v17,v18,List.drop_succ_cons,List.drop_zero,List.drop_nil,List.take_succ_cons,List.take_zero,List.take_nil,List.length_cons,List.length_nil]
    · (have hwq := trivial; repeat' (first | simp (maxSteps:=9999999)-implicitDefEqProofs only [go_sem,simprocAttr,hwq,u3,a3,c3,b3,z3,k3,u4,a4,c4,b4,z4,k4,u5,a5,c5,b5,z5,k5,u23,a23,c23,b23,z23,k23,u82,a82,c82,b82,z82,k82,u84,a84,c84,b84,z84,k84,u91,a91,c91,b91,z91,k91,u126,a126,c126,b126,z126,k126,l126,List.map_cons,List.map_nil,v1,v2,v3,v4,v5,v6,v7,v8,v9,v10,v11,v12,v13,v14,v15,v16,v17,v18,List.drop_succ_cons,List.drop_zero,List.drop_nil,List.take_succ_cons,List.take_zero,List.take_nil,List.length_cons,List.length_nil] | (refine awpL_loop 18 ?_; have hwq := trivial) | (refine condK_split ?_ ?_ <;> intro hwq) | (refine two_split ?_ ?_) | (refine guardK_split ?_ ?_ <;> intro hwq) | (refine guardE_split ?_ ?_ <;> intro hwq) | (refine awp_drawI 3 [] (List.range 22) [0, 1, 3, 7, 15, 0, 32, 96, 224, 511, 0, 1024, 3072, 7168, 15360, 0, 32768, 98304, 229376, 523264, 1023, 2097151] (by decide +kernel) ?_; have hwq := trivial) | (refine awp_drawW [] (by decide +kernel) ?_; have hwq := trivial) | fail))
      refine weak_mk (Weak.cutI 2 [2, 3, 4] ?_ ?_)
      · simp (maxSteps:=9999999)-implicitDefEqProofs only [simprocAttr,QH,Option.isSome,cond_true,cond_false,Option.bind,selB,V.rn,V.rns,Go.Ai.known,V.pz,V.pzs,T.toV,frz1,List.range,List.range.loop,ite_true,ite_false,if_true,if_false,ne_eq,implies_true,forall_const,eq_self,IntKind.bits,upd_tmsS,selT_cons,selT_nil,List.map_cons,List.map_nil,v1,v2,v3,v4,v5,v6,v7,v8,v9,v10,v11,v12,v13,v14,v15,v16,v17,v18,List.drop_succ_cons,List.drop_zero,List.drop_nil,List.take_succ_cons,List.take_zero,List.take_nil,List.length_cons,List.length_nil]
        rfl
      · simp (maxSteps:=9999999)-implicitDefEqProofs only [simprocAttr,QH,Option.isSome,cond_true,cond_false,Option.bind,selB,V.rn,V.rns,Go.Ai.known,V.pz,V.pzs,T.toV,frz1,List.range,List.range.loop,ite_true,ite_false,if_true,if_false,ne_eq,implies_true,forall_const,eq_self,IntKind.bits,upd_tmsS,selT_cons,selT_nil,List.map_cons,List.map_nil,v1,v2,v3,v4,v5,v6,v7,v8,v9,v10,v11,v12,v13,v14,v15,v16,v17,v18,List.drop_succ_cons,List.drop_zero,List.drop_nil,List.take_succ_cons,List.take_zero,List.take_nil,List.length_cons,List.length_nil]
    (have hwq := trivial; repeat' (first | simp (maxSteps:=9999999)-implicitDefEqProofs only [go_sem,simprocAttr,hwq,u3,a3,c3,b3,z3,k3,u4,a4,c4,b4,z4,k4,u5,a5,c5,b5,z5,k5,u23,a23,c23,b23,z23,k23,u82,a82,c82,b82,z82,k82,u84,a84,c84,b84,z84,k84,u91,a91,c91,b91,z91,k91,u126,a126,c126,b126,z126,k126,l126,List.map_cons,List.map_nil,v1,v2,v3,v4,v5,v6,v7,v8,v9,v10,v11,v12,v13,v14,v15,v16,v17,v18,List.drop_succ_cons,List.drop_zero,List.drop_nil,List.take_succ_cons,List.take_zero,List.take_nil,List.length_cons,List.length_nil] | (refine awpL_loop 18 ?_; have hwq := trivial) | (refine condK_split ?_ ?_ <;> intro hwq) | (refine two_split ?_ ?_) | (refine guardK_split ?_ ?_ <;> intro hwq) | (refine guardE_split ?_ ?_ <;> intro hwq) | (refine awp_drawI 3 [] (List.range 22) [0, 1, 3, 7, 15, 0, 32, 96, 224, 511, 0, 1024, 3072, 7168, 15360, 0, 32768, 98304, 229376, 523264, 1023, 2097151] (by decide +kernel) ?_; have hwq := trivial) | (refine awp_drawW [] (by decide +kernel) ?_; have hwq := trivial) | fail))
    exact ⟨_, rfl, by simp [V.leT, V.le, V.les]⟩
end Go.Ai

set_option linter.unusedVariables false
set_option linter.unusedSimpArgs false
set_option maxHeartbeats 4000000
set_option maxRecDepth 100000
namespace Go.Ai
open Go.Proofs
attribute [local go_sem] QH QR V.noimm V.noimms frzZs frzZ frzA frzV frzVs frzBox boxLen Option.isSome cond_true cond_false aopD calW flatV stepX amap stepY alookup afind aupdate adelete amlen arange ameq mapOf akeq pl V.mapT V.mapTs Option.bind stepK runK guardD stepE runD callD compact selB callK evS ofVal ofVals scalar aop ares mkRes V.rn V.rns V.cells? cellsAt Go.Ai.part aload astore setL V.atom abin aun intBin shiftBin aconv fieldOf aindexAddr aindex bound? aslice aarr abuild afill alen nilP nilS nilF aeq eqCells eqCell Go.Ai.known strBin abuiltin aappend abuildSlice arowsFill amakeSlice acopy aclear minmax rowsOf numsT notStr isIntD isByte V.pz V.pzs T.toV frz1 frz scalT scalTs chunkT List.range List.range.loop ite_true ite_false if_true if_false ne_eq implies_true forall_const eq_self IntKind.bits kPostKF_ret kPostKF_normal kPostX_ret kPostX_normal bsl nil2K nil2 kPostFW_ret kPostFW_normal kPostKM_ret kPostKM_normal kPostXK_ret kPostXK_normal
theorem mh13 : AC Try.prog 13 [bysV Mg] [] (eqR (.tuple [vcsV [⟨false, 10, [3]⟩], vI 0])) := by
  refine AC_frozen orders Try.func13 rfl (by kernel_rfl) (by kernel_rfl) Try.ntmps13 (by simp) ?_
  unfold Try.f13
  (have hwq := trivial; repeat' (first | simp (maxSteps:=9999999)-implicitDefEqProofs only [go_sem,simprocAttr,hwq,u3,a3,c3,b3,z3,k3,u4,a4,c4,b4,z4,k4,u5,a5,c5,b5,z5,k5,u22,a22,c22,b22,z22,k22,u23,a23,c23,b23,z23,k23,u26,a26,c26,b26,z26,k26,u82,a82,c82,b82,z82,k82,u84,a84,c84,b84,z84,k84,u91,a91,c91,b91,z91,k91,List.map_cons,List.map_nil,List.drop_succ_cons,List.drop_zero,List.drop_nil,List.take_succ_cons,List.take_zero,List.take_nil,List.length_cons,List.length_nil] | (refine awpL_loop 18 ?_; have hwq := trivial) | (refine condK_split ?_ ?_ <;> intro hwq) | (refine two_split ?_ ?_) | (refine guardK_split ?_ ?_ <;> intro hwq) | (refine guardE_split ?_ ?_ <;> intro hwq) | (refine awp_drawW [] (by decide +kernel) ?_; have hwq := trivial) | (refine call_plain mh47a rfl rfl ?_; have hwq := trivial) | (refine call_plain mh47b rfl rfl ?_; have hwq := trivial) | (refine call_data mh42a rfl (V.les_refl _) rfl ?_; have hwq := trivial) | (refine call_data mh42b rfl (V.les_refl _) rfl ?_; have hwq := trivial) | (refine call_dataF mh11 rfl (V.les_refl _) rfl rfl ?_; have hwq := trivial) | (refine call_plain mh48 rfl rfl ?_; have hwq := trivial) | fail))
  rfl
end Go.Ai

set_option linter.unusedVariables false
set_option linter.unusedSimpArgs false
set_option maxHeartbeats 4000000
set_option maxRecDepth 100000
namespace Go.Ai
open Go.Proofs
attribute [local go_sem] QH QR V.noimm V.noimms frzZs frzZ frzA frzV frzVs frzBox boxLen Option.isSome cond_true cond_false aopD calW flatV stepX amap stepY alookup afind aupdate adelete amlen arange ameq mapOf akeq pl V.mapT V.mapTs Option.bind stepK runK guardD stepE runD callD compact selB callK evS ofVal ofVals scalar aop ares mkRes V.rn V.rns V.cells? cellsAt Go.Ai.part aload astore setL V.atom abin aun intBin shiftBin aconv fieldOf aindexAddr aindex bound? aslice aarr abuild afill alen nilP nilS nilF aeq eqCells eqCell Go.Ai.known strBin abuiltin aappend abuildSlice arowsFill amakeSlice acopy aclear minmax rowsOf numsT notStr isIntD isByte V.pz V.pzs T.toV frz1 frz scalT scalTs chunkT List.range List.range.loop ite_true ite_false if_true if_false ne_eq implies_true forall_const eq_self IntKind.bits kPostKF_ret kPostKF_normal kPostX_ret kPostX_normal bsl nil2K nil2 kPostFW_ret kPostFW_normal kPostKM_ret kPostKM_normal kPostXK_ret kPostXK_normal
theorem mj54 (lv al ck v a r t : Int) (n c : Nat) (hnc : n < c) (h : (a == 0 && r == 0) = false) : AC Try.prog 54 [.ptr 0 0 0] (hP lv al ck [eV v a r t n] c) (eqS (.tuple []) (hP lv al ck [eV v a r t n] c)) := by
  refine AC_heap orders [0, 1] Try.func54 rfl (by kernel_rfl) (by kernel_rfl) Try.ntmps54 (by simp) ?_
  unfold Try.f54
  (have hwq := trivial; repeat' (first | simp (maxSteps:=9999999)-implicitDefEqProofs only [go_sem,simprocAttr,hwq,u3,a3,c3,b3,z3,k3,u39,a39,c39,b39,z39,k39,l39,u41,a41,c41,b41,z41,k41,u77,a77,c77,b77,z77,k77,u79,a79,c79,b79,z79,k79,u96,a96,c96,b96,z96,k96,u100,a100,c100,b100,z100,k100,u105,a105,c105,b105,z105,k105,l105,rn_mp,mapT_mp,pz_mp,flatE,flatS,lk3,nextK,aentry,forall_eq_or_imp,forall_eq,List.getLast?_append,List.getLast?_singleton,List.getLast?_nil,List.getLast?_cons_cons,List.find?_cons,Option.some_or,List.mem_append,List.nil_append,List.eraseIdx_cons_zero,List.eraseIdx_cons_succ,Option.or_some,List.forall_mem_cons,List.forall_mem_nil,not_true_eq_false,hnc,true_and,h] | (refine awpL_loop 18 ?_; have hwq := trivial) | (refine condK_split ?_ ?_ <;> intro hwq) | (refine two_split ?_ ?_) | (refine guardK_split ?_ ?_ <;> intro hwq) | (refine guardE_split ?_ ?_ <;> intro hwq) | (refine awp_drawW [] (by decide +kernel) ?_; have hwq := trivial) | fail))
  all_goals simp_all
theorem mj56 (lv al ck v a r t : Int) (n c : Nat) (hnc : n < c) : AC Try.prog 56 [.ptr 0 0 0] (hP lv al ck [eV v a r t n] c) (eqS (isV [v]) (hP lv al ck [eV v a r t n] c)) := by
  refine AC_heapF orders [0, 1] Try.func56 rfl (by kernel_rfl) (by kernel_rfl) Try.ntmps56 (by simp) ?_
  unfold Try.f56
  (have hwq := trivial; repeat' (first | simp (maxSteps:=9999999)-implicitDefEqProofs only [go_sem,simprocAttr,hwq,u3,a3,c3,b3,z3,k3,u39,a39,c39,b39,z39,k39,l39,u40,a40,c40,b40,z40,k40,u41,a41,c41,b41,z41,k41,u77,a77,c77,b77,z77,k77,u79,a79,c79,b79,z79,k79,u96,a96,c96,b96,z96,k96,u100,a100,c100,b100,z100,k100,u105,a105,c105,b105,z105,k105,l105,rn_mp,mapT_mp,pz_mp,flatE,flatS,lk3,nextK,aentry,forall_eq_or_imp,forall_eq,List.getLast?_append,List.getLast?_singleton,List.getLast?_nil,List.getLast?_cons_cons,List.find?_cons,Option.some_or,List.mem_append,List.nil_append,List.eraseIdx_cons_zero,List.eraseIdx_cons_succ,Option.or_some,List.forall_mem_cons,List.forall_mem_nil,not_true_eq_false,hnc,true_and] | (refine awpL_loop 18 ?_; have hwq := trivial) | (refine condK_split ?_ ?_ <;> intro hwq) | (refine two_split ?_ ?_) | (refine guardK_split ?_ ?_ <;> intro hwq) | (refine guardE_split ?_ ?_ <;> intro hwq) | (refine awp_drawW [] (by decide +kernel) ?_; have hwq := trivial) | (refine call_own [4] (mz75 _) (by simp) (by decide) rfl rfl (V.les_refl _) ?_; have hwq := trivial) | fail))
  rfl
end Go.Ai
