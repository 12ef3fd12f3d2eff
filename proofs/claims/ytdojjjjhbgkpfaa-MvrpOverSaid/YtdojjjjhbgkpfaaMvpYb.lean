/- Contracts of functions of the loaded program: called with data in the ranges that each names, it returns this value and writes to no old memory. -/
import Derived.Test.YtdojjjjhbgkpfaaMvpY
set_option linter.unusedVariables false
set_option linter.unusedSimpArgs false
set_option maxHeartbeats 4000000
set_option maxRecDepth 100000
namespace Go.Ai
open Go.Proofs
attribute [local go_sem] QH QR V.noimm V.noimms frzZs frzZ frzA frzV frzVs frzBox boxLen Option.isSome cond_true cond_false aopD calW flatV stepX amap stepY alookup afind aupdate adelete amlen arange ameq mapOf akeq pl V.mapT V.mapTs Option.bind stepK runK guardD stepE runD callD compact selB callK evS ofVal ofVals scalar aop ares mkRes V.rn V.rns V.cells? cellsAt Go.Ai.part aload astore setL V.atom abin aun intBin shiftBin aconv fieldOf aindexAddr aindex bound? aslice aarr abuild afill alen nilP nilS nilF aeq eqCells eqCell Go.Ai.known strBin abuiltin aappend abuildSlice arowsFill amakeSlice acopy aclear minmax rowsOf numsT notStr isIntD isByte V.pz V.pzs T.toV frz1 frz scalT scalTs chunkT List.range List.range.loop ite_true ite_false if_true if_false ne_eq implies_true forall_const eq_self IntKind.bits kPostKF_ret kPostKF_normal kPostX_ret kPostX_normal bsl nil2K nil2 kPostFW_ret kPostFW_normal kPostKM_ret kPostKM_normal kPostXK_ret kPostXK_normal
/-- What vector answers. -/
def vecA (b : List Int) : V := match vecK b with
  | some (v, m) => .tuple [vcV v, bysV m, vB true]
  | none => .tuple [vcV ⟨false, 0, []⟩, bysV [], vB false]
theorem take_snoc {α : Type} (Y : List α) (d : α) (n : Nat) : (Y ++ [d]).take n = if (Y.take n).length < n then Y.take n ++ [d] else Y.take n := by
  rw [List.take_append, List.length_take]
  split
  · rename_i h
    have : n - Y.length = (n - Y.length - 1) + 1 := by omega
    rw [this, List.take_succ_cons, List.take_nil]
  · rename_i h
    have : n - Y.length = 0 := by omega
    rw [this]; simp
theorem take_take_app {α : Type} (X D : List α) (n : Nat) : (X.take n ++ D).take n = (X ++ D).take n := by
  rw [List.take_append, List.take_append, List.take_take, Nat.min_self, List.length_take]
  congr 2
  omega
abbrev bx0 : Blk := .box [vB false, vI 0, .s (.slice none 0 0)] false
def So (al : Bool) (f : Int) (M : List Int) (ts : List (Nat × V)) (mv : List Nat) (S : St) : Prop :=
  (M = [] ∧ S = ⟨tms ts, [bx0, .box [vB al, vI f, .s (.slice none 0 0)] false], mv⟩) ∨
  (M ≠ [] ∧ S = ⟨tms ts, [bx0, .box [vB al, vI f, .own 2 0 M.length] false, .rows 1 (M.map inT) false], mv⟩)
def Ov (b rs : List Int) (al : Bool) (f : Int) (n sz : Nat) (k : Nat) (S : St) : Prop :=
  ∃ (j : Nat) (M : List Int) (mv : List Nat), j ≤ sz ∧ k = sz - j ∧ M = ((rs.take j).flatMap unp3).take n ∧ So al f M [(0, bysV b), (2, .ptr 0 0 0), (5, vI n), (7, .ptr 1 0 0), (8, vI sz), (60, bysV rs), (61, vI sz), (62, vI j)] mv S
def Iv (b rs : List Int) (al : Bool) (f : Int) (n sz j : Nat) (M0 : List Int) (d0 d1 d2 : Int) (k : Nat) (S : St) : Prop :=
  ∃ (i : Nat) (M : List Int) (mv : List Nat), i ≤ 3 ∧ k = 3 - i ∧ M = (M0 ++ [d0, d1, d2].take i).take n ∧ So al f M [(0, bysV b), (2, .ptr 0 0 0), (5, vI n), (7, .ptr 1 0 0), (8, vI sz), (60, bysV rs), (61, vI sz), (62, vI j), (76, .agg [vI d0, vI d1, vI d2]), (77, vI i)] mv S
theorem mv47s (b : List Int) (h : b.length < 4) : AC Try.prog 47 [bysV b] [] (eqR (vecA b)) := by
  have e : vecA b = .tuple [vcV ⟨false, 0, []⟩, bysV [], vB false] := by
    match b, h with
    | [], _ => rfl
    | [_], _ => rfl
    | [_, _], _ => rfl
    | [_, _, _], _ => rfl
    | _ :: _ :: _ :: _ :: _, h => exact absurd h (by simp only [List.length_cons]; omega)
  rw [e]
  have hl : (b.length : Int) < 4 := by omega
  refine AC_frozenW orders Try.func47 rfl (by kernel_rfl) (by kernel_rfl) Try.ntmps47 (by simp) ?_
  unfold Try.f47
  (have hwq := trivial; repeat' (first | simp (maxSteps:=9999999)-implicitDefEqProofs only [go_sem,simprocAttr,hwq,FT3,FT4,FT5,FT23,FT82,FT84,FT91,FT126,hl,List.length_map] | (refine awpL_loop 18 ?_; have hwq := trivial) | (refine condK_split ?_ ?_ <;> intro hwq) | (refine two_split ?_ ?_) | (refine guardK_split ?_ ?_ <;> intro hwq) | (refine guardE_split ?_ ?_ <;> intro hwq) | (refine awp_drawI 3 [] (List.range 22) [0, 1, 3, 7, 15, 0, 32, 96, 224, 511, 0, 1024, 3072, 7168, 15360, 0, 32768, 98304, 229376, 523264, 1023, 2097151] (by decide +kernel) ?_; have hwq := trivial) | (refine awp_drawW [] (by decide +kernel) ?_; have hwq := trivial) | fail))
  exact ⟨_, rfl, by simp [V.leT, V.le, V.les]⟩
theorem mv47 (y0 y1 y2 y3 : Int) (r : List Int) (hr : r.length ≤ 100000) (hb : ∀ x ∈ y0 :: y1 :: y2 :: y3 :: r, 0 ≤ x ∧ x ≤ 255) : AC Try.prog 47 [bysV (y0 :: y1 :: y2 :: y3 :: r)] [] (eqR (vecA (y0 :: y1 :: y2 :: y3 :: r))) := by
  have h0 := hb y0 (by simp)
  have h1 := hb y1 (by simp)
  have h2 := hb y2 (by simp)
  have h3 := hb y3 (by simp)
  obtain ⟨h, hh⟩ : ∃ h : Nat, (y0 * 256 + y1).toNat = h := ⟨_, rfl⟩
  obtain ⟨n, hn⟩ : ∃ n : Nat, vecN h = n := ⟨_, rfl⟩
  obtain ⟨sz, hsz⟩ : ∃ sz : Nat, (n + 2) / 3 = sz := ⟨_, rfl⟩
  obtain ⟨f, hf⟩ : ∃ f : Int, y2 * 256 + y3 = f := ⟨_, rfl⟩
  obtain ⟨al, hal⟩ : ∃ al : Bool, decide (h / 8192 % 2 = 1) = al := ⟨_, rfl⟩
  have hhl : h < 65536 := by omega
  have hnl : n < 65536 := by unfold vecN at hn; split at hn <;> omega
  obtain ⟨an, han⟩ : ∃ an : Int, bAnd .i64 (h : Int) 8192 = an := ⟨_, rfl⟩
  have hanb : (an != 0) = al := by
    rw [← han, and13 h hhl, ← hal]
    by_cases hc : h / 8192 % 2 = 1 <;> simp [hc]
  have e1 : IntKind.i64.wrap y0 = y0 := wI64 _ (by omega) (by omega)
  have e2 : IntKind.i64.wrap y1 = y1 := wI64 _ (by omega) (by omega)
  have e3 : IntKind.i64.wrap y2 = y2 := wI64 _ (by omega) (by omega)
  have e4 : IntKind.i64.wrap y3 = y3 := wI64 _ (by omega) (by omega)
  have e5 : IntKind.i64.wrap (y0 * 256) = y0 * 256 := wI64 _ (by omega) (by omega)
  have e6 : IntKind.i64.wrap (y2 * 256) = y2 * 256 := wI64 _ (by omega) (by omega)
  have e7 : bOr .i64 (y0 * 256) y1 = (h : Int) := by rw [or2 y0 y1 h0.1 h0.2 h1.1 h1.2]; omega
  have e8 : bOr .i64 (y2 * 256) y3 = f := by rw [or2 y2 y3 h2.1 h2.2 h3.1 h3.2]; omega
  have e9 : bAndNot .i64 (h : Int) 8192 = (n : Int) := by rw [andn13 h hhl, hn]
  have f1 : IntKind.i64.wrap ((n : Int) + 2) = (n : Int) + 2 := wI64 _ (by omega) (by omega)
  have f2 : ((n : Int) + 2).tdiv 3 = (sz : Int) := by rw [Int.tdiv_eq_ediv_of_nonneg (by omega)]; omega
  have f3 : IntKind.i64.wrap (sz : Int) = (sz : Int) := wI64 _ (by omega) (by omega)
  obtain ⟨len, hlen⟩ : ∃ len : Nat, r.length = len := ⟨_, rfl⟩
  obtain ⟨b, hbl⟩ : ∃ b, y0 :: y1 :: y2 :: y3 :: r = b := ⟨_, rfl⟩
  have g0 : b[0]? = some y0 := by rw [← hbl]; rfl
  have g1 : b[1]? = some y1 := by rw [← hbl]; rfl
  have g2 : b[2]? = some y2 := by rw [← hbl]; rfl
  have g3 : b[3]? = some y3 := by rw [← hbl]; rfl
  have gl : b.length = len + 4 := by rw [← hbl]; simp [hlen]
  have i0 : (0 : Int) < (b.length : Int) := by omega
  have i1 : (1 : Int) < (b.length : Int) := by omega
  have i2 : (2 : Int) < (b.length : Int) := by omega
  have i3 : (3 : Int) < (b.length : Int) := by omega
  have gl2 : ¬ ((b.length : Int) < 4) := by omega
  have gl3 : IntKind.i64.wrap ((b.length : Int) - 4) = (len : Int) := by rw [wI64 _ (by omega) (by omega)]; omega
  have hv : vecK b = if 64 < n ∨ len < sz then none else some (⟨al, f, ((r.take sz).flatMap unp3).take n⟩, r.drop sz) := by
    rw [← hbl]
    simp only [vecK, hh, hn, hsz, hf, hal, hlen]
  rw [hbl] 
  by_cases c1 : 64 < n
  · have c1' : (64 : Int) < (n : Int) := by omega
    unfold vecA
    rw [hv, if_pos (.inl c1)]
    refine AC_frozenW orders Try.func47 rfl (by kernel_rfl) (by kernel_rfl) Try.ntmps47 (by simp) ?_
    unfold Try.f47
    (have hwq := trivial; repeat' (first | simp (maxSteps:=9999999)-implicitDefEqProofs only [go_sem,simprocAttr,hwq,FT3,FT4,FT5,FT23,FT82,FT84,FT91,FT126,List.length_map,List.getElem?_map,Int.natCast_nonneg,List.length_append,List.map_append,List.length_map,i0,i1,i2,i3,g0,g1,g2,g3,gl2,gl3,e1,e2,e3,e4,e5,e6,e7,e8,e9,han,hanb,f1,f2,f3,c1'] | (refine condK_split ?_ ?_ <;> intro hwq) | (refine two_split ?_ ?_) | (refine guardK_split ?_ ?_ <;> intro hwq) | (refine guardE_split ?_ ?_ <;> intro hwq) | (refine awp_drawI 3 [] (List.range 22) [0, 1, 3, 7, 15, 0, 32, 96, 224, 511, 0, 1024, 3072, 7168, 15360, 0, 32768, 98304, 229376, 523264, 1023, 2097151] (by decide +kernel) ?_; have hwq := trivial) | (refine awp_drawW [] (by decide +kernel) ?_; have hwq := trivial) | fail))
    exact ⟨_, rfl, by simp [V.leT, V.le, V.les]⟩
  by_cases c2 : len < sz
  · have c1' : ¬ (64 : Int) < (n : Int) := by omega
    have c2' : (len : Int) < (sz : Int) := by omega
    unfold vecA
    rw [hv, if_pos (.inr c2)]
    refine AC_frozenW orders Try.func47 rfl (by kernel_rfl) (by kernel_rfl) Try.ntmps47 (by simp) ?_
    unfold Try.f47
    (have hwq := trivial; repeat' (first | simp (maxSteps:=9999999)-implicitDefEqProofs only [go_sem,simprocAttr,hwq,FT3,FT4,FT5,FT23,FT82,FT84,FT91,FT126,List.length_map,List.getElem?_map,Int.natCast_nonneg,List.length_append,List.map_append,List.length_map,i0,i1,i2,i3,g0,g1,g2,g3,gl2,gl3,e1,e2,e3,e4,e5,e6,e7,e8,e9,han,hanb,f1,f2,f3,c1',c2'] | (refine condK_split ?_ ?_ <;> intro hwq) | (refine two_split ?_ ?_) | (refine guardK_split ?_ ?_ <;> intro hwq) | (refine guardE_split ?_ ?_ <;> intro hwq) | (refine awp_drawI 3 [] (List.range 22) [0, 1, 3, 7, 15, 0, 32, 96, 224, 511, 0, 1024, 3072, 7168, 15360, 0, 32768, 98304, 229376, 523264, 1023, 2097151] (by decide +kernel) ?_; have hwq := trivial) | (refine awp_drawW [] (by decide +kernel) ?_; have hwq := trivial) | fail))
    exact ⟨_, rfl, by simp [V.leT, V.le, V.les]⟩
  have c1' : ¬ (64 : Int) < (n : Int) := by omega
  have c2' : ¬ (len : Int) < (sz : Int) := by omega
  have w4 : IntKind.i64.wrap (4 + (sz : Int)) = 4 + (sz : Int) := wI64 _ (by omega) (by omega)
  have w5 : (0 : Int) ≤ 4 + (sz : Int) := by omega
  have w6 : ((4 : Int) + (sz : Int)).toNat = 4 + sz := by omega
  have w7 : 4 + sz ≤ b.length := by omega
  have w8 : 4 ≤ 4 + sz := by omega
  have w9 : 4 + sz - 4 = sz := by omega
  have ra : ((b.map byT).drop 4).take sz = (r.take sz).map byT := by rw [← hbl]; simp
  have rb : ((b.map byT).drop (4 + sz)).take (b.length - (4 + sz)) = (r.drop sz).map byT := by
    rw [List.take_of_length_le (by simp), ← hbl, Nat.add_comm 4 sz]
    simp
  obtain ⟨rs, hrs⟩ : ∃ rs, r.take sz = rs := ⟨_, rfl⟩
  have rl : rs.length = sz := by rw [← hrs, List.length_take]; omega
  have rbt : ∀ x ∈ rs, 0 ≤ x ∧ x ≤ 255 := fun x hx => hb x (by rw [← hrs] at hx; have := List.mem_of_mem_take hx; simp [this])
  rw [hrs] at ra
  unfold vecA
  rw [hv, if_neg (by omega), hrs]
  refine AC_frozenW orders Try.func47 rfl (by kernel_rfl) (by kernel_rfl) Try.ntmps47 (by simp) ?_
  unfold Try.f47
  (have hwq := trivial; repeat' (first | simp (maxSteps:=9999999)-implicitDefEqProofs only [go_sem,simprocAttr,hwq,FT3,FT4,FT5,FT23,FT82,FT84,FT91,FT126,List.length_map,List.getElem?_map,Int.natCast_nonneg,List.length_append,List.map_append,List.length_map,i0,i1,i2,i3,g0,g1,g2,g3,gl2,gl3,e1,e2,e3,e4,e5,e6,e7,e8,e9,han,hanb,f1,f2,f3,c1',c2',w4,w5,w6,w7,w8,w9,ra,rl] | (refine condK_split ?_ ?_ <;> intro hwq) | (refine two_split ?_ ?_) | (refine guardK_split ?_ ?_ <;> intro hwq) | (refine guardE_split ?_ ?_ <;> intro hwq) | (refine awp_drawI 3 [] (List.range 22) [0, 1, 3, 7, 15, 0, 32, 96, 224, 511, 0, 1024, 3072, 7168, 15360, 0, 32768, 98304, 229376, 523264, 1023, 2097151] (by decide +kernel) ?_; have hwq := trivial) | (refine awp_drawW [] (by decide +kernel) ?_; have hwq := trivial) | fail))
  refine awp_loopK (Ov b rs al f n sz) sz _ (Weak.cutI 2 [0, 2, 5, 7, 8, 60, 61, 62] ?_ ?_) ⟨0, [], _, by omega, rfl, by simp, .inl ⟨rfl, rfl⟩⟩ ?_
  · simp (maxSteps:=9999999)-implicitDefEqProofs only [simprocAttr,QH,Option.isSome,cond_true,cond_false,Option.bind,selB,V.rn,V.rns,Go.Ai.known,V.pz,V.pzs,T.toV,frz1,List.range,List.range.loop,ite_true,ite_false,if_true,if_false,ne_eq,implies_true,forall_const,eq_self,IntKind.bits,upd_tmsS,selT_cons,selT_nil,List.length_map,List.getElem?_map,Int.natCast_nonneg,List.length_append,List.map_append,rl]
  · simp (maxSteps:=9999999)-implicitDefEqProofs only [simprocAttr,QH,Option.isSome,cond_true,cond_false,Option.bind,selB,V.rn,V.rns,Go.Ai.known,V.pz,V.pzs,T.toV,frz1,List.range,List.range.loop,ite_true,ite_false,if_true,if_false,ne_eq,implies_true,forall_const,eq_self,IntKind.bits,upd_tmsS,selT_cons,selT_nil,List.length_map,List.getElem?_map,Int.natCast_nonneg,List.length_append,List.map_append]
  rintro kk S ⟨j, M, mv, hj, rfl, hM, hS⟩
  have wj : IntKind.i64.wrap ((j : Int) + 1) = (j : Int) + 1 := wI64 _ (by omega) (by omega)
  have hMn : M.length ≤ n := by rw [hM, List.length_take]; omega
  by_cases hjl : j < sz
  · have hjl' : (j : Int) < (sz : Int) := by omega
    have hgj : rs[j]? = some rs[j] := List.getElem?_eq_getElem (by omega)
    obtain ⟨x, hx⟩ : ∃ x, rs[j] = x := ⟨_, rfl⟩
    rw [hx] at hgj
    have hxb := rbt x (mem_in hgj)
    obtain ⟨d0, hd0⟩ : ∃ d, x / 36 = d := ⟨_, rfl⟩
    obtain ⟨q, hq⟩ : ∃ q, x / 6 = q := ⟨_, rfl⟩
    obtain ⟨d1, hd1⟩ : ∃ d, q % 6 = d := ⟨_, rfl⟩
    obtain ⟨d2, hd2⟩ : ∃ d, x % 6 = d := ⟨_, rfl⟩
    have hu : unp3 x = [d0, d1, d2] := by unfold unp3; rw [hd0, hq, hd1, hd2]
    have x1 : IntKind.i64.wrap x = x := wI64 _ (by omega) (by omega)
    have x2 : x.tdiv 36 = d0 := by rw [Int.tdiv_eq_ediv_of_nonneg (by omega), hd0]
    have x3 : x.tdiv 6 = q := by rw [Int.tdiv_eq_ediv_of_nonneg (by omega), hq]
    have x4 : q.tmod 6 = d1 := by rw [Int.tmod_eq_emod_of_nonneg (by omega), hd1]
    have x5 : x.tmod 6 = d2 := by rw [Int.tmod_eq_emod_of_nonneg (by omega), hd2]
    have x6 : IntKind.i64.wrap d0 = d0 := wI64 _ (by omega) (by omega)
    have x7 : IntKind.i64.wrap q = q := wI64 _ (by omega) (by omega)
    have hnp : 0 < n := by omega
    have hM0 : M = (M ++ [d0, d1, d2].take 0).take n := by
      rw [List.take_zero, List.append_nil, List.take_of_length_le hMn]
    have hM3 : (M ++ [d0, d1, d2]).take n = ((rs.take (j + 1)).flatMap unp3).take n := by
      rw [hM, take_take_app, take_in hgj, List.flatMap_append]
      simp [hu]
    have key : ∀ S, So al f M [(0, bysV b), (2, .ptr 0 0 0), (5, vI n), (7, .ptr 1 0 0), (8, vI sz), (60, bysV rs), (61, vI sz), (62, vI j), (76, .agg [vI d0, vI d1, vI d2]), (77, vI 0)] mv S → True := fun _ _ => trivial
    rcases hS with ⟨hMe, rfl⟩ | ⟨hMe, rfl⟩
    · (have hwq := trivial; repeat' (first | simp (maxSteps:=9999999)-implicitDefEqProofs only [go_sem,simprocAttr,hwq,FT3,FT4,FT5,FT23,FT82,FT84,FT91,FT126,List.length_map,List.getElem?_map,Int.natCast_nonneg,List.length_append,List.map_append,rl,hjl',hgj,x1,x2,x3,x4,x5,x6,x7,List.length_map] | (refine condK_split ?_ ?_ <;> intro hwq) | (refine two_split ?_ ?_) | (refine guardK_split ?_ ?_ <;> intro hwq) | (refine guardE_split ?_ ?_ <;> intro hwq) | (refine awp_drawI 3 [] (List.range 22) [0, 1, 3, 7, 15, 0, 32, 96, 224, 511, 0, 1024, 3072, 7168, 15360, 0, 32768, 98304, 229376, 523264, 1023, 2097151] (by decide +kernel) ?_; have hwq := trivial) | (refine awp_drawW [] (by decide +kernel) ?_; have hwq := trivial) | fail))
      refine awp_loopK (Iv b rs al f n sz j M d0 d1 d2) 3 _ (Weak.cutI 2 [0, 2, 5, 7, 8, 60, 61, 62, 76, 77] ?_ ?_) ⟨0, M, _, by omega, rfl, hM0, .inl ⟨hMe, rfl⟩⟩ ?_
      · simp (maxSteps:=9999999)-implicitDefEqProofs only [simprocAttr,QH,Option.isSome,cond_true,cond_false,Option.bind,selB,V.rn,V.rns,Go.Ai.known,V.pz,V.pzs,T.toV,frz1,List.range,List.range.loop,ite_true,ite_false,if_true,if_false,ne_eq,implies_true,forall_const,eq_self,IntKind.bits,upd_tmsS,selT_cons,selT_nil,List.length_map,List.getElem?_map,Int.natCast_nonneg,List.length_append,List.map_append]
      · simp (maxSteps:=9999999)-implicitDefEqProofs only [simprocAttr,QH,Option.isSome,cond_true,cond_false,Option.bind,selB,V.rn,V.rns,Go.Ai.known,V.pz,V.pzs,T.toV,frz1,List.range,List.range.loop,ite_true,ite_false,if_true,if_false,ne_eq,implies_true,forall_const,eq_self,IntKind.bits,upd_tmsS,selT_cons,selT_nil,List.length_map,List.getElem?_map,Int.natCast_nonneg,List.length_append,List.map_append]
      rintro kk2 S2 ⟨i, N, mv2, hi, rfl, hN, hS2⟩
      have hNn : N.length ≤ n := by rw [hN, List.length_take]; omega
      rcases Nat.lt_or_eq_of_le hi with hi3 | rfl
      · have hi' : i = 0 ∨ i = 1 ∨ i = 2 := by omega
        rcases hi' with rfl | rfl | rfl
        · have hnx : (M ++ [d0, d1, d2].take 1).take n = if N.length < n then N ++ [d0] else N := by
            have e : M ++ [d0, d1, d2].take 1 = (M ++ [d0, d1, d2].take 0) ++ [d0] := by simp
            rw [e, take_snoc, ← hN]
          rcases hS2 with ⟨hNe, rfl⟩ | ⟨hNe, rfl⟩
          · subst hNe
            have hlt : (0 : Int) < (n : Int) := by omega
            rw [if_pos (by simpa using hnp)] at hnx
            (have hwq := trivial; repeat' (first | simp (maxSteps:=9999999)-implicitDefEqProofs only [go_sem,simprocAttr,hwq,FT3,FT4,FT5,FT23,FT82,FT84,FT91,FT126,List.length_map,List.getElem?_map,Int.natCast_nonneg,List.length_append,List.map_append,List.length_map,hlt] | (refine condK_split ?_ ?_ <;> intro hwq) | (refine two_split ?_ ?_) | (refine guardK_split ?_ ?_ <;> intro hwq) | (refine guardE_split ?_ ?_ <;> intro hwq) | (refine awp_drawI 3 [] (List.range 22) [0, 1, 3, 7, 15, 0, 32, 96, 224, 511, 0, 1024, 3072, 7168, 15360, 0, 32768, 98304, 229376, 523264, 1023, 2097151] (by decide +kernel) ?_; have hwq := trivial) | (refine awp_drawW [] (by decide +kernel) ?_; have hwq := trivial) | fail))
            refine ⟨3 - (0 + 1), _, by omega, Weak.selI [0, 1, 3] [0, 2, 5, 7, 8, 60, 61, 62, 76, 77] (by decide) ?_ ?_, 0 + 1, _, _, by omega, rfl, hnx.symm, .inr ⟨by simp, rfl⟩⟩
            · simp (maxSteps:=9999999)-implicitDefEqProofs only [simprocAttr,QH,Option.isSome,cond_true,cond_false,Option.bind,selB,V.rn,V.rns,Go.Ai.known,V.pz,V.pzs,T.toV,frz1,List.range,List.range.loop,ite_true,ite_false,if_true,if_false,ne_eq,implies_true,forall_const,eq_self,IntKind.bits,upd_tmsS,selT_cons,selT_nil,List.length_map,List.getElem?_map,Int.natCast_nonneg,List.length_append,List.map_append,selF_cons,selF_nil]
            · simp (maxSteps:=9999999)-implicitDefEqProofs only [simprocAttr,QH,Option.isSome,cond_true,cond_false,Option.bind,selB,V.rn,V.rns,Go.Ai.known,V.pz,V.pzs,T.toV,frz1,List.range,List.range.loop,ite_true,ite_false,if_true,if_false,ne_eq,implies_true,forall_const,eq_self,IntKind.bits,upd_tmsS,selT_cons,selT_nil,List.length_map,List.getElem?_map,Int.natCast_nonneg,List.length_append,List.map_append,List.map_cons,List.map_nil,List.nil_append]
          · by_cases hc : N.length < n
            · have hlt : (N.length : Int) < (n : Int) := by omega
              have gm : (N.length + 1) * 8 ≤ 140737488355328 := by omega
              rw [if_pos hc] at hnx
              (have hwq := trivial; repeat' (first | simp (maxSteps:=9999999)-implicitDefEqProofs only [go_sem,simprocAttr,hwq,FT3,FT4,FT5,FT23,FT82,FT84,FT91,FT126,List.length_map,List.getElem?_map,Int.natCast_nonneg,List.length_append,List.map_append,List.length_map,hlt,gm] | (refine condK_split ?_ ?_ <;> intro hwq) | (refine two_split ?_ ?_) | (refine guardK_split ?_ ?_ <;> intro hwq) | (refine guardE_split ?_ ?_ <;> intro hwq) | (refine awp_drawI 3 [] (List.range 22) [0, 1, 3, 7, 15, 0, 32, 96, 224, 511, 0, 1024, 3072, 7168, 15360, 0, 32768, 98304, 229376, 523264, 1023, 2097151] (by decide +kernel) ?_; have hwq := trivial) | (refine awp_drawW [] (by decide +kernel) ?_; have hwq := trivial) | fail))
              refine ⟨3 - (0 + 1), _, by omega, Weak.cutI 3 [0, 2, 5, 7, 8, 60, 61, 62, 76, 77] ?_ ?_, 0 + 1, _, _, by omega, rfl, hnx.symm, .inr ⟨by simp, rfl⟩⟩
              · simp (maxSteps:=9999999)-implicitDefEqProofs only [simprocAttr,QH,Option.isSome,cond_true,cond_false,Option.bind,selB,V.rn,V.rns,Go.Ai.known,V.pz,V.pzs,T.toV,frz1,List.range,List.range.loop,ite_true,ite_false,if_true,if_false,ne_eq,implies_true,forall_const,eq_self,IntKind.bits,upd_tmsS,selT_cons,selT_nil,List.length_map,List.getElem?_map,Int.natCast_nonneg,List.length_append,List.map_append]
              · simp (maxSteps:=9999999)-implicitDefEqProofs only [simprocAttr,QH,Option.isSome,cond_true,cond_false,Option.bind,selB,V.rn,V.rns,Go.Ai.known,V.pz,V.pzs,T.toV,frz1,List.range,List.range.loop,ite_true,ite_false,if_true,if_false,ne_eq,implies_true,forall_const,eq_self,IntKind.bits,upd_tmsS,selT_cons,selT_nil,List.length_map,List.getElem?_map,Int.natCast_nonneg,List.length_append,List.map_append,List.map_cons,List.map_nil]
            · have hlt : ¬ (N.length : Int) < (n : Int) := by omega
              rw [if_neg hc] at hnx
              (have hwq := trivial; repeat' (first | simp (maxSteps:=9999999)-implicitDefEqProofs only [go_sem,simprocAttr,hwq,FT3,FT4,FT5,FT23,FT82,FT84,FT91,FT126,List.length_map,List.getElem?_map,Int.natCast_nonneg,List.length_append,List.map_append,List.length_map,hlt] | (refine condK_split ?_ ?_ <;> intro hwq) | (refine two_split ?_ ?_) | (refine guardK_split ?_ ?_ <;> intro hwq) | (refine guardE_split ?_ ?_ <;> intro hwq) | (refine awp_drawI 3 [] (List.range 22) [0, 1, 3, 7, 15, 0, 32, 96, 224, 511, 0, 1024, 3072, 7168, 15360, 0, 32768, 98304, 229376, 523264, 1023, 2097151] (by decide +kernel) ?_; have hwq := trivial) | (refine awp_drawW [] (by decide +kernel) ?_; have hwq := trivial) | fail))
              refine ⟨3 - (0 + 1), _, by omega, Weak.cutI 3 [0, 2, 5, 7, 8, 60, 61, 62, 76, 77] ?_ ?_, 0 + 1, _, _, by omega, rfl, hnx.symm, .inr ⟨hNe, rfl⟩⟩
              · simp (maxSteps:=9999999)-implicitDefEqProofs only [simprocAttr,QH,Option.isSome,cond_true,cond_false,Option.bind,selB,V.rn,V.rns,Go.Ai.known,V.pz,V.pzs,T.toV,frz1,List.range,List.range.loop,ite_true,ite_false,if_true,if_false,ne_eq,implies_true,forall_const,eq_self,IntKind.bits,upd_tmsS,selT_cons,selT_nil,List.length_map,List.getElem?_map,Int.natCast_nonneg,List.length_append,List.map_append]
              · simp (maxSteps:=9999999)-implicitDefEqProofs only [simprocAttr,QH,Option.isSome,cond_true,cond_false,Option.bind,selB,V.rn,V.rns,Go.Ai.known,V.pz,V.pzs,T.toV,frz1,List.range,List.range.loop,ite_true,ite_false,if_true,if_false,ne_eq,implies_true,forall_const,eq_self,IntKind.bits,upd_tmsS,selT_cons,selT_nil,List.length_map,List.getElem?_map,Int.natCast_nonneg,List.length_append,List.map_append]
        · have hnx : (M ++ [d0, d1, d2].take 2).take n = if N.length < n then N ++ [d1] else N := by
            have e : M ++ [d0, d1, d2].take 2 = (M ++ [d0, d1, d2].take 1) ++ [d1] := by simp
            rw [e, take_snoc, ← hN]
          rcases hS2 with ⟨hNe, rfl⟩ | ⟨hNe, rfl⟩
          · subst hNe
            have hlt : (0 : Int) < (n : Int) := by omega
            rw [if_pos (by simpa using hnp)] at hnx
            (have hwq := trivial; repeat' (first | simp (maxSteps:=9999999)-implicitDefEqProofs only [go_sem,simprocAttr,hwq,FT3,FT4,FT5,FT23,FT82,FT84,FT91,FT126,List.length_map,List.getElem?_map,Int.natCast_nonneg,List.length_append,List.map_append,List.length_map,hlt] | (refine condK_split ?_ ?_ <;> intro hwq) | (refine two_split ?_ ?_) | (refine guardK_split ?_ ?_ <;> intro hwq) | (refine guardE_split ?_ ?_ <;> intro hwq) | (refine awp_drawI 3 [] (List.range 22) [0, 1, 3, 7, 15, 0, 32, 96, 224, 511, 0, 1024, 3072, 7168, 15360, 0, 32768, 98304, 229376, 523264, 1023, 2097151] (by decide +kernel) ?_; have hwq := trivial) | (refine awp_drawW [] (by decide +kernel) ?_; have hwq := trivial) | fail))
            refine ⟨3 - (1 + 1), _, by omega, Weak.selI [0, 1, 3] [0, 2, 5, 7, 8, 60, 61, 62, 76, 77] (by decide) ?_ ?_, 1 + 1, _, _, by omega, rfl, hnx.symm, .inr ⟨by simp, rfl⟩⟩
            · simp (maxSteps:=9999999)-implicitDefEqProofs only [simprocAttr,QH,Option.isSome,cond_true,cond_false,Option.bind,selB,V.rn,V.rns,Go.Ai.known,V.pz,V.pzs,T.toV,frz1,List.range,List.range.loop,ite_true,ite_false,if_true,if_false,ne_eq,implies_true,forall_const,eq_self,IntKind.bits,upd_tmsS,selT_cons,selT_nil,List.length_map,List.getElem?_map,Int.natCast_nonneg,List.length_append,List.map_append,selF_cons,selF_nil]
            · simp (maxSteps:=9999999)-implicitDefEqProofs only [simprocAttr,QH,Option.isSome,cond_true,cond_false,Option.bind,selB,V.rn,V.rns,Go.Ai.known,V.pz,V.pzs,T.toV,frz1,List.range,List.range.loop,ite_true,ite_false,if_true,if_false,ne_eq,implies_true,forall_const,eq_self,IntKind.bits,upd_tmsS,selT_cons,selT_nil,List.length_map,List.getElem?_map,Int.natCast_nonneg,List.length_append,List.map_append,List.map_cons,List.map_nil,List.nil_append]
          · by_cases hc : N.length < n
            · have hlt : (N.length : Int) < (n : Int) := by omega
              have gm : (N.length + 1) * 8 ≤ 140737488355328 := by omega
              rw [if_pos hc] at hnx
              (have hwq := trivial; repeat' (first | simp (maxSteps:=9999999)-implicitDefEqProofs only [go_sem,simprocAttr,hwq,FT3,FT4,FT5,FT23,FT82,FT84,FT91,FT126,List.length_map,List.getElem?_map,Int.natCast_nonneg,List.length_append,List.map_append,List.length_map,hlt,gm] | (refine condK_split ?_ ?_ <;> intro hwq) | (refine two_split ?_ ?_) | (refine guardK_split ?_ ?_ <;> intro hwq) | (refine guardE_split ?_ ?_ <;> intro hwq) | (refine awp_drawI 3 [] (List.range 22) [0, 1, 3, 7, 15, 0, 32, 96, 224, 511, 0, 1024, 3072, 7168, 15360, 0, 32768, 98304, 229376, 523264, 1023, 2097151] (by decide +kernel) ?_; have hwq := trivial) | (refine awp_drawW [] (by decide +kernel) ?_; have hwq := trivial) | fail))
              refine ⟨3 - (1 + 1), _, by omega, Weak.cutI 3 [0, 2, 5, 7, 8, 60, 61, 62, 76, 77] ?_ ?_, 1 + 1, _, _, by omega, rfl, hnx.symm, .inr ⟨by simp, rfl⟩⟩
              · simp (maxSteps:=9999999)-implicitDefEqProofs only [simprocAttr,QH,Option.isSome,cond_true,cond_false,Option.bind,selB,V.rn,V.rns,Go.Ai.known,V.pz,V.pzs,T.toV,frz1,List.range,List.range.loop,ite_true,ite_false,if_true,if_false,ne_eq,implies_true,forall_const,eq_self,IntKind.bits,upd_tmsS,selT_cons,selT_nil,List.length_map,List.getElem?_map,Int.natCast_nonneg,List.length_append,List.map_append]
              · simp (maxSteps:=9999999)-implicitDefEqProofs only [simprocAttr,QH,Option.isSome,cond_true,cond_false,Option.bind,selB,V.rn,V.rns,Go.Ai.known,V.pz,V.pzs,T.toV,frz1,List.range,List.range.loop,ite_true,ite_false,if_true,if_false,ne_eq,implies_true,forall_const,eq_self,IntKind.bits,upd_tmsS,selT_cons,selT_nil,List.length_map,List.getElem?_map,Int.natCast_nonneg,List.length_append,List.map_append,List.map_cons,List.map_nil]
            · have hlt : ¬ (N.length : Int) < (n : Int) := by omega
              rw [if_neg hc] at hnx
              (have hwq := trivial; repeat' (first | simp (maxSteps:=9999999)-implicitDefEqProofs only [go_sem,simprocAttr,hwq,FT3,FT4,FT5,FT23,FT82,FT84,FT91,FT126,List.length_map,List.getElem?_map,Int.natCast_nonneg,List.length_append,List.map_append,List.length_map,hlt] | (refine condK_split ?_ ?_ <;> intro hwq) | (refine two_split ?_ ?_) | (refine guardK_split ?_ ?_ <;> intro hwq) | (refine guardE_split ?_ ?_ <;> intro hwq) | (refine awp_drawI 3 [] (List.range 22) [0, 1, 3, 7, 15, 0, 32, 96, 224, 511, 0, 1024, 3072, 7168, 15360, 0, 32768, 98304, 229376, 523264, 1023, 2097151] (by decide +kernel) ?_; have hwq := trivial) | (refine awp_drawW [] (by decide +kernel) ?_; have hwq := trivial) | fail))
              refine ⟨3 - (1 + 1), _, by omega, Weak.cutI 3 [0, 2, 5, 7, 8, 60, 61, 62, 76, 77] ?_ ?_, 1 + 1, _, _, by omega, rfl, hnx.symm, .inr ⟨hNe, rfl⟩⟩
              · simp (maxSteps:=9999999)-implicitDefEqProofs only [simprocAttr,QH,Option.isSome,cond_true,cond_false,Option.bind,selB,V.rn,V.rns,Go.Ai.known,V.pz,V.pzs,T.toV,frz1,List.range,List.range.loop,ite_true,ite_false,if_true,if_false,ne_eq,implies_true,forall_const,eq_self,IntKind.bits,upd_tmsS,selT_cons,selT_nil,List.length_map,List.getElem?_map,Int.natCast_nonneg,List.length_append,List.map_append]
              · simp (maxSteps:=9999999)-implicitDefEqProofs only [simprocAttr,QH,Option.isSome,cond_true,cond_false,Option.bind,selB,V.rn,V.rns,Go.Ai.known,V.pz,V.pzs,T.toV,frz1,List.range,List.range.loop,ite_true,ite_false,if_true,if_false,ne_eq,implies_true,forall_const,eq_self,IntKind.bits,upd_tmsS,selT_cons,selT_nil,List.length_map,List.getElem?_map,Int.natCast_nonneg,List.length_append,List.map_append]
        · have hnx : (M ++ [d0, d1, d2].take 3).take n = if N.length < n then N ++ [d2] else N := by
            have e : M ++ [d0, d1, d2].take 3 = (M ++ [d0, d1, d2].take 2) ++ [d2] := by simp
            rw [e, take_snoc, ← hN]
          rcases hS2 with ⟨hNe, rfl⟩ | ⟨hNe, rfl⟩
          · subst hNe
            have hlt : (0 : Int) < (n : Int) := by omega
            rw [if_pos (by simpa using hnp)] at hnx
            (have hwq := trivial; repeat' (first | simp (maxSteps:=9999999)-implicitDefEqProofs only [go_sem,simprocAttr,hwq,FT3,FT4,FT5,FT23,FT82,FT84,FT91,FT126,List.length_map,List.getElem?_map,Int.natCast_nonneg,List.length_append,List.map_append,List.length_map,hlt] | (refine condK_split ?_ ?_ <;> intro hwq) | (refine two_split ?_ ?_) | (refine guardK_split ?_ ?_ <;> intro hwq) | (refine guardE_split ?_ ?_ <;> intro hwq) | (refine awp_drawI 3 [] (List.range 22) [0, 1, 3, 7, 15, 0, 32, 96, 224, 511, 0, 1024, 3072, 7168, 15360, 0, 32768, 98304, 229376, 523264, 1023, 2097151] (by decide +kernel) ?_; have hwq := trivial) | (refine awp_drawW [] (by decide +kernel) ?_; have hwq := trivial) | fail))
            refine ⟨3 - (2 + 1), _, by omega, Weak.selI [0, 1, 3] [0, 2, 5, 7, 8, 60, 61, 62, 76, 77] (by decide) ?_ ?_, 2 + 1, _, _, by omega, rfl, hnx.symm, .inr ⟨by simp, rfl⟩⟩
            · simp (maxSteps:=9999999)-implicitDefEqProofs only [simprocAttr,QH,Option.isSome,cond_true,cond_false,Option.bind,selB,V.rn,V.rns,Go.Ai.known,V.pz,V.pzs,T.toV,frz1,List.range,List.range.loop,ite_true,ite_false,if_true,if_false,ne_eq,implies_true,forall_const,eq_self,IntKind.bits,upd_tmsS,selT_cons,selT_nil,List.length_map,List.getElem?_map,Int.natCast_nonneg,List.length_append,List.map_append,selF_cons,selF_nil]
            · simp (maxSteps:=9999999)-implicitDefEqProofs only [simprocAttr,QH,Option.isSome,cond_true,cond_false,Option.bind,selB,V.rn,V.rns,Go.Ai.known,V.pz,V.pzs,T.toV,frz1,List.range,List.range.loop,ite_true,ite_false,if_true,if_false,ne_eq,implies_true,forall_const,eq_self,IntKind.bits,upd_tmsS,selT_cons,selT_nil,List.length_map,List.getElem?_map,Int.natCast_nonneg,List.length_append,List.map_append,List.map_cons,List.map_nil,List.nil_append]
          · by_cases hc : N.length < n
            · have hlt : (N.length : Int) < (n : Int) := by omega
              have gm : (N.length + 1) * 8 ≤ 140737488355328 := by omega
              rw [if_pos hc] at hnx
              (have hwq := trivial; repeat' (first | simp (maxSteps:=9999999)-implicitDefEqProofs only [go_sem,simprocAttr,hwq,FT3,FT4,FT5,FT23,FT82,FT84,FT91,FT126,List.length_map,List.getElem?_map,Int.natCast_nonneg,List.length_append,List.map_append,List.length_map,hlt,gm] | (refine condK_split ?_ ?_ <;> intro hwq) | (refine two_split ?_ ?_) | (refine guardK_split ?_ ?_ <;> intro hwq) | (refine guardE_split ?_ ?_ <;> intro hwq) | (refine awp_drawI 3 [] (List.range 22) [0, 1, 3, 7, 15, 0, 32, 96, 224, 511, 0, 1024, 3072, 7168, 15360, 0, 32768, 98304, 229376, 523264, 1023, 2097151] (by decide +kernel) ?_; have hwq := trivial) | (refine awp_drawW [] (by decide +kernel) ?_; have hwq := trivial) | fail))
              refine ⟨3 - (2 + 1), _, by omega, Weak.cutI 3 [0, 2, 5, 7, 8, 60, 61, 62, 76, 77] ?_ ?_, 2 + 1, _, _, by omega, rfl, hnx.symm, .inr ⟨by simp, rfl⟩⟩
              · simp (maxSteps:=9999999)-implicitDefEqProofs only [simprocAttr,QH,Option.isSome,cond_true,cond_false,Option.bind,selB,V.rn,V.rns,Go.Ai.known,V.pz,V.pzs,T.toV,frz1,List.range,List.range.loop,ite_true,ite_false,if_true,if_false,ne_eq,implies_true,forall_const,eq_self,IntKind.bits,upd_tmsS,selT_cons,selT_nil,List.length_map,List.getElem?_map,Int.natCast_nonneg,List.length_append,List.map_append]
              · simp (maxSteps:=9999999)-implicitDefEqProofs only [simprocAttr,QH,Option.isSome,cond_true,cond_false,Option.bind,selB,V.rn,V.rns,Go.Ai.known,V.pz,V.pzs,T.toV,frz1,List.range,List.range.loop,ite_true,ite_false,if_true,if_false,ne_eq,implies_true,forall_const,eq_self,IntKind.bits,upd_tmsS,selT_cons,selT_nil,List.length_map,List.getElem?_map,Int.natCast_nonneg,List.length_append,List.map_append,List.map_cons,List.map_nil]
            · have hlt : ¬ (N.length : Int) < (n : Int) := by omega
              rw [if_neg hc] at hnx
              (have hwq := trivial; repeat' (first | simp (maxSteps:=9999999)-implicitDefEqProofs only [go_sem,simprocAttr,hwq,FT3,FT4,FT5,FT23,FT82,FT84,FT91,FT126,List.length_map,List.getElem?_map,Int.natCast_nonneg,List.length_append,List.map_append,List.length_map,hlt] | (refine condK_split ?_ ?_ <;> intro hwq) | (refine two_split ?_ ?_) | (refine guardK_split ?_ ?_ <;> intro hwq) | (refine guardE_split ?_ ?_ <;> intro hwq) | (refine awp_drawI 3 [] (List.range 22) [0, 1, 3, 7, 15, 0, 32, 96, 224, 511, 0, 1024, 3072, 7168, 15360, 0, 32768, 98304, 229376, 523264, 1023, 2097151] (by decide +kernel) ?_; have hwq := trivial) | (refine awp_drawW [] (by decide +kernel) ?_; have hwq := trivial) | fail))
              refine ⟨3 - (2 + 1), _, by omega, Weak.cutI 3 [0, 2, 5, 7, 8, 60, 61, 62, 76, 77] ?_ ?_, 2 + 1, _, _, by omega, rfl, hnx.symm, .inr ⟨hNe, rfl⟩⟩
              · simp (maxSteps:=9999999)-implicitDefEqProofs only [simprocAttr,QH,Option.isSome,cond_true,cond_false,Option.bind,selB,V.rn,V.rns,Go.Ai.known,V.pz,V.pzs,T.toV,frz1,List.range,List.range.loop,ite_true,ite_false,if_true,if_false,ne_eq,implies_true,forall_const,eq_self,IntKind.bits,upd_tmsS,selT_cons,selT_nil,List.length_map,List.getElem?_map,Int.natCast_nonneg,List.length_append,List.map_append]
              · simp (maxSteps:=9999999)-implicitDefEqProofs only [simprocAttr,QH,Option.isSome,cond_true,cond_false,Option.bind,selB,V.rn,V.rns,Go.Ai.known,V.pz,V.pzs,T.toV,frz1,List.range,List.range.loop,ite_true,ite_false,if_true,if_false,ne_eq,implies_true,forall_const,eq_self,IntKind.bits,upd_tmsS,selT_cons,selT_nil,List.length_map,List.getElem?_map,Int.natCast_nonneg,List.length_append,List.map_append]
      · have hN' : N = ((rs.take (j + 1)).flatMap unp3).take n := by rw [hN, ← hM3]; rfl
        rcases hS2 with ⟨hNe, rfl⟩ | ⟨hNe, rfl⟩
        · (have hwq := trivial; repeat' (first | simp (maxSteps:=9999999)-implicitDefEqProofs only [go_sem,simprocAttr,hwq,FT3,FT4,FT5,FT23,FT82,FT84,FT91,FT126,List.length_map,List.getElem?_map,Int.natCast_nonneg,List.length_append,List.map_append,wj] | (refine condK_split ?_ ?_ <;> intro hwq) | (refine two_split ?_ ?_) | (refine guardK_split ?_ ?_ <;> intro hwq) | (refine guardE_split ?_ ?_ <;> intro hwq) | (refine awp_drawI 3 [] (List.range 22) [0, 1, 3, 7, 15, 0, 32, 96, 224, 511, 0, 1024, 3072, 7168, 15360, 0, 32768, 98304, 229376, 523264, 1023, 2097151] (by decide +kernel) ?_; have hwq := trivial) | (refine awp_drawW [] (by decide +kernel) ?_; have hwq := trivial) | fail))
          refine ⟨sz - (j + 1), _, by omega, Weak.cutI 2 [0, 2, 5, 7, 8, 60, 61, 62] ?_ ?_, j + 1, N, _, by omega, rfl, hN', .inl ⟨hNe, rfl⟩⟩
          · simp (maxSteps:=9999999)-implicitDefEqProofs only [simprocAttr,QH,Option.isSome,cond_true,cond_false,Option.bind,selB,V.rn,V.rns,Go.Ai.known,V.pz,V.pzs,T.toV,frz1,List.range,List.range.loop,ite_true,ite_false,if_true,if_false,ne_eq,implies_true,forall_const,eq_self,IntKind.bits,upd_tmsS,selT_cons,selT_nil,List.length_map,List.getElem?_map,Int.natCast_nonneg,List.length_append,List.map_append]
          · simp (maxSteps:=9999999)-implicitDefEqProofs only [simprocAttr,QH,Option.isSome,cond_true,cond_false,Option.bind,selB,V.rn,V.rns,Go.Ai.known,V.pz,V.pzs,T.toV,frz1,List.range,List.range.loop,ite_true,ite_false,if_true,if_false,ne_eq,implies_true,forall_const,eq_self,IntKind.bits,upd_tmsS,selT_cons,selT_nil,List.length_map,List.getElem?_map,Int.natCast_nonneg,List.length_append,List.map_append]
        · (have hwq := trivial; repeat' (first | simp (maxSteps:=9999999)-implicitDefEqProofs only [go_sem,simprocAttr,hwq,FT3,FT4,FT5,FT23,FT82,FT84,FT91,FT126,List.length_map,List.getElem?_map,Int.natCast_nonneg,List.length_append,List.map_append,wj] | (refine condK_split ?_ ?_ <;> intro hwq) | (refine two_split ?_ ?_) | (refine guardK_split ?_ ?_ <;> intro hwq) | (refine guardE_split ?_ ?_ <;> intro hwq) | (refine awp_drawI 3 [] (List.range 22) [0, 1, 3, 7, 15, 0, 32, 96, 224, 511, 0, 1024, 3072, 7168, 15360, 0, 32768, 98304, 229376, 523264, 1023, 2097151] (by decide +kernel) ?_; have hwq := trivial) | (refine awp_drawW [] (by decide +kernel) ?_; have hwq := trivial) | fail))
          refine ⟨sz - (j + 1), _, by omega, Weak.cutI 3 [0, 2, 5, 7, 8, 60, 61, 62] ?_ ?_, j + 1, N, _, by omega, rfl, hN', .inr ⟨hNe, rfl⟩⟩
          · simp (maxSteps:=9999999)-implicitDefEqProofs only [simprocAttr,QH,Option.isSome,cond_true,cond_false,Option.bind,selB,V.rn,V.rns,Go.Ai.known,V.pz,V.pzs,T.toV,frz1,List.range,List.range.loop,ite_true,ite_false,if_true,if_false,ne_eq,implies_true,forall_const,eq_self,IntKind.bits,upd_tmsS,selT_cons,selT_nil,List.length_map,List.getElem?_map,Int.natCast_nonneg,List.length_append,List.map_append]
          · simp (maxSteps:=9999999)-implicitDefEqProofs only [simprocAttr,QH,Option.isSome,cond_true,cond_false,Option.bind,selB,V.rn,V.rns,Go.Ai.known,V.pz,V.pzs,T.toV,frz1,List.range,List.range.loop,ite_true,ite_false,if_true,if_false,ne_eq,implies_true,forall_const,eq_self,IntKind.bits,upd_tmsS,selT_cons,selT_nil,List.length_map,List.getElem?_map,Int.natCast_nonneg,List.length_append,List.map_append]
    · (have hwq := trivial; repeat' (first | simp (maxSteps:=9999999)-implicitDefEqProofs only [go_sem,simprocAttr,hwq,FT3,FT4,FT5,FT23,FT82,FT84,FT91,FT126,List.length_map,List.getElem?_map,Int.natCast_nonneg,List.length_append,List.map_append,rl,hjl',hgj,x1,x2,x3,x4,x5,x6,x7,List.length_map] | (refine condK_split ?_ ?_ <;> intro hwq) | (refine two_split ?_ ?_) | (refine guardK_split ?_ ?_ <;> intro hwq) | (refine guardE_split ?_ ?_ <;> intro hwq) | (refine awp_drawI 3 [] (List.range 22) [0, 1, 3, 7, 15, 0, 32, 96, 224, 511, 0, 1024, 3072, 7168, 15360, 0, 32768, 98304, 229376, 523264, 1023, 2097151] (by decide +kernel) ?_; have hwq := trivial) | (refine awp_drawW [] (by decide +kernel) ?_; have hwq := trivial) | fail))
      refine awp_loopK (Iv b rs al f n sz j M d0 d1 d2) 3 _ (Weak.cutI 3 [0, 2, 5, 7, 8, 60, 61, 62, 76, 77] ?_ ?_) ⟨0, M, _, by omega, rfl, hM0, .inr ⟨hMe, rfl⟩⟩ ?_
      · simp (maxSteps:=9999999)-implicitDefEqProofs only [simprocAttr,QH,Option.isSome,cond_true,cond_false,Option.bind,selB,V.rn,V.rns,Go.Ai.known,V.pz,V.pzs,T.toV,frz1,List.range,List.range.loop,ite_true,ite_false,if_true,if_false,ne_eq,implies_true,forall_const,eq_self,IntKind.bits,upd_tmsS,selT_cons,selT_nil,List.length_map,List.getElem?_map,Int.natCast_nonneg,List.length_append,List.map_append]
      · simp (maxSteps:=9999999)-implicitDefEqProofs only [simprocAttr,QH,Option.isSome,cond_true,cond_false,Option.bind,selB,V.rn,V.rns,Go.Ai.known,V.pz,V.pzs,T.toV,frz1,List.range,List.range.loop,ite_true,ite_false,if_true,if_false,ne_eq,implies_true,forall_const,eq_self,IntKind.bits,upd_tmsS,selT_cons,selT_nil,List.length_map,List.getElem?_map,Int.natCast_nonneg,List.length_append,List.map_append]
      rintro kk2 S2 ⟨i, N, mv2, hi, rfl, hN, hS2⟩
      have hNn : N.length ≤ n := by rw [hN, List.length_take]; omega
      rcases Nat.lt_or_eq_of_le hi with hi3 | rfl
      · have hi' : i = 0 ∨ i = 1 ∨ i = 2 := by omega
        rcases hi' with rfl | rfl | rfl
        · have hnx : (M ++ [d0, d1, d2].take 1).take n = if N.length < n then N ++ [d0] else N := by
            have e : M ++ [d0, d1, d2].take 1 = (M ++ [d0, d1, d2].take 0) ++ [d0] := by simp
            rw [e, take_snoc, ← hN]
          rcases hS2 with ⟨hNe, rfl⟩ | ⟨hNe, rfl⟩
          · subst hNe
            have hlt : (0 : Int) < (n : Int) := by omega
            rw [if_pos (by simpa using hnp)] at hnx
            (have hwq := trivial; repeat' (first | simp (maxSteps:=9999999)-implicitDefEqProofs only [go_sem,simprocAttr,hwq,FT3,FT4,FT5,FT23,FT82,FT84,FT91,FT126,List.length_map,List.getElem?_map,Int.natCast_nonneg,List.length_append,List.map_append,List.length_map,hlt] | (refine condK_split ?_ ?_ <;> intro hwq) | (refine two_split ?_ ?_) | (refine guardK_split ?_ ?_ <;> intro hwq) | (refine guardE_split ?_ ?_ <;> intro hwq) | (refine awp_drawI 3 [] (List.range 22) [0, 1, 3, 7, 15, 0, 32, 96, 224, 511, 0, 1024, 3072, 7168, 15360, 0, 32768, 98304, 229376, 523264, 1023, 2097151] (by decide +kernel) ?_; have hwq := trivial) | (refine awp_drawW [] (by decide +kernel) ?_; have hwq := trivial) | fail))
            refine ⟨3 - (0 + 1), _, by omega, Weak.selI [0, 1, 3] [0, 2, 5, 7, 8, 60, 61, 62, 76, 77] (by decide) ?_ ?_, 0 + 1, _, _, by omega, rfl, hnx.symm, .inr ⟨by simp, rfl⟩⟩
            · simp (maxSteps:=9999999)-implicitDefEqProofs only [simprocAttr,QH,Option.isSome,cond_true,cond_false,Option.bind,selB,V.rn,V.rns,Go.Ai.known,V.pz,V.pzs,T.toV,frz1,List.range,List.range.loop,ite_true,ite_false,if_true,if_false,ne_eq,implies_true,forall_const,eq_self,IntKind.bits,upd_tmsS,selT_cons,selT_nil,List.length_map,List.getElem?_map,Int.natCast_nonneg,List.length_append,List.map_append,selF_cons,selF_nil]
            · simp (maxSteps:=9999999)-implicitDefEqProofs only [simprocAttr,QH,Option.isSome,cond_true,cond_false,Option.bind,selB,V.rn,V.rns,Go.Ai.known,V.pz,V.pzs,T.toV,frz1,List.range,List.range.loop,ite_true,ite_false,if_true,if_false,ne_eq,implies_true,forall_const,eq_self,IntKind.bits,upd_tmsS,selT_cons,selT_nil,List.length_map,List.getElem?_map,Int.natCast_nonneg,List.length_append,List.map_append,List.map_cons,List.map_nil,List.nil_append]
          · by_cases hc : N.length < n
            · have hlt : (N.length : Int) < (n : Int) := by omega
              have gm : (N.length + 1) * 8 ≤ 140737488355328 := by omega
              rw [if_pos hc] at hnx
              (have hwq := trivial; repeat' (first | simp (maxSteps:=9999999)-implicitDefEqProofs only [go_sem,simprocAttr,hwq,FT3,FT4,FT5,FT23,FT82,FT84,FT91,FT126,List.length_map,List.getElem?_map,Int.natCast_nonneg,List.length_append,List.map_append,List.length_map,hlt,gm] | (refine condK_split ?_ ?_ <;> intro hwq) | (refine two_split ?_ ?_) | (refine guardK_split ?_ ?_ <;> intro hwq) | (refine guardE_split ?_ ?_ <;> intro hwq) | (refine awp_drawI 3 [] (List.range 22) [0, 1, 3, 7, 15, 0, 32, 96, 224, 511, 0, 1024, 3072, 7168, 15360, 0, 32768, 98304, 229376, 523264, 1023, 2097151] (by decide +kernel) ?_; have hwq := trivial) | (refine awp_drawW [] (by decide +kernel) ?_; have hwq := trivial) | fail))
              refine ⟨3 - (0 + 1), _, by omega, Weak.cutI 3 [0, 2, 5, 7, 8, 60, 61, 62, 76, 77] ?_ ?_, 0 + 1, _, _, by omega, rfl, hnx.symm, .inr ⟨by simp, rfl⟩⟩
              · simp (maxSteps:=9999999)-implicitDefEqProofs only [simprocAttr,QH,Option.isSome,cond_true,cond_false,Option.bind,selB,V.rn,V.rns,Go.Ai.known,V.pz,V.pzs,T.toV,frz1,List.range,List.range.loop,ite_true,ite_false,if_true,if_false,ne_eq,implies_true,forall_const,eq_self,IntKind.bits,upd_tmsS,selT_cons,selT_nil,List.length_map,List.getElem?_map,Int.natCast_nonneg,List.length_append,List.map_append]
              · simp (maxSteps:=9999999)-implicitDefEqProofs only [simprocAttr,QH,Option.isSome,cond_true,cond_false,Option.bind,selB,V.rn,V.rns,Go.Ai.known,V.pz,V.pzs,T.toV,frz1,List.range,List.range.loop,ite_true,ite_false,if_true,if_false,ne_eq,implies_true,forall_const,eq_self,IntKind.bits,upd_tmsS,selT_cons,selT_nil,List.length_map,List.getElem?_map,Int.natCast_nonneg,List.length_append,List.map_append,List.map_cons,List.map_nil]
            · have hlt : ¬ (N.length : Int) < (n : Int) := by omega
              rw [if_neg hc] at hnx
              (have hwq := trivial; repeat' (first | simp (maxSteps:=9999999)-implicitDefEqProofs only [go_sem,simprocAttr,hwq,FT3,FT4,FT5,FT23,FT82,FT84,FT91,FT126,List.length_map,List.getElem?_map,Int.natCast_nonneg,List.length_append,List.map_append,List.length_map,hlt] | (refine condK_split ?_ ?_ <;> intro hwq) | (refine two_split ?_ ?_) | (refine guardK_split ?_ ?_ <;> intro hwq) | (refine guardE_split ?_ ?_ <;> intro hwq) | (refine awp_drawI 3 [] (List.range 22) [0, 1, 3, 7, 15, 0, 32, 96, 224, 511, 0, 1024, 3072, 7168, 15360, 0, 32768, 98304, 229376, 523264, 1023, 2097151] (by decide +kernel) ?_; have hwq := trivial) | (refine awp_drawW [] (by decide +kernel) ?_; have hwq := trivial) | fail))
              refine ⟨3 - (0 + 1), _, by omega, Weak.cutI 3 [0, 2, 5, 7, 8, 60, 61, 62, 76, 77] ?_ ?_, 0 + 1, _, _, by omega, rfl, hnx.symm, .inr ⟨hNe, rfl⟩⟩
              · simp (maxSteps:=9999999)-implicitDefEqProofs only [simprocAttr,QH,Option.isSome,cond_true,cond_false,Option.bind,selB,V.rn,V.rns,Go.Ai.known,V.pz,V.pzs,T.toV,frz1,List.range,List.range.loop,ite_true,ite_false,if_true,if_false,ne_eq,implies_true,forall_const,eq_self,IntKind.bits,upd_tmsS,selT_cons,selT_nil,List.length_map,List.getElem?_map,Int.natCast_nonneg,List.length_append,List.map_append]
              · simp (maxSteps:=9999999)-implicitDefEqProofs only [simprocAttr,QH,Option.isSome,cond_true,cond_false,Option.bind,selB,V.rn,V.rns,Go.Ai.known,V.pz,V.pzs,T.toV,frz1,List.range,List.range.loop,ite_true,ite_false,if_true,if_false,ne_eq,implies_true,forall_const,eq_self,IntKind.bits,upd_tmsS,selT_cons,selT_nil,List.length_map,List.getElem?_map,Int.natCast_nonneg,List.length_append,List.map_append]
        · have hnx : (M ++ [d0, d1, d2].take 2).take n = if N.length < n then N ++ [d1] else N := by
            have e : M ++ [d0, d1, d2].take 2 = (M ++ [d0, d1, d2].take 1) ++ [d1] := by simp
            rw [e, take_snoc, ← hN]
          rcases hS2 with ⟨hNe, rfl⟩ | ⟨hNe, rfl⟩
          · subst hNe
            have hlt : (0 : Int) < (n : Int) := by omega
            rw [if_pos (by simpa using hnp)] at hnx
            (have hwq := trivial; repeat' (first | simp (maxSteps:=9999999)-implicitDefEqProofs only [go_sem,simprocAttr,hwq,FT3,FT4,FT5,FT23,FT82,FT84,FT91,FT126,List.length_map,List.getElem?_map,Int.natCast_nonneg,List.length_append,List.map_append,List.length_map,hlt] | (refine condK_split ?_ ?_ <;> intro hwq) | (refine two_split ?_ ?_) | (refine guardK_split ?_ ?_ <;> intro hwq) | (refine guardE_split ?_ ?_ <;> intro hwq) | (refine awp_drawI 3 [] (List.range 22) [0, 1, 3, 7, 15, 0, 32, 96, 224, 511, 0, 1024, 3072, 7168, 15360, 0, 32768, 98304, 229376, 523264, 1023, 2097151] (by decide +kernel) ?_; have hwq := trivial) | (refine awp_drawW [] (by decide +kernel) ?_; have hwq := trivial) | fail))
            refine ⟨3 - (1 + 1), _, by omega, Weak.selI [0, 1, 3] [0, 2, 5, 7, 8, 60, 61, 62, 76, 77] (by decide) ?_ ?_, 1 + 1, _, _, by omega, rfl, hnx.symm, .inr ⟨by simp, rfl⟩⟩
            · simp (maxSteps:=9999999)-implicitDefEqProofs only [simprocAttr,QH,Option.isSome,cond_true,cond_false,Option.bind,selB,V.rn,V.rns,Go.Ai.known,V.pz,V.pzs,T.toV,frz1,List.range,List.range.loop,ite_true,ite_false,if_true,if_false,ne_eq,implies_true,forall_const,eq_self,IntKind.bits,upd_tmsS,selT_cons,selT_nil,List.length_map,List.getElem?_map,Int.natCast_nonneg,List.length_append,List.map_append,selF_cons,selF_nil]
            · simp (maxSteps:=9999999)-implicitDefEqProofs only [simprocAttr,QH,Option.isSome,cond_true,cond_false,Option.bind,selB,V.rn,V.rns,Go.Ai.known,V.pz,V.pzs,T.toV,frz1,List.range,List.range.loop,ite_true,ite_false,if_true,if_false,ne_eq,implies_true,forall_const,eq_self,IntKind.bits,upd_tmsS,selT_cons,selT_nil,List.length_map,List.getElem?_map,Int.natCast_nonneg,List.length_append,List.map_append,List.map_cons,List.map_nil,List.nil_append]
          · by_cases hc : N.length < n
            · have hlt : (N.length : Int) < (n : Int) := by omega
              have gm : (N.length + 1) * 8 ≤ 140737488355328 := by omega
              rw [if_pos hc] at hnx
              (have hwq := trivial; repeat' (first | simp (maxSteps:=9999999)-implicitDefEqProofs only [go_sem,simprocAttr,hwq,FT3,FT4,FT5,FT23,FT82,FT84,FT91,FT126,List.length_map,List.getElem?_map,Int.natCast_nonneg,List.length_append,List.map_append,List.length_map,hlt,gm] | (refine condK_split ?_ ?_ <;> intro hwq) | (refine two_split ?_ ?_) | (refine guardK_split ?_ ?_ <;> intro hwq) | (refine guardE_split ?_ ?_ <;> intro hwq) | (refine awp_drawI 3 [] (List.range 22) [0, 1, 3, 7, 15, 0, 32, 96, 224, 511, 0, 1024, 3072, 7168, 15360, 0, 32768, 98304, 229376, 523264, 1023, 2097151] (by decide +kernel) ?_; have hwq := trivial) | (refine awp_drawW [] (by decide +kernel) ?_; have hwq := trivial) | fail))
              refine ⟨3 - (1 + 1), _, by omega, Weak.cutI 3 [0, 2, 5, 7, 8, 60, 61, 62, 76, 77] ?_ ?_, 1 + 1, _, _, by omega, rfl, hnx.symm, .inr ⟨by simp, rfl⟩⟩
              · simp (maxSteps:=9999999)-implicitDefEqProofs only [simprocAttr,QH,Option.isSome,cond_true,cond_false,Option.bind,selB,V.rn,V.rns,Go.Ai.known,V.pz,V.pzs,T.toV,frz1,List.range,List.range.loop,ite_true,ite_false,if_true,if_false,ne_eq,implies_true,forall_const,eq_self,IntKind.bits,upd_tmsS,selT_cons,selT_nil,List.length_map,List.getElem?_map,Int.natCast_nonneg,List.length_append,List.map_append]
              · simp (maxSteps:=9999999)-implicitDefEqProofs only [simprocAttr,QH,Option.isSome,cond_true,cond_false,Option.bind,selB,V.rn,V.rns,Go.Ai.known,V.pz,V.pzs,T.toV,frz1,List.range,List.range.loop,ite_true,ite_false,if_true,if_false,ne_eq,implies_true,forall_const,eq_self,IntKind.bits,upd_tmsS,selT_cons,selT_nil,List.length_map,List.getElem?_map,Int.natCast_nonneg,List.length_append,List.map_append,List.map_cons,List.map_nil]
            · have hlt : ¬ (N.length : Int) < (n : Int) := by omega
              rw [if_neg hc] at hnx
              (have hwq := trivial; repeat' (first | simp (maxSteps:=9999999)-implicitDefEqProofs only [go_sem,simprocAttr,hwq,FT3,FT4,FT5,FT23,FT82,FT84,FT91,FT126,List.length_map,List.getElem?_map,Int.natCast_nonneg,List.length_append,List.map_append,List.length_map,hlt] | (refine condK_split ?_ ?_ <;> intro hwq) | (refine two_split ?_ ?_) | (refine guardK_split ?_ ?_ <;> intro hwq) | (refine guardE_split ?_ ?_ <;> intro hwq) | (refine awp_drawI 3 [] (List.range 22) [0, 1, 3, 7, 15, 0, 32, 96, 224, 511, 0, 1024, 3072, 7168, 15360, 0, 32768, 98304, 229376, 523264, 1023, 2097151] (by decide +kernel) ?_; have hwq := trivial) | (refine awp_drawW [] (by decide +kernel) ?_; have hwq := trivial) | fail))
              refine ⟨3 - (1 + 1), _, by omega, Weak.cutI 3 [0, 2, 5, 7, 8, 60, 61, 62, 76, 77] ?_ ?_, 1 + 1, _, _, by omega, rfl, hnx.symm, .inr ⟨hNe, rfl⟩⟩
              · simp (maxSteps:=9999999)-implicitDefEqProofs only [simprocAttr,QH,Option.isSome,cond_true,cond_false,Option.bind,selB,V.rn,V.rns,Go.Ai.known,V.pz,V.pzs,T.toV,frz1,List.range,List.range.loop,ite_true,ite_false,if_true,if_false,ne_eq,implies_true,forall_const,eq_self,IntKind.bits,upd_tmsS,selT_cons,selT_nil,List.length_map,List.getElem?_map,Int.natCast_nonneg,List.length_append,List.map_append]
              · simp (maxSteps:=9999999)-implicitDefEqProofs only [simprocAttr,QH,Option.isSome,cond_true,cond_false,Option.bind,selB,V.rn,V.rns,Go.Ai.known,V.pz,V.pzs,T.toV,frz1,List.range,List.range.loop,ite_true,ite_false,if_true,if_false,ne_eq,implies_true,forall_const,eq_self,IntKind.bits,upd_tmsS,selT_cons,selT_nil,List.length_map,List.getElem?_map,Int.natCast_nonneg,List.length_append,List.map_append]
        · have hnx : (M ++ [d0, d1, d2].take 3).take n = if N.length < n then N ++ [d2] else N := by
            have e : M ++ [d0, d1, d2].take 3 = (M ++ [d0, d1, d2].take 2) ++ [d2] := by simp
            rw [e, take_snoc, ← hN]
          rcases hS2 with ⟨hNe, rfl⟩ | ⟨hNe, rfl⟩
          · subst hNe
            have hlt : (0 : Int) < (n : Int) := by omega
            rw [if_pos (by simpa using hnp)] at hnx
            (have hwq := trivial; repeat' (first | simp (maxSteps:=9999999)-implicitDefEqProofs only [go_sem,simprocAttr,hwq,FT3,FT4,FT5,FT23,FT82,FT84,FT91,FT126,List.length_map,List.getElem?_map,Int.natCast_nonneg,List.length_append,List.map_append,List.length_map,hlt] | (refine condK_split ?_ ?_ <;> intro hwq) | (refine two_split ?_ ?_) | (refine guardK_split ?_ ?_ <;> intro hwq) | (refine guardE_split ?_ ?_ <;> intro hwq) | (refine awp_drawI 3 [] (List.range 22) [0, 1, 3, 7, 15, 0, 32, 96, 224, 511, 0, 1024, 3072, 7168, 15360, 0, 32768, 98304, 229376, 523264, 1023, 2097151] (by decide +kernel) ?_; have hwq := trivial) | (refine awp_drawW [] (by decide +kernel) ?_; have hwq := trivial) | fail))
            refine ⟨3 - (2 + 1), _, by omega, Weak.selI [0, 1, 3] [0, 2, 5, 7, 8, 60, 61, 62, 76, 77] (by decide) ?_ ?_, 2 + 1, _, _, by omega, rfl, hnx.symm, .inr ⟨by simp, rfl⟩⟩
            · simp (maxSteps:=9999999)-implicitDefEqProofs only [simprocAttr,QH,Option.isSome,cond_true,cond_false,Option.bind,selB,V.rn,V.rns,Go.Ai.known,V.pz,V.pzs,T.toV,frz1,List.range,List.range.loop,ite_true,ite_false,if_true,if_false,ne_eq,implies_true,forall_const,eq_self,IntKind.bits,upd_tmsS,selT_cons,selT_nil,List.length_map,List.getElem?_map,Int.natCast_nonneg,List.length_append,List.map_append,selF_cons,selF_nil]
            · simp (maxSteps:=9999999)-implicitDefEqProofs only [simprocAttr,QH,Option.isSome,cond_true,cond_false,Option.bind,selB,V.rn,V.rns,Go.Ai.known,V.pz,V.pzs,T.toV,frz1,List.range,List.range.loop,ite_true,ite_false,if_true,if_false,ne_eq,implies_true,forall_const,eq_self,IntKind.bits,upd_tmsS,selT_cons,selT_nil,List.length_map,List.getElem?_map,Int.natCast_nonneg,List.length_append,List.map_append,List.map_cons,List.map_nil,List.nil_append]
          · by_cases hc : N.length < n
            · have hlt : (N.length : Int) < (n : Int) := by omega
              have gm : (N.length + 1) * 8 ≤ 140737488355328 := by omega
              rw [if_pos hc] at hnx
              (have hwq := trivial; repeat' (first | simp (maxSteps:=9999999)-implicitDefEqProofs only [go_sem,simprocAttr,hwq,FT3,FT4,FT5,FT23,FT82,FT84,FT91,FT126,List.length_map,List.getElem?_map,Int.natCast_nonneg,List.length_append,List.map_append,List.length_map,hlt,gm] | (refine condK_split ?_ ?_ <;> intro hwq) | (refine two_split ?_ ?_) | (refine guardK_split ?_ ?_ <;> intro hwq) | (refine guardE_split ?_ ?_ <;> intro hwq) | (refine awp_drawI 3 [] (List.range 22) [0, 1, 3, 7, 15, 0, 32, 96, 224, 511, 0, 1024, 3072, 7168, 15360, 0, 32768, 98304, 229376, 523264, 1023, 2097151] (by decide +kernel) ?_; have hwq := trivial) | (refine awp_drawW [] (by decide +kernel) ?_; have hwq := trivial) | fail))
              refine ⟨3 - (2 + 1), _, by omega, Weak.cutI 3 [0, 2, 5, 7, 8, 60, 61, 62, 76, 77] ?_ ?_, 2 + 1, _, _, by omega, rfl, hnx.symm, .inr ⟨by simp, rfl⟩⟩
              · simp (maxSteps:=9999999)-implicitDefEqProofs only [simprocAttr,QH,Option.isSome,cond_true,cond_false,Option.bind,selB,V.rn,V.rns,Go.Ai.known,V.pz,V.pzs,T.toV,frz1,List.range,List.range.loop,ite_true,ite_false,if_true,if_false,ne_eq,implies_true,forall_const,eq_self,IntKind.bits,upd_tmsS,selT_cons,selT_nil,List.length_map,List.getElem?_map,Int.natCast_nonneg,List.length_append,List.map_append]
              · simp (maxSteps:=9999999)-implicitDefEqProofs only [simprocAttr,QH,Option.isSome,cond_true,cond_false,Option.bind,selB,V.rn,V.rns,Go.Ai.known,V.pz,V.pzs,T.toV,frz1,List.range,List.range.loop,ite_true,ite_false,if_true,if_false,ne_eq,implies_true,forall_const,eq_self,IntKind.bits,upd_tmsS,selT_cons,selT_nil,List.length_map,List.getElem?_map,Int.natCast_nonneg,List.length_append,List.map_append,List.map_cons,List.map_nil]
            · have hlt : ¬ (N.length : Int) < (n : Int) := by omega
              rw [if_neg hc] at hnx
              (have hwq := trivial; repeat' (first | simp (maxSteps:=9999999)-implicitDefEqProofs only [go_sem,simprocAttr,hwq,FT3,FT4,FT5,FT23,FT82,FT84,FT91,FT126,List.length_map,List.getElem?_map,Int.natCast_nonneg,List.length_append,List.map_append,List.length_map,hlt] | (refine condK_split ?_ ?_ <;> intro hwq) | (refine two_split ?_ ?_) | (refine guardK_split ?_ ?_ <;> intro hwq) | (refine guardE_split ?_ ?_ <;> intro hwq) | (refine awp_drawI 3 [] (List.range 22) [0, 1, 3, 7, 15, 0, 32, 96, 224, 511, 0, 1024, 3072, 7168, 15360, 0, 32768, 98304, 229376, 523264, 1023, 2097151] (by decide +kernel) ?_; have hwq := trivial) | (refine awp_drawW [] (by decide +kernel) ?_; have hwq := trivial) | fail))
              refine ⟨3 - (2 + 1), _, by omega, Weak.cutI 3 [0, 2, 5, 7, 8, 60, 61, 62, 76, 77] ?_ ?_, 2 + 1, _, _, by omega, rfl, hnx.symm, .inr ⟨hNe, rfl⟩⟩
              · simp (maxSteps:=9999999)-implicitDefEqProofs only [simprocAttr,QH,Option.isSome,cond_true,cond_false,Option.bind,selB,V.rn,V.rns,Go.Ai.known,V.pz,V.pzs,T.toV,frz1,List.range,List.range.loop,ite_true,ite_false,if_true,if_false,ne_eq,implies_true,forall_const,eq_self,IntKind.bits,upd_tmsS,selT_cons,selT_nil,List.length_map,List.getElem?_map,Int.natCast_nonneg,List.length_append,List.map_append]
              · simp (maxSteps:=9999999)-implicitDefEqProofs only [simprocAttr,QH,Option.isSome,cond_true,cond_false,Option.bind,selB,V.rn,V.rns,Go.Ai.known,V.pz,V.pzs,T.toV,frz1,List.range,List.range.loop,ite_true,ite_false,if_true,if_false,ne_eq,implies_true,forall_const,eq_self,IntKind.bits,upd_tmsS,selT_cons,selT_nil,List.length_map,List.getElem?_map,Int.natCast_nonneg,List.length_append,List.map_append]
      · have hN' : N = ((rs.take (j + 1)).flatMap unp3).take n := by rw [hN, ← hM3]; rfl
        rcases hS2 with ⟨hNe, rfl⟩ | ⟨hNe, rfl⟩
        · (have hwq := trivial; repeat' (first | simp (maxSteps:=9999999)-implicitDefEqProofs only [go_sem,simprocAttr,hwq,FT3,FT4,FT5,FT23,FT82,FT84,FT91,FT126,List.length_map,List.getElem?_map,Int.natCast_nonneg,List.length_append,List.map_append,wj] | (refine condK_split ?_ ?_ <;> intro hwq) | (refine two_split ?_ ?_) | (refine guardK_split ?_ ?_ <;> intro hwq) | (refine guardE_split ?_ ?_ <;> intro hwq) | (refine awp_drawI 3 [] (List.range 22) [0, 1, 3, 7, 15, 0, 32, 96, 224, 511, 0, 1024, 3072, 7168, 15360, 0, 32768, 98304, 229376, 523264, 1023, 2097151] (by decide +kernel) ?_; have hwq := trivial) | (refine awp_drawW [] (by decide +kernel) ?_; have hwq := trivial) | fail))
          refine ⟨sz - (j + 1), _, by omega, Weak.cutI 2 [0, 2, 5, 7, 8, 60, 61, 62] ?_ ?_, j + 1, N, _, by omega, rfl, hN', .inl ⟨hNe, rfl⟩⟩
          · simp (maxSteps:=9999999)-implicitDefEqProofs only [simprocAttr,QH,Option.isSome,cond_true,cond_false,Option.bind,selB,V.rn,V.rns,Go.Ai.known,V.pz,V.pzs,T.toV,frz1,List.range,List.range.loop,ite_true,ite_false,if_true,if_false,ne_eq,implies_true,forall_const,eq_self,IntKind.bits,upd_tmsS,selT_cons,selT_nil,List.length_map,List.getElem?_map,Int.natCast_nonneg,List.length_append,List.map_append]
          · simp (maxSteps:=9999999)-implicitDefEqProofs only [simprocAttr,QH,Option.isSome,cond_true,cond_false,Option.bind,selB,V.rn,V.rns,Go.Ai.known,V.pz,V.pzs,T.toV,frz1,List.range,List.range.loop,ite_true,ite_false,if_true,if_false,ne_eq,implies_true,forall_const,eq_self,IntKind.bits,upd_tmsS,selT_cons,selT_nil,List.length_map,List.getElem?_map,Int.natCast_nonneg,List.length_append,List.map_append]
        · (have hwq := trivial; repeat' (first | simp (maxSteps:=9999999)-implicitDefEqProofs only [go_sem,simprocAttr,hwq,FT3,FT4,FT5,FT23,FT82,FT84,FT91,FT126,List.length_map,List.getElem?_map,Int.natCast_nonneg,List.length_append,List.map_append,wj] | (refine condK_split ?_ ?_ <;> intro hwq) | (refine two_split ?_ ?_) | (refine guardK_split ?_ ?_ <;> intro hwq) | (refine guardE_split ?_ ?_ <;> intro hwq) | (refine awp_drawI 3 [] (List.range 22) [0, 1, 3, 7, 15, 0, 32, 96, 224, 511, 0, 1024, 3072, 7168, 15360, 0, 32768, 98304, 229376, 523264, 1023, 2097151] (by decide +kernel) ?_; have hwq := trivial) | (refine awp_drawW [] (by decide +kernel) ?_; have hwq := trivial) | fail))
          refine ⟨sz - (j + 1), _, by omega, Weak.cutI 3 [0, 2, 5, 7, 8, 60, 61, 62] ?_ ?_, j + 1, N, _, by omega, rfl, hN', .inr ⟨hNe, rfl⟩⟩
          · simp (maxSteps:=9999999)-implicitDefEqProofs only [simprocAttr,QH,Option.isSome,cond_true,cond_false,Option.bind,selB,V.rn,V.rns,Go.Ai.known,V.pz,V.pzs,T.toV,frz1,List.range,List.range.loop,ite_true,ite_false,if_true,if_false,ne_eq,implies_true,forall_const,eq_self,IntKind.bits,upd_tmsS,selT_cons,selT_nil,List.length_map,List.getElem?_map,Int.natCast_nonneg,List.length_append,List.map_append]
          · simp (maxSteps:=9999999)-implicitDefEqProofs only [simprocAttr,QH,Option.isSome,cond_true,cond_false,Option.bind,selB,V.rn,V.rns,Go.Ai.known,V.pz,V.pzs,T.toV,frz1,List.range,List.range.loop,ite_true,ite_false,if_true,if_false,ne_eq,implies_true,forall_const,eq_self,IntKind.bits,upd_tmsS,selT_cons,selT_nil,List.length_map,List.getElem?_map,Int.natCast_nonneg,List.length_append,List.map_append]
  · have hjl' : ¬ (j : Int) < (sz : Int) := by omega
    obtain rfl : j = sz := by omega
    have e9 : rs.take j = rs := List.take_of_length_le (by omega)
    rw [e9] at hM
    rw [← hM]
    rcases hS with ⟨hMe, rfl⟩ | ⟨hMe, rfl⟩
    · (have hwq := trivial; repeat' (first | simp (maxSteps:=9999999)-implicitDefEqProofs only [go_sem,simprocAttr,hwq,FT3,FT4,FT5,FT23,FT82,FT84,FT91,FT126,List.length_map,List.getElem?_map,Int.natCast_nonneg,List.length_append,List.map_append,hjl'] | (refine condK_split ?_ ?_ <;> intro hwq) | (refine two_split ?_ ?_) | (refine guardK_split ?_ ?_ <;> intro hwq) | (refine guardE_split ?_ ?_ <;> intro hwq) | (refine awp_drawI 3 [] (List.range 22) [0, 1, 3, 7, 15, 0, 32, 96, 224, 511, 0, 1024, 3072, 7168, 15360, 0, 32768, 98304, 229376, 523264, 1023, 2097151] (by decide +kernel) ?_; have hwq := trivial) | (refine awp_drawW [] (by decide +kernel) ?_; have hwq := trivial) | fail))
      refine awp_drawT [] [0, 1, 2, 3] 4 5 [6, 7] [6, 7] [0, 0, 0, 4, 14, 1, 63, 127] [0, 0, 0, 4, 14, 1, 63, 127] (by decide +kernel) ?_
      (have hwq := trivial; repeat' (first | simp (maxSteps:=9999999)-implicitDefEqProofs only [go_sem,simprocAttr,hwq,FT3,FT4,FT5,FT23,FT82,FT84,FT91,FT126,List.length_map,List.getElem?_map,Int.natCast_nonneg,List.length_append,List.map_append,w4,w5,w6,w7,w8,w9,rb,List.length_map] | (refine condK_split ?_ ?_ <;> intro hwq) | (refine two_split ?_ ?_) | (refine guardK_split ?_ ?_ <;> intro hwq) | (refine guardE_split ?_ ?_ <;> intro hwq) | (refine awp_drawI 3 [] (List.range 22) [0, 1, 3, 7, 15, 0, 32, 96, 224, 511, 0, 1024, 3072, 7168, 15360, 0, 32768, 98304, 229376, 523264, 1023, 2097151] (by decide +kernel) ?_; have hwq := trivial) | (refine awp_drawW [] (by decide +kernel) ?_; have hwq := trivial) | fail))
      refine two_mk ⟨tms [(2, .ptr 0 0 0), (3, bysV (r.drop j)), (4, vB true)], [.box [vB al, vI f, .s (.slice none 0 0)] false, .box [vB al, vI f, .s (.slice none 0 0)] false], mv ++ List.range' 2 0⟩ ?_ ?_ ?_
      · (have hwq := trivial; repeat' (first | simp (maxSteps:=9999999)-implicitDefEqProofs only [go_sem,simprocAttr,hwq,FT3,FT4,FT5,FT23,FT82,FT84,FT91,FT126,List.length_map,List.getElem?_map,Int.natCast_nonneg,List.length_append,List.map_append,w4,w5,w6,w7,w8,w9,rb,List.length_map] | (refine condK_split ?_ ?_ <;> intro hwq) | (refine two_split ?_ ?_) | (refine guardK_split ?_ ?_ <;> intro hwq) | (refine guardE_split ?_ ?_ <;> intro hwq) | (refine awp_drawI 3 [] (List.range 22) [0, 1, 3, 7, 15, 0, 32, 96, 224, 511, 0, 1024, 3072, 7168, 15360, 0, 32768, 98304, 229376, 523264, 1023, 2097151] (by decide +kernel) ?_; have hwq := trivial) | (refine awp_drawW [] (by decide +kernel) ?_; have hwq := trivial) | fail))
        refine weak_mk (Weak.cutI 2 [2, 3, 4] ?_ ?_)
        · simp (maxSteps:=9999999)-implicitDefEqProofs only [simprocAttr,QH,Option.isSome,cond_true,cond_false,Option.bind,selB,V.rn,V.rns,Go.Ai.known,V.pz,V.pzs,T.toV,frz1,List.range,List.range.loop,ite_true,ite_false,if_true,if_false,ne_eq,implies_true,forall_const,eq_self,IntKind.bits,upd_tmsS,selT_cons,selT_nil,List.length_map,List.getElem?_map,Int.natCast_nonneg,List.length_append,List.map_append,w4,w5,w6,w7,w8,w9,rb,List.length_map]
        · simp (maxSteps:=9999999)-implicitDefEqProofs only [simprocAttr,QH,Option.isSome,cond_true,cond_false,Option.bind,selB,V.rn,V.rns,Go.Ai.known,V.pz,V.pzs,T.toV,frz1,List.range,List.range.loop,ite_true,ite_false,if_true,if_false,ne_eq,implies_true,forall_const,eq_self,IntKind.bits,upd_tmsS,selT_cons,selT_nil,List.length_map,List.getElem?_map,Int.natCast_nonneg,List.length_append,List.map_append,w4,w5,w6,w7,w8,w9,rb,List.length_map]
      · (have hwq := trivial; repeat' (first | simp (maxSteps:=9999999)-implicitDefEqProofs only [go_sem,simprocAttr,hwq,FT3,FT4,FT5,FT23,FT82,FT84,FT91,FT126,List.length_map,List.getElem?_map,Int.natCast_nonneg,List.length_append,List.map_append,w4,w5,w6,w7,w8,w9,rb,List.length_map] | (refine condK_split ?_ ?_ <;> intro hwq) | (refine two_split ?_ ?_) | (refine guardK_split ?_ ?_ <;> intro hwq) | (refine guardE_split ?_ ?_ <;> intro hwq) | (refine awp_drawI 3 [] (List.range 22) [0, 1, 3, 7, 15, 0, 32, 96, 224, 511, 0, 1024, 3072, 7168, 15360, 0, 32768, 98304, 229376, 523264, 1023, 2097151] (by decide +kernel) ?_; have hwq := trivial) | (refine awp_drawW [] (by decide +kernel) ?_; have hwq := trivial) | fail))
        refine weak_mk (Weak.cutI 2 [2, 3, 4] ?_ ?_)
        · simp (maxSteps:=9999999)-implicitDefEqProofs only [simprocAttr,QH,Option.isSome,cond_true,cond_false,Option.bind,selB,V.rn,V.rns,Go.Ai.known,V.pz,V.pzs,T.toV,frz1,List.range,List.range.loop,ite_true,ite_false,if_true,if_false,ne_eq,implies_true,forall_const,eq_self,IntKind.bits,upd_tmsS,selT_cons,selT_nil,List.length_map,List.getElem?_map,Int.natCast_nonneg,List.length_append,List.map_append,w4,w5,w6,w7,w8,w9,rb,List.length_map]
        · simp (maxSteps:=9999999)-implicitDefEqProofs only [simprocAttr,QH,Option.isSome,cond_true,cond_false,Option.bind,selB,V.rn,V.rns,Go.Ai.known,V.pz,V.pzs,T.toV,frz1,List.range,List.range.loop,ite_true,ite_false,if_true,if_false,ne_eq,implies_true,forall_const,eq_self,IntKind.bits,upd_tmsS,selT_cons,selT_nil,List.length_map,List.getElem?_map,Int.natCast_nonneg,List.length_append,List.map_append,w4,w5,w6,w7,w8,w9,rb,List.length_map]
      (have hwq := trivial; repeat' (first | simp (maxSteps:=9999999)-implicitDefEqProofs only [go_sem,simprocAttr,hwq,FT3,FT4,FT5,FT23,FT82,FT84,FT91,FT126,List.length_map,List.getElem?_map,Int.natCast_nonneg,List.length_append,List.map_append,w4,w5,w6,w7,w8,w9,rb,List.length_map] | (refine condK_split ?_ ?_ <;> intro hwq) | (refine two_split ?_ ?_) | (refine guardK_split ?_ ?_ <;> intro hwq) | (refine guardE_split ?_ ?_ <;> intro hwq) | (refine awp_drawI 3 [] (List.range 22) [0, 1, 3, 7, 15, 0, 32, 96, 224, 511, 0, 1024, 3072, 7168, 15360, 0, 32768, 98304, 229376, 523264, 1023, 2097151] (by decide +kernel) ?_; have hwq := trivial) | (refine awp_drawW [] (by decide +kernel) ?_; have hwq := trivial) | fail))
      subst hMe
      exact ⟨_, rfl, by simp [V.leT, V.le, V.les]⟩
    · (have hwq := trivial; repeat' (first | simp (maxSteps:=9999999)-implicitDefEqProofs only [go_sem,simprocAttr,hwq,FT3,FT4,FT5,FT23,FT82,FT84,FT91,FT126,List.length_map,List.getElem?_map,Int.natCast_nonneg,List.length_append,List.map_append,hjl'] | (refine condK_split ?_ ?_ <;> intro hwq) | (refine two_split ?_ ?_) | (refine guardK_split ?_ ?_ <;> intro hwq) | (refine guardE_split ?_ ?_ <;> intro hwq) | (refine awp_drawI 3 [] (List.range 22) [0, 1, 3, 7, 15, 0, 32, 96, 224, 511, 0, 1024, 3072, 7168, 15360, 0, 32768, 98304, 229376, 523264, 1023, 2097151] (by decide +kernel) ?_; have hwq := trivial) | (refine awp_drawW [] (by decide +kernel) ?_; have hwq := trivial) | fail))
      refine awp_drawT [] [0, 1, 2, 3] 4 5 [6, 7] [6, 7] [0, 0, 0, 4, 14, 1, 63, 127] [0, 0, 0, 4, 14, 1, 63, 127] (by decide +kernel) ?_
      (have hwq := trivial; repeat' (first | simp (maxSteps:=9999999)-implicitDefEqProofs only [go_sem,simprocAttr,hwq,FT3,FT4,FT5,FT23,FT82,FT84,FT91,FT126,List.length_map,List.getElem?_map,Int.natCast_nonneg,List.length_append,List.map_append,w4,w5,w6,w7,w8,w9,rb,List.length_map] | (refine condK_split ?_ ?_ <;> intro hwq) | (refine two_split ?_ ?_) | (refine guardK_split ?_ ?_ <;> intro hwq) | (refine guardE_split ?_ ?_ <;> intro hwq) | (refine awp_drawI 3 [] (List.range 22) [0, 1, 3, 7, 15, 0, 32, 96, 224, 511, 0, 1024, 3072, 7168, 15360, 0, 32768, 98304, 229376, 523264, 1023, 2097151] (by decide +kernel) ?_; have hwq := trivial) | (refine awp_drawW [] (by decide +kernel) ?_; have hwq := trivial) | fail))
      refine two_mk ⟨tms [(2, .ptr 0 0 0), (3, bysV (r.drop j)), (4, vB true)], [.box [vB al, vI f, .own 2 0 M.length] false, .box [vB al, vI f, .own 2 0 M.length] false, .rows 1 (M.map inT) false], mv ++ List.range' 3 0⟩ ?_ ?_ ?_
      · (have hwq := trivial; repeat' (first | simp (maxSteps:=9999999)-implicitDefEqProofs only [go_sem,simprocAttr,hwq,FT3,FT4,FT5,FT23,FT82,FT84,FT91,FT126,List.length_map,List.getElem?_map,Int.natCast_nonneg,List.length_append,List.map_append,w4,w5,w6,w7,w8,w9,rb,List.length_map] | (refine condK_split ?_ ?_ <;> intro hwq) | (refine two_split ?_ ?_) | (refine guardK_split ?_ ?_ <;> intro hwq) | (refine guardE_split ?_ ?_ <;> intro hwq) | (refine awp_drawI 3 [] (List.range 22) [0, 1, 3, 7, 15, 0, 32, 96, 224, 511, 0, 1024, 3072, 7168, 15360, 0, 32768, 98304, 229376, 523264, 1023, 2097151] (by decide +kernel) ?_; have hwq := trivial) | (refine awp_drawW [] (by decide +kernel) ?_; have hwq := trivial) | fail))
        refine weak_mk (Weak.cutI 3 [2, 3, 4] ?_ ?_)
        · simp (maxSteps:=9999999)-implicitDefEqProofs only [simprocAttr,QH,Option.isSome,cond_true,cond_false,Option.bind,selB,V.rn,V.rns,Go.Ai.known,V.pz,V.pzs,T.toV,frz1,List.range,List.range.loop,ite_true,ite_false,if_true,if_false,ne_eq,implies_true,forall_const,eq_self,IntKind.bits,upd_tmsS,selT_cons,selT_nil,List.length_map,List.getElem?_map,Int.natCast_nonneg,List.length_append,List.map_append,w4,w5,w6,w7,w8,w9,rb,List.length_map]
        · simp (maxSteps:=9999999)-implicitDefEqProofs only [simprocAttr,QH,Option.isSome,cond_true,cond_false,Option.bind,selB,V.rn,V.rns,Go.Ai.known,V.pz,V.pzs,T.toV,frz1,List.range,List.range.loop,ite_true,ite_false,if_true,if_false,ne_eq,implies_true,forall_const,eq_self,IntKind.bits,upd_tmsS,selT_cons,selT_nil,List.length_map,List.getElem?_map,Int.natCast_nonneg,List.length_append,List.map_append,w4,w5,w6,w7,w8,w9,rb,List.length_map]
      · (have hwq := trivial; repeat' (first | simp (maxSteps:=9999999)-implicitDefEqProofs only [go_sem,simprocAttr,hwq,FT3,FT4,FT5,FT23,FT82,FT84,FT91,FT126,List.length_map,List.getElem?_map,Int.natCast_nonneg,List.length_append,List.map_append,w4,w5,w6,w7,w8,w9,rb,List.length_map] | (refine condK_split ?_ ?_ <;> intro hwq) | (refine two_split ?_ ?_) | (refine guardK_split ?_ ?_ <;> intro hwq) | (refine guardE_split ?_ ?_ <;> intro hwq) | (refine awp_drawI 3 [] (List.range 22) [0, 1, 3, 7, 15, 0, 32, 96, 224, 511, 0, 1024, 3072, 7168, 15360, 0, 32768, 98304, 229376, 523264, 1023, 2097151] (by decide +kernel) ?_; have hwq := trivial) | (refine awp_drawW [] (by decide +kernel) ?_; have hwq := trivial) | fail))
        refine weak_mk (Weak.cutI 3 [2, 3, 4] ?_ ?_)
        · simp (maxSteps:=9999999)-implicitDefEqProofs only [simprocAttr,QH,Option.isSome,cond_true,cond_false,Option.bind,selB,V.rn,V.rns,Go.Ai.known,V.pz,V.pzs,T.toV,frz1,List.range,List.range.loop,ite_true,ite_false,if_true,if_false,ne_eq,implies_true,forall_const,eq_self,IntKind.bits,upd_tmsS,selT_cons,selT_nil,List.length_map,List.getElem?_map,Int.natCast_nonneg,List.length_append,List.map_append,w4,w5,w6,w7,w8,w9,rb,List.length_map]
        · simp (maxSteps:=9999999)-implicitDefEqProofs only [simprocAttr,QH,Option.isSome,cond_true,cond_false,Option.bind,selB,V.rn,V.rns,Go.Ai.known,V.pz,V.pzs,T.toV,frz1,List.range,List.range.loop,ite_true,ite_false,if_true,if_false,ne_eq,implies_true,forall_const,eq_self,IntKind.bits,upd_tmsS,selT_cons,selT_nil,List.length_map,List.getElem?_map,Int.natCast_nonneg,List.length_append,List.map_append,w4,w5,w6,w7,w8,w9,rb,List.length_map]
      (have hwq := trivial; repeat' (first | simp (maxSteps:=9999999)-implicitDefEqProofs only [go_sem,simprocAttr,hwq,FT3,FT4,FT5,FT23,FT82,FT84,FT91,FT126,List.length_map,List.getElem?_map,Int.natCast_nonneg,List.length_append,List.map_append,w4,w5,w6,w7,w8,w9,rb,List.length_map] | (refine condK_split ?_ ?_ <;> intro hwq) | (refine two_split ?_ ?_) | (refine guardK_split ?_ ?_ <;> intro hwq) | (refine guardE_split ?_ ?_ <;> intro hwq) | (refine awp_drawI 3 [] (List.range 22) [0, 1, 3, 7, 15, 0, 32, 96, 224, 511, 0, 1024, 3072, 7168, 15360, 0, 32768, 98304, 229376, 523264, 1023, 2097151] (by decide +kernel) ?_; have hwq := trivial) | (refine awp_drawW [] (by decide +kernel) ?_; have hwq := trivial) | fail))
      rw [List.take_of_length_le (by simp)]
      exact ⟨_, rfl, by simp [V.leT, V.le, V.les]⟩
theorem mvec (b : List Int) (hr : b.length ≤ 100000) (hb : ∀ x ∈ b, 0 ≤ x ∧ x ≤ 255) : AC Try.prog 47 [bysV b] [] (eqR (vecA b)) := by
  match b, hr, hb with
  | [], _, _ => exact mv47s _ (by simp)
  | [_], _, _ => exact mv47s _ (by simp)
  | [_, _], _, _ => exact mv47s _ (by simp)
  | [_, _, _], _, _ => exact mv47s _ (by simp)
  | y0 :: y1 :: y2 :: y3 :: r, hr, hb => exact mv47 y0 y1 y2 y3 r (by simp only [List.length_cons] at hr; omega) hb
end Go.Ai

set_option linter.unusedVariables false
set_option linter.unusedSimpArgs false
set_option maxHeartbeats 4000000
set_option maxRecDepth 100000
namespace Go.Ai
open Go.Proofs
attribute [local go_sem] QH QR V.noimm V.noimms frzZs frzZ frzA frzV frzVs frzBox boxLen Option.isSome cond_true cond_false aopD calW flatV stepX amap stepY alookup afind aupdate adelete amlen arange ameq mapOf akeq pl V.mapT V.mapTs Option.bind stepK runK guardD stepE runD callD compact selB callK evS ofVal ofVals scalar aop ares mkRes V.rn V.rns V.cells? cellsAt Go.Ai.part aload astore setL V.atom abin aun intBin shiftBin aconv fieldOf aindexAddr aindex bound? aslice aarr abuild afill alen nilP nilS nilF aeq eqCells eqCell Go.Ai.known strBin abuiltin aappend abuildSlice arowsFill amakeSlice acopy aclear minmax rowsOf numsT notStr isIntD isByte V.pz V.pzs T.toV frz1 frz scalT scalTs chunkT List.range List.range.loop ite_true ite_false if_true if_false ne_eq implies_true forall_const eq_self IntKind.bits kPostKF_ret kPostKF_normal kPostX_ret kPostX_normal bsl nil2K nil2 kPostFW_ret kPostFW_normal kPostKM_ret kPostKM_normal kPostXK_ret kPostXK_normal
def Eq48 (A B : List Int) (n : Nat) (S : St) : Prop :=
  ∃ (j : Nat) (mv : List Nat), S = ⟨tms [(0, bysV A), (1, bysV B), (12, vI A.length), (13, vI j)], [], mv⟩ ∧ j ≤ A.length ∧ n = A.length - j ∧ A.take j = B.take j
theorem mr48 (A B : List Int) (hA : A.length ≤ 1000000) : AC Try.prog 48 [bysV A, bysV B] [] (eqR (vB (decide (A = B)))) := by
  refine AC_plain orders Try.func48 rfl (by kernel_rfl) (by kernel_rfl) Try.ntmps48 (by simp) ?_
  unfold Try.f48
  cases hl : ((A.length : Int) != (B.length : Int)) with
  | true =>
    have hne : decide (A = B) = false := by
      simp only [bne_iff_ne, ne_eq] at hl
      simp only [decide_eq_false_iff_not]
      rintro rfl
      exact hl rfl
    (have hwq := trivial; repeat' (first | simp (maxSteps:=9999999)-implicitDefEqProofs only [go_sem,simprocAttr,hwq,u3,a3,c3,b3,z3,k3,u4,a4,c4,b4,z4,k4,u5,a5,c5,b5,z5,k5,u23,a23,c23,b23,z23,k23,List.length_map,List.getElem?_map,Int.natCast_nonneg,List.length_append,List.map_append,hl,hne] | (refine condK_split ?_ ?_ <;> intro hwq) | (refine two_split ?_ ?_) | (refine guardK_split ?_ ?_ <;> intro hwq) | (refine guardE_split ?_ ?_ <;> intro hwq) | (refine awp_drawW [] (by decide +kernel) ?_; have hwq := trivial) | fail))
  | false =>
    have hle : A.length = B.length := by
      have : (A.length : Int) = (B.length : Int) := by simpa using hl
      omega
    (have hwq := trivial; repeat' (first | simp (maxSteps:=9999999)-implicitDefEqProofs only [go_sem,simprocAttr,hwq,u3,a3,c3,b3,z3,k3,u4,a4,c4,b4,z4,k4,u5,a5,c5,b5,z5,k5,u23,a23,c23,b23,z23,k23,List.length_map,List.getElem?_map,Int.natCast_nonneg,List.length_append,List.map_append,hl] | (refine condK_split ?_ ?_ <;> intro hwq) | (refine two_split ?_ ?_) | (refine guardK_split ?_ ?_ <;> intro hwq) | (refine guardE_split ?_ ?_ <;> intro hwq) | (refine awp_drawW [] (by decide +kernel) ?_; have hwq := trivial) | fail))
    refine awp_loopK (Eq48 A B) A.length _ (Weak.cutI 0 [0, 1, 12, 13] ?_ ?_) ⟨0, _, rfl, by omega, rfl, rfl⟩ ?_
    · simp (maxSteps:=9999999)-implicitDefEqProofs only [simprocAttr,QH,Option.isSome,cond_true,cond_false,Option.bind,selB,V.rn,V.rns,Go.Ai.known,V.pz,V.pzs,T.toV,frz1,List.range,List.range.loop,ite_true,ite_false,if_true,if_false,ne_eq,implies_true,forall_const,eq_self,IntKind.bits,upd_tmsS,selT_cons,selT_nil,List.length_map,List.getElem?_map,Int.natCast_nonneg,List.length_append,List.map_append]
    · simp (maxSteps:=9999999)-implicitDefEqProofs only [simprocAttr,QH,Option.isSome,cond_true,cond_false,Option.bind,selB,V.rn,V.rns,Go.Ai.known,V.pz,V.pzs,T.toV,frz1,List.range,List.range.loop,ite_true,ite_false,if_true,if_false,ne_eq,implies_true,forall_const,eq_self,IntKind.bits,upd_tmsS,selT_cons,selT_nil]
    rintro kk S ⟨j, mv, rfl, hj, rfl, hno⟩
    have wj : IntKind.i64.wrap ((j : Int) + 1) = (j : Int) + 1 := wI64 _ (by omega) (by omega)
    by_cases hjl : j < A.length
    · have hjl' : (j : Int) < (A.length : Int) := by omega
      have hjb' : (j : Int) < (B.length : Int) := by omega
      have hga : A[j]? = some A[j] := List.getElem?_eq_getElem hjl
      have hgb : B[j]? = some (B[j]'(by omega)) := List.getElem?_eq_getElem (by omega)
      obtain ⟨x, hx⟩ : ∃ x, A[j] = x := ⟨_, rfl⟩
      obtain ⟨y, hy⟩ : ∃ y, B[j]'(by omega) = y := ⟨_, rfl⟩
      rw [hx] at hga
      rw [hy] at hgb
      cases hxy : (x != y) with
      | true =>
        have hne : decide (A = B) = false := by
          simp only [decide_eq_false_iff_not]
          rintro rfl
          rw [hga] at hgb
          simp at hgb
          simp [hgb] at hxy
        (have hwq := trivial; repeat' (first | simp (maxSteps:=9999999)-implicitDefEqProofs only [go_sem,simprocAttr,hwq,u3,a3,c3,b3,z3,k3,u4,a4,c4,b4,z4,k4,u5,a5,c5,b5,z5,k5,u23,a23,c23,b23,z23,k23,List.length_map,List.getElem?_map,Int.natCast_nonneg,List.length_append,List.map_append,hjl',hjb',hga,hgb,wj,hxy,hne] | (refine condK_split ?_ ?_ <;> intro hwq) | (refine two_split ?_ ?_) | (refine guardK_split ?_ ?_ <;> intro hwq) | (refine guardE_split ?_ ?_ <;> intro hwq) | (refine awp_drawW [] (by decide +kernel) ?_; have hwq := trivial) | fail))
      | false =>
        (have hwq := trivial; repeat' (first | simp (maxSteps:=9999999)-implicitDefEqProofs only [go_sem,simprocAttr,hwq,u3,a3,c3,b3,z3,k3,u4,a4,c4,b4,z4,k4,u5,a5,c5,b5,z5,k5,u23,a23,c23,b23,z23,k23,List.length_map,List.getElem?_map,Int.natCast_nonneg,List.length_append,List.map_append,hjl',hjb',hga,hgb,wj,hxy] | (refine condK_split ?_ ?_ <;> intro hwq) | (refine two_split ?_ ?_) | (refine guardK_split ?_ ?_ <;> intro hwq) | (refine guardE_split ?_ ?_ <;> intro hwq) | (refine awp_drawW [] (by decide +kernel) ?_; have hwq := trivial) | fail))
        have e : x = y := by simpa using hxy
        refine ⟨A.length - (j + 1), _, by omega, Weak.cutI 0 [0, 1, 12, 13] ?_ ?_, j + 1, _, rfl, by omega, rfl, by rw [take_in hga, take_in hgb, hno, e]⟩
        · simp (maxSteps:=9999999)-implicitDefEqProofs only [simprocAttr,QH,Option.isSome,cond_true,cond_false,Option.bind,selB,V.rn,V.rns,Go.Ai.known,V.pz,V.pzs,T.toV,frz1,List.range,List.range.loop,ite_true,ite_false,if_true,if_false,ne_eq,implies_true,forall_const,eq_self,IntKind.bits,upd_tmsS,selT_cons,selT_nil,List.length_map,List.getElem?_map,Int.natCast_nonneg,List.length_append,List.map_append]
        · simp (maxSteps:=9999999)-implicitDefEqProofs only [simprocAttr,QH,Option.isSome,cond_true,cond_false,Option.bind,selB,V.rn,V.rns,Go.Ai.known,V.pz,V.pzs,T.toV,frz1,List.range,List.range.loop,ite_true,ite_false,if_true,if_false,ne_eq,implies_true,forall_const,eq_self,IntKind.bits,upd_tmsS,selT_cons,selT_nil,List.length_map,List.getElem?_map,Int.natCast_nonneg,List.length_append,List.map_append]
    · have hjl' : ¬ (j : Int) < (A.length : Int) := by omega
      have hE : decide (A = B) = true := by
        rw [List.take_of_length_le (by omega), List.take_of_length_le (by omega)] at hno
        simp [hno]
      (have hwq := trivial; repeat' (first | simp (maxSteps:=9999999)-implicitDefEqProofs only [go_sem,simprocAttr,hwq,u3,a3,c3,b3,z3,k3,u4,a4,c4,b4,z4,k4,u5,a5,c5,b5,z5,k5,u23,a23,c23,b23,z23,k23,List.length_map,List.getElem?_map,Int.natCast_nonneg,List.length_append,List.map_append,hjl',hE] | (refine condK_split ?_ ?_ <;> intro hwq) | (refine two_split ?_ ?_) | (refine guardK_split ?_ ?_ <;> intro hwq) | (refine guardE_split ?_ ?_ <;> intro hwq) | (refine awp_drawW [] (by decide +kernel) ?_; have hwq := trivial) | fail))
end Go.Ai

set_option linter.unusedVariables false
set_option linter.unusedSimpArgs false
set_option maxHeartbeats 4000000
set_option maxRecDepth 100000
namespace Go.Ai
open Go.Proofs
attribute [local go_sem] QH QR V.noimm V.noimms frzZs frzZ frzA frzV frzVs frzBox boxLen Option.isSome cond_true cond_false aopD calW flatV stepX amap stepY alookup afind aupdate adelete amlen arange ameq mapOf akeq pl V.mapT V.mapTs Option.bind stepK runK guardD stepE runD callD compact selB callK evS ofVal ofVals scalar aop ares mkRes V.rn V.rns V.cells? cellsAt Go.Ai.part aload astore setL V.atom abin aun intBin shiftBin aconv fieldOf aindexAddr aindex bound? aslice aarr abuild afill alen nilP nilS nilF aeq eqCells eqCell Go.Ai.known strBin abuiltin aappend abuildSlice arowsFill amakeSlice acopy aclear minmax rowsOf numsT notStr isIntD isByte V.pz V.pzs T.toV frz1 frz scalT scalTs chunkT List.range List.range.loop ite_true ite_false if_true if_false ne_eq implies_true forall_const eq_self IntKind.bits kPostKF_ret kPostKF_normal kPostX_ret kPostX_normal bsl nil2K nil2 kPostFW_ret kPostFW_normal kPostKM_ret kPostKM_normal kPostXK_ret kPostXK_normal
theorem frz_own {z n : Nat} {xs : List (List T)} (σ : List Blk) (h : xs.length = n) : frzVs false (.rows z xs false :: σ) [.own 0 0 n] = some ([.sl z xs], .rows z xs true :: σ) := by
  subst h
  simp [frzVs, frzV, frz1]
theorem call_dataN {P : Program} {k : FuncId} {args args1 args' : List V} {σ σ1 : List Blk} {v : V} {K : V → List Blk → List Nat → Prop} (h : AC P k args' [] (eqR v)) (hs : frzVs false σ args = some (args1, σ1)) (hle : V.les args1 args') (hv : v.mapT (· + σ.length) = v) (hn : v.noimm = true) (hk : K v σ []) : AC P k args σ K :=
  call_data h hs hle hv (by rw [hn]; exact hk)
theorem encR_ex {L : List Vc} {ex : List Int} {er : Int} (h : encR L = (ex, er)) : (er = 0 ∧ ∃ e0 es, ex = e0 :: es) ∨ (er ≠ 0 ∧ ex = []) := by
  unfold encR at h
  split at h
  · simp only [Prod.mk.injEq] at h; exact .inr ⟨by omega, h.1.symm⟩
  split at h
  · simp only [Prod.mk.injEq] at h; exact .inr ⟨by omega, h.1.symm⟩
  · simp only [Prod.mk.injEq, encB, List.cons_append] at h
    exact .inl ⟨h.2.symm, _, _, h.1.symm⟩
theorem vecK_le {b : List Int} {v : Vc} {m : List Int} (h : vecK b = some (v, m)) : v.l.length ≤ 64 ∧ m.length ≤ b.length ∧ ∀ x ∈ m, x ∈ b := by
  match b, h with
  | y0 :: y1 :: y2 :: y3 :: r, h =>
    unfold vecK at h
    simp only at h
    split at h
    · simp at h
    · rename_i hc
      simp only [Option.some.injEq, Prod.mk.injEq] at h
      obtain ⟨rfl, rfl⟩ := h
      refine ⟨?_, ?_, ?_⟩
      · simp only [List.length_take]; omega
      · simp only [List.length_drop, List.length_cons]; omega
      · intro x hx
        have := List.mem_of_mem_drop hx
        simp [this]
def Dv (b : List Int) (R : List Vc) (k : Nat) (S : St) : Prop :=
  ∃ (L : List Vc) (rest : List Int) (mv : List Nat), S = ⟨tms [(0, bysV b), (4, .own 0 0 L.length), (5, bysV rest)], [.rows 3 (L.map vcT) false], mv⟩ ∧ k + L.length = 64 ∧ decP k rest L = R ∧ rest.length ≤ b.length ∧ (∀ x ∈ rest, x ∈ b) ∧ ∀ x ∈ L, x.l.length ≤ 64
theorem mdec (b : List Int) (hr : b.length ≤ 100000) (hb : ∀ x ∈ b, 0 ≤ x ∧ x ≤ 255) : AC Try.prog 13 [bysV b] [] (eqR (.tuple [vcsV (decodeP b).1, vI (decodeP b).2])) := by
  by_cases h7 : b.length < 7
  · have h7' : (b.length : Int) < 7 := by omega
    have e : decodeP b = ([], 6) := by unfold decodeP; rw [if_pos h7]
    rw [e]
    refine AC_frozenW orders Try.func13 rfl (by kernel_rfl) (by kernel_rfl) Try.ntmps13 (by simp) ?_
    unfold Try.f13
    (have hwq := trivial; repeat' (first | simp (maxSteps:=9999999)-implicitDefEqProofs only [go_sem,simprocAttr,hwq,FT3,FT4,FT5,FT22,FT23,FT26,FT82,FT84,FT91,List.length_map,List.getElem?_map,Int.natCast_nonneg,List.length_append,List.map_append,h7',List.length_map] | (refine awpL_loop 18 ?_; have hwq := trivial) | (refine condK_split ?_ ?_ <;> intro hwq) | (refine two_split ?_ ?_) | (refine guardK_split ?_ ?_ <;> intro hwq) | (refine guardE_split ?_ ?_ <;> intro hwq) | (refine awp_drawW [] (by decide +kernel) ?_; have hwq := trivial) | fail))
    exact ⟨_, rfl, by simp [V.leT, V.le, V.les]⟩
  have h7' : ¬ (b.length : Int) < 7 := by omega
  obtain ⟨R, hR⟩ : ∃ R, decP 64 (b.drop 3) [] = R := ⟨_, rfl⟩
  have e : decodeP b = if encR R = (b, 0) then (R, 0) else ([], 290) := by unfold decodeP; rw [if_neg h7, hR]
  rw [e]
  have w3 : 3 ≤ b.length := by omega
  have ra : ((b.map byT).drop 3).take (b.length - 3) = (b.drop 3).map byT := by
    rw [List.take_of_length_le (by simp), List.map_drop]
  refine AC_frozenW orders Try.func13 rfl (by kernel_rfl) (by kernel_rfl) Try.ntmps13 (by simp) ?_
  unfold Try.f13
  (have hwq := trivial; repeat' (first | simp (maxSteps:=9999999)-implicitDefEqProofs only [go_sem,simprocAttr,hwq,FT3,FT4,FT5,FT22,FT23,FT26,FT82,FT84,FT91,List.length_map,List.getElem?_map,Int.natCast_nonneg,List.length_append,List.map_append,h7',w3,ra] | (refine condK_split ?_ ?_ <;> intro hwq) | (refine two_split ?_ ?_) | (refine guardK_split ?_ ?_ <;> intro hwq) | (refine guardE_split ?_ ?_ <;> intro hwq) | (refine awp_drawW [] (by decide +kernel) ?_; have hwq := trivial) | fail))
  refine awp_loopK (Dv b R) 64 _ (Weak.trans (Weak.virt 4 3 (.inl rfl)) (Weak.cutI 1 [0, 4, 5] ?_ ?_)) ⟨[], b.drop 3, _, rfl, rfl, hR, by simp, fun x hx => List.mem_of_mem_drop hx, by simp⟩ ?_
  · simp (maxSteps:=9999999)-implicitDefEqProofs only [simprocAttr,QH,Option.isSome,cond_true,cond_false,Option.bind,selB,V.rn,V.rns,Go.Ai.known,V.pz,V.pzs,T.toV,frz1,List.range,List.range.loop,ite_true,ite_false,if_true,if_false,ne_eq,implies_true,forall_const,eq_self,IntKind.bits,upd_tmsS,selT_cons,selT_nil,List.length_map,List.getElem?_map,Int.natCast_nonneg,List.length_append,List.map_append]
  · simp (maxSteps:=9999999)-implicitDefEqProofs only [simprocAttr,QH,Option.isSome,cond_true,cond_false,Option.bind,selB,V.rn,V.rns,Go.Ai.known,V.pz,V.pzs,T.toV,frz1,List.range,List.range.loop,ite_true,ite_false,if_true,if_false,ne_eq,implies_true,forall_const,eq_self,IntKind.bits,upd_tmsS,selT_cons,selT_nil,List.length_map,List.getElem?_map,Int.natCast_nonneg,List.length_append,List.map_append,List.map_nil]
  rintro kk S ⟨L, rest, mv, rfl, hk, hd, hrl, hrb, hL6⟩
  have hend : ∀ L : List Vc, (∀ x ∈ L, x.l.length ≤ 64) → L = R → True := fun _ _ _ => trivial
  have hLen : L.length ≤ 64 := by omega
  by_cases hlt6 : L.length < 64
  · have hlt : (L.length : Int) < 64 := by omega
    have hv := mvec rest (by omega) (fun x hx => hb x (hrb x hx))
    obtain ⟨k, rfl⟩ : ∃ k, kk = k + 1 := ⟨kk - 1, by omega⟩
    unfold decP at hd
    unfold vecA at hv
    cases hvk : vecK rest with
    | none =>
      rw [hvk] at hv hd
      simp only at hv hd
      have hdR : R = L := hd.symm
      have h11 := mc11 L (fun x hx => by have := hL6 x hx; omega)
      obtain ⟨X, hX⟩ : ∃ X, encR L = X := ⟨_, rfl⟩
      obtain ⟨ex, er⟩ := X
      rw [hX] at h11
      have hexl : er = 0 → ex.length ≤ 1000000 := by
        intro h0
        subst h0
        obtain ⟨t1, t2, t3, t4⟩ := encR_ok hX
        rw [t4]
        have := encB_len L hL6
        unfold encB at this
        simp only [List.length_append, List.length_cons, List.length_nil] at this ⊢
        omega
      simp only at h11
      rw [hdR, hX]
      rcases encR_ex hX with ⟨rfl, e0, es, rfl⟩ | ⟨he, rfl⟩
      · have h48 := mr48 (e0 :: es) b (hexl rfl)
        by_cases hxb : e0 :: es = b
        · rw [decide_eq_true hxb] at h48
          rw [if_pos (by rw [hxb])]
          (have hwq := trivial; repeat' (first | simp (maxSteps:=9999999)-implicitDefEqProofs only [go_sem,simprocAttr,hwq,FT3,FT4,FT5,FT22,FT23,FT26,FT82,FT84,FT91,List.length_map,List.getElem?_map,Int.natCast_nonneg,List.length_append,List.map_append,hlt] | (refine condK_split ?_ ?_ <;> intro hwq) | (refine two_split ?_ ?_) | (refine guardK_split ?_ ?_ <;> intro hwq) | (refine guardE_split ?_ ?_ <;> intro hwq) | (refine awp_drawW [] (by decide +kernel) ?_; have hwq := trivial) | (refine call_plain hv rfl rfl ?_; have hwq := trivial) | (refine call_dataF h11 (frz_own _ (by simp)) (V.les_refl _) rfl rfl ?_; have hwq := trivial) | (refine call_plain h48 rfl rfl ?_; have hwq := trivial) | fail))
          exact ⟨_, rfl, by simp [V.leT, V.le, V.les]; exact .inl (List.take_of_length_le (by simp))⟩
        · rw [decide_eq_false hxb] at h48
          rw [if_neg (by simp [hxb])]
          (have hwq := trivial; repeat' (first | simp (maxSteps:=9999999)-implicitDefEqProofs only [go_sem,simprocAttr,hwq,FT3,FT4,FT5,FT22,FT23,FT26,FT82,FT84,FT91,List.length_map,List.getElem?_map,Int.natCast_nonneg,List.length_append,List.map_append,hlt] | (refine condK_split ?_ ?_ <;> intro hwq) | (refine two_split ?_ ?_) | (refine guardK_split ?_ ?_ <;> intro hwq) | (refine guardE_split ?_ ?_ <;> intro hwq) | (refine awp_drawW [] (by decide +kernel) ?_; have hwq := trivial) | (refine call_plain hv rfl rfl ?_; have hwq := trivial) | (refine call_dataF h11 (frz_own _ (by simp)) (V.les_refl _) rfl rfl ?_; have hwq := trivial) | (refine call_plain h48 rfl rfl ?_; have hwq := trivial) | fail))
          exact ⟨_, rfl, by simp [V.leT, V.le, V.les]⟩
      · have hn0 : (er != 0) = true := by simpa using he
        rw [if_neg (by simp [he])]
        (have hwq := trivial; repeat' (first | simp (maxSteps:=9999999)-implicitDefEqProofs only [go_sem,simprocAttr,hwq,FT3,FT4,FT5,FT22,FT23,FT26,FT82,FT84,FT91,List.length_map,List.getElem?_map,Int.natCast_nonneg,List.length_append,List.map_append,hn0,hlt] | (refine condK_split ?_ ?_ <;> intro hwq) | (refine two_split ?_ ?_) | (refine guardK_split ?_ ?_ <;> intro hwq) | (refine guardE_split ?_ ?_ <;> intro hwq) | (refine awp_drawW [] (by decide +kernel) ?_; have hwq := trivial) | (refine call_plain hv rfl rfl ?_; have hwq := trivial) | (refine call_dataN h11 (frz_own _ (by simp)) (V.les_refl _) rfl rfl ?_; have hwq := trivial) | fail))
        exact ⟨_, rfl, by simp [V.leT, V.le, V.les]⟩
    | some p =>
      obtain ⟨v, more⟩ := p
      rw [hvk] at hv hd
      simp only at hv hd
      obtain ⟨p1, p2, p3⟩ := vecK_le hvk
      have h42 := mc42 v (by omega)
      cases hm : mayB v with
      | false =>
        rw [hm] at h42 hd
        have hdR : R = L := by simpa using hd.symm
        have h11 := mc11 L (fun x hx => by have := hL6 x hx; omega)
        obtain ⟨X, hX⟩ : ∃ X, encR L = X := ⟨_, rfl⟩
        obtain ⟨ex, er⟩ := X
        rw [hX] at h11
        have hexl : er = 0 → ex.length ≤ 1000000 := by
          intro h0
          subst h0
          obtain ⟨t1, t2, t3, t4⟩ := encR_ok hX
          rw [t4]
          have := encB_len L hL6
          unfold encB at this
          simp only [List.length_append, List.length_cons, List.length_nil] at this ⊢
          omega
        simp only at h11
        rw [hdR, hX]
        rcases encR_ex hX with ⟨rfl, e0, es, rfl⟩ | ⟨he, rfl⟩
        · have h48 := mr48 (e0 :: es) b (hexl rfl)
          by_cases hxb : e0 :: es = b
          · rw [decide_eq_true hxb] at h48
            rw [if_pos (by rw [hxb])]
            (have hwq := trivial; repeat' (first | simp (maxSteps:=9999999)-implicitDefEqProofs only [go_sem,simprocAttr,hwq,FT3,FT4,FT5,FT22,FT23,FT26,FT82,FT84,FT91,List.length_map,List.getElem?_map,Int.natCast_nonneg,List.length_append,List.map_append,hlt] | (refine condK_split ?_ ?_ <;> intro hwq) | (refine two_split ?_ ?_) | (refine guardK_split ?_ ?_ <;> intro hwq) | (refine guardE_split ?_ ?_ <;> intro hwq) | (refine awp_drawW [] (by decide +kernel) ?_; have hwq := trivial) | (refine call_plain hv rfl rfl ?_; have hwq := trivial) | (refine call_data h42 rfl (V.les_refl _) rfl ?_; have hwq := trivial) | (refine call_dataF h11 (frz_own _ (by simp)) (V.les_refl _) rfl rfl ?_; have hwq := trivial) | (refine call_plain h48 rfl rfl ?_; have hwq := trivial) | fail))
            exact ⟨_, rfl, by simp [V.leT, V.le, V.les]; exact .inl (List.take_of_length_le (by simp))⟩
          · rw [decide_eq_false hxb] at h48
            rw [if_neg (by simp [hxb])]
            (have hwq := trivial; repeat' (first | simp (maxSteps:=9999999)-implicitDefEqProofs only [go_sem,simprocAttr,hwq,FT3,FT4,FT5,FT22,FT23,FT26,FT82,FT84,FT91,List.length_map,List.getElem?_map,Int.natCast_nonneg,List.length_append,List.map_append,hlt] | (refine condK_split ?_ ?_ <;> intro hwq) | (refine two_split ?_ ?_) | (refine guardK_split ?_ ?_ <;> intro hwq) | (refine guardE_split ?_ ?_ <;> intro hwq) | (refine awp_drawW [] (by decide +kernel) ?_; have hwq := trivial) | (refine call_plain hv rfl rfl ?_; have hwq := trivial) | (refine call_data h42 rfl (V.les_refl _) rfl ?_; have hwq := trivial) | (refine call_dataF h11 (frz_own _ (by simp)) (V.les_refl _) rfl rfl ?_; have hwq := trivial) | (refine call_plain h48 rfl rfl ?_; have hwq := trivial) | fail))
            exact ⟨_, rfl, by simp [V.leT, V.le, V.les]⟩
        · have hn0 : (er != 0) = true := by simpa using he
          rw [if_neg (by simp [he])]
          (have hwq := trivial; repeat' (first | simp (maxSteps:=9999999)-implicitDefEqProofs only [go_sem,simprocAttr,hwq,FT3,FT4,FT5,FT22,FT23,FT26,FT82,FT84,FT91,List.length_map,List.getElem?_map,Int.natCast_nonneg,List.length_append,List.map_append,hn0,hlt] | (refine condK_split ?_ ?_ <;> intro hwq) | (refine two_split ?_ ?_) | (refine guardK_split ?_ ?_ <;> intro hwq) | (refine guardE_split ?_ ?_ <;> intro hwq) | (refine awp_drawW [] (by decide +kernel) ?_; have hwq := trivial) | (refine call_plain hv rfl rfl ?_; have hwq := trivial) | (refine call_data h42 rfl (V.les_refl _) rfl ?_; have hwq := trivial) | (refine call_dataN h11 (frz_own _ (by simp)) (V.les_refl _) rfl rfl ?_; have hwq := trivial) | fail))
          exact ⟨_, rfl, by simp [V.leT, V.le, V.les]⟩
      | true =>
        rw [hm] at h42 hd
        rw [if_pos rfl] at hd
        have gm : (L.length + 1) * 40 ≤ 140737488355328 := by omega
        (have hwq := trivial; repeat' (first | simp (maxSteps:=9999999)-implicitDefEqProofs only [go_sem,simprocAttr,hwq,FT3,FT4,FT5,FT22,FT23,FT26,FT82,FT84,FT91,List.length_map,List.getElem?_map,Int.natCast_nonneg,List.length_append,List.map_append,hlt,gm] | (refine condK_split ?_ ?_ <;> intro hwq) | (refine two_split ?_ ?_) | (refine guardK_split ?_ ?_ <;> intro hwq) | (refine guardE_split ?_ ?_ <;> intro hwq) | (refine awp_drawW [] (by decide +kernel) ?_; have hwq := trivial) | (refine call_plain hv rfl rfl ?_; have hwq := trivial) | (refine call_data h42 rfl (V.les_refl _) rfl ?_; have hwq := trivial) | fail))
        refine ⟨k, _, by omega, Weak.cutI 1 [0, 4, 5] ?_ ?_, L ++ [v], more, _, rfl, by simp; omega, hd, by omega, fun x hx => hrb x (p3 x hx), ?_⟩
        · simp (maxSteps:=9999999)-implicitDefEqProofs only [simprocAttr,QH,Option.isSome,cond_true,cond_false,Option.bind,selB,V.rn,V.rns,Go.Ai.known,V.pz,V.pzs,T.toV,frz1,List.range,List.range.loop,ite_true,ite_false,if_true,if_false,ne_eq,implies_true,forall_const,eq_self,IntKind.bits,upd_tmsS,selT_cons,selT_nil,List.length_map,List.getElem?_map,Int.natCast_nonneg,List.length_append,List.map_append,List.length_cons,List.length_nil]
        · simp (maxSteps:=9999999)-implicitDefEqProofs only [simprocAttr,QH,Option.isSome,cond_true,cond_false,Option.bind,selB,V.rn,V.rns,Go.Ai.known,V.pz,V.pzs,T.toV,frz1,List.range,List.range.loop,ite_true,ite_false,if_true,if_false,ne_eq,implies_true,forall_const,eq_self,IntKind.bits,upd_tmsS,selT_cons,selT_nil,List.length_map,List.getElem?_map,Int.natCast_nonneg,List.length_append,List.map_append,List.map_cons,List.map_nil]
        · intro x hx
          rcases List.mem_append.1 hx with h1 | h1
          · exact hL6 x h1
          · simp at h1; subst h1; exact p1
  · have hlt : ¬ (L.length : Int) < 64 := by omega
    obtain rfl : kk = 0 := by omega
    have hdR : R = L := hd.symm
    have h11 := mc11 L (fun x hx => by have := hL6 x hx; omega)
    obtain ⟨X, hX⟩ : ∃ X, encR L = X := ⟨_, rfl⟩
    obtain ⟨ex, er⟩ := X
    rw [hX] at h11
    have hexl : er = 0 → ex.length ≤ 1000000 := by
      intro h0
      subst h0
      obtain ⟨t1, t2, t3, t4⟩ := encR_ok hX
      rw [t4]
      have := encB_len L hL6
      unfold encB at this
      simp only [List.length_append, List.length_cons, List.length_nil] at this ⊢
      omega
    simp only at h11
    rw [hdR, hX]
    rcases encR_ex hX with ⟨rfl, e0, es, rfl⟩ | ⟨he, rfl⟩
    · have h48 := mr48 (e0 :: es) b (hexl rfl)
      by_cases hxb : e0 :: es = b
      · rw [decide_eq_true hxb] at h48
        rw [if_pos (by rw [hxb])]
        (have hwq := trivial; repeat' (first | simp (maxSteps:=9999999)-implicitDefEqProofs only [go_sem,simprocAttr,hwq,FT3,FT4,FT5,FT22,FT23,FT26,FT82,FT84,FT91,List.length_map,List.getElem?_map,Int.natCast_nonneg,List.length_append,List.map_append,hlt] | (refine condK_split ?_ ?_ <;> intro hwq) | (refine two_split ?_ ?_) | (refine guardK_split ?_ ?_ <;> intro hwq) | (refine guardE_split ?_ ?_ <;> intro hwq) | (refine awp_drawW [] (by decide +kernel) ?_; have hwq := trivial) | (refine call_dataF h11 (frz_own _ (by simp)) (V.les_refl _) rfl rfl ?_; have hwq := trivial) | (refine call_plain h48 rfl rfl ?_; have hwq := trivial) | fail))
        exact ⟨_, rfl, by simp [V.leT, V.le, V.les]; exact .inl (List.take_of_length_le (by simp))⟩
      · rw [decide_eq_false hxb] at h48
        rw [if_neg (by simp [hxb])]
        (have hwq := trivial; repeat' (first | simp (maxSteps:=9999999)-implicitDefEqProofs only [go_sem,simprocAttr,hwq,FT3,FT4,FT5,FT22,FT23,FT26,FT82,FT84,FT91,List.length_map,List.getElem?_map,Int.natCast_nonneg,List.length_append,List.map_append,hlt] | (refine condK_split ?_ ?_ <;> intro hwq) | (refine two_split ?_ ?_) | (refine guardK_split ?_ ?_ <;> intro hwq) | (refine guardE_split ?_ ?_ <;> intro hwq) | (refine awp_drawW [] (by decide +kernel) ?_; have hwq := trivial) | (refine call_dataF h11 (frz_own _ (by simp)) (V.les_refl _) rfl rfl ?_; have hwq := trivial) | (refine call_plain h48 rfl rfl ?_; have hwq := trivial) | fail))
        exact ⟨_, rfl, by simp [V.leT, V.le, V.les]⟩
    · have hn0 : (er != 0) = true := by simpa using he
      rw [if_neg (by simp [he])]
      (have hwq := trivial; repeat' (first | simp (maxSteps:=9999999)-implicitDefEqProofs only [go_sem,simprocAttr,hwq,FT3,FT4,FT5,FT22,FT23,FT26,FT82,FT84,FT91,List.length_map,List.getElem?_map,Int.natCast_nonneg,List.length_append,List.map_append,hn0,hlt] | (refine condK_split ?_ ?_ <;> intro hwq) | (refine two_split ?_ ?_) | (refine guardK_split ?_ ?_ <;> intro hwq) | (refine guardE_split ?_ ?_ <;> intro hwq) | (refine awp_drawW [] (by decide +kernel) ?_; have hwq := trivial) | (refine call_dataN h11 (frz_own _ (by simp)) (V.les_refl _) rfl rfl ?_; have hwq := trivial) | fail))
      exact ⟨_, rfl, by simp [V.leT, V.le, V.les]⟩
end Go.Ai
