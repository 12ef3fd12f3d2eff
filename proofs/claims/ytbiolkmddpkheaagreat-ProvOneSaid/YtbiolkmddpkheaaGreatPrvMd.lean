/- Contracts of functions of the loaded program: called with data in the ranges that each names, it returns this value and writes to no old memory. -/
import Derived.Test.YtbiolkmddpkheaaGreatPrvMb
set_option linter.unusedVariables false
set_option linter.unusedSimpArgs false
set_option maxHeartbeats 8000000
set_option maxRecDepth 100000
namespace Go.Ai
open Go.Proofs
attribute [local go_sem] QH QR V.noimm V.noimms frzZs frzZ frzA frzV frzVs frzBox boxLen Option.isSome cond_true cond_false aopD calW flatV stepX amap stepY alookup afind aupdate adelete amlen arange ameq mapOf akeq pl V.mapT V.mapTs Option.bind stepK runK guardD stepE runD callD compact selB callK evS ofVal ofVals scalar aop ares mkRes V.rn V.rns V.cells? cellsAt Go.Ai.part aload astore setL V.atom abin aun intBin shiftBin aconv fieldOf aindexAddr aindex bound? aslice aarr abuild afill alen nilP nilS nilF aeq eqCells eqCell Go.Ai.known strBin abuiltin aappend abuildSlice arowsFill amakeSlice acopy aclear minmax rowsOf numsT notStr isIntD isByte V.pz V.pzs T.toV frz1 frz scalT scalTs chunkT List.range List.range.loop ite_true ite_false if_true if_false ne_eq implies_true forall_const eq_self IntKind.bits kPostKF_ret kPostKF_normal kPostX_ret kPostX_normal bsl nil2K nil2 kPostFW_ret kPostFW_normal kPostKM_ret kPostKM_normal kPostXK_ret kPostXK_normal
/-! ## One service, one VLAN -/
structure OneM (p : Pv) (i : Nat) (m : Mp) : Prop where
  sv : ∃ y, p.ms.find? (fun x => x.p == m.p && x.v == m.v) = some y ∧ y.s = m.s
  vi : ∃ y, p.ms.find? (fun x => x.p == m.p && x.s == m.s) = some y ∧ y.v = m.v
  ca : ∃ c, p.cs.find? (fun x => x.s == m.s) = some c ∧ ∃ b, p.bs.find? (fun x => x.v == c.v) = some b
  no : ∀ (k : Nat) (x : Mp), k < i → p.ms[k]? = some x → ¬ (x.p = m.p ∧ (x.v = m.v ∨ x.s = m.s))
theorem find_some {α : Type} {q : α → Bool} {L : List α} (h : ∃ x ∈ L, q x = true) : ∃ y, L.find? q = some y ∧ y ∈ L ∧ q y = true := by
  cases hf : L.find? q with
  | none =>
    obtain ⟨x, hx, hq⟩ := h
    have := List.find?_eq_none.1 hf x hx
    exact absurd hq this
  | some y => exact ⟨y, rfl, List.mem_of_find?_eq_some hf, List.find?_some hf⟩
theorem pw_two {α : Type} {R : α → α → Prop} {L : List α} (h : L.Pairwise R) {x y : α} (hx : x ∈ L) (hy : y ∈ L) : x = y ∨ R x y ∨ R y x := by
  obtain ⟨i, hi, rfl⟩ := List.getElem_of_mem hx
  obtain ⟨j, hj, rfl⟩ := List.getElem_of_mem hy
  rw [List.pairwise_iff_getElem] at h
  rcases Nat.lt_trichotomy i j with hij | hij | hij
  · exact .inr (.inl (h i j hi hj hij))
  · subst hij; exact .inl rfl
  · exact .inr (.inr (h j i hj hi hij))
theorem one_map {p : Pv} (h : Okp p) {i : Nat} {m : Mp} (hm : p.ms[i]? = some m) : OneM p i m := by
  have hin := mem_in hm
  obtain ⟨k1, k2, k3⟩ := h.mm m hin
  refine ⟨?_, ?_, ?_, ?_⟩
  · obtain ⟨y, hf, hy, hq⟩ := find_some (q := fun x : Mp => x.p == m.p && x.v == m.v) ⟨m, hin, by simp⟩
    refine ⟨y, hf, ?_⟩
    simp only [Bool.and_eq_true, beq_iff_eq] at hq
    rcases pw_two h.rm hy hin with rfl | hr | hr
    · rfl
    · rw [before_iff] at hr; omega
    · rw [before_iff] at hr; omega
  · obtain ⟨y, hf, hy, hq⟩ := find_some (q := fun x : Mp => x.p == m.p && x.s == m.s) ⟨m, hin, by simp⟩
    refine ⟨y, hf, ?_⟩
    simp only [Bool.and_eq_true, beq_iff_eq] at hq
    rcases pw_two h.mo hy hin with rfl | hr | hr
    · rfl
    · exact absurd hq hr
    · exact absurd ⟨hq.1.symm, hq.2.symm⟩ hr
  · obtain ⟨y, hy, hv⟩ := hasC_iff.1 k3
    obtain ⟨c, hf, hc, hq⟩ := find_some (q := fun x : Cr => x.s == m.s) ⟨y, hy, by simp [hv]⟩
    obtain ⟨z, hz, hzv⟩ := hasM_iff.1 (h.mc c hc).2
    obtain ⟨b, hfb, _, _⟩ := find_some (q := fun x : Mb => x.v == c.v) ⟨z, hz, by simp [hzv]⟩
    exact ⟨c, hf, b, hfb⟩
  · intro k x hk hx hc
    have h1 := h.rm
    have h2 := h.mo
    rw [List.pairwise_iff_getElem] at h1 h2
    obtain ⟨hkl, hkx⟩ := List.getElem?_eq_some_iff.1 hx
    obtain ⟨hil, hix⟩ := List.getElem?_eq_some_iff.1 hm
    have a1 := h1 k i hkl hil hk
    have a2 := h2 k i hkl hil hk
    rw [hkx, hix] at a1 a2
    rw [before_iff] at a1
    rcases hc with ⟨c1, c2 | c2⟩
    · omega
    · exact a2 ⟨c1, c2⟩
def On8 (L : List Cm) (k : Nat) (S : St) : Prop :=
  ∃ (j : Nat) (p : Pv) (mv : List Nat), S = ⟨tms [(2, .sl 21 (L.map cmT)), (7, .ptr 0 0 0), (8, vI j)], [bxP p], mv⟩ ∧ j ≤ (L.take 90).length ∧ k = (L.take 90).length - j ∧ Gdp p
def Oa8 (p : Pv) (k : Nat) (S : St) : Prop :=
  ∃ (j : Nat) (mv : List Nat), S = ⟨tms [(7, .ptr 0 0 0), (12, vI j)], [bxP p], mv⟩ ∧ j ≤ p.ms.length ∧ k = p.ms.length - j
def Ob8 (p : Pv) (m : Mp) (j : Nat) (k : Nat) (S : St) : Prop :=
  ∃ (i : Nat) (mv : List Nat), S = ⟨tms [(7, .ptr 0 0 0), (12, vI j), (13, .ptr 1 0 0), (22, vI i)], [bxP p, bxMp m], mv⟩ ∧ i ≤ j ∧ k = j - i
theorem pl8 (b n : Int) (hb : isB b) (hn : isB n) (L : List Cm) : AC Tryz.prog 8 [.s (.int .u8 b), .s (.int .u8 n), .sl 21 (L.map cmT)] [] (eqR (vB true)) := by
  have n16 := (pm16 b n hb hn []).lesA (le_nil21 _ _)
  have g0 := gd_made b n []
  generalize madeP (kindsN b n) [] = p0 at n16 g0
  refine AC_plain orders Tryz.func8 rfl (by kernel_rfl) (by kernel_rfl) Tryz.ntmps8 (by simp) ?_
  unfold Tryz.f8
  (have hwq := trivial; repeat' (first | simp (maxSteps:=9999999)-implicitDefEqProofs only [go_sem,simprocAttr,hwq,FT3,FT4,FT5,FT23,FT24,FT25,FT26,FT27,FT29,FT30,FT32,FT34,FT35,FT37,FT39,FT40,FT41,FT43,FT46,FT52,FT59,List.length_map,List.getElem?_map,Int.natCast_nonneg,List.length_append,List.map_append] | (refine condK_split ?_ ?_ <;> intro hwq) | (refine two_split ?_ ?_) | (refine guardK_split ?_ ?_ <;> intro hwq) | (refine guardE_split ?_ ?_ <;> intro hwq) | (refine awp_drawI 23 [] (List.range 31) [0, 1, 0, 7, 15, 31, 0, 64, 255, 511, 1023, 2047, 1023, 8191, 16383, 32767, 1023, 66559, 262143, 524287, 1048575, 2097151, 1048575, 8388607, 16777215, 33554431, 1048575, 68157439, 268435455, 536870911, 1073741823] (by decide +kernel) ?_; have hwq := trivial) | (refine awp_drawW [] (by decide +kernel) ?_; have hwq := trivial) | (refine call_plain n16 rfl rfl ?_; have hwq := trivial) | fail))
  refine awp_loopK (On8 L) (L.take 90).length _ (Weak.cutI 1 [2, 7, 8] ?_ ?_) ⟨0, p0, _, rfl, Nat.zero_le _, rfl, g0⟩ ?_
  · simp (maxSteps:=9999999)-implicitDefEqProofs only [simprocAttr,QH,Option.isSome,cond_true,cond_false,Option.bind,selB,V.rn,V.rns,Go.Ai.known,V.pz,V.pzs,T.toV,frz1,List.range,List.range.loop,ite_true,ite_false,if_true,if_false,ne_eq,implies_true,forall_const,eq_self,IntKind.bits,upd_tmsS,selT_cons,selT_nil,List.length_map,List.getElem?_map,Int.natCast_nonneg,List.length_append,List.map_append]
  · simp (maxSteps:=9999999)-implicitDefEqProofs only [simprocAttr,QH,Option.isSome,cond_true,cond_false,Option.bind,selB,V.rn,V.rns,Go.Ai.known,V.pz,V.pzs,T.toV,frz1,List.range,List.range.loop,ite_true,ite_false,if_true,if_false,ne_eq,implies_true,forall_const,eq_self,IntKind.bits,upd_tmsS,selT_cons,selT_nil,List.length_map,List.getElem?_map,Int.natCast_nonneg,List.length_append,List.map_append]
  rintro kk S ⟨i, p, mv2, rfl, hi, rfl, gp⟩
  have hl100 : (L.take 90).length ≤ 90 := by simp; omega
  have hlL : (L.take 90).length ≤ L.length := by simp; omega
  have wi : IntKind.i64.wrap ((i : Int) + 1) = (i : Int) + 1 := wI64 _ (by omega) (by omega)
  by_cases hil : i < (L.take 90).length
  · have hi1 : (i : Int) < (L.length : Int) := by omega
    have hi2 : (i : Int) < 90 := by omega
    obtain ⟨x, hx⟩ : ∃ x, L[i]? = some x := ⟨_, List.getElem?_eq_getElem (by omega)⟩
    have n11 := pc11 x.w
    obtain ⟨w', hw'⟩ : ∃ w', shortM x.w = w' := ⟨_, rfl⟩
    rw [hw'] at n11
    have hs : shortC x = { x with w := w' } := by rw [← hw']
    have n12 := pc12 p gp.l gp.o (shortC x) (shortC_len x)
    have gq := gd_do gp (shortC x) (shortC_len x)
    obtain ⟨D, hD⟩ : ∃ D, refDo p (shortC x) = D := ⟨_, rfl⟩
    rw [hD] at n12 gq
    rw [hs] at n12
    obtain ⟨q, e⟩ := D
    cases hz : (e == 0) with
    | true =>
      (have hwq := trivial; repeat' (first | simp (maxSteps:=9999999)-implicitDefEqProofs only [go_sem,simprocAttr,hwq,FT3,FT4,FT5,FT23,FT24,FT25,FT26,FT27,FT29,FT30,FT32,FT34,FT35,FT37,FT39,FT40,FT41,FT43,FT46,FT52,FT59,List.length_map,List.getElem?_map,Int.natCast_nonneg,List.length_append,List.map_append,hi1,hi2,hx,wi,hz] | (refine condK_split ?_ ?_ <;> intro hwq) | (refine two_split ?_ ?_) | (refine guardK_split ?_ ?_ <;> intro hwq) | (refine guardE_split ?_ ?_ <;> intro hwq) | (refine awp_drawI 23 [] (List.range 31) [0, 1, 0, 7, 15, 31, 0, 64, 255, 511, 1023, 2047, 1023, 8191, 16383, 32767, 1023, 66559, 262143, 524287, 1048575, 2097151, 1048575, 8388607, 16777215, 33554431, 1048575, 68157439, 268435455, 536870911, 1073741823] (by decide +kernel) ?_; have hwq := trivial) | (refine awp_drawW [] (by decide +kernel) ?_; have hwq := trivial) | (refine call_plain n11 rfl rfl ?_; have hwq := trivial) | (refine call_plain n12 rfl rfl ?_; have hwq := trivial) | fail))
      refine ⟨(L.take 90).length - (i + 1), _, by omega, Weak.cutI 1 [2, 7, 8] ?_ ?_, i + 1, q, _, rfl, by omega, rfl, gq⟩
      · simp (maxSteps:=9999999)-implicitDefEqProofs only [simprocAttr,QH,Option.isSome,cond_true,cond_false,Option.bind,selB,V.rn,V.rns,Go.Ai.known,V.pz,V.pzs,T.toV,frz1,List.range,List.range.loop,ite_true,ite_false,if_true,if_false,ne_eq,implies_true,forall_const,eq_self,IntKind.bits,upd_tmsS,selT_cons,selT_nil,List.length_map,List.getElem?_map,Int.natCast_nonneg,List.length_append,List.map_append]
      · simp (maxSteps:=9999999)-implicitDefEqProofs only [simprocAttr,QH,Option.isSome,cond_true,cond_false,Option.bind,selB,V.rn,V.rns,Go.Ai.known,V.pz,V.pzs,T.toV,frz1,List.range,List.range.loop,ite_true,ite_false,if_true,if_false,ne_eq,implies_true,forall_const,eq_self,IntKind.bits,upd_tmsS,selT_cons,selT_nil,List.length_map,List.getElem?_map,Int.natCast_nonneg,List.length_append,List.map_append]
    | false =>
      (have hwq := trivial; repeat' (first | simp (maxSteps:=9999999)-implicitDefEqProofs only [go_sem,simprocAttr,hwq,FT3,FT4,FT5,FT23,FT24,FT25,FT26,FT27,FT29,FT30,FT32,FT34,FT35,FT37,FT39,FT40,FT41,FT43,FT46,FT52,FT59,List.length_map,List.getElem?_map,Int.natCast_nonneg,List.length_append,List.map_append,hi1,hi2,hx,wi,hz] | (refine condK_split ?_ ?_ <;> intro hwq) | (refine two_split ?_ ?_) | (refine guardK_split ?_ ?_ <;> intro hwq) | (refine guardE_split ?_ ?_ <;> intro hwq) | (refine awp_drawI 23 [] (List.range 31) [0, 1, 0, 7, 15, 31, 0, 64, 255, 511, 1023, 2047, 1023, 8191, 16383, 32767, 1023, 66559, 262143, 524287, 1048575, 2097151, 1048575, 8388607, 16777215, 33554431, 1048575, 68157439, 268435455, 536870911, 1073741823] (by decide +kernel) ?_; have hwq := trivial) | (refine awp_drawW [] (by decide +kernel) ?_; have hwq := trivial) | (refine call_plain n11 rfl rfl ?_; have hwq := trivial) | (refine call_plain n12 rfl rfl ?_; have hwq := trivial) | fail))
      refine ⟨(L.take 90).length - (i + 1), _, by omega, Weak.cutI 1 [2, 7, 8] ?_ ?_, i + 1, p, _, rfl, by omega, rfl, gp⟩
      · simp (maxSteps:=9999999)-implicitDefEqProofs only [simprocAttr,QH,Option.isSome,cond_true,cond_false,Option.bind,selB,V.rn,V.rns,Go.Ai.known,V.pz,V.pzs,T.toV,frz1,List.range,List.range.loop,ite_true,ite_false,if_true,if_false,ne_eq,implies_true,forall_const,eq_self,IntKind.bits,upd_tmsS,selT_cons,selT_nil,List.length_map,List.getElem?_map,Int.natCast_nonneg,List.length_append,List.map_append]
      · simp (maxSteps:=9999999)-implicitDefEqProofs only [simprocAttr,QH,Option.isSome,cond_true,cond_false,Option.bind,selB,V.rn,V.rns,Go.Ai.known,V.pz,V.pzs,T.toV,frz1,List.range,List.range.loop,ite_true,ite_false,if_true,if_false,ne_eq,implies_true,forall_const,eq_self,IntKind.bits,upd_tmsS,selT_cons,selT_nil,List.length_map,List.getElem?_map,Int.natCast_nonneg,List.length_append,List.map_append]
  · have hie : i = (L.take 90).length := by omega
    have hor : ¬ (i : Int) < (L.length : Int) ∨ ¬ (i : Int) < 90 := by
      rw [List.length_take] at hie; omega
    have hml := gp.ok.ml
    by_cases hi1 : (i : Int) < (L.length : Int)
    all_goals first
      | (have hi2 : ¬ (i : Int) < 90 := hor.elim (fun h => absurd hi1 h) id
         (have hwq := trivial; repeat' (first | simp (maxSteps:=9999999)-implicitDefEqProofs only [go_sem,simprocAttr,hwq,FT3,FT4,FT5,FT23,FT24,FT25,FT26,FT27,FT29,FT30,FT32,FT34,FT35,FT37,FT39,FT40,FT41,FT43,FT46,FT52,FT59,List.length_map,List.getElem?_map,Int.natCast_nonneg,List.length_append,List.map_append,hi1,hi2] | (refine condK_split ?_ ?_ <;> intro hwq) | (refine two_split ?_ ?_) | (refine guardK_split ?_ ?_ <;> intro hwq) | (refine guardE_split ?_ ?_ <;> intro hwq) | (refine awp_drawI 23 [] (List.range 31) [0, 1, 0, 7, 15, 31, 0, 64, 255, 511, 1023, 2047, 1023, 8191, 16383, 32767, 1023, 66559, 262143, 524287, 1048575, 2097151, 1048575, 8388607, 16777215, 33554431, 1048575, 68157439, 268435455, 536870911, 1073741823] (by decide +kernel) ?_; have hwq := trivial) | (refine awp_drawW [] (by decide +kernel) ?_; have hwq := trivial) | fail)))
      | ((have hwq := trivial; repeat' (first | simp (maxSteps:=9999999)-implicitDefEqProofs only [go_sem,simprocAttr,hwq,FT3,FT4,FT5,FT23,FT24,FT25,FT26,FT27,FT29,FT30,FT32,FT34,FT35,FT37,FT39,FT40,FT41,FT43,FT46,FT52,FT59,List.length_map,List.getElem?_map,Int.natCast_nonneg,List.length_append,List.map_append,hi1] | (refine condK_split ?_ ?_ <;> intro hwq) | (refine two_split ?_ ?_) | (refine guardK_split ?_ ?_ <;> intro hwq) | (refine guardE_split ?_ ?_ <;> intro hwq) | (refine awp_drawI 23 [] (List.range 31) [0, 1, 0, 7, 15, 31, 0, 64, 255, 511, 1023, 2047, 1023, 8191, 16383, 32767, 1023, 66559, 262143, 524287, 1048575, 2097151, 1048575, 8388607, 16777215, 33554431, 1048575, 68157439, 268435455, 536870911, 1073741823] (by decide +kernel) ?_; have hwq := trivial) | (refine awp_drawW [] (by decide +kernel) ?_; have hwq := trivial) | fail)))
    all_goals (
      refine awp_loopK (Oa8 p) p.ms.length _ (Weak.cutI 1 [7, 12] ?_ ?_) ⟨0, _, rfl, Nat.zero_le _, rfl⟩ ?_
      · simp (maxSteps:=9999999)-implicitDefEqProofs only [simprocAttr,QH,Option.isSome,cond_true,cond_false,Option.bind,selB,V.rn,V.rns,Go.Ai.known,V.pz,V.pzs,T.toV,frz1,List.range,List.range.loop,ite_true,ite_false,if_true,if_false,ne_eq,implies_true,forall_const,eq_self,IntKind.bits,upd_tmsS,selT_cons,selT_nil,List.length_map,List.getElem?_map,Int.natCast_nonneg,List.length_append,List.map_append]
      · simp (maxSteps:=9999999)-implicitDefEqProofs only [simprocAttr,QH,Option.isSome,cond_true,cond_false,Option.bind,selB,V.rn,V.rns,Go.Ai.known,V.pz,V.pzs,T.toV,frz1,List.range,List.range.loop,ite_true,ite_false,if_true,if_false,ne_eq,implies_true,forall_const,eq_self,IntKind.bits,upd_tmsS,selT_cons,selT_nil,List.length_map,List.getElem?_map,Int.natCast_nonneg,List.length_append,List.map_append]
      rintro kk S ⟨j, mv, rfl, hj, rfl⟩
      have wj := wj_of hj (by omega)
      by_cases hjl : j < p.ms.length
      · have hjl' : (j : Int) < (p.ms.length : Int) := Int.ofNat_lt.2 hjl
        obtain ⟨m, hgj⟩ : ∃ m, p.ms[j]? = some m := ⟨_, List.getElem?_eq_getElem hjl⟩
        obtain ⟨⟨y1, f1, v1⟩, ⟨y2, f2, v2⟩, ⟨c, f3, b3, f4⟩, hno⟩ := one_map gp.ok hgj
        have n20 := pq20 p gp.l m.p m.v
        have n22 := pq22 p gp.l m.p m.s
        have n24 := pq24 p gp.l m.s
        have n19 := pq19 p gp.l c.v
        rw [f1] at n20
        rw [f2] at n22
        rw [f3] at n24
        rw [f4] at n19
        have e1 : (y1.s != m.s) = false := by simp [v1]
        have e2 : (y2.v != m.v) = false := by simp [v2]
        (have hwq := trivial; repeat' (first | simp (maxSteps:=9999999)-implicitDefEqProofs only [go_sem,simprocAttr,hwq,FT3,FT4,FT5,FT23,FT24,FT25,FT26,FT27,FT29,FT30,FT32,FT34,FT35,FT37,FT39,FT40,FT41,FT43,FT46,FT52,FT59,List.length_map,List.getElem?_map,Int.natCast_nonneg,List.length_append,List.map_append,hjl',hgj,wj,e1,e2] | (refine condK_split ?_ ?_ <;> intro hwq) | (refine two_split ?_ ?_) | (refine guardK_split ?_ ?_ <;> intro hwq) | (refine guardE_split ?_ ?_ <;> intro hwq) | (refine awp_drawI 23 [] (List.range 31) [0, 1, 0, 7, 15, 31, 0, 64, 255, 511, 1023, 2047, 1023, 8191, 16383, 32767, 1023, 66559, 262143, 524287, 1048575, 2097151, 1048575, 8388607, 16777215, 33554431, 1048575, 68157439, 268435455, 536870911, 1073741823] (by decide +kernel) ?_; have hwq := trivial) | (refine awp_drawW [] (by decide +kernel) ?_; have hwq := trivial) | (refine call_plain n20 rfl rfl ?_; have hwq := trivial) | (refine call_plain n22 rfl rfl ?_; have hwq := trivial) | (refine call_plain n24 rfl rfl ?_; have hwq := trivial) | (refine call_plain n19 rfl rfl ?_; have hwq := trivial) | fail))
        refine awp_loopK (Ob8 p m j) j _ (Weak.cutI 2 [7, 12, 13, 22] ?_ ?_) ⟨0, _, rfl, Nat.zero_le _, rfl⟩ ?_
        · simp (maxSteps:=9999999)-implicitDefEqProofs only [simprocAttr,QH,Option.isSome,cond_true,cond_false,Option.bind,selB,V.rn,V.rns,Go.Ai.known,V.pz,V.pzs,T.toV,frz1,List.range,List.range.loop,ite_true,ite_false,if_true,if_false,ne_eq,implies_true,forall_const,eq_self,IntKind.bits,upd_tmsS,selT_cons,selT_nil,List.length_map,List.getElem?_map,Int.natCast_nonneg,List.length_append,List.map_append]
        · simp (maxSteps:=9999999)-implicitDefEqProofs only [simprocAttr,QH,Option.isSome,cond_true,cond_false,Option.bind,selB,V.rn,V.rns,Go.Ai.known,V.pz,V.pzs,T.toV,frz1,List.range,List.range.loop,ite_true,ite_false,if_true,if_false,ne_eq,implies_true,forall_const,eq_self,IntKind.bits,upd_tmsS,selT_cons,selT_nil,List.length_map,List.getElem?_map,Int.natCast_nonneg,List.length_append,List.map_append]
        rintro kk S ⟨k, mv, rfl, hk, rfl⟩
        have wk := wj_of (Nat.le_trans hk hj) (by omega)
        by_cases hkj : k < j
        · have hkj' : (k : Int) < (j : Int) := Int.ofNat_lt.2 hkj
          have hkl' : (k : Int) < (p.ms.length : Int) := Int.ofNat_lt.2 (Nat.lt_trans hkj hjl)
          obtain ⟨x, hgk⟩ : ∃ x, p.ms[k]? = some x := ⟨_, List.getElem?_eq_getElem (by omega)⟩
          have hn := hno k x hkj hgk
          cases q1 : (x.p == m.p) with
          | false =>
            (have hwq := trivial; repeat' (first | simp (maxSteps:=9999999)-implicitDefEqProofs only [go_sem,simprocAttr,hwq,FT3,FT4,FT5,FT23,FT24,FT25,FT26,FT27,FT29,FT30,FT32,FT34,FT35,FT37,FT39,FT40,FT41,FT43,FT46,FT52,FT59,List.length_map,List.getElem?_map,Int.natCast_nonneg,List.length_append,List.map_append,hkj',hkl',hgk,wk,q1] | (refine condK_split ?_ ?_ <;> intro hwq) | (refine two_split ?_ ?_) | (refine guardK_split ?_ ?_ <;> intro hwq) | (refine guardE_split ?_ ?_ <;> intro hwq) | (refine awp_drawI 23 [] (List.range 31) [0, 1, 0, 7, 15, 31, 0, 64, 255, 511, 1023, 2047, 1023, 8191, 16383, 32767, 1023, 66559, 262143, 524287, 1048575, 2097151, 1048575, 8388607, 16777215, 33554431, 1048575, 68157439, 268435455, 536870911, 1073741823] (by decide +kernel) ?_; have hwq := trivial) | (refine awp_drawW [] (by decide +kernel) ?_; have hwq := trivial) | fail))
            refine ⟨j - (k + 1), _, by omega, Weak.cutI 2 [7, 12, 13, 22] ?_ ?_, k + 1, _, rfl, by omega, rfl⟩
            · simp (maxSteps:=9999999)-implicitDefEqProofs only [simprocAttr,QH,Option.isSome,cond_true,cond_false,Option.bind,selB,V.rn,V.rns,Go.Ai.known,V.pz,V.pzs,T.toV,frz1,List.range,List.range.loop,ite_true,ite_false,if_true,if_false,ne_eq,implies_true,forall_const,eq_self,IntKind.bits,upd_tmsS,selT_cons,selT_nil,List.length_map,List.getElem?_map,Int.natCast_nonneg,List.length_append,List.map_append]
            · simp (maxSteps:=9999999)-implicitDefEqProofs only [simprocAttr,QH,Option.isSome,cond_true,cond_false,Option.bind,selB,V.rn,V.rns,Go.Ai.known,V.pz,V.pzs,T.toV,frz1,List.range,List.range.loop,ite_true,ite_false,if_true,if_false,ne_eq,implies_true,forall_const,eq_self,IntKind.bits,upd_tmsS,selT_cons,selT_nil,List.length_map,List.getElem?_map,Int.natCast_nonneg,List.length_append,List.map_append]
          | true =>
            have q2 : (x.v == m.v) = false := beq_eq_false_iff_ne.2 (fun h => hn ⟨by simpa using q1, .inl h⟩)
            have q3 : (x.s == m.s) = false := beq_eq_false_iff_ne.2 (fun h => hn ⟨by simpa using q1, .inr h⟩)
            (have hwq := trivial; repeat' (first | simp (maxSteps:=9999999)-implicitDefEqProofs only [go_sem,simprocAttr,hwq,FT3,FT4,FT5,FT23,FT24,FT25,FT26,FT27,FT29,FT30,FT32,FT34,FT35,FT37,FT39,FT40,FT41,FT43,FT46,FT52,FT59,List.length_map,List.getElem?_map,Int.natCast_nonneg,List.length_append,List.map_append,hkj',hkl',hgk,wk,q1,q2,q3] | (refine condK_split ?_ ?_ <;> intro hwq) | (refine two_split ?_ ?_) | (refine guardK_split ?_ ?_ <;> intro hwq) | (refine guardE_split ?_ ?_ <;> intro hwq) | (refine awp_drawI 23 [] (List.range 31) [0, 1, 0, 7, 15, 31, 0, 64, 255, 511, 1023, 2047, 1023, 8191, 16383, 32767, 1023, 66559, 262143, 524287, 1048575, 2097151, 1048575, 8388607, 16777215, 33554431, 1048575, 68157439, 268435455, 536870911, 1073741823] (by decide +kernel) ?_; have hwq := trivial) | (refine awp_drawW [] (by decide +kernel) ?_; have hwq := trivial) | fail))
            refine ⟨j - (k + 1), _, by omega, Weak.cutI 2 [7, 12, 13, 22] ?_ ?_, k + 1, _, rfl, by omega, rfl⟩
            · simp (maxSteps:=9999999)-implicitDefEqProofs only [simprocAttr,QH,Option.isSome,cond_true,cond_false,Option.bind,selB,V.rn,V.rns,Go.Ai.known,V.pz,V.pzs,T.toV,frz1,List.range,List.range.loop,ite_true,ite_false,if_true,if_false,ne_eq,implies_true,forall_const,eq_self,IntKind.bits,upd_tmsS,selT_cons,selT_nil,List.length_map,List.getElem?_map,Int.natCast_nonneg,List.length_append,List.map_append]
            · simp (maxSteps:=9999999)-implicitDefEqProofs only [simprocAttr,QH,Option.isSome,cond_true,cond_false,Option.bind,selB,V.rn,V.rns,Go.Ai.known,V.pz,V.pzs,T.toV,frz1,List.range,List.range.loop,ite_true,ite_false,if_true,if_false,ne_eq,implies_true,forall_const,eq_self,IntKind.bits,upd_tmsS,selT_cons,selT_nil,List.length_map,List.getElem?_map,Int.natCast_nonneg,List.length_append,List.map_append]
        · have hkj' : ¬ (k : Int) < (j : Int) := fun h => hkj (Int.ofNat_lt.1 h)
          (have hwq := trivial; repeat' (first | simp (maxSteps:=9999999)-implicitDefEqProofs only [go_sem,simprocAttr,hwq,FT3,FT4,FT5,FT23,FT24,FT25,FT26,FT27,FT29,FT30,FT32,FT34,FT35,FT37,FT39,FT40,FT41,FT43,FT46,FT52,FT59,List.length_map,List.getElem?_map,Int.natCast_nonneg,List.length_append,List.map_append,hkj',wj] | (refine condK_split ?_ ?_ <;> intro hwq) | (refine two_split ?_ ?_) | (refine guardK_split ?_ ?_ <;> intro hwq) | (refine guardE_split ?_ ?_ <;> intro hwq) | (refine awp_drawI 23 [] (List.range 31) [0, 1, 0, 7, 15, 31, 0, 64, 255, 511, 1023, 2047, 1023, 8191, 16383, 32767, 1023, 66559, 262143, 524287, 1048575, 2097151, 1048575, 8388607, 16777215, 33554431, 1048575, 68157439, 268435455, 536870911, 1073741823] (by decide +kernel) ?_; have hwq := trivial) | (refine awp_drawW [] (by decide +kernel) ?_; have hwq := trivial) | fail))
          refine ⟨p.ms.length - (j + 1), _, by omega, Weak.cutI 1 [7, 12] ?_ ?_, j + 1, _, rfl, by omega, rfl⟩
          · simp (maxSteps:=9999999)-implicitDefEqProofs only [simprocAttr,QH,Option.isSome,cond_true,cond_false,Option.bind,selB,V.rn,V.rns,Go.Ai.known,V.pz,V.pzs,T.toV,frz1,List.range,List.range.loop,ite_true,ite_false,if_true,if_false,ne_eq,implies_true,forall_const,eq_self,IntKind.bits,upd_tmsS,selT_cons,selT_nil,List.length_map,List.getElem?_map,Int.natCast_nonneg,List.length_append,List.map_append]
          · simp (maxSteps:=9999999)-implicitDefEqProofs only [simprocAttr,QH,Option.isSome,cond_true,cond_false,Option.bind,selB,V.rn,V.rns,Go.Ai.known,V.pz,V.pzs,T.toV,frz1,List.range,List.range.loop,ite_true,ite_false,if_true,if_false,ne_eq,implies_true,forall_const,eq_self,IntKind.bits,upd_tmsS,selT_cons,selT_nil,List.length_map,List.getElem?_map,Int.natCast_nonneg,List.length_append,List.map_append]
      · have hjl' : ¬ (j : Int) < (p.ms.length : Int) := fun h => hjl (Int.ofNat_lt.1 h)
        (have hwq := trivial; repeat' (first | simp (maxSteps:=9999999)-implicitDefEqProofs only [go_sem,simprocAttr,hwq,FT3,FT4,FT5,FT23,FT24,FT25,FT26,FT27,FT29,FT30,FT32,FT34,FT35,FT37,FT39,FT40,FT41,FT43,FT46,FT52,FT59,List.length_map,List.getElem?_map,Int.natCast_nonneg,List.length_append,List.map_append,hjl'] | (refine condK_split ?_ ?_ <;> intro hwq) | (refine two_split ?_ ?_) | (refine guardK_split ?_ ?_ <;> intro hwq) | (refine guardE_split ?_ ?_ <;> intro hwq) | (refine awp_drawI 23 [] (List.range 31) [0, 1, 0, 7, 15, 31, 0, 64, 255, 511, 1023, 2047, 1023, 8191, 16383, 32767, 1023, 66559, 262143, 524287, 1048575, 2097151, 1048575, 8388607, 16777215, 33554431, 1048575, 68157439, 268435455, 536870911, 1073741823] (by decide +kernel) ?_; have hwq := trivial) | (refine awp_drawW [] (by decide +kernel) ?_; have hwq := trivial) | (refine call_plain pc15 rfl rfl ?_; have hwq := trivial) | fail)))
end Go.Ai
