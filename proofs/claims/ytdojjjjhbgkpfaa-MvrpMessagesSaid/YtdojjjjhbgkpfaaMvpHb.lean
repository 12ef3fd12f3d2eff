/- Contracts of functions of the loaded program: called with data in the ranges that each names, it returns this value and writes to no old memory. -/
import Derived.Test.YtdojjjjhbgkpfaaMvpYd
set_option linter.unusedVariables false
set_option linter.unusedSimpArgs false
set_option maxHeartbeats 4000000
set_option maxRecDepth 100000
namespace Go.Ai
open Go.Proofs
attribute [local go_sem] QH QR V.noimm V.noimms frzZs frzZ frzA frzV frzVs frzBox boxLen Option.isSome cond_true cond_false aopD calW flatV stepX amap stepY alookup afind aupdate adelete amlen arange ameq mapOf akeq pl V.mapT V.mapTs Option.bind stepK runK guardD stepE runD callD compact selB callK evS ofVal ofVals scalar aop ares mkRes V.rn V.rns V.cells? cellsAt Go.Ai.part aload astore setL V.atom abin aun intBin shiftBin aconv fieldOf aindexAddr aindex bound? aslice aarr abuild afill alen nilP nilS nilF aeq eqCells eqCell Go.Ai.known strBin abuiltin aappend abuildSlice arowsFill amakeSlice acopy aclear minmax rowsOf numsT notStr isIntD isByte V.pz V.pzs T.toV frz1 frz scalT scalTs chunkT List.range List.range.loop ite_true ite_false if_true if_false ne_eq implies_true forall_const eq_self IntKind.bits kPostKF_ret kPostKF_normal kPostX_ret kPostX_normal bsl nil2K nil2 kPostFW_ret kPostFW_normal kPostKM_ret kPostKM_normal kPostXK_ret kPostXK_normal
theorem strL (ns : List Int) : (strOfNums ns).toList = ns.map fun n => UInt8.ofNat n.toNat := by
  unfold strOfNums
  simp
theorem numsT_by : ∀ l : List Int, numsT (l.map byT) = some l
  | [] => rfl
  | x :: l => by
    show (match numsT (l.map byT) with | some ns => some (x :: ns) | none => none) = _
    rw [numsT_by l]
theorem u8_inj : ∀ (a b : List Int), (∀ x ∈ a, 0 ≤ x ∧ x ≤ 255) → (∀ x ∈ b, 0 ≤ x ∧ x ≤ 255) → (a.map fun n : Int => UInt8.ofNat n.toNat) = (b.map fun n : Int => UInt8.ofNat n.toNat) → a = b
  | [], [], _, _, _ => rfl
  | [], _ :: _, _, _, h => by simp at h
  | _ :: _, [], _, _, h => by simp at h
  | x :: a, y :: b, ha, hb, h => by
    simp only [List.map_cons, List.cons.injEq] at h
    have h1 := ha x (by simp)
    have h2 := hb y (by simp)
    have e : x = y := by
      have h3 := congrArg UInt8.toNat h.1
      rw [UInt8.toNat_ofNat_of_lt' (by simp [UInt8.size]; omega), UInt8.toNat_ofNat_of_lt' (by simp [UInt8.size]; omega)] at h3
      omega
    rw [e, u8_inj a b (fun z hz => ha z (by simp [hz])) (fun z hz => hb z (by simp [hz])) h.2]
theorem str_eq {a b : List Int} (ha : ∀ x ∈ a, 0 ≤ x ∧ x ≤ 255) (hb : ∀ x ∈ b, 0 ≤ x ∧ x ≤ 255) : ((strOfNums a).toList == (strOfNums b).toList) = decide (a = b) := by
  rw [strL, strL]
  by_cases h : a = b
  · simp [h]
  · rw [decide_eq_false h]
    rw [beq_eq_false_iff_ne]
    exact fun e => h (u8_inj a b ha hb e)
theorem pk3_range {l : List Int} (h : ∀ a ∈ l, 0 ≤ a ∧ a ≤ 5) (k : Nat) : 0 ≤ pk3 (chk l k) ∧ pk3 (chk l k) ≤ 255 := by
  rcases chk_cases l h k with hc | ⟨a, hc, ha⟩ | ⟨a, b, hc, ha, hb⟩ | ⟨a, b, d, hc, ha, hb, hd⟩ <;> rw [hc] <;> simp [pk3] <;> omega
theorem encR_range {L : List Vc} {b : List Int} (h : encR L = (b, 0)) : ∀ x ∈ b, 0 ≤ x ∧ x ≤ 255 := by
  obtain ⟨h1, h2, h3, rfl⟩ := encR_ok h
  intro x hx
  simp only [List.mem_append, List.mem_flatMap, List.mem_cons, List.not_mem_nil, or_false] at hx
  rcases hx with (rfl | rfl | rfl) | ⟨v, hv, hx⟩ | (rfl | rfl | rfl | rfl)
  all_goals try (constructor <;> decide)
  obtain ⟨b1, b2, b3, b6⟩ := mayB_of (h3 v hv)
  rw [vcB_eq] at hx
  have hd : 0 ≤ hdN v ∧ hdN v ≤ 8256 := by unfold hdN; split <;> omega
  simp only [List.mem_cons] at hx
  rcases hx with rfl | rfl | rfl | rfl | hx
  · omega
  · omega
  · omega
  · omega
  · unfold pkL at hx
    obtain ⟨k, _, rfl⟩ := List.mem_map.1 hx
    exact pk3_range b6 k
theorem fm3 (rs : List Int) (d e : Nat) (he : e < 3) : (rs.flatMap unpR)[3 * d + e]? = (rs[d]?).bind fun x => (unpR x)[e]? := by
  induction rs generalizing d with
  | nil => simp
  | cons x rs ih =>
    rw [List.flatMap_cons]
    have hl : (unpR x).length = 3 := rfl
    cases d with
    | zero => rw [List.getElem?_append_left (by omega)]; simp
    | succ d =>
      rw [List.getElem?_append_right (by omega), hl, show 3 * (d + 1) + e - 3 = 3 * d + e by omega, ih]
      simp
def Dr (b : List Int) (R : Option (List Vc)) (k : Nat) (S : St) : Prop :=
  ∃ (L : List Vc) (a : Nat) (mv : List Nat), S = ⟨tms [(0, bysV b), (4, .own 0 0 L.length), (5, vI a)], [.rows 3 (L.map vcT) false], mv⟩ ∧ k + L.length = 65 ∧ L.length ≤ 64 ∧ decR k (b.drop a) L = R ∧ a ≤ 100200 ∧ ∀ x ∈ L, x.l.length ≤ 64
def Sn (L : List Vc) (al : Bool) (f : Int) (M : List Int) (ts : List (Nat × V)) (mv : List Nat) (S : St) : Prop :=
  (M = [] ∧ S = ⟨tms ts, [.rows 3 (L.map vcT) false, .box [vB al, vI f, .s (.slice none 0 0)] false], mv⟩) ∨
  (M ≠ [] ∧ S = ⟨tms ts, [.rows 3 (L.map vcT) false, .box [vB al, vI f, .own 2 0 M.length] false, .rows 1 (M.map inT) false], mv⟩)
def Di (b : List Int) (L : List Vc) (al : Bool) (f : Int) (n a4 : Nat) (D : List Int) (k : Nat) (S : St) : Prop :=
  ∃ (i : Nat) (M : List Int) (mv : List Nat), i ≤ n ∧ k = n - i ∧ M = D.take i ∧ Sn L al f M [(0, bysV b), (4, .own 0 0 L.length), (5, vI a4), (7, .ptr 1 0 0), (8, vI n), (9, vI i)] mv S
theorem TRl.last {I : Imm} {t t' : T} (h : ∀ c, TR I t c → TR I t' c) : ∀ {P : List T} {cs : List Value}, TRl I (P ++ [t]) cs → TRl I (P ++ [t']) cs
  | [], [], hx => by simp [TRl] at hx
  | [], [c], hx => by
    simp only [List.nil_append, TRl] at hx ⊢
    exact ⟨h c hx.1, trivial⟩
  | [], _ :: _ :: _, hx => by simp [TRl] at hx
  | p :: P, [], hx => by simp [TRl] at hx
  | p :: P, c :: cs, hx => by
    simp only [List.cons_append, TRl] at hx ⊢
    exact ⟨hx.1, TRl.last h hx.2⟩
/-- A block's rows, less told. -/
theorem Weak.rows (t : Nat) {tm : Nat → V} {σ : List Blk} {mv : List Nat} {z : Nat} {xs xs' : List (List T)} (hσ : σ[t]? = some (.rows z xs false)) (hl : xs'.length = xs.length) (hn : (∀ r ∈ xs, r.length = z) → ∀ r ∈ xs', r.length = z)
    (hr : ∀ I cs, TRl I xs.flatten cs → TRl I xs'.flatten cs) : Weak ⟨tm, σ, mv⟩ ⟨tm, σ.set t (.rows z xs' false), mv⟩ := by
  refine ⟨fun _ h => h, fun β I w hi => ⟨β, I, ?_, Step.refl _ _ _, fun _ _ h => h, fun _ _ hx _ => hx⟩⟩
  refine ⟨hi.imm, fun t' k hk => ?_, fun t' x hx => ?_, hi.inj⟩
  · by_cases h : t' = t
    · subst h
      have hlt := (List.getElem?_eq_some_iff.1 hσ).1
      rw [List.getElem?_set_self hlt] at hk
      simp at hk
      subst hk
      have := hi.blk t' _ hσ
      simp only [BlkR] at this ⊢
      rcases this with ⟨h1, rfl⟩ | ⟨b, cap, cs, e, h1, h2, h3, h4, h5, h6, h7, h8⟩
      · exact .inl ⟨h1, List.length_eq_zero_iff.1 hl⟩
      · refine .inr ⟨b, cap, cs, e, h1, h2, h3, by rw [hl]; exact h4, h5, hn h6, by rw [hl]; exact hr _ _ h7, fun o ho => h8 o (.inl trivial)⟩
    · rw [List.getElem?_set_ne (Ne.symm h)] at hk
      exact hi.blk t' k hk
  · obtain ⟨k, h1, h2⟩ := hi.live t' x hx
    by_cases h : t' = t
    · subst h
      have hlt := (List.getElem?_eq_some_iff.1 hσ).1
      exact ⟨_, List.getElem?_set_self hlt, h2⟩
    · exact ⟨k, by rw [List.getElem?_set_ne (Ne.symm h)]; exact h1, h2⟩
theorem Weak.nilLast {tm : Nat → V} {mv : List Nat} {A : List (List T)} {p q : T} : Weak ⟨tm, [.rows 3 (A ++ [[p, q, .s (.slice none 0 0)]]) false], mv⟩ ⟨tm, [.rows 3 (A ++ [[p, q, .sl 1 []]]) false], mv⟩ := by
  refine Weak.rows 0 rfl (by simp) ?_ ?_
  · intro h r hr
    rcases List.mem_append.1 hr with h1 | h1
    · exact h r (List.mem_append_left _ h1)
    · simp at h1; subst h1; rfl
  · intro I cs hx
    have e1 : (A ++ [[p, q, T.s (.slice none 0 0)]]).flatten = (A.flatten ++ [p, q]) ++ [T.s (.slice none 0 0)] := by simp
    have e2 : (A ++ [[p, q, T.sl 1 []]]).flatten = (A.flatten ++ [p, q]) ++ [T.sl 1 []] := by simp
    rw [e1] at hx
    rw [e2]
    refine TRl.last ?_ hx
    intro c hc
    simp only [TR] at hc ⊢
    obtain ⟨rfl, _⟩ := hc
    exact ⟨none, 0, rfl, by simp, .inl trivial⟩
def finR (b : List Int) : Option (List Vc) → List Vc × Int
  | none => ([], 290)
  | some l => if encR l = (b, 0) then (l, 0) else ([], 290)
theorem rdec (b : List Int) (hr : b.length ≤ 100000) (hb : ∀ x ∈ b, 0 ≤ x ∧ x ≤ 255) : AC Try.prog 14 [bysV b] [] (eqR (.tuple [vcsV (decodeR b).1, vI (decodeR b).2])) := by
  by_cases h7 : b.length < 7
  · have h7' : (b.length : Int) < 7 := by omega
    have e : decodeR b = ([], 6) := by unfold decodeR; rw [if_pos h7]
    rw [e]
    refine AC_frozenW orders Try.func14 rfl (by kernel_rfl) (by kernel_rfl) Try.ntmps14 (by simp) ?_
    unfold Try.f14
    (have hwq := trivial; repeat' (first | simp (maxSteps:=9999999)-implicitDefEqProofs only [go_sem,simprocAttr,hwq,FT3,FT4,FT5,FT9,FT22,FT23,FT82,FT84,FT91,List.length_map,List.getElem?_map,Int.natCast_nonneg,List.length_append,List.map_append,h7',List.length_map] | (refine condK_split ?_ ?_ <;> intro hwq) | (refine two_split ?_ ?_) | (refine guardK_split ?_ ?_ <;> intro hwq) | (refine guardE_split ?_ ?_ <;> intro hwq) | (refine awp_drawI 7 [] (List.range 19) [0, 1, 0, 0, 8, 28, 60, 124, 252, 0, 0, 1024, 3584, 7680, 15872, 32764, 65535, 0, 262143] (by decide +kernel) ?_; have hwq := trivial) | (refine awp_drawW [] (by decide +kernel) ?_; have hwq := trivial) | fail))
    exact ⟨_, rfl, by simp [V.leT, V.le, V.les]⟩
  have h7' : ¬ (b.length : Int) < 7 := by omega
  obtain ⟨R, hR⟩ : ∃ R, decR 65 (b.drop 3) [] = R := ⟨_, rfl⟩
  obtain ⟨Z, hZ⟩ : ∃ Z, decodeR b = Z := ⟨_, rfl⟩
  have e : Z = finR b R := by
    rw [← hZ]; unfold decodeR; rw [if_neg h7, hR]
    cases R <;> rfl
  rw [hZ]
  refine AC_frozenW orders Try.func14 rfl (by kernel_rfl) (by kernel_rfl) Try.ntmps14 (by simp) ?_
  unfold Try.f14
  (have hwq := trivial; repeat' (first | simp (maxSteps:=9999999)-implicitDefEqProofs only [go_sem,simprocAttr,hwq,FT3,FT4,FT5,FT9,FT22,FT23,FT82,FT84,FT91,List.length_map,List.getElem?_map,Int.natCast_nonneg,List.length_append,List.map_append,h7'] | (refine condK_split ?_ ?_ <;> intro hwq) | (refine two_split ?_ ?_) | (refine guardK_split ?_ ?_ <;> intro hwq) | (refine guardE_split ?_ ?_ <;> intro hwq) | (refine awp_drawI 7 [] (List.range 19) [0, 1, 0, 0, 8, 28, 60, 124, 252, 0, 0, 1024, 3584, 7680, 15872, 32764, 65535, 0, 262143] (by decide +kernel) ?_; have hwq := trivial) | (refine awp_drawW [] (by decide +kernel) ?_; have hwq := trivial) | fail))
  refine awp_loopK (Dr b R) 65 _ (Weak.trans (Weak.virt 4 3 (.inl rfl)) (Weak.cutI 1 [0, 4, 5] ?_ ?_)) ⟨[], 3, _, rfl, rfl, by simp, hR, by omega, by simp⟩ ?_
  · simp (maxSteps:=9999999)-implicitDefEqProofs only [simprocAttr,QH,Option.isSome,cond_true,cond_false,Option.bind,selB,V.rn,V.rns,Go.Ai.known,V.pz,V.pzs,T.toV,frz1,List.range,List.range.loop,ite_true,ite_false,if_true,if_false,ne_eq,implies_true,forall_const,eq_self,IntKind.bits,upd_tmsS,selT_cons,selT_nil,List.length_map,List.getElem?_map,Int.natCast_nonneg,List.length_append,List.map_append]
  · simp (maxSteps:=9999999)-implicitDefEqProofs only [simprocAttr,QH,Option.isSome,cond_true,cond_false,Option.bind,selB,V.rn,V.rns,Go.Ai.known,V.pz,V.pzs,T.toV,frz1,List.range,List.range.loop,ite_true,ite_false,if_true,if_false,ne_eq,implies_true,forall_const,eq_self,IntKind.bits,upd_tmsS,selT_cons,selT_nil,List.length_map,List.getElem?_map,Int.natCast_nonneg,List.length_append,List.map_append,List.map_nil]
  rintro kk S ⟨L, a, mv, rfl, hk, hLen, hd, ha, hL6⟩
  obtain ⟨k, rfl⟩ : ∃ k, kk = k + 1 := ⟨kk - 1, by omega⟩
  unfold decR at hd
  obtain ⟨a4, ha4⟩ : ∃ a4 : Nat, a + 4 = a4 := ⟨_, rfl⟩
  have wa4 : IntKind.i64.wrap ((a : Int) + 4) = (a4 : Int) := by rw [wI64 _ (by omega) (by omega)]; omega
  have nb := numsT_by b
  by_cases hal4 : b.length < a4
  · have c0 : ¬ (a4 : Int) ≤ (b.length : Int) := by omega
    have hsh : (b.drop a).length < 4 := by rw [List.length_drop]; omega
    have hdR : R = some L := by
      rw [← hd]
      match b.drop a, hsh with
      | [], _ => rfl
      | [_], _ => rfl
      | [_, _], _ => rfl
      | [_, _, _], _ => rfl
      | _ :: _ :: _ :: _ :: _, h => exact absurd h (by simp only [List.length_cons]; omega)
    have h12 := mr12 L (fun x hx => by have := hL6 x hx; omega)
    obtain ⟨X, hX⟩ : ∃ X, encR L = X := ⟨_, rfl⟩
    obtain ⟨ex, er⟩ := X
    rw [hX] at h12
    simp only at h12
    rw [hdR] at e
    simp only [finR, hX] at e
    rcases encR_ex hX with ⟨rfl, e0, es, rfl⟩ | ⟨he, rfl⟩
    · have ne := numsT_by es
      have hse := str_eq (encR_range hX) hb
      by_cases hxb : e0 :: es = b
      · rw [decide_eq_true hxb] at hse
        rw [if_pos (by rw [hxb])] at e
        subst e
        (have hwq := trivial; repeat' (first | simp (maxSteps:=9999999)-implicitDefEqProofs only [go_sem,simprocAttr,hwq,FT3,FT4,FT5,FT9,FT22,FT23,FT82,FT84,FT91,List.length_map,List.getElem?_map,Int.natCast_nonneg,List.length_append,List.map_append,nb,ne,hse,c0,wa4] | (refine condK_split ?_ ?_ <;> intro hwq) | (refine two_split ?_ ?_) | (refine guardK_split ?_ ?_ <;> intro hwq) | (refine guardE_split ?_ ?_ <;> intro hwq) | (refine awp_drawI 7 [] (List.range 19) [0, 1, 0, 0, 8, 28, 60, 124, 252, 0, 0, 1024, 3584, 7680, 15872, 32764, 65535, 0, 262143] (by decide +kernel) ?_; have hwq := trivial) | (refine awp_drawW [] (by decide +kernel) ?_; have hwq := trivial) | (refine call_dataF h12 (frz_own _ (by simp)) (V.les_refl _) rfl rfl ?_; have hwq := trivial) | fail))
        exact ⟨_, rfl, by simp [V.leT, V.le, V.les]; exact .inl (List.take_of_length_le (by simp))⟩
      · rw [decide_eq_false hxb] at hse
        rw [if_neg (by simp [hxb])] at e
        subst e
        (have hwq := trivial; repeat' (first | simp (maxSteps:=9999999)-implicitDefEqProofs only [go_sem,simprocAttr,hwq,FT3,FT4,FT5,FT9,FT22,FT23,FT82,FT84,FT91,List.length_map,List.getElem?_map,Int.natCast_nonneg,List.length_append,List.map_append,nb,ne,hse,c0,wa4] | (refine condK_split ?_ ?_ <;> intro hwq) | (refine two_split ?_ ?_) | (refine guardK_split ?_ ?_ <;> intro hwq) | (refine guardE_split ?_ ?_ <;> intro hwq) | (refine awp_drawI 7 [] (List.range 19) [0, 1, 0, 0, 8, 28, 60, 124, 252, 0, 0, 1024, 3584, 7680, 15872, 32764, 65535, 0, 262143] (by decide +kernel) ?_; have hwq := trivial) | (refine awp_drawW [] (by decide +kernel) ?_; have hwq := trivial) | (refine call_dataF h12 (frz_own _ (by simp)) (V.les_refl _) rfl rfl ?_; have hwq := trivial) | fail))
        exact ⟨_, rfl, by simp [V.leT, V.le, V.les]⟩
    · have hn0 : (er != 0) = true := by simpa using he
      rw [if_neg (by simp [he])] at e
      subst e
      (have hwq := trivial; repeat' (first | simp (maxSteps:=9999999)-implicitDefEqProofs only [go_sem,simprocAttr,hwq,FT3,FT4,FT5,FT9,FT22,FT23,FT82,FT84,FT91,List.length_map,List.getElem?_map,Int.natCast_nonneg,List.length_append,List.map_append,hn0,c0,wa4] | (refine condK_split ?_ ?_ <;> intro hwq) | (refine two_split ?_ ?_) | (refine guardK_split ?_ ?_ <;> intro hwq) | (refine guardE_split ?_ ?_ <;> intro hwq) | (refine awp_drawI 7 [] (List.range 19) [0, 1, 0, 0, 8, 28, 60, 124, 252, 0, 0, 1024, 3584, 7680, 15872, 32764, 65535, 0, 262143] (by decide +kernel) ?_; have hwq := trivial) | (refine awp_drawW [] (by decide +kernel) ?_; have hwq := trivial) | (refine call_dataN h12 (frz_own _ (by simp)) (V.les_refl _) rfl rfl ?_; have hwq := trivial) | fail))
      exact ⟨_, rfl, by simp [V.leT, V.le, V.les]⟩
  have c0 : (a4 : Int) ≤ (b.length : Int) := by omega
  obtain ⟨r, hrd⟩ : ∃ r, b.drop a4 = r := ⟨_, rfl⟩
  obtain ⟨a1, ha1⟩ : ∃ a1 : Nat, a + 1 = a1 := ⟨_, rfl⟩
  obtain ⟨a2, ha2⟩ : ∃ a2 : Nat, a + 2 = a2 := ⟨_, rfl⟩
  obtain ⟨a3, ha3⟩ : ∃ a3 : Nat, a + 3 = a3 := ⟨_, rfl⟩
  have wa0 : IntKind.i64.wrap (a : Int) = (a : Int) := wI64 _ (by omega) (by omega)
  have wa1 : IntKind.i64.wrap ((a : Int) + 1) = (a1 : Int) := by rw [wI64 _ (by omega) (by omega)]; omega
  have wa2 : IntKind.i64.wrap ((a : Int) + 2) = (a2 : Int) := by rw [wI64 _ (by omega) (by omega)]; omega
  have wa3 : IntKind.i64.wrap ((a : Int) + 3) = (a3 : Int) := by rw [wI64 _ (by omega) (by omega)]; omega
  have i0 : (a : Int) < (b.length : Int) := by omega
  have i1 : (a1 : Int) < (b.length : Int) := by omega
  have i2 : (a2 : Int) < (b.length : Int) := by omega
  have i3 : (a3 : Int) < (b.length : Int) := by omega
  have g0 : b[a]? = some b[a] := List.getElem?_eq_getElem (by omega)
  have g1 : b[a1]? = some b[a1] := List.getElem?_eq_getElem (by omega)
  have g2 : b[a2]? = some b[a2] := List.getElem?_eq_getElem (by omega)
  have g3 : b[a3]? = some b[a3] := List.getElem?_eq_getElem (by omega)
  have hd4 : b.drop a = b[a] :: b[a1] :: b[a2] :: b[a3] :: r := by
    subst ha1; subst ha2; subst ha3; subst ha4
    rw [List.drop_eq_getElem_cons (by omega), List.drop_eq_getElem_cons (i := a + 1) (by omega), List.drop_eq_getElem_cons (i := a + 1 + 1) (by omega), List.drop_eq_getElem_cons (i := a + 1 + 1 + 1) (by omega), ← hrd]
  rw [hd4] at hd
  obtain ⟨y0, hy0⟩ : ∃ y, b[a] = y := ⟨_, rfl⟩
  obtain ⟨y1, hy1⟩ : ∃ y, b[a1] = y := ⟨_, rfl⟩
  obtain ⟨y2, hy2⟩ : ∃ y, b[a2] = y := ⟨_, rfl⟩
  obtain ⟨y3, hy3⟩ : ∃ y, b[a3] = y := ⟨_, rfl⟩
  rw [hy0] at g0; rw [hy1] at g1; rw [hy2] at g2; rw [hy3] at g3
  rw [hy0, hy1, hy2, hy3] at hd
  have v0 := hb y0 (mem_in g0)
  have v1 := hb y1 (mem_in g1)
  have v2 := hb y2 (mem_in g2)
  have v3 := hb y3 (mem_in g3)
  simp only at hd
  by_cases hz : y0 = 0 ∧ y1 = 0
  · obtain ⟨z0, z1⟩ := hz
    have n0 : (y0 != 0) = false := by simp [z0]
    have n1 : (y1 != 0) = false := by simp [z1]
    rw [if_pos ⟨z0, z1⟩] at hd
    have hdR : R = some L := hd.symm
    have h12 := mr12 L (fun x hx => by have := hL6 x hx; omega)
    obtain ⟨X, hX⟩ : ∃ X, encR L = X := ⟨_, rfl⟩
    obtain ⟨ex, er⟩ := X
    rw [hX] at h12
    simp only at h12
    rw [hdR] at e
    simp only [finR, hX] at e
    rcases encR_ex hX with ⟨rfl, e0, es, rfl⟩ | ⟨he, rfl⟩
    · have ne := numsT_by es
      have hse := str_eq (encR_range hX) hb
      by_cases hxb : e0 :: es = b
      · rw [decide_eq_true hxb] at hse
        rw [if_pos (by rw [hxb])] at e
        subst e
        (have hwq := trivial; repeat' (first | simp (maxSteps:=9999999)-implicitDefEqProofs only [go_sem,simprocAttr,hwq,FT3,FT4,FT5,FT9,FT22,FT23,FT82,FT84,FT91,List.length_map,List.getElem?_map,Int.natCast_nonneg,List.length_append,List.map_append,nb,ne,hse,c0,wa4,wa0,wa1,i0,i1,g0,g1,n0,n1] | (refine condK_split ?_ ?_ <;> intro hwq) | (refine two_split ?_ ?_) | (refine guardK_split ?_ ?_ <;> intro hwq) | (refine guardE_split ?_ ?_ <;> intro hwq) | (refine awp_drawI 7 [] (List.range 19) [0, 1, 0, 0, 8, 28, 60, 124, 252, 0, 0, 1024, 3584, 7680, 15872, 32764, 65535, 0, 262143] (by decide +kernel) ?_; have hwq := trivial) | (refine awp_drawW [] (by decide +kernel) ?_; have hwq := trivial) | (refine call_dataF h12 (frz_own _ (by simp)) (V.les_refl _) rfl rfl ?_; have hwq := trivial) | fail))
        exact ⟨_, rfl, by simp [V.leT, V.le, V.les]; exact .inl (List.take_of_length_le (by simp))⟩
      · rw [decide_eq_false hxb] at hse
        rw [if_neg (by simp [hxb])] at e
        subst e
        (have hwq := trivial; repeat' (first | simp (maxSteps:=9999999)-implicitDefEqProofs only [go_sem,simprocAttr,hwq,FT3,FT4,FT5,FT9,FT22,FT23,FT82,FT84,FT91,List.length_map,List.getElem?_map,Int.natCast_nonneg,List.length_append,List.map_append,nb,ne,hse,c0,wa4,wa0,wa1,i0,i1,g0,g1,n0,n1] | (refine condK_split ?_ ?_ <;> intro hwq) | (refine two_split ?_ ?_) | (refine guardK_split ?_ ?_ <;> intro hwq) | (refine guardE_split ?_ ?_ <;> intro hwq) | (refine awp_drawI 7 [] (List.range 19) [0, 1, 0, 0, 8, 28, 60, 124, 252, 0, 0, 1024, 3584, 7680, 15872, 32764, 65535, 0, 262143] (by decide +kernel) ?_; have hwq := trivial) | (refine awp_drawW [] (by decide +kernel) ?_; have hwq := trivial) | (refine call_dataF h12 (frz_own _ (by simp)) (V.les_refl _) rfl rfl ?_; have hwq := trivial) | fail))
        exact ⟨_, rfl, by simp [V.leT, V.le, V.les]⟩
    · have hn0 : (er != 0) = true := by simpa using he
      rw [if_neg (by simp [he])] at e
      subst e
      (have hwq := trivial; repeat' (first | simp (maxSteps:=9999999)-implicitDefEqProofs only [go_sem,simprocAttr,hwq,FT3,FT4,FT5,FT9,FT22,FT23,FT82,FT84,FT91,List.length_map,List.getElem?_map,Int.natCast_nonneg,List.length_append,List.map_append,hn0,c0,wa4,wa0,wa1,i0,i1,g0,g1,n0,n1] | (refine condK_split ?_ ?_ <;> intro hwq) | (refine two_split ?_ ?_) | (refine guardK_split ?_ ?_ <;> intro hwq) | (refine guardE_split ?_ ?_ <;> intro hwq) | (refine awp_drawI 7 [] (List.range 19) [0, 1, 0, 0, 8, 28, 60, 124, 252, 0, 0, 1024, 3584, 7680, 15872, 32764, 65535, 0, 262143] (by decide +kernel) ?_; have hwq := trivial) | (refine awp_drawW [] (by decide +kernel) ?_; have hwq := trivial) | (refine call_dataN h12 (frz_own _ (by simp)) (V.les_refl _) rfl rfl ?_; have hwq := trivial) | fail))
      exact ⟨_, rfl, by simp [V.leT, V.le, V.les]⟩
  rw [if_neg hz] at hd
  obtain ⟨h, hh⟩ : ∃ h : Nat, (y0 * 256 + y1).toNat = h := ⟨_, rfl⟩
  obtain ⟨n, hn⟩ : ∃ n : Nat, h % 8192 = n := ⟨_, rfl⟩
  obtain ⟨sz, hsz⟩ : ∃ sz : Nat, (n + 2) / 3 = sz := ⟨_, rfl⟩
  obtain ⟨f, hf⟩ : ∃ f : Int, y2 * 256 + y3 = f := ⟨_, rfl⟩
  obtain ⟨al, hal⟩ : ∃ al : Bool, decide (8192 ≤ h) = al := ⟨_, rfl⟩
  rw [hh, hn, hsz, hf, hal] at hd
  have p0 : IntKind.i64.wrap y0 = y0 := wI64 _ (by omega) (by omega)
  have p1 : IntKind.i64.wrap y1 = y1 := wI64 _ (by omega) (by omega)
  have p2 : IntKind.i64.wrap y2 = y2 := wI64 _ (by omega) (by omega)
  have p3 : IntKind.i64.wrap y3 = y3 := wI64 _ (by omega) (by omega)
  have p4 : IntKind.i64.wrap (256 * y0) = 256 * y0 := wI64 _ (by omega) (by omega)
  have p5 : IntKind.i64.wrap (256 * y2) = 256 * y2 := wI64 _ (by omega) (by omega)
  have p6 : IntKind.i64.wrap (256 * y0 + y1) = (h : Int) := by rw [wI64 _ (by omega) (by omega)]; omega
  have p7 : IntKind.i64.wrap (256 * y2 + y3) = f := by rw [wI64 _ (by omega) (by omega)]; omega
  have p8 : (decide ((8192 : Int) ≤ (h : Int))) = al := by rw [← hal]; congr 1; simp only [eq_iff_iff]; omega
  have p8' : (decide ((h : Int) ≥ (8192 : Int))) = al := p8
  have p9 : (h : Int).tmod 8192 = (n : Int) := by rw [Int.tmod_eq_emod_of_nonneg (by omega)]; omega
  have s1 : IntKind.i64.wrap ((n : Int) + 2) = (n : Int) + 2 := wI64 _ (by omega) (by omega)
  have s2 : ((n : Int) + 2).tdiv 3 = (sz : Int) := by rw [Int.tdiv_eq_ediv_of_nonneg (by omega)]; omega
  have s3 : IntKind.i64.wrap (sz : Int) = (sz : Int) := wI64 _ (by omega) (by omega)
  obtain ⟨a5, ha5⟩ : ∃ a5 : Nat, a4 + sz = a5 := ⟨_, rfl⟩
  have s4 : IntKind.i64.wrap ((a4 : Int) + (sz : Int)) = (a5 : Int) := by rw [wI64 _ (by omega) (by omega)]; omega
  have hrl : r.length = b.length - a4 := by rw [← hrd, List.length_drop]
  have y0t : (y0 != 0) = true ∨ ((y0 != 0) = false ∧ (y1 != 0) = true) := by
    by_cases z0 : y0 = 0
    · exact .inr ⟨by simp [z0], by simpa using fun z1 => hz ⟨z0, z1⟩⟩
    · exact .inl (by simpa using z0)
  by_cases c1 : 64 < n
  · have c1' : (64 : Int) < (n : Int) := by omega
    have hdR : R = none := by rw [← hd]; exact if_pos (.inl c1)
    rw [hdR] at e
    simp only [finR] at e
    subst e
    rcases y0t with nh | ⟨nh, nh2⟩
    · (have hwq := trivial; repeat' (first | simp (maxSteps:=9999999)-implicitDefEqProofs only [go_sem,simprocAttr,hwq,FT3,FT4,FT5,FT9,FT22,FT23,FT82,FT84,FT91,List.length_map,List.getElem?_map,Int.natCast_nonneg,List.length_append,List.map_append,c0,wa0,wa1,wa2,wa3,wa4,i0,i1,i2,i3,g0,g1,g2,g3,p0,p1,p2,p3,p4,p5,p6,p7,p8,p8',p9,s1,s2,s3,s4,nh,c1'] | (refine condK_split ?_ ?_ <;> intro hwq) | (refine two_split ?_ ?_) | (refine guardK_split ?_ ?_ <;> intro hwq) | (refine guardE_split ?_ ?_ <;> intro hwq) | (refine awp_drawI 7 [] (List.range 19) [0, 1, 0, 0, 8, 28, 60, 124, 252, 0, 0, 1024, 3584, 7680, 15872, 32764, 65535, 0, 262143] (by decide +kernel) ?_; have hwq := trivial) | (refine awp_drawW [] (by decide +kernel) ?_; have hwq := trivial) | fail))
      exact ⟨_, rfl, by simp [V.leT, V.le, V.les]⟩
    · (have hwq := trivial; repeat' (first | simp (maxSteps:=9999999)-implicitDefEqProofs only [go_sem,simprocAttr,hwq,FT3,FT4,FT5,FT9,FT22,FT23,FT82,FT84,FT91,List.length_map,List.getElem?_map,Int.natCast_nonneg,List.length_append,List.map_append,c0,wa0,wa1,wa2,wa3,wa4,i0,i1,i2,i3,g0,g1,g2,g3,p0,p1,p2,p3,p4,p5,p6,p7,p8,p8',p9,s1,s2,s3,s4,nh,nh2,c1'] | (refine condK_split ?_ ?_ <;> intro hwq) | (refine two_split ?_ ?_) | (refine guardK_split ?_ ?_ <;> intro hwq) | (refine guardE_split ?_ ?_ <;> intro hwq) | (refine awp_drawI 7 [] (List.range 19) [0, 1, 0, 0, 8, 28, 60, 124, 252, 0, 0, 1024, 3584, 7680, 15872, 32764, 65535, 0, 262143] (by decide +kernel) ?_; have hwq := trivial) | (refine awp_drawW [] (by decide +kernel) ?_; have hwq := trivial) | fail))
      exact ⟨_, rfl, by simp [V.leT, V.le, V.les]⟩
  have c1' : ¬ (64 : Int) < (n : Int) := by omega
  by_cases c2 : r.length < sz
  · have c2' : (b.length : Int) < (a5 : Int) := by omega
    have hdR : R = none := by rw [← hd]; exact if_pos (.inr (.inl c2))
    rw [hdR] at e
    simp only [finR] at e
    subst e
    rcases y0t with nh | ⟨nh, nh2⟩
    · (have hwq := trivial; repeat' (first | simp (maxSteps:=9999999)-implicitDefEqProofs only [go_sem,simprocAttr,hwq,FT3,FT4,FT5,FT9,FT22,FT23,FT82,FT84,FT91,List.length_map,List.getElem?_map,Int.natCast_nonneg,List.length_append,List.map_append,c0,wa0,wa1,wa2,wa3,wa4,i0,i1,i2,i3,g0,g1,g2,g3,p0,p1,p2,p3,p4,p5,p6,p7,p8,p8',p9,s1,s2,s3,s4,nh,c1',c2'] | (refine condK_split ?_ ?_ <;> intro hwq) | (refine two_split ?_ ?_) | (refine guardK_split ?_ ?_ <;> intro hwq) | (refine guardE_split ?_ ?_ <;> intro hwq) | (refine awp_drawI 7 [] (List.range 19) [0, 1, 0, 0, 8, 28, 60, 124, 252, 0, 0, 1024, 3584, 7680, 15872, 32764, 65535, 0, 262143] (by decide +kernel) ?_; have hwq := trivial) | (refine awp_drawW [] (by decide +kernel) ?_; have hwq := trivial) | fail))
      exact ⟨_, rfl, by simp [V.leT, V.le, V.les]⟩
    · (have hwq := trivial; repeat' (first | simp (maxSteps:=9999999)-implicitDefEqProofs only [go_sem,simprocAttr,hwq,FT3,FT4,FT5,FT9,FT22,FT23,FT82,FT84,FT91,List.length_map,List.getElem?_map,Int.natCast_nonneg,List.length_append,List.map_append,c0,wa0,wa1,wa2,wa3,wa4,i0,i1,i2,i3,g0,g1,g2,g3,p0,p1,p2,p3,p4,p5,p6,p7,p8,p8',p9,s1,s2,s3,s4,nh,nh2,c1',c2'] | (refine condK_split ?_ ?_ <;> intro hwq) | (refine two_split ?_ ?_) | (refine guardK_split ?_ ?_ <;> intro hwq) | (refine guardE_split ?_ ?_ <;> intro hwq) | (refine awp_drawI 7 [] (List.range 19) [0, 1, 0, 0, 8, 28, 60, 124, 252, 0, 0, 1024, 3584, 7680, 15872, 32764, 65535, 0, 262143] (by decide +kernel) ?_; have hwq := trivial) | (refine awp_drawW [] (by decide +kernel) ?_; have hwq := trivial) | fail))
      exact ⟨_, rfl, by simp [V.leT, V.le, V.les]⟩
  have c2' : ¬ (b.length : Int) < (a5 : Int) := by omega
  by_cases c3 : 64 ≤ L.length
  · have c3' : (64 : Int) ≤ (L.length : Int) := by omega
    have hdR : R = none := by rw [← hd]; exact if_pos (.inr (.inr c3))
    rw [hdR] at e
    simp only [finR] at e
    subst e
    rcases y0t with nh | ⟨nh, nh2⟩
    · (have hwq := trivial; repeat' (first | simp (maxSteps:=9999999)-implicitDefEqProofs only [go_sem,simprocAttr,hwq,FT3,FT4,FT5,FT9,FT22,FT23,FT82,FT84,FT91,List.length_map,List.getElem?_map,Int.natCast_nonneg,List.length_append,List.map_append,c0,wa0,wa1,wa2,wa3,wa4,i0,i1,i2,i3,g0,g1,g2,g3,p0,p1,p2,p3,p4,p5,p6,p7,p8,p8',p9,s1,s2,s3,s4,nh,c1',c2',c3'] | (refine condK_split ?_ ?_ <;> intro hwq) | (refine two_split ?_ ?_) | (refine guardK_split ?_ ?_ <;> intro hwq) | (refine guardE_split ?_ ?_ <;> intro hwq) | (refine awp_drawI 7 [] (List.range 19) [0, 1, 0, 0, 8, 28, 60, 124, 252, 0, 0, 1024, 3584, 7680, 15872, 32764, 65535, 0, 262143] (by decide +kernel) ?_; have hwq := trivial) | (refine awp_drawW [] (by decide +kernel) ?_; have hwq := trivial) | fail))
      exact ⟨_, rfl, by simp [V.leT, V.le, V.les]⟩
    · (have hwq := trivial; repeat' (first | simp (maxSteps:=9999999)-implicitDefEqProofs only [go_sem,simprocAttr,hwq,FT3,FT4,FT5,FT9,FT22,FT23,FT82,FT84,FT91,List.length_map,List.getElem?_map,Int.natCast_nonneg,List.length_append,List.map_append,c0,wa0,wa1,wa2,wa3,wa4,i0,i1,i2,i3,g0,g1,g2,g3,p0,p1,p2,p3,p4,p5,p6,p7,p8,p8',p9,s1,s2,s3,s4,nh,nh2,c1',c2',c3'] | (refine condK_split ?_ ?_ <;> intro hwq) | (refine two_split ?_ ?_) | (refine guardK_split ?_ ?_ <;> intro hwq) | (refine guardE_split ?_ ?_ <;> intro hwq) | (refine awp_drawI 7 [] (List.range 19) [0, 1, 0, 0, 8, 28, 60, 124, 252, 0, 0, 1024, 3584, 7680, 15872, 32764, 65535, 0, 262143] (by decide +kernel) ?_; have hwq := trivial) | (refine awp_drawW [] (by decide +kernel) ?_; have hwq := trivial) | fail))
      exact ⟨_, rfl, by simp [V.leT, V.le, V.les]⟩
  have c3' : ¬ (64 : Int) ≤ (L.length : Int) := by omega
  rw [if_neg (by omega)] at hd
  obtain ⟨rs, hrs⟩ : ∃ rs, r.take sz = rs := ⟨_, rfl⟩
  rw [hrs] at hd
  obtain ⟨D, hD⟩ : ∃ D, (rs.flatMap unpR).take n = D := ⟨_, rfl⟩
  rw [hD] at hd
  have rl : rs.length = sz := by rw [← hrs, List.length_take]; omega
  have hfl : (rs.flatMap unpR).length = 3 * sz := by
    rw [← rl]
    clear hD hrs rl hd
    induction rs with
    | nil => rfl
    | cons x rs ih => rw [List.flatMap_cons, List.length_append, ih, List.length_cons]; show 3 + _ = _; omega
  have hDl : D.length = n := by rw [← hD, List.length_take]; omega
  have hdrop : b.drop a5 = r.drop sz := by rw [← hrd, List.drop_drop, ← ha5]
  have gmL : (L.length + 1) * 40 ≤ 140737488355328 := by omega
  have hloop : ∀ (kk2 : Nat) (S2 : St) (Q2 : Ctl → St → Prop), True := fun _ _ _ => trivial
  rcases y0t with nh | ⟨nh, nh2⟩
  · (have hwq := trivial; repeat' (first | simp (maxSteps:=9999999)-implicitDefEqProofs only [go_sem,simprocAttr,hwq,FT3,FT4,FT5,FT9,FT22,FT23,FT82,FT84,FT91,List.length_map,List.getElem?_map,Int.natCast_nonneg,List.length_append,List.map_append,c0,wa0,wa1,wa2,wa3,wa4,i0,i1,i2,i3,g0,g1,g2,g3,p0,p1,p2,p3,p4,p5,p6,p7,p8,p8',p9,s1,s2,s3,s4,nh,c1',c2',c3'] | (refine condK_split ?_ ?_ <;> intro hwq) | (refine two_split ?_ ?_) | (refine guardK_split ?_ ?_ <;> intro hwq) | (refine guardE_split ?_ ?_ <;> intro hwq) | (refine awp_drawI 7 [] (List.range 19) [0, 1, 0, 0, 8, 28, 60, 124, 252, 0, 0, 1024, 3584, 7680, 15872, 32764, 65535, 0, 262143] (by decide +kernel) ?_; have hwq := trivial) | (refine awp_drawW [] (by decide +kernel) ?_; have hwq := trivial) | fail))
    refine awp_loopK (Di b L al f n a4 D) n _ (Weak.cutI 2 [0, 4, 5, 7, 8, 9] ?_ ?_) ⟨0, [], _, by omega, rfl, by simp, .inl ⟨rfl, rfl⟩⟩ ?_
    · simp (maxSteps:=9999999)-implicitDefEqProofs only [simprocAttr,QH,Option.isSome,cond_true,cond_false,Option.bind,selB,V.rn,V.rns,Go.Ai.known,V.pz,V.pzs,T.toV,frz1,List.range,List.range.loop,ite_true,ite_false,if_true,if_false,ne_eq,implies_true,forall_const,eq_self,IntKind.bits,upd_tmsS,selT_cons,selT_nil,List.length_map,List.getElem?_map,Int.natCast_nonneg,List.length_append,List.map_append]
    · simp (maxSteps:=9999999)-implicitDefEqProofs only [simprocAttr,QH,Option.isSome,cond_true,cond_false,Option.bind,selB,V.rn,V.rns,Go.Ai.known,V.pz,V.pzs,T.toV,frz1,List.range,List.range.loop,ite_true,ite_false,if_true,if_false,ne_eq,implies_true,forall_const,eq_self,IntKind.bits,upd_tmsS,selT_cons,selT_nil,List.length_map,List.getElem?_map,Int.natCast_nonneg,List.length_append,List.map_append]
    rintro kk2 S2 ⟨i, M, mv2, hi, rfl, hM, hS2⟩
    have hMl : M.length = i := by rw [hM, List.length_take]; omega
    by_cases hin : i < n
    · have hin' : (i : Int) < (n : Int) := by omega
      obtain ⟨d, hdd⟩ : ∃ d : Nat, i / 3 = d := ⟨_, rfl⟩
      obtain ⟨g, hg⟩ : ∃ g : Nat, a4 + d = g := ⟨_, rfl⟩
      have t1 : (i : Int).tdiv 3 = (d : Int) := by rw [Int.tdiv_eq_ediv_of_nonneg (by omega)]; omega
      have t2 : IntKind.i64.wrap (d : Int) = (d : Int) := wI64 _ (by omega) (by omega)
      have t3 : IntKind.i64.wrap ((a4 : Int) + (d : Int)) = (g : Int) := by rw [wI64 _ (by omega) (by omega)]; omega
      have wi : IntKind.i64.wrap ((i : Int) + 1) = (i : Int) + 1 := wI64 _ (by omega) (by omega)
      have hgl : (g : Int) < (b.length : Int) := by omega
      have hgx : b[g]? = some b[g] := List.getElem?_eq_getElem (by omega)
      obtain ⟨x, hx⟩ : ∃ x, b[g] = x := ⟨_, rfl⟩
      rw [hx] at hgx
      have hxb := hb x (mem_in hgx)
      have hrx : rs[d]? = some x := by
        rw [← hrs, List.getElem?_take_of_lt (by omega), ← hrd, List.getElem?_drop, hg, hgx]
      have x1 : IntKind.i64.wrap x = x := wI64 _ (by omega) (by omega)
      have gm : (M.length + 1) * 8 ≤ 140737488355328 := by omega
      have h3 : i % 3 = 0 ∨ i % 3 = 1 ∨ i % 3 = 2 := by omega
      rcases h3 with h3 | h3 | h3
      · have t4 : (i : Int).tmod 3 = 0 := by rw [Int.tmod_eq_emod_of_nonneg (by omega)]; omega
        obtain ⟨q, hq⟩ : ∃ q, x / 36 = q := ⟨_, rfl⟩
        obtain ⟨z, hzq⟩ : ∃ z, q % 6 = z := ⟨_, rfl⟩
        have x2 : x.tdiv 36 = q := by rw [Int.tdiv_eq_ediv_of_nonneg (by omega), hq]
        have x3 : IntKind.i64.wrap q = q := wI64 _ (by omega) (by omega)
        have x4 : q.tmod 6 = z := by rw [Int.tmod_eq_emod_of_nonneg (by omega), hzq]
        have x5 : IntKind.i64.wrap z = z := wI64 _ (by omega) (by omega)
        have hDi : D[i]? = some z := by
          rw [← hD, List.getElem?_take_of_lt hin]
          have e1 : i = 3 * d + 0 := by omega
          rw [e1, fm3 rs d 0 (by omega), hrx]
          show some (x / 36 % 6) = some z
          rw [hq, hzq]
        have hnx : M ++ [z] = D.take (i + 1) := by rw [take_in hDi, hM]
        rcases hS2 with ⟨hMe, rfl⟩ | ⟨hMe, rfl⟩
        · subst hMe
          (have hwq := trivial; repeat' (first | simp (maxSteps:=9999999)-implicitDefEqProofs only [go_sem,simprocAttr,hwq,FT3,FT4,FT5,FT9,FT22,FT23,FT82,FT84,FT91,List.length_map,List.getElem?_map,Int.natCast_nonneg,List.length_append,List.map_append,t1,t2,t3,t4,wi,hin',hgl,hgx,x1,x2,x3,x4,gm,x5] | (refine condK_split ?_ ?_ <;> intro hwq) | (refine two_split ?_ ?_) | (refine guardK_split ?_ ?_ <;> intro hwq) | (refine guardE_split ?_ ?_ <;> intro hwq) | (refine awp_drawI 7 [] (List.range 19) [0, 1, 0, 0, 8, 28, 60, 124, 252, 0, 0, 1024, 3584, 7680, 15872, 32764, 65535, 0, 262143] (by decide +kernel) ?_; have hwq := trivial) | (refine awp_drawW [] (by decide +kernel) ?_; have hwq := trivial) | fail))
          refine ⟨n - (i + 1), _, by omega, Weak.selI [0, 1, 3] [0, 4, 5, 7, 8, 9] (by decide) ?_ ?_, i + 1, _, _, by omega, rfl, hnx, .inr ⟨by simp, rfl⟩⟩
          · simp (maxSteps:=9999999)-implicitDefEqProofs only [simprocAttr,QH,Option.isSome,cond_true,cond_false,Option.bind,selB,V.rn,V.rns,Go.Ai.known,V.pz,V.pzs,T.toV,frz1,List.range,List.range.loop,ite_true,ite_false,if_true,if_false,ne_eq,implies_true,forall_const,eq_self,IntKind.bits,upd_tmsS,selT_cons,selT_nil,List.length_map,List.getElem?_map,Int.natCast_nonneg,List.length_append,List.map_append,selF_cons,selF_nil]
          · simp (maxSteps:=9999999)-implicitDefEqProofs only [simprocAttr,QH,Option.isSome,cond_true,cond_false,Option.bind,selB,V.rn,V.rns,Go.Ai.known,V.pz,V.pzs,T.toV,frz1,List.range,List.range.loop,ite_true,ite_false,if_true,if_false,ne_eq,implies_true,forall_const,eq_self,IntKind.bits,upd_tmsS,selT_cons,selT_nil,List.length_map,List.getElem?_map,Int.natCast_nonneg,List.length_append,List.map_append,List.map_cons,List.map_nil,List.nil_append]
        · (have hwq := trivial; repeat' (first | simp (maxSteps:=9999999)-implicitDefEqProofs only [go_sem,simprocAttr,hwq,FT3,FT4,FT5,FT9,FT22,FT23,FT82,FT84,FT91,List.length_map,List.getElem?_map,Int.natCast_nonneg,List.length_append,List.map_append,t1,t2,t3,t4,wi,hin',hgl,hgx,x1,x2,x3,x4,gm,x5] | (refine condK_split ?_ ?_ <;> intro hwq) | (refine two_split ?_ ?_) | (refine guardK_split ?_ ?_ <;> intro hwq) | (refine guardE_split ?_ ?_ <;> intro hwq) | (refine awp_drawI 7 [] (List.range 19) [0, 1, 0, 0, 8, 28, 60, 124, 252, 0, 0, 1024, 3584, 7680, 15872, 32764, 65535, 0, 262143] (by decide +kernel) ?_; have hwq := trivial) | (refine awp_drawW [] (by decide +kernel) ?_; have hwq := trivial) | fail))
          refine ⟨n - (i + 1), _, by omega, Weak.cutI 3 [0, 4, 5, 7, 8, 9] ?_ ?_, i + 1, _, _, by omega, rfl, hnx, .inr ⟨by simp, rfl⟩⟩
          · simp (maxSteps:=9999999)-implicitDefEqProofs only [simprocAttr,QH,Option.isSome,cond_true,cond_false,Option.bind,selB,V.rn,V.rns,Go.Ai.known,V.pz,V.pzs,T.toV,frz1,List.range,List.range.loop,ite_true,ite_false,if_true,if_false,ne_eq,implies_true,forall_const,eq_self,IntKind.bits,upd_tmsS,selT_cons,selT_nil,List.length_map,List.getElem?_map,Int.natCast_nonneg,List.length_append,List.map_append]
          · simp (maxSteps:=9999999)-implicitDefEqProofs only [simprocAttr,QH,Option.isSome,cond_true,cond_false,Option.bind,selB,V.rn,V.rns,Go.Ai.known,V.pz,V.pzs,T.toV,frz1,List.range,List.range.loop,ite_true,ite_false,if_true,if_false,ne_eq,implies_true,forall_const,eq_self,IntKind.bits,upd_tmsS,selT_cons,selT_nil,List.length_map,List.getElem?_map,Int.natCast_nonneg,List.length_append,List.map_append,List.map_cons,List.map_nil]
      · have t4 : (i : Int).tmod 3 = 1 := by rw [Int.tmod_eq_emod_of_nonneg (by omega)]; omega
        obtain ⟨q, hq⟩ : ∃ q, x / 6 = q := ⟨_, rfl⟩
        obtain ⟨z, hzq⟩ : ∃ z, q % 6 = z := ⟨_, rfl⟩
        have x2 : x.tdiv 6 = q := by rw [Int.tdiv_eq_ediv_of_nonneg (by omega), hq]
        have x3 : IntKind.i64.wrap q = q := wI64 _ (by omega) (by omega)
        have x4 : q.tmod 6 = z := by rw [Int.tmod_eq_emod_of_nonneg (by omega), hzq]
        have x5 : IntKind.i64.wrap z = z := wI64 _ (by omega) (by omega)
        have hDi : D[i]? = some z := by
          rw [← hD, List.getElem?_take_of_lt hin]
          have e1 : i = 3 * d + 1 := by omega
          rw [e1, fm3 rs d 1 (by omega), hrx]
          show some (x / 6 % 6) = some z
          rw [hq, hzq]
        have hnx : M ++ [z] = D.take (i + 1) := by rw [take_in hDi, hM]
        rcases hS2 with ⟨hMe, rfl⟩ | ⟨hMe, rfl⟩
        · subst hMe
          (have hwq := trivial; repeat' (first | simp (maxSteps:=9999999)-implicitDefEqProofs only [go_sem,simprocAttr,hwq,FT3,FT4,FT5,FT9,FT22,FT23,FT82,FT84,FT91,List.length_map,List.getElem?_map,Int.natCast_nonneg,List.length_append,List.map_append,t1,t2,t3,t4,wi,hin',hgl,hgx,x1,x2,x3,x4,gm,x5] | (refine condK_split ?_ ?_ <;> intro hwq) | (refine two_split ?_ ?_) | (refine guardK_split ?_ ?_ <;> intro hwq) | (refine guardE_split ?_ ?_ <;> intro hwq) | (refine awp_drawI 7 [] (List.range 19) [0, 1, 0, 0, 8, 28, 60, 124, 252, 0, 0, 1024, 3584, 7680, 15872, 32764, 65535, 0, 262143] (by decide +kernel) ?_; have hwq := trivial) | (refine awp_drawW [] (by decide +kernel) ?_; have hwq := trivial) | fail))
          refine ⟨n - (i + 1), _, by omega, Weak.selI [0, 1, 3] [0, 4, 5, 7, 8, 9] (by decide) ?_ ?_, i + 1, _, _, by omega, rfl, hnx, .inr ⟨by simp, rfl⟩⟩
          · simp (maxSteps:=9999999)-implicitDefEqProofs only [simprocAttr,QH,Option.isSome,cond_true,cond_false,Option.bind,selB,V.rn,V.rns,Go.Ai.known,V.pz,V.pzs,T.toV,frz1,List.range,List.range.loop,ite_true,ite_false,if_true,if_false,ne_eq,implies_true,forall_const,eq_self,IntKind.bits,upd_tmsS,selT_cons,selT_nil,List.length_map,List.getElem?_map,Int.natCast_nonneg,List.length_append,List.map_append,selF_cons,selF_nil]
          · simp (maxSteps:=9999999)-implicitDefEqProofs only [simprocAttr,QH,Option.isSome,cond_true,cond_false,Option.bind,selB,V.rn,V.rns,Go.Ai.known,V.pz,V.pzs,T.toV,frz1,List.range,List.range.loop,ite_true,ite_false,if_true,if_false,ne_eq,implies_true,forall_const,eq_self,IntKind.bits,upd_tmsS,selT_cons,selT_nil,List.length_map,List.getElem?_map,Int.natCast_nonneg,List.length_append,List.map_append,List.map_cons,List.map_nil,List.nil_append]
        · (have hwq := trivial; repeat' (first | simp (maxSteps:=9999999)-implicitDefEqProofs only [go_sem,simprocAttr,hwq,FT3,FT4,FT5,FT9,FT22,FT23,FT82,FT84,FT91,List.length_map,List.getElem?_map,Int.natCast_nonneg,List.length_append,List.map_append,t1,t2,t3,t4,wi,hin',hgl,hgx,x1,x2,x3,x4,gm,x5] | (refine condK_split ?_ ?_ <;> intro hwq) | (refine two_split ?_ ?_) | (refine guardK_split ?_ ?_ <;> intro hwq) | (refine guardE_split ?_ ?_ <;> intro hwq) | (refine awp_drawI 7 [] (List.range 19) [0, 1, 0, 0, 8, 28, 60, 124, 252, 0, 0, 1024, 3584, 7680, 15872, 32764, 65535, 0, 262143] (by decide +kernel) ?_; have hwq := trivial) | (refine awp_drawW [] (by decide +kernel) ?_; have hwq := trivial) | fail))
          refine ⟨n - (i + 1), _, by omega, Weak.cutI 3 [0, 4, 5, 7, 8, 9] ?_ ?_, i + 1, _, _, by omega, rfl, hnx, .inr ⟨by simp, rfl⟩⟩
          · simp (maxSteps:=9999999)-implicitDefEqProofs only [simprocAttr,QH,Option.isSome,cond_true,cond_false,Option.bind,selB,V.rn,V.rns,Go.Ai.known,V.pz,V.pzs,T.toV,frz1,List.range,List.range.loop,ite_true,ite_false,if_true,if_false,ne_eq,implies_true,forall_const,eq_self,IntKind.bits,upd_tmsS,selT_cons,selT_nil,List.length_map,List.getElem?_map,Int.natCast_nonneg,List.length_append,List.map_append]
          · simp (maxSteps:=9999999)-implicitDefEqProofs only [simprocAttr,QH,Option.isSome,cond_true,cond_false,Option.bind,selB,V.rn,V.rns,Go.Ai.known,V.pz,V.pzs,T.toV,frz1,List.range,List.range.loop,ite_true,ite_false,if_true,if_false,ne_eq,implies_true,forall_const,eq_self,IntKind.bits,upd_tmsS,selT_cons,selT_nil,List.length_map,List.getElem?_map,Int.natCast_nonneg,List.length_append,List.map_append,List.map_cons,List.map_nil]
      · have t4 : (i : Int).tmod 3 = 2 := by rw [Int.tmod_eq_emod_of_nonneg (by omega)]; omega
        obtain ⟨q, hq⟩ : ∃ q, x = q := ⟨_, rfl⟩
        obtain ⟨z, hzq⟩ : ∃ z, q % 6 = z := ⟨_, rfl⟩
        have x2 : True := trivial
        have x3 : True := trivial
        subst hq
        have x4 : x.tmod 6 = z := by rw [Int.tmod_eq_emod_of_nonneg (by omega), hzq]
        have x5 : IntKind.i64.wrap z = z := wI64 _ (by omega) (by omega)
        have hDi : D[i]? = some z := by
          rw [← hD, List.getElem?_take_of_lt hin]
          have e1 : i = 3 * d + 2 := by omega
          rw [e1, fm3 rs d 2 (by omega), hrx]
          show some (x % 6) = some z
          rw [hzq]
        have hnx : M ++ [z] = D.take (i + 1) := by rw [take_in hDi, hM]
        rcases hS2 with ⟨hMe, rfl⟩ | ⟨hMe, rfl⟩
        · subst hMe
          (have hwq := trivial; repeat' (first | simp (maxSteps:=9999999)-implicitDefEqProofs only [go_sem,simprocAttr,hwq,FT3,FT4,FT5,FT9,FT22,FT23,FT82,FT84,FT91,List.length_map,List.getElem?_map,Int.natCast_nonneg,List.length_append,List.map_append,t1,t2,t3,t4,wi,hin',hgl,hgx,x1,x2,x3,x4,gm,x5] | (refine condK_split ?_ ?_ <;> intro hwq) | (refine two_split ?_ ?_) | (refine guardK_split ?_ ?_ <;> intro hwq) | (refine guardE_split ?_ ?_ <;> intro hwq) | (refine awp_drawI 7 [] (List.range 19) [0, 1, 0, 0, 8, 28, 60, 124, 252, 0, 0, 1024, 3584, 7680, 15872, 32764, 65535, 0, 262143] (by decide +kernel) ?_; have hwq := trivial) | (refine awp_drawW [] (by decide +kernel) ?_; have hwq := trivial) | fail))
          refine ⟨n - (i + 1), _, by omega, Weak.selI [0, 1, 3] [0, 4, 5, 7, 8, 9] (by decide) ?_ ?_, i + 1, _, _, by omega, rfl, hnx, .inr ⟨by simp, rfl⟩⟩
          · simp (maxSteps:=9999999)-implicitDefEqProofs only [simprocAttr,QH,Option.isSome,cond_true,cond_false,Option.bind,selB,V.rn,V.rns,Go.Ai.known,V.pz,V.pzs,T.toV,frz1,List.range,List.range.loop,ite_true,ite_false,if_true,if_false,ne_eq,implies_true,forall_const,eq_self,IntKind.bits,upd_tmsS,selT_cons,selT_nil,List.length_map,List.getElem?_map,Int.natCast_nonneg,List.length_append,List.map_append,selF_cons,selF_nil]
          · simp (maxSteps:=9999999)-implicitDefEqProofs only [simprocAttr,QH,Option.isSome,cond_true,cond_false,Option.bind,selB,V.rn,V.rns,Go.Ai.known,V.pz,V.pzs,T.toV,frz1,List.range,List.range.loop,ite_true,ite_false,if_true,if_false,ne_eq,implies_true,forall_const,eq_self,IntKind.bits,upd_tmsS,selT_cons,selT_nil,List.length_map,List.getElem?_map,Int.natCast_nonneg,List.length_append,List.map_append,List.map_cons,List.map_nil,List.nil_append]
        · (have hwq := trivial; repeat' (first | simp (maxSteps:=9999999)-implicitDefEqProofs only [go_sem,simprocAttr,hwq,FT3,FT4,FT5,FT9,FT22,FT23,FT82,FT84,FT91,List.length_map,List.getElem?_map,Int.natCast_nonneg,List.length_append,List.map_append,t1,t2,t3,t4,wi,hin',hgl,hgx,x1,x2,x3,x4,gm,x5] | (refine condK_split ?_ ?_ <;> intro hwq) | (refine two_split ?_ ?_) | (refine guardK_split ?_ ?_ <;> intro hwq) | (refine guardE_split ?_ ?_ <;> intro hwq) | (refine awp_drawI 7 [] (List.range 19) [0, 1, 0, 0, 8, 28, 60, 124, 252, 0, 0, 1024, 3584, 7680, 15872, 32764, 65535, 0, 262143] (by decide +kernel) ?_; have hwq := trivial) | (refine awp_drawW [] (by decide +kernel) ?_; have hwq := trivial) | fail))
          refine ⟨n - (i + 1), _, by omega, Weak.cutI 3 [0, 4, 5, 7, 8, 9] ?_ ?_, i + 1, _, _, by omega, rfl, hnx, .inr ⟨by simp, rfl⟩⟩
          · simp (maxSteps:=9999999)-implicitDefEqProofs only [simprocAttr,QH,Option.isSome,cond_true,cond_false,Option.bind,selB,V.rn,V.rns,Go.Ai.known,V.pz,V.pzs,T.toV,frz1,List.range,List.range.loop,ite_true,ite_false,if_true,if_false,ne_eq,implies_true,forall_const,eq_self,IntKind.bits,upd_tmsS,selT_cons,selT_nil,List.length_map,List.getElem?_map,Int.natCast_nonneg,List.length_append,List.map_append]
          · simp (maxSteps:=9999999)-implicitDefEqProofs only [simprocAttr,QH,Option.isSome,cond_true,cond_false,Option.bind,selB,V.rn,V.rns,Go.Ai.known,V.pz,V.pzs,T.toV,frz1,List.range,List.range.loop,ite_true,ite_false,if_true,if_false,ne_eq,implies_true,forall_const,eq_self,IntKind.bits,upd_tmsS,selT_cons,selT_nil,List.length_map,List.getElem?_map,Int.natCast_nonneg,List.length_append,List.map_append,List.map_cons,List.map_nil]
    · have hin' : ¬ (i : Int) < (n : Int) := by omega
      obtain rfl : i = n := by omega
      rw [List.take_of_length_le (by omega)] at hM
      subst hM
      rcases hS2 with ⟨hMe, rfl⟩ | ⟨hMe, rfl⟩
      · have tk : List.take M.length (List.map inT M) = List.map inT M := List.take_of_length_le (by simp)
        (have hwq := trivial; repeat' (first | simp (maxSteps:=9999999)-implicitDefEqProofs only [go_sem,simprocAttr,hwq,FT3,FT4,FT5,FT9,FT22,FT23,FT82,FT84,FT91,List.length_map,List.getElem?_map,Int.natCast_nonneg,List.length_append,List.map_append,hin',s1,s2,s3,s4,gmL] | (refine condK_split ?_ ?_ <;> intro hwq) | (refine two_split ?_ ?_) | (refine guardK_split ?_ ?_ <;> intro hwq) | (refine guardE_split ?_ ?_ <;> intro hwq) | (refine awp_drawI 7 [] (List.range 19) [0, 1, 0, 0, 8, 28, 60, 124, 252, 0, 0, 1024, 3584, 7680, 15872, 32764, 65535, 0, 262143] (by decide +kernel) ?_; have hwq := trivial) | (refine awp_drawW [] (by decide +kernel) ?_; have hwq := trivial) | fail))
        refine ⟨k, _, by omega, Weak.trans (Weak.cutI 1 [0, 4, 5] (σ0 := [.rows 3 (L.map vcT ++ [[.s (.bool al), .s (.int .i64 f), .s (.slice none 0 0)]]) false]) ?_ ?_) (by rw [List.map_append, hMe]; exact Weak.nilLast), L ++ [⟨al, f, M⟩], a5, _, rfl, by simp; omega, by simp; omega, by rw [hdrop]; exact hd, by omega, ?_⟩
        · simp (maxSteps:=9999999)-implicitDefEqProofs only [simprocAttr,QH,Option.isSome,cond_true,cond_false,Option.bind,selB,V.rn,V.rns,Go.Ai.known,V.pz,V.pzs,T.toV,frz1,List.range,List.range.loop,ite_true,ite_false,if_true,if_false,ne_eq,implies_true,forall_const,eq_self,IntKind.bits,upd_tmsS,selT_cons,selT_nil,List.length_map,List.getElem?_map,Int.natCast_nonneg,List.length_append,List.map_append,List.length_cons,List.length_nil]
        · simp (maxSteps:=9999999)-implicitDefEqProofs only [simprocAttr,QH,Option.isSome,cond_true,cond_false,Option.bind,selB,V.rn,V.rns,Go.Ai.known,V.pz,V.pzs,T.toV,frz1,List.range,List.range.loop,ite_true,ite_false,if_true,if_false,ne_eq,implies_true,forall_const,eq_self,IntKind.bits,upd_tmsS,selT_cons,selT_nil,List.length_map,List.getElem?_map,Int.natCast_nonneg,List.length_append,List.map_append,List.map_cons,List.map_nil,tk]
        · intro x hx
          rcases List.mem_append.1 hx with h1 | h1
          · exact hL6 x h1
          · simp at h1; subst h1; simp only; omega
      · have tk : List.take M.length (List.map inT M) = List.map inT M := List.take_of_length_le (by simp)
        (have hwq := trivial; repeat' (first | simp (maxSteps:=9999999)-implicitDefEqProofs only [go_sem,simprocAttr,hwq,FT3,FT4,FT5,FT9,FT22,FT23,FT82,FT84,FT91,List.length_map,List.getElem?_map,Int.natCast_nonneg,List.length_append,List.map_append,hin',s1,s2,s3,s4,gmL] | (refine condK_split ?_ ?_ <;> intro hwq) | (refine two_split ?_ ?_) | (refine guardK_split ?_ ?_ <;> intro hwq) | (refine guardE_split ?_ ?_ <;> intro hwq) | (refine awp_drawI 7 [] (List.range 19) [0, 1, 0, 0, 8, 28, 60, 124, 252, 0, 0, 1024, 3584, 7680, 15872, 32764, 65535, 0, 262143] (by decide +kernel) ?_; have hwq := trivial) | (refine awp_drawW [] (by decide +kernel) ?_; have hwq := trivial) | fail))
        refine ⟨k, _, by omega, Weak.cutI 1 [0, 4, 5] ?_ ?_, L ++ [⟨al, f, M⟩], a5, _, rfl, by simp; omega, by simp; omega, by rw [hdrop]; exact hd, by omega, ?_⟩
        · simp (maxSteps:=9999999)-implicitDefEqProofs only [simprocAttr,QH,Option.isSome,cond_true,cond_false,Option.bind,selB,V.rn,V.rns,Go.Ai.known,V.pz,V.pzs,T.toV,frz1,List.range,List.range.loop,ite_true,ite_false,if_true,if_false,ne_eq,implies_true,forall_const,eq_self,IntKind.bits,upd_tmsS,selT_cons,selT_nil,List.length_map,List.getElem?_map,Int.natCast_nonneg,List.length_append,List.map_append,List.length_cons,List.length_nil]
        · simp (maxSteps:=9999999)-implicitDefEqProofs only [simprocAttr,QH,Option.isSome,cond_true,cond_false,Option.bind,selB,V.rn,V.rns,Go.Ai.known,V.pz,V.pzs,T.toV,frz1,List.range,List.range.loop,ite_true,ite_false,if_true,if_false,ne_eq,implies_true,forall_const,eq_self,IntKind.bits,upd_tmsS,selT_cons,selT_nil,List.length_map,List.getElem?_map,Int.natCast_nonneg,List.length_append,List.map_append,List.map_cons,List.map_nil,tk]
        · intro x hx
          rcases List.mem_append.1 hx with h1 | h1
          · exact hL6 x h1
          · simp at h1; subst h1; simp only; omega
  · (have hwq := trivial; repeat' (first | simp (maxSteps:=9999999)-implicitDefEqProofs only [go_sem,simprocAttr,hwq,FT3,FT4,FT5,FT9,FT22,FT23,FT82,FT84,FT91,List.length_map,List.getElem?_map,Int.natCast_nonneg,List.length_append,List.map_append,c0,wa0,wa1,wa2,wa3,wa4,i0,i1,i2,i3,g0,g1,g2,g3,p0,p1,p2,p3,p4,p5,p6,p7,p8,p8',p9,s1,s2,s3,s4,nh,nh2,c1',c2',c3'] | (refine condK_split ?_ ?_ <;> intro hwq) | (refine two_split ?_ ?_) | (refine guardK_split ?_ ?_ <;> intro hwq) | (refine guardE_split ?_ ?_ <;> intro hwq) | (refine awp_drawI 7 [] (List.range 19) [0, 1, 0, 0, 8, 28, 60, 124, 252, 0, 0, 1024, 3584, 7680, 15872, 32764, 65535, 0, 262143] (by decide +kernel) ?_; have hwq := trivial) | (refine awp_drawW [] (by decide +kernel) ?_; have hwq := trivial) | fail))
    refine awp_loopK (Di b L al f n a4 D) n _ (Weak.cutI 2 [0, 4, 5, 7, 8, 9] ?_ ?_) ⟨0, [], _, by omega, rfl, by simp, .inl ⟨rfl, rfl⟩⟩ ?_
    · simp (maxSteps:=9999999)-implicitDefEqProofs only [simprocAttr,QH,Option.isSome,cond_true,cond_false,Option.bind,selB,V.rn,V.rns,Go.Ai.known,V.pz,V.pzs,T.toV,frz1,List.range,List.range.loop,ite_true,ite_false,if_true,if_false,ne_eq,implies_true,forall_const,eq_self,IntKind.bits,upd_tmsS,selT_cons,selT_nil,List.length_map,List.getElem?_map,Int.natCast_nonneg,List.length_append,List.map_append]
    · simp (maxSteps:=9999999)-implicitDefEqProofs only [simprocAttr,QH,Option.isSome,cond_true,cond_false,Option.bind,selB,V.rn,V.rns,Go.Ai.known,V.pz,V.pzs,T.toV,frz1,List.range,List.range.loop,ite_true,ite_false,if_true,if_false,ne_eq,implies_true,forall_const,eq_self,IntKind.bits,upd_tmsS,selT_cons,selT_nil,List.length_map,List.getElem?_map,Int.natCast_nonneg,List.length_append,List.map_append]
    rintro kk2 S2 ⟨i, M, mv2, hi, rfl, hM, hS2⟩
    have hMl : M.length = i := by rw [hM, List.length_take]; omega
    by_cases hin : i < n
    · have hin' : (i : Int) < (n : Int) := by omega
      obtain ⟨d, hdd⟩ : ∃ d : Nat, i / 3 = d := ⟨_, rfl⟩
      obtain ⟨g, hg⟩ : ∃ g : Nat, a4 + d = g := ⟨_, rfl⟩
      have t1 : (i : Int).tdiv 3 = (d : Int) := by rw [Int.tdiv_eq_ediv_of_nonneg (by omega)]; omega
      have t2 : IntKind.i64.wrap (d : Int) = (d : Int) := wI64 _ (by omega) (by omega)
      have t3 : IntKind.i64.wrap ((a4 : Int) + (d : Int)) = (g : Int) := by rw [wI64 _ (by omega) (by omega)]; omega
      have wi : IntKind.i64.wrap ((i : Int) + 1) = (i : Int) + 1 := wI64 _ (by omega) (by omega)
      have hgl : (g : Int) < (b.length : Int) := by omega
      have hgx : b[g]? = some b[g] := List.getElem?_eq_getElem (by omega)
      obtain ⟨x, hx⟩ : ∃ x, b[g] = x := ⟨_, rfl⟩
      rw [hx] at hgx
      have hxb := hb x (mem_in hgx)
      have hrx : rs[d]? = some x := by
        rw [← hrs, List.getElem?_take_of_lt (by omega), ← hrd, List.getElem?_drop, hg, hgx]
      have x1 : IntKind.i64.wrap x = x := wI64 _ (by omega) (by omega)
      have gm : (M.length + 1) * 8 ≤ 140737488355328 := by omega
      have h3 : i % 3 = 0 ∨ i % 3 = 1 ∨ i % 3 = 2 := by omega
      rcases h3 with h3 | h3 | h3
      · have t4 : (i : Int).tmod 3 = 0 := by rw [Int.tmod_eq_emod_of_nonneg (by omega)]; omega
        obtain ⟨q, hq⟩ : ∃ q, x / 36 = q := ⟨_, rfl⟩
        obtain ⟨z, hzq⟩ : ∃ z, q % 6 = z := ⟨_, rfl⟩
        have x2 : x.tdiv 36 = q := by rw [Int.tdiv_eq_ediv_of_nonneg (by omega), hq]
        have x3 : IntKind.i64.wrap q = q := wI64 _ (by omega) (by omega)
        have x4 : q.tmod 6 = z := by rw [Int.tmod_eq_emod_of_nonneg (by omega), hzq]
        have x5 : IntKind.i64.wrap z = z := wI64 _ (by omega) (by omega)
        have hDi : D[i]? = some z := by
          rw [← hD, List.getElem?_take_of_lt hin]
          have e1 : i = 3 * d + 0 := by omega
          rw [e1, fm3 rs d 0 (by omega), hrx]
          show some (x / 36 % 6) = some z
          rw [hq, hzq]
        have hnx : M ++ [z] = D.take (i + 1) := by rw [take_in hDi, hM]
        rcases hS2 with ⟨hMe, rfl⟩ | ⟨hMe, rfl⟩
        · subst hMe
          (have hwq := trivial; repeat' (first | simp (maxSteps:=9999999)-implicitDefEqProofs only [go_sem,simprocAttr,hwq,FT3,FT4,FT5,FT9,FT22,FT23,FT82,FT84,FT91,List.length_map,List.getElem?_map,Int.natCast_nonneg,List.length_append,List.map_append,t1,t2,t3,t4,wi,hin',hgl,hgx,x1,x2,x3,x4,gm,x5] | (refine condK_split ?_ ?_ <;> intro hwq) | (refine two_split ?_ ?_) | (refine guardK_split ?_ ?_ <;> intro hwq) | (refine guardE_split ?_ ?_ <;> intro hwq) | (refine awp_drawI 7 [] (List.range 19) [0, 1, 0, 0, 8, 28, 60, 124, 252, 0, 0, 1024, 3584, 7680, 15872, 32764, 65535, 0, 262143] (by decide +kernel) ?_; have hwq := trivial) | (refine awp_drawW [] (by decide +kernel) ?_; have hwq := trivial) | fail))
          refine ⟨n - (i + 1), _, by omega, Weak.selI [0, 1, 3] [0, 4, 5, 7, 8, 9] (by decide) ?_ ?_, i + 1, _, _, by omega, rfl, hnx, .inr ⟨by simp, rfl⟩⟩
          · simp (maxSteps:=9999999)-implicitDefEqProofs only [simprocAttr,QH,Option.isSome,cond_true,cond_false,Option.bind,selB,V.rn,V.rns,Go.Ai.known,V.pz,V.pzs,T.toV,frz1,List.range,List.range.loop,ite_true,ite_false,if_true,if_false,ne_eq,implies_true,forall_const,eq_self,IntKind.bits,upd_tmsS,selT_cons,selT_nil,List.length_map,List.getElem?_map,Int.natCast_nonneg,List.length_append,List.map_append,selF_cons,selF_nil]
          · simp (maxSteps:=9999999)-implicitDefEqProofs only [simprocAttr,QH,Option.isSome,cond_true,cond_false,Option.bind,selB,V.rn,V.rns,Go.Ai.known,V.pz,V.pzs,T.toV,frz1,List.range,List.range.loop,ite_true,ite_false,if_true,if_false,ne_eq,implies_true,forall_const,eq_self,IntKind.bits,upd_tmsS,selT_cons,selT_nil,List.length_map,List.getElem?_map,Int.natCast_nonneg,List.length_append,List.map_append,List.map_cons,List.map_nil,List.nil_append]
        · (have hwq := trivial; repeat' (first | simp (maxSteps:=9999999)-implicitDefEqProofs only [go_sem,simprocAttr,hwq,FT3,FT4,FT5,FT9,FT22,FT23,FT82,FT84,FT91,List.length_map,List.getElem?_map,Int.natCast_nonneg,List.length_append,List.map_append,t1,t2,t3,t4,wi,hin',hgl,hgx,x1,x2,x3,x4,gm,x5] | (refine condK_split ?_ ?_ <;> intro hwq) | (refine two_split ?_ ?_) | (refine guardK_split ?_ ?_ <;> intro hwq) | (refine guardE_split ?_ ?_ <;> intro hwq) | (refine awp_drawI 7 [] (List.range 19) [0, 1, 0, 0, 8, 28, 60, 124, 252, 0, 0, 1024, 3584, 7680, 15872, 32764, 65535, 0, 262143] (by decide +kernel) ?_; have hwq := trivial) | (refine awp_drawW [] (by decide +kernel) ?_; have hwq := trivial) | fail))
          refine ⟨n - (i + 1), _, by omega, Weak.cutI 3 [0, 4, 5, 7, 8, 9] ?_ ?_, i + 1, _, _, by omega, rfl, hnx, .inr ⟨by simp, rfl⟩⟩
          · simp (maxSteps:=9999999)-implicitDefEqProofs only [simprocAttr,QH,Option.isSome,cond_true,cond_false,Option.bind,selB,V.rn,V.rns,Go.Ai.known,V.pz,V.pzs,T.toV,frz1,List.range,List.range.loop,ite_true,ite_false,if_true,if_false,ne_eq,implies_true,forall_const,eq_self,IntKind.bits,upd_tmsS,selT_cons,selT_nil,List.length_map,List.getElem?_map,Int.natCast_nonneg,List.length_append,List.map_append]
          · simp (maxSteps:=9999999)-implicitDefEqProofs only [simprocAttr,QH,Option.isSome,cond_true,cond_false,Option.bind,selB,V.rn,V.rns,Go.Ai.known,V.pz,V.pzs,T.toV,frz1,List.range,List.range.loop,ite_true,ite_false,if_true,if_false,ne_eq,implies_true,forall_const,eq_self,IntKind.bits,upd_tmsS,selT_cons,selT_nil,List.length_map,List.getElem?_map,Int.natCast_nonneg,List.length_append,List.map_append,List.map_cons,List.map_nil]
      · have t4 : (i : Int).tmod 3 = 1 := by rw [Int.tmod_eq_emod_of_nonneg (by omega)]; omega
        obtain ⟨q, hq⟩ : ∃ q, x / 6 = q := ⟨_, rfl⟩
        obtain ⟨z, hzq⟩ : ∃ z, q % 6 = z := ⟨_, rfl⟩
        have x2 : x.tdiv 6 = q := by rw [Int.tdiv_eq_ediv_of_nonneg (by omega), hq]
        have x3 : IntKind.i64.wrap q = q := wI64 _ (by omega) (by omega)
        have x4 : q.tmod 6 = z := by rw [Int.tmod_eq_emod_of_nonneg (by omega), hzq]
        have x5 : IntKind.i64.wrap z = z := wI64 _ (by omega) (by omega)
        have hDi : D[i]? = some z := by
          rw [← hD, List.getElem?_take_of_lt hin]
          have e1 : i = 3 * d + 1 := by omega
          rw [e1, fm3 rs d 1 (by omega), hrx]
          show some (x / 6 % 6) = some z
          rw [hq, hzq]
        have hnx : M ++ [z] = D.take (i + 1) := by rw [take_in hDi, hM]
        rcases hS2 with ⟨hMe, rfl⟩ | ⟨hMe, rfl⟩
        · subst hMe
          (have hwq := trivial; repeat' (first | simp (maxSteps:=9999999)-implicitDefEqProofs only [go_sem,simprocAttr,hwq,FT3,FT4,FT5,FT9,FT22,FT23,FT82,FT84,FT91,List.length_map,List.getElem?_map,Int.natCast_nonneg,List.length_append,List.map_append,t1,t2,t3,t4,wi,hin',hgl,hgx,x1,x2,x3,x4,gm,x5] | (refine condK_split ?_ ?_ <;> intro hwq) | (refine two_split ?_ ?_) | (refine guardK_split ?_ ?_ <;> intro hwq) | (refine guardE_split ?_ ?_ <;> intro hwq) | (refine awp_drawI 7 [] (List.range 19) [0, 1, 0, 0, 8, 28, 60, 124, 252, 0, 0, 1024, 3584, 7680, 15872, 32764, 65535, 0, 262143] (by decide +kernel) ?_; have hwq := trivial) | (refine awp_drawW [] (by decide +kernel) ?_; have hwq := trivial) | fail))
          refine ⟨n - (i + 1), _, by omega, Weak.selI [0, 1, 3] [0, 4, 5, 7, 8, 9] (by decide) ?_ ?_, i + 1, _, _, by omega, rfl, hnx, .inr ⟨by simp, rfl⟩⟩
          · simp (maxSteps:=9999999)-implicitDefEqProofs only [simprocAttr,QH,Option.isSome,cond_true,cond_false,Option.bind,selB,V.rn,V.rns,Go.Ai.known,V.pz,V.pzs,T.toV,frz1,List.range,List.range.loop,ite_true,ite_false,if_true,if_false,ne_eq,implies_true,forall_const,eq_self,IntKind.bits,upd_tmsS,selT_cons,selT_nil,List.length_map,List.getElem?_map,Int.natCast_nonneg,List.length_append,List.map_append,selF_cons,selF_nil]
          · simp (maxSteps:=9999999)-implicitDefEqProofs only [simprocAttr,QH,Option.isSome,cond_true,cond_false,Option.bind,selB,V.rn,V.rns,Go.Ai.known,V.pz,V.pzs,T.toV,frz1,List.range,List.range.loop,ite_true,ite_false,if_true,if_false,ne_eq,implies_true,forall_const,eq_self,IntKind.bits,upd_tmsS,selT_cons,selT_nil,List.length_map,List.getElem?_map,Int.natCast_nonneg,List.length_append,List.map_append,List.map_cons,List.map_nil,List.nil_append]
        · (have hwq := trivial; repeat' (first | simp (maxSteps:=9999999)-implicitDefEqProofs only [go_sem,simprocAttr,hwq,FT3,FT4,FT5,FT9,FT22,FT23,FT82,FT84,FT91,List.length_map,List.getElem?_map,Int.natCast_nonneg,List.length_append,List.map_append,t1,t2,t3,t4,wi,hin',hgl,hgx,x1,x2,x3,x4,gm,x5] | (refine condK_split ?_ ?_ <;> intro hwq) | (refine two_split ?_ ?_) | (refine guardK_split ?_ ?_ <;> intro hwq) | (refine guardE_split ?_ ?_ <;> intro hwq) | (refine awp_drawI 7 [] (List.range 19) [0, 1, 0, 0, 8, 28, 60, 124, 252, 0, 0, 1024, 3584, 7680, 15872, 32764, 65535, 0, 262143] (by decide +kernel) ?_; have hwq := trivial) | (refine awp_drawW [] (by decide +kernel) ?_; have hwq := trivial) | fail))
          refine ⟨n - (i + 1), _, by omega, Weak.cutI 3 [0, 4, 5, 7, 8, 9] ?_ ?_, i + 1, _, _, by omega, rfl, hnx, .inr ⟨by simp, rfl⟩⟩
          · simp (maxSteps:=9999999)-implicitDefEqProofs only [simprocAttr,QH,Option.isSome,cond_true,cond_false,Option.bind,selB,V.rn,V.rns,Go.Ai.known,V.pz,V.pzs,T.toV,frz1,List.range,List.range.loop,ite_true,ite_false,if_true,if_false,ne_eq,implies_true,forall_const,eq_self,IntKind.bits,upd_tmsS,selT_cons,selT_nil,List.length_map,List.getElem?_map,Int.natCast_nonneg,List.length_append,List.map_append]
          · simp (maxSteps:=9999999)-implicitDefEqProofs only [simprocAttr,QH,Option.isSome,cond_true,cond_false,Option.bind,selB,V.rn,V.rns,Go.Ai.known,V.pz,V.pzs,T.toV,frz1,List.range,List.range.loop,ite_true,ite_false,if_true,if_false,ne_eq,implies_true,forall_const,eq_self,IntKind.bits,upd_tmsS,selT_cons,selT_nil,List.length_map,List.getElem?_map,Int.natCast_nonneg,List.length_append,List.map_append,List.map_cons,List.map_nil]
      · have t4 : (i : Int).tmod 3 = 2 := by rw [Int.tmod_eq_emod_of_nonneg (by omega)]; omega
        obtain ⟨q, hq⟩ : ∃ q, x = q := ⟨_, rfl⟩
        obtain ⟨z, hzq⟩ : ∃ z, q % 6 = z := ⟨_, rfl⟩
        have x2 : True := trivial
        have x3 : True := trivial
        subst hq
        have x4 : x.tmod 6 = z := by rw [Int.tmod_eq_emod_of_nonneg (by omega), hzq]
        have x5 : IntKind.i64.wrap z = z := wI64 _ (by omega) (by omega)
        have hDi : D[i]? = some z := by
          rw [← hD, List.getElem?_take_of_lt hin]
          have e1 : i = 3 * d + 2 := by omega
          rw [e1, fm3 rs d 2 (by omega), hrx]
          show some (x % 6) = some z
          rw [hzq]
        have hnx : M ++ [z] = D.take (i + 1) := by rw [take_in hDi, hM]
        rcases hS2 with ⟨hMe, rfl⟩ | ⟨hMe, rfl⟩
        · subst hMe
          (have hwq := trivial; repeat' (first | simp (maxSteps:=9999999)-implicitDefEqProofs only [go_sem,simprocAttr,hwq,FT3,FT4,FT5,FT9,FT22,FT23,FT82,FT84,FT91,List.length_map,List.getElem?_map,Int.natCast_nonneg,List.length_append,List.map_append,t1,t2,t3,t4,wi,hin',hgl,hgx,x1,x2,x3,x4,gm,x5] | (refine condK_split ?_ ?_ <;> intro hwq) | (refine two_split ?_ ?_) | (refine guardK_split ?_ ?_ <;> intro hwq) | (refine guardE_split ?_ ?_ <;> intro hwq) | (refine awp_drawI 7 [] (List.range 19) [0, 1, 0, 0, 8, 28, 60, 124, 252, 0, 0, 1024, 3584, 7680, 15872, 32764, 65535, 0, 262143] (by decide +kernel) ?_; have hwq := trivial) | (refine awp_drawW [] (by decide +kernel) ?_; have hwq := trivial) | fail))
          refine ⟨n - (i + 1), _, by omega, Weak.selI [0, 1, 3] [0, 4, 5, 7, 8, 9] (by decide) ?_ ?_, i + 1, _, _, by omega, rfl, hnx, .inr ⟨by simp, rfl⟩⟩
          · simp (maxSteps:=9999999)-implicitDefEqProofs only [simprocAttr,QH,Option.isSome,cond_true,cond_false,Option.bind,selB,V.rn,V.rns,Go.Ai.known,V.pz,V.pzs,T.toV,frz1,List.range,List.range.loop,ite_true,ite_false,if_true,if_false,ne_eq,implies_true,forall_const,eq_self,IntKind.bits,upd_tmsS,selT_cons,selT_nil,List.length_map,List.getElem?_map,Int.natCast_nonneg,List.length_append,List.map_append,selF_cons,selF_nil]
          · simp (maxSteps:=9999999)-implicitDefEqProofs only [simprocAttr,QH,Option.isSome,cond_true,cond_false,Option.bind,selB,V.rn,V.rns,Go.Ai.known,V.pz,V.pzs,T.toV,frz1,List.range,List.range.loop,ite_true,ite_false,if_true,if_false,ne_eq,implies_true,forall_const,eq_self,IntKind.bits,upd_tmsS,selT_cons,selT_nil,List.length_map,List.getElem?_map,Int.natCast_nonneg,List.length_append,List.map_append,List.map_cons,List.map_nil,List.nil_append]
        · (have hwq := trivial; repeat' (first | simp (maxSteps:=9999999)-implicitDefEqProofs only [go_sem,simprocAttr,hwq,FT3,FT4,FT5,FT9,FT22,FT23,FT82,FT84,FT91,List.length_map,List.getElem?_map,Int.natCast_nonneg,List.length_append,List.map_append,t1,t2,t3,t4,wi,hin',hgl,hgx,x1,x2,x3,x4,gm,x5] | (refine condK_split ?_ ?_ <;> intro hwq) | (refine two_split ?_ ?_) | (refine guardK_split ?_ ?_ <;> intro hwq) | (refine guardE_split ?_ ?_ <;> intro hwq) | (refine awp_drawI 7 [] (List.range 19) [0, 1, 0, 0, 8, 28, 60, 124, 252, 0, 0, 1024, 3584, 7680, 15872, 32764, 65535, 0, 262143] (by decide +kernel) ?_; have hwq := trivial) | (refine awp_drawW [] (by decide +kernel) ?_; have hwq := trivial) | fail))
          refine ⟨n - (i + 1), _, by omega, Weak.cutI 3 [0, 4, 5, 7, 8, 9] ?_ ?_, i + 1, _, _, by omega, rfl, hnx, .inr ⟨by simp, rfl⟩⟩
          · simp (maxSteps:=9999999)-implicitDefEqProofs only [simprocAttr,QH,Option.isSome,cond_true,cond_false,Option.bind,selB,V.rn,V.rns,Go.Ai.known,V.pz,V.pzs,T.toV,frz1,List.range,List.range.loop,ite_true,ite_false,if_true,if_false,ne_eq,implies_true,forall_const,eq_self,IntKind.bits,upd_tmsS,selT_cons,selT_nil,List.length_map,List.getElem?_map,Int.natCast_nonneg,List.length_append,List.map_append]
          · simp (maxSteps:=9999999)-implicitDefEqProofs only [simprocAttr,QH,Option.isSome,cond_true,cond_false,Option.bind,selB,V.rn,V.rns,Go.Ai.known,V.pz,V.pzs,T.toV,frz1,List.range,List.range.loop,ite_true,ite_false,if_true,if_false,ne_eq,implies_true,forall_const,eq_self,IntKind.bits,upd_tmsS,selT_cons,selT_nil,List.length_map,List.getElem?_map,Int.natCast_nonneg,List.length_append,List.map_append,List.map_cons,List.map_nil]
    · have hin' : ¬ (i : Int) < (n : Int) := by omega
      obtain rfl : i = n := by omega
      rw [List.take_of_length_le (by omega)] at hM
      subst hM
      rcases hS2 with ⟨hMe, rfl⟩ | ⟨hMe, rfl⟩
      · have tk : List.take M.length (List.map inT M) = List.map inT M := List.take_of_length_le (by simp)
        (have hwq := trivial; repeat' (first | simp (maxSteps:=9999999)-implicitDefEqProofs only [go_sem,simprocAttr,hwq,FT3,FT4,FT5,FT9,FT22,FT23,FT82,FT84,FT91,List.length_map,List.getElem?_map,Int.natCast_nonneg,List.length_append,List.map_append,hin',s1,s2,s3,s4,gmL] | (refine condK_split ?_ ?_ <;> intro hwq) | (refine two_split ?_ ?_) | (refine guardK_split ?_ ?_ <;> intro hwq) | (refine guardE_split ?_ ?_ <;> intro hwq) | (refine awp_drawI 7 [] (List.range 19) [0, 1, 0, 0, 8, 28, 60, 124, 252, 0, 0, 1024, 3584, 7680, 15872, 32764, 65535, 0, 262143] (by decide +kernel) ?_; have hwq := trivial) | (refine awp_drawW [] (by decide +kernel) ?_; have hwq := trivial) | fail))
        refine ⟨k, _, by omega, Weak.trans (Weak.cutI 1 [0, 4, 5] (σ0 := [.rows 3 (L.map vcT ++ [[.s (.bool al), .s (.int .i64 f), .s (.slice none 0 0)]]) false]) ?_ ?_) (by rw [List.map_append, hMe]; exact Weak.nilLast), L ++ [⟨al, f, M⟩], a5, _, rfl, by simp; omega, by simp; omega, by rw [hdrop]; exact hd, by omega, ?_⟩
        · simp (maxSteps:=9999999)-implicitDefEqProofs only [simprocAttr,QH,Option.isSome,cond_true,cond_false,Option.bind,selB,V.rn,V.rns,Go.Ai.known,V.pz,V.pzs,T.toV,frz1,List.range,List.range.loop,ite_true,ite_false,if_true,if_false,ne_eq,implies_true,forall_const,eq_self,IntKind.bits,upd_tmsS,selT_cons,selT_nil,List.length_map,List.getElem?_map,Int.natCast_nonneg,List.length_append,List.map_append,List.length_cons,List.length_nil]
        · simp (maxSteps:=9999999)-implicitDefEqProofs only [simprocAttr,QH,Option.isSome,cond_true,cond_false,Option.bind,selB,V.rn,V.rns,Go.Ai.known,V.pz,V.pzs,T.toV,frz1,List.range,List.range.loop,ite_true,ite_false,if_true,if_false,ne_eq,implies_true,forall_const,eq_self,IntKind.bits,upd_tmsS,selT_cons,selT_nil,List.length_map,List.getElem?_map,Int.natCast_nonneg,List.length_append,List.map_append,List.map_cons,List.map_nil,tk]
        · intro x hx
          rcases List.mem_append.1 hx with h1 | h1
          · exact hL6 x h1
          · simp at h1; subst h1; simp only; omega
      · have tk : List.take M.length (List.map inT M) = List.map inT M := List.take_of_length_le (by simp)
        (have hwq := trivial; repeat' (first | simp (maxSteps:=9999999)-implicitDefEqProofs only [go_sem,simprocAttr,hwq,FT3,FT4,FT5,FT9,FT22,FT23,FT82,FT84,FT91,List.length_map,List.getElem?_map,Int.natCast_nonneg,List.length_append,List.map_append,hin',s1,s2,s3,s4,gmL] | (refine condK_split ?_ ?_ <;> intro hwq) | (refine two_split ?_ ?_) | (refine guardK_split ?_ ?_ <;> intro hwq) | (refine guardE_split ?_ ?_ <;> intro hwq) | (refine awp_drawI 7 [] (List.range 19) [0, 1, 0, 0, 8, 28, 60, 124, 252, 0, 0, 1024, 3584, 7680, 15872, 32764, 65535, 0, 262143] (by decide +kernel) ?_; have hwq := trivial) | (refine awp_drawW [] (by decide +kernel) ?_; have hwq := trivial) | fail))
        refine ⟨k, _, by omega, Weak.cutI 1 [0, 4, 5] ?_ ?_, L ++ [⟨al, f, M⟩], a5, _, rfl, by simp; omega, by simp; omega, by rw [hdrop]; exact hd, by omega, ?_⟩
        · simp (maxSteps:=9999999)-implicitDefEqProofs only [simprocAttr,QH,Option.isSome,cond_true,cond_false,Option.bind,selB,V.rn,V.rns,Go.Ai.known,V.pz,V.pzs,T.toV,frz1,List.range,List.range.loop,ite_true,ite_false,if_true,if_false,ne_eq,implies_true,forall_const,eq_self,IntKind.bits,upd_tmsS,selT_cons,selT_nil,List.length_map,List.getElem?_map,Int.natCast_nonneg,List.length_append,List.map_append,List.length_cons,List.length_nil]
        · simp (maxSteps:=9999999)-implicitDefEqProofs only [simprocAttr,QH,Option.isSome,cond_true,cond_false,Option.bind,selB,V.rn,V.rns,Go.Ai.known,V.pz,V.pzs,T.toV,frz1,List.range,List.range.loop,ite_true,ite_false,if_true,if_false,ne_eq,implies_true,forall_const,eq_self,IntKind.bits,upd_tmsS,selT_cons,selT_nil,List.length_map,List.getElem?_map,Int.natCast_nonneg,List.length_append,List.map_append,List.map_cons,List.map_nil,tk]
        · intro x hx
          rcases List.mem_append.1 hx with h1 | h1
          · exact hL6 x h1
          · simp at h1; subst h1; simp only; omega
end Go.Ai

set_option linter.unusedVariables false
set_option linter.unusedSimpArgs false
set_option maxHeartbeats 4000000
set_option maxRecDepth 100000
namespace Go.Ai
open Go.Proofs
attribute [local go_sem] QH QR V.noimm V.noimms frzZs frzZ frzA frzV frzVs frzBox boxLen Option.isSome cond_true cond_false aopD calW flatV stepX amap stepY alookup afind aupdate adelete amlen arange ameq mapOf akeq pl V.mapT V.mapTs Option.bind stepK runK guardD stepE runD callD compact selB callK evS ofVal ofVals scalar aop ares mkRes V.rn V.rns V.cells? cellsAt Go.Ai.part aload astore setL V.atom abin aun intBin shiftBin aconv fieldOf aindexAddr aindex bound? aslice aarr abuild afill alen nilP nilS nilF aeq eqCells eqCell Go.Ai.known strBin abuiltin aappend abuildSlice arowsFill amakeSlice acopy aclear minmax rowsOf numsT notStr isIntD isByte V.pz V.pzs T.toV frz1 frz scalT scalTs chunkT List.range List.range.loop ite_true ite_false if_true if_false ne_eq implies_true forall_const eq_self IntKind.bits kPostKF_ret kPostKF_normal kPostX_ret kPostX_normal bsl nil2K nil2 kPostFW_ret kPostFW_normal kPostKM_ret kPostKM_normal kPostXK_ret kPostXK_normal
/-- A party, and one VLAN that is known. -/
abbrev hP (lv al ck : Int) (es : List (V × V × Nat)) (c : Nat) : List Blk := [.box [vI lv, vI al, .mref 1, vI ck] false, .mp es c]
abbrev eV (v a r t : Int) (b : Nat) : V × V × Nat := (vI v, .agg [vI a, vI r, vI t], b)
theorem lk3 : leafK Try.prog 20 3 = some [.i] := by simp [leafK, leafKs, tiles, List.replicate, u3, c3, h3]
theorem mn55 (lv al ck : Int) (es : List (V × V × Nat)) (c : Nat) (he : flatE es = true) : AC Try.prog 55 [.ptr 0 0 0] (hP lv al ck es c) (eqS (vB false) (hP lv al ck es c)) := by
  have hr := rn_mp he
  refine AC_heap orders [0, 1] Try.func55 rfl (by kernel_rfl) (by kernel_rfl) Try.ntmps55 (by simp) ?_
  unfold Try.f55
  (have hwq := trivial; repeat' (first | simp (maxSteps:=9999999)-implicitDefEqProofs only [go_sem,simprocAttr,hwq,u3,a3,c3,b3,z3,k3,u4,a4,c4,b4,z4,k4,u39,a39,c39,b39,z39,k39,l39,u41,a41,c41,b41,z41,k41,u77,a77,c77,b77,z77,k77,u79,a79,c79,b79,z79,k79,u96,a96,c96,b96,z96,k96,u100,a100,c100,b100,z100,k100,u105,a105,c105,b105,z105,k105,l105,hr] | (refine awpL_loop 18 ?_; have hwq := trivial) | (refine condK_split ?_ ?_ <;> intro hwq) | (refine two_split ?_ ?_) | (refine guardK_split ?_ ?_ <;> intro hwq) | (refine guardE_split ?_ ?_ <;> intro hwq) | (refine awp_drawW [] (by decide +kernel) ?_; have hwq := trivial) | fail))
theorem mn17 (lv al : Int) (h1 : 1 ≤ lv) (h2 : lv ≤ 100) (h3 : 2 ≤ al) (h4 : al ≤ 1000) : AC Try.prog 17 [.agg [vI lv, vI al]] [] (eqS (.tuple [.ptr 0 0 0, vI 0]) (hP lv al al [] 0)) := by
  have g1 : ¬ lv < 1 := by omega
  have g2 : ¬ 100 < lv := by omega
  have g3 : ¬ al < 2 := by omega
  have g4 : ¬ 1000 < al := by omega
  refine AC_heap orders [2, 1] Try.func17 rfl (by kernel_rfl) (by kernel_rfl) Try.ntmps17 (by simp) ?_
  unfold Try.f17
  (have hwq := trivial; repeat' (first | simp (maxSteps:=9999999)-implicitDefEqProofs only [go_sem,simprocAttr,hwq,u3,a3,c3,b3,z3,k3,u26,a26,c26,b26,z26,k26,u39,a39,c39,b39,z39,k39,l39,u41,a41,c41,b41,z41,k41,u77,a77,c77,b77,z77,k77,u79,a79,c79,b79,z79,k79,u96,a96,c96,b96,z96,k96,u100,a100,c100,b100,z100,k100,u105,a105,c105,b105,z105,k105,l105,rn_mp,flatE,g1,g2,g3,g4] | (refine awpL_loop 18 ?_; have hwq := trivial) | (refine condK_split ?_ ?_ <;> intro hwq) | (refine two_split ?_ ?_) | (refine guardK_split ?_ ?_ <;> intro hwq) | (refine guardE_split ?_ ?_ <;> intro hwq) | (refine awp_drawW [] (by decide +kernel) ?_; have hwq := trivial) | fail))
  all_goals trace_state
theorem mn51 (lv al ck : Int) (es : List (V × V × Nat)) (c : Nat) (he : flatE es = true) (v : Int) (hv : 1 ≤ v) (hv2 : v ≤ 4094) : AC Try.prog 51 [.ptr 0 0 0, vI v] (hP lv al ck es c) (eqS (vI 0) (hP lv al ck es c)) := by
  have hr := rn_mp he
  have hm := mapT_mp he
  have g1 : ¬ v < 1 := by omega
  have g2 : ¬ 4094 < v := by omega
  have h := mn55 lv al ck es c he
  refine AC_heap orders [0, 1] Try.func51 rfl (by kernel_rfl) (by kernel_rfl) Try.ntmps51 (by simp) ?_
  unfold Try.f51
  (have hwq := trivial; repeat' (first | simp (maxSteps:=9999999)-implicitDefEqProofs only [go_sem,simprocAttr,hwq,u3,a3,c3,b3,z3,k3,u26,a26,c26,b26,z26,k26,u39,a39,c39,b39,z39,k39,l39,u41,a41,c41,b41,z41,k41,u77,a77,c77,b77,z77,k77,u79,a79,c79,b79,z79,k79,u96,a96,c96,b96,z96,k96,u100,a100,c100,b100,z100,k100,u105,a105,c105,b105,z105,k105,l105,hr,hm,g1,g2] | (refine awpL_loop 18 ?_; have hwq := trivial) | (refine condK_split ?_ ?_ <;> intro hwq) | (refine two_split ?_ ?_) | (refine guardK_split ?_ ?_ <;> intro hwq) | (refine guardE_split ?_ ?_ <;> intro hwq) | (refine awp_drawW [] (by decide +kernel) ?_; have hwq := trivial) | (refine call_at [0, 1] h (by simp) (by decide) rfl rfl ?_ (V.les_refl _) ?_; (· simp [mapT_mp, hm, mapT_box, V.mapTs, V.mapT, pl]; done); have hwq := trivial) | fail))
  all_goals trace_state
theorem mn52a (lv al ck v : Int) (c : Nat) : AC Try.prog 52 [.ptr 0 0 0, vI v] (hP lv al ck [] c) (eqS (vB true) (hP lv al ck [eV v 0 0 0 c] (c + 1))) := by
  refine AC_heap orders [0, 1] Try.func52 rfl (by kernel_rfl) (by kernel_rfl) Try.ntmps52 (by simp) ?_
  unfold Try.f52
  (have hwq := trivial; repeat' (first | simp (maxSteps:=9999999)-implicitDefEqProofs only [go_sem,simprocAttr,hwq,u3,a3,c3,b3,z3,k3,u4,a4,c4,b4,z4,k4,u39,a39,c39,b39,z39,k39,l39,u41,a41,c41,b41,z41,k41,u77,a77,c77,b77,z77,k77,u79,a79,c79,b79,z79,k79,u96,a96,c96,b96,z96,k96,u100,a100,c100,b100,z100,k100,u105,a105,c105,b105,z105,k105,l105,rn_mp,mapT_mp,pz_mp,flatE,flatS,lk3] | (refine awpL_loop 18 ?_; have hwq := trivial) | (refine condK_split ?_ ?_ <;> intro hwq) | (refine two_split ?_ ?_) | (refine guardK_split ?_ ?_ <;> intro hwq) | (refine guardE_split ?_ ?_ <;> intro hwq) | (refine awp_drawW [] (by decide +kernel) ?_; have hwq := trivial) | fail))
  all_goals trace_state
theorem mn53 (lv al ck v a r t e a' s r' : Int) (n c : Nat) (h49 : AC Try.prog 49 [vI a, vI e, vI r] [] (eqR (.tuple [vI a', vI s]))) (h50 : AC Try.prog 50 [vI r, vI e] [] (eqR (vI r'))) :
    AC Try.prog 53 [.ptr 0 0 0, vI v, vI e] (hP lv al ck [eV v a r t n] c) (eqS (vI s) (hP lv al ck [eV v a' r' (if r' == 1 && r != 1 then lv else t) n] c)) := by
  refine AC_heap orders [0, 1] Try.func53 rfl (by kernel_rfl) (by kernel_rfl) Try.ntmps53 (by simp) ?_
  unfold Try.f53
  (have hwq := trivial; repeat' (first | simp (maxSteps:=9999999)-implicitDefEqProofs only [go_sem,simprocAttr,hwq,u3,a3,c3,b3,z3,k3,u39,a39,c39,b39,z39,k39,l39,u41,a41,c41,b41,z41,k41,u77,a77,c77,b77,z77,k77,u79,a79,c79,b79,z79,k79,u91,a91,c91,b91,z91,k91,u96,a96,c96,b96,z96,k96,u99,a99,c99,b99,z99,k99,u100,a100,c100,b100,z100,k100,u105,a105,c105,b105,z105,k105,l105,rn_mp,mapT_mp,pz_mp,flatE,flatS,lk3] | (refine awpL_loop 18 ?_; have hwq := trivial) | (refine condK_split ?_ ?_ <;> intro hwq) | (refine two_split ?_ ?_) | (refine guardK_split ?_ ?_ <;> intro hwq) | (refine guardE_split ?_ ?_ <;> intro hwq) | (refine awp_drawW [] (by decide +kernel) ?_; have hwq := trivial) | (refine call_plain h49 rfl rfl ?_; have hwq := trivial) | (refine call_plain h50 rfl rfl ?_; have hwq := trivial) | fail))
  all_goals trace_state
end Go.Ai

set_option linter.unusedVariables false
set_option linter.unusedSimpArgs false
set_option maxHeartbeats 4000000
set_option maxRecDepth 100000
namespace Go.Ai
open Go.Proofs
attribute [local go_sem] QH QR V.noimm V.noimms frzZs frzZ frzA frzV frzVs frzBox boxLen Option.isSome cond_true cond_false aopD calW flatV stepX amap stepY alookup afind aupdate adelete amlen arange ameq mapOf akeq pl V.mapT V.mapTs Option.bind stepK runK guardD stepE runD callD compact selB callK evS ofVal ofVals scalar aop ares mkRes V.rn V.rns V.cells? cellsAt Go.Ai.part aload astore setL V.atom abin aun intBin shiftBin aconv fieldOf aindexAddr aindex bound? aslice aarr abuild afill alen nilP nilS nilF aeq eqCells eqCell Go.Ai.known strBin abuiltin aappend abuildSlice arowsFill amakeSlice acopy aclear minmax rowsOf numsT notStr isIntD isByte V.pz V.pzs T.toV frz1 frz scalT scalTs chunkT List.range List.range.loop ite_true ite_false if_true if_false ne_eq implies_true forall_const eq_self IntKind.bits kPostKF_ret kPostKF_normal kPostX_ret kPostX_normal bsl nil2K nil2 kPostFW_ret kPostFW_normal kPostKM_ret kPostKM_normal kPostXK_ret kPostXK_normal
theorem mh71 : AC Try.prog 71 [vI 0, vI 2] [] (eqR (vI 1)) := by
  refine AC_plain orders Try.func71 rfl (by kernel_rfl) (by kernel_rfl) Try.ntmps71 (by simp) ?_
  unfold Try.f71
  (have hwq := trivial; repeat' (first | simp (maxSteps:=9999999)-implicitDefEqProofs only [go_sem,simprocAttr,hwq,u96,a96,c96,b96,z96,k96,u99,a99,c99,b99,z99,k99] | (refine awpL_loop 18 ?_; have hwq := trivial) | (refine condK_split ?_ ?_ <;> intro hwq) | (refine two_split ?_ ?_) | (refine guardK_split ?_ ?_ <;> intro hwq) | (refine guardE_split ?_ ?_ <;> intro hwq) | (refine awp_drawW [] (by decide +kernel) ?_; have hwq := trivial) | fail))
theorem mh80 : AC Try.prog 80 [vI 0] [] (eqR (vI 3)) := by
  refine AC_plain orders Try.func80 rfl (by kernel_rfl) (by kernel_rfl) Try.ntmps80 (by simp) ?_
  unfold Try.f80
  (have hwq := trivial; repeat' (first | simp (maxSteps:=9999999)-implicitDefEqProofs only [go_sem,simprocAttr,hwq,u91,a91,c91,b91,z91,k91,u100,a100,c100,b100,z100,k100] | (refine awpL_loop 18 ?_; have hwq := trivial) | (refine condK_split ?_ ?_ <;> intro hwq) | (refine two_split ?_ ?_) | (refine guardK_split ?_ ?_ <;> intro hwq) | (refine guardE_split ?_ ?_ <;> intro hwq) | (refine awp_drawW [] (by decide +kernel) ?_; have hwq := trivial) | fail))
theorem mh72 : AC Try.prog 72 [vI 1, vI 0] [] (eqR (.tuple [vI 4, vI 3])) := by
  refine AC_plain orders Try.func72 rfl (by kernel_rfl) (by kernel_rfl) Try.ntmps72 (by simp) ?_
  unfold Try.f72
  (have hwq := trivial; repeat' (first | simp (maxSteps:=9999999)-implicitDefEqProofs only [go_sem,simprocAttr,hwq,u91,a91,c91,b91,z91,k91,u96,a96,c96,b96,z96,k96,u100,a100,c100,b100,z100,k100] | (refine awpL_loop 18 ?_; have hwq := trivial) | (refine condK_split ?_ ?_ <;> intro hwq) | (refine two_split ?_ ?_) | (refine guardK_split ?_ ?_ <;> intro hwq) | (refine guardE_split ?_ ?_ <;> intro hwq) | (refine awp_drawW [] (by decide +kernel) ?_; have hwq := trivial) | (refine call_plain mh80 rfl rfl ?_; have hwq := trivial) | fail))
theorem mh83 : AC Try.prog 83 [vI 0] [] (eqR (vI 0)) := by
  refine AC_plain orders Try.func83 rfl (by kernel_rfl) (by kernel_rfl) Try.ntmps83 (by simp) ?_
  unfold Try.f83
  (have hwq := trivial; repeat' (first | simp (maxSteps:=9999999)-implicitDefEqProofs only [go_sem,simprocAttr,hwq,u96,a96,c96,b96,z96,k96] | (refine awpL_loop 18 ?_; have hwq := trivial) | (refine condK_split ?_ ?_ <;> intro hwq) | (refine two_split ?_ ?_) | (refine guardK_split ?_ ?_ <;> intro hwq) | (refine guardE_split ?_ ?_ <;> intro hwq) | (refine awp_drawW [] (by decide +kernel) ?_; have hwq := trivial) | fail))
theorem mh74 : AC Try.prog 74 [vI 0, vI 7] [] (eqR (vI 0)) := by
  refine AC_plain orders Try.func74 rfl (by kernel_rfl) (by kernel_rfl) Try.ntmps74 (by simp) ?_
  unfold Try.f74
  (have hwq := trivial; repeat' (first | simp (maxSteps:=9999999)-implicitDefEqProofs only [go_sem,simprocAttr,hwq,u96,a96,c96,b96,z96,k96,u99,a99,c99,b99,z99,k99] | (refine awpL_loop 18 ?_; have hwq := trivial) | (refine condK_split ?_ ?_ <;> intro hwq) | (refine two_split ?_ ?_) | (refine guardK_split ?_ ?_ <;> intro hwq) | (refine guardE_split ?_ ?_ <;> intro hwq) | (refine awp_drawW [] (by decide +kernel) ?_; have hwq := trivial) | (refine call_plain mh83 rfl rfl ?_; have hwq := trivial) | fail))
theorem mh49a : AC Try.prog 49 [vI 0, vI 2, vI 0] [] (eqR (.tuple [vI 1, vI 6])) := by
  refine AC_plain orders Try.func49 rfl (by kernel_rfl) (by kernel_rfl) Try.ntmps49 (by simp) ?_
  unfold Try.f49
  (have hwq := trivial; repeat' (first | simp (maxSteps:=9999999)-implicitDefEqProofs only [go_sem,simprocAttr,hwq,u91,a91,c91,b91,z91,k91,u96,a96,c96,b96,z96,k96,u99,a99,c99,b99,z99,k99,u100,a100,c100,b100,z100,k100] | (refine awpL_loop 18 ?_; have hwq := trivial) | (refine condK_split ?_ ?_ <;> intro hwq) | (refine two_split ?_ ?_) | (refine guardK_split ?_ ?_ <;> intro hwq) | (refine guardE_split ?_ ?_ <;> intro hwq) | (refine awp_drawW [] (by decide +kernel) ?_; have hwq := trivial) | (refine call_plain mh71 rfl rfl ?_; have hwq := trivial) | fail))
theorem mh49b : AC Try.prog 49 [vI 1, vI 12, vI 0] [] (eqR (.tuple [vI 4, vI 3])) := by
  refine AC_plain orders Try.func49 rfl (by kernel_rfl) (by kernel_rfl) Try.ntmps49 (by simp) ?_
  unfold Try.f49
  (have hwq := trivial; repeat' (first | simp (maxSteps:=9999999)-implicitDefEqProofs only [go_sem,simprocAttr,hwq,u91,a91,c91,b91,z91,k91,u96,a96,c96,b96,z96,k96,u99,a99,c99,b99,z99,k99,u100,a100,c100,b100,z100,k100] | (refine awpL_loop 18 ?_; have hwq := trivial) | (refine condK_split ?_ ?_ <;> intro hwq) | (refine two_split ?_ ?_) | (refine guardK_split ?_ ?_ <;> intro hwq) | (refine guardE_split ?_ ?_ <;> intro hwq) | (refine awp_drawW [] (by decide +kernel) ?_; have hwq := trivial) | (refine call_plain mh72 rfl rfl ?_; have hwq := trivial) | fail))
theorem mh49c : AC Try.prog 49 [vI 0, vI 7, vI 0] [] (eqR (.tuple [vI 0, vI 6])) := by
  refine AC_plain orders Try.func49 rfl (by kernel_rfl) (by kernel_rfl) Try.ntmps49 (by simp) ?_
  unfold Try.f49
  (have hwq := trivial; repeat' (first | simp (maxSteps:=9999999)-implicitDefEqProofs only [go_sem,simprocAttr,hwq,u91,a91,c91,b91,z91,k91,u96,a96,c96,b96,z96,k96,u99,a99,c99,b99,z99,k99,u100,a100,c100,b100,z100,k100] | (refine awpL_loop 18 ?_; have hwq := trivial) | (refine condK_split ?_ ?_ <;> intro hwq) | (refine two_split ?_ ?_) | (refine guardK_split ?_ ?_ <;> intro hwq) | (refine guardE_split ?_ ?_ <;> intro hwq) | (refine awp_drawW [] (by decide +kernel) ?_; have hwq := trivial) | (refine call_plain mh74 rfl rfl ?_; have hwq := trivial) | fail))
theorem mh50a : AC Try.prog 50 [vI 0, vI 2] [] (eqR (vI 0)) := by
  refine AC_plain orders Try.func50 rfl (by kernel_rfl) (by kernel_rfl) Try.ntmps50 (by simp) ?_
  unfold Try.f50
  (have hwq := trivial; repeat' (first | simp (maxSteps:=9999999)-implicitDefEqProofs only [go_sem,simprocAttr,hwq,u99,a99,c99,b99,z99,k99,u100,a100,c100,b100,z100,k100] | (refine awpL_loop 18 ?_; have hwq := trivial) | (refine condK_split ?_ ?_ <;> intro hwq) | (refine two_split ?_ ?_) | (refine guardK_split ?_ ?_ <;> intro hwq) | (refine guardE_split ?_ ?_ <;> intro hwq) | (refine awp_drawW [] (by decide +kernel) ?_; have hwq := trivial) | fail))
theorem mh50b : AC Try.prog 50 [vI 0, vI 12] [] (eqR (vI 0)) := by
  refine AC_plain orders Try.func50 rfl (by kernel_rfl) (by kernel_rfl) Try.ntmps50 (by simp) ?_
  unfold Try.f50
  (have hwq := trivial; repeat' (first | simp (maxSteps:=9999999)-implicitDefEqProofs only [go_sem,simprocAttr,hwq,u99,a99,c99,b99,z99,k99,u100,a100,c100,b100,z100,k100] | (refine awpL_loop 18 ?_; have hwq := trivial) | (refine condK_split ?_ ?_ <;> intro hwq) | (refine two_split ?_ ?_) | (refine guardK_split ?_ ?_ <;> intro hwq) | (refine guardE_split ?_ ?_ <;> intro hwq) | (refine awp_drawW [] (by decide +kernel) ?_; have hwq := trivial) | fail))
theorem mh50c : AC Try.prog 50 [vI 0, vI 7] [] (eqR (vI 2)) := by
  refine AC_plain orders Try.func50 rfl (by kernel_rfl) (by kernel_rfl) Try.ntmps50 (by simp) ?_
  unfold Try.f50
  (have hwq := trivial; repeat' (first | simp (maxSteps:=9999999)-implicitDefEqProofs only [go_sem,simprocAttr,hwq,u99,a99,c99,b99,z99,k99,u100,a100,c100,b100,z100,k100] | (refine awpL_loop 18 ?_; have hwq := trivial) | (refine condK_split ?_ ?_ <;> intro hwq) | (refine two_split ?_ ?_) | (refine guardK_split ?_ ?_ <;> intro hwq) | (refine guardE_split ?_ ?_ <;> intro hwq) | (refine awp_drawW [] (by decide +kernel) ?_; have hwq := trivial) | fail))
theorem mh50d : AC Try.prog 50 [vI 2, vI 9] [] (eqR (vI 1)) := by
  refine AC_plain orders Try.func50 rfl (by kernel_rfl) (by kernel_rfl) Try.ntmps50 (by simp) ?_
  unfold Try.f50
  (have hwq := trivial; repeat' (first | simp (maxSteps:=9999999)-implicitDefEqProofs only [go_sem,simprocAttr,hwq,u99,a99,c99,b99,z99,k99,u100,a100,c100,b100,z100,k100] | (refine awpL_loop 18 ?_; have hwq := trivial) | (refine condK_split ?_ ?_ <;> intro hwq) | (refine two_split ?_ ?_) | (refine guardK_split ?_ ?_ <;> intro hwq) | (refine guardE_split ?_ ?_ <;> intro hwq) | (refine awp_drawW [] (by decide +kernel) ?_; have hwq := trivial) | fail))
theorem mh64 : AC Try.prog 64 [vI 3] [] (eqR (vI 7)) := by
  refine AC_plain orders Try.func64 rfl (by kernel_rfl) (by kernel_rfl) Try.ntmps64 (by simp) ?_
  unfold Try.f64
  (have hwq := trivial; repeat' (first | simp (maxSteps:=9999999)-implicitDefEqProofs only [go_sem,simprocAttr,hwq,u91,a91,c91,b91,z91,k91,u99,a99,c99,b99,z99,k99,u131,a131,c131,b131,z131,k131,l131] | (refine awpL_loop 18 ?_; have hwq := trivial) | (refine condK_split ?_ ?_ <;> intro hwq) | (refine two_split ?_ ?_) | (refine guardK_split ?_ ?_ <;> intro hwq) | (refine guardE_split ?_ ?_ <;> intro hwq) | (refine awp_drawW [] (by decide +kernel) ?_; have hwq := trivial) | fail))
abbrev Mg : List Int := [0, 1, 2, 0, 1, 0, 10, 108, 0, 0, 0, 0]
theorem mh48 : AC Try.prog 48 [bysV Mg, bysV Mg] [] (eqR (vB true)) := by
  refine AC_plain orders Try.func48 rfl (by kernel_rfl) (by kernel_rfl) Try.ntmps48 (by simp) ?_
  unfold Try.f48
  (have hwq := trivial; repeat' (first | simp (maxSteps:=9999999)-implicitDefEqProofs only [go_sem,simprocAttr,hwq,u3,a3,c3,b3,z3,k3,u4,a4,c4,b4,z4,k4,u5,a5,c5,b5,z5,k5,u23,a23,c23,b23,z23,k23,List.map_cons,List.map_nil] | (refine awpL_loop 18 ?_; have hwq := trivial) | (refine condK_split ?_ ?_ <;> intro hwq) | (refine two_split ?_ ?_) | (refine guardK_split ?_ ?_ <;> intro hwq) | (refine guardE_split ?_ ?_ <;> intro hwq) | (refine awp_drawW [] (by decide +kernel) ?_; have hwq := trivial) | fail))
  all_goals trace_state
theorem encM : encR [⟨false, 10, [3]⟩] = (Mg, 0) := by decide
theorem mh11 : AC Try.prog 11 [vcsV [⟨false, 10, [3]⟩]] [] (eqR (.tuple [bysV Mg, vI 0])) := by
  have h := mc11 [⟨false, 10, [3]⟩] (by simp)
  rwa [encM] at h
theorem mh42a : AC Try.prog 42 [vcV ⟨false, 10, [3]⟩] [] (eqR (vB true)) := mc42 _ (by simp)
theorem mh42b : AC Try.prog 42 [vcV ⟨false, 0, []⟩] [] (eqR (vB false)) := mc42 _ (by simp)
end Go.Ai

set_option linter.unusedVariables false
set_option linter.unusedSimpArgs false
set_option maxHeartbeats 4000000
set_option maxRecDepth 100000
namespace Go.Ai
open Go.Proofs
attribute [local go_sem] QH QR V.noimm V.noimms frzZs frzZ frzA frzV frzVs frzBox boxLen Option.isSome cond_true cond_false aopD calW flatV stepX amap stepY alookup afind aupdate adelete amlen arange ameq mapOf akeq pl V.mapT V.mapTs Option.bind stepK runK guardD stepE runD callD compact selB callK evS ofVal ofVals scalar aop ares mkRes V.rn V.rns V.cells? cellsAt Go.Ai.part aload astore setL V.atom abin aun intBin shiftBin aconv fieldOf aindexAddr aindex bound? aslice aarr abuild afill alen nilP nilS nilF aeq eqCells eqCell Go.Ai.known strBin abuiltin aappend abuildSlice arowsFill amakeSlice acopy aclear minmax rowsOf numsT notStr isIntD isByte V.pz V.pzs T.toV frz1 frz scalT scalTs chunkT List.range List.range.loop ite_true ite_false if_true if_false ne_eq implies_true forall_const eq_self IntKind.bits kPostKF_ret kPostKF_normal kPostX_ret kPostX_normal bsl nil2K nil2 kPostFW_ret kPostFW_normal kPostKM_ret kPostKM_normal kPostXK_ret kPostXK_normal
theorem mh47a : AC Try.prog 47 [bysV [0, 1, 0, 10, 108, 0, 0, 0, 0]] [] (eqR (.tuple [vcV ⟨false, 10, [3]⟩, bysV [0, 0, 0, 0], vB true])) := by
  have v1 : bOr .i64 0 1 = 1 := by decide
  have v2 : bAndNot .i64 1 8192 = 1 := by decide
  have v3 : bAnd .i64 1 8192 = 0 := by decide
  have v4 : bOr .i64 0 10 = 10 := by decide
  have v5 : bOr .i64 0 0 = 0 := by decide
  have v6 : bAnd .i64 0 8192 = 0 := by decide
  have v7 : bAndNot .i64 0 8192 = 0 := by decide
  have v8 : (3 : Int).tdiv 3 = 1 := by decide
  have v9 : (2 : Int).tdiv 3 = 0 := by decide
  have v10 : (108 : Int).tdiv 36 = 3 := by decide
  have v11 : (108 : Int).tdiv 6 = 18 := by decide
  have v12 : (18 : Int).tmod 6 = 0 := by decide
  have v13 : (108 : Int).tmod 6 = 0 := by decide
  have v14 : IntKind.i64.wrap 3 = 3 := by decide
  have v15 : IntKind.i64.wrap 2 = 2 := by decide
  have v16 : IntKind.i64.wrap 5 = 5 := by decide
  have v17 : IntKind.i64.wrap 1 = 1 := by decide
  have v18 : IntKind.i64.wrap 4 = 4 := by decide
  refine AC_frozenW orders Try.func47 rfl (by kernel_rfl) (by kernel_rfl) Try.ntmps47 (by simp) ?_
  unfold Try.f47
  (have hwq := trivial; repeat' (first | simp (maxSteps:=9999999)-implicitDefEqProofs only [go_sem,simprocAttr,hwq,u3,a3,c3,b3,z3,k3,u4,a4,c4,b4,z4,k4,u5,a5,c5,b5,z5,k5,u23,a23,c23,b23,z23,k23,u82,a82,c82,b82,z82,k82,u84,a84,c84,b84,z84,k84,u91,a91,c91,b91,z91,k91,u126,a126,c126,b126,z126,k126,l126,List.map_cons,List.map_nil,v1,v2,v3,v4,v5,v6,v7,v8,v9,v10,v11,v12,v13,v14,v15,v16,v17,v18,List.drop_succ_cons,List.drop_zero,List.drop_nil,List.take_succ_cons,List.take_zero,List.take_nil,List.length_cons,List.length_nil] | (refine awpL_loop 18 ?_; have hwq := trivial) | (refine condK_split ?_ ?_ <;> intro hwq) | (refine two_split ?_ ?_) | (refine guardK_split ?_ ?_ <;> intro hwq) | (refine guardE_split ?_ ?_ <;> intro hwq) | (refine awp_drawI 3 [] (List.range 22) [0, 1, 3, 7, 15, 0, 32, 96, 224, 511, 0, 1024, 3072, 7168, 15360, 0, 32768, 98304, 229376, 523264, 1023, 2097151] (by decide +kernel) ?_; have hwq := trivial) | (refine awp_drawW [] (by decide +kernel) ?_; have hwq := trivial) | fail))
  all_goals
    refine awp_drawT [] [0, 1, 2, 3] 4 5 [6, 7] [6, 7] [0, 0, 0, 4, 14, 1, 63, 127] [0, 0, 0, 4, 14, 1, 63, 127] (by decide +kernel) ?_
    (have hwq := trivial; repeat' (first | simp (maxSteps:=9999999)-implicitDefEqProofs only [go_sem,simprocAttr,hwq,u3,a3,c3,b3,z3,k3,u4,a4,c4,b4,z4,k4,u5,a5,c5,b5,z5,k5,u23,a23,c23,b23,z23,k23,u82,a82,c82,b82,z82,k82,u84,a84,c84,b84,z84,k84,u91,a91,c91,b91,z91,k91,u126,a126,c126,b126,z126,k126,l126,List.map_cons,List.map_nil,v1,v2,v3,v4,v5,v6,v7,v8,v9,v10,v11,v12,v13,v14,v15,v16,v17,v18,List.drop_succ_cons,List.drop_zero,List.drop_nil,List.take_succ_cons,List.take_zero,List.take_nil,List.length_cons,List.length_nil] | (refine awpL_loop 18 ?_; have hwq := trivial) | (refine condK_split ?_ ?_ <;> intro hwq) | (refine two_split ?_ ?_) | (refine guardK_split ?_ ?_ <;> intro hwq) | (refine guardE_split ?_ ?_ <;> intro hwq) | (refine awp_drawI 3 [] (List.range 22) [0, 1, 3, 7, 15, 0, 32, 96, 224, 511, 0, 1024, 3072, 7168, 15360, 0, 32768, 98304, 229376, 523264, 1023, 2097151] (by decide +kernel) ?_; have hwq := trivial) | (refine awp_drawW [] (by decide +kernel) ?_; have hwq := trivial) | fail))
    refine two_mk ⟨tms [(2, .ptr 0 0 0), (3, bysV [0, 0, 0, 0]), (4, vB true)], [.box [vB false, vI 10, .own 3 0 1] false, .box [vB false, vI 10, .own 3 0 1] false, .rows 1 [inT 3] false, .rows 1 [inT 3] false], [] ++ List.range' 4 0⟩ ?_ ?_ ?_
    · (have hwq := trivial; repeat' (first | simp (maxSteps:=9999999)-implicitDefEqProofs only [go_sem,simprocAttr,hwq,u3,a3,c3,b3,z3,k3,u4,a4,c4,b4,z4,k4,u5,a5,c5,b5,z5,k5,u23,a23,c23,b23,z23,k23,u82,a82,c82,b82,z82,k82,u84,a84,c84,b84,z84,k84,u91,a91,c91,b91,z91,k91,u126,a126,c126,b126,z126,k126,l126,List.map_cons,List.map_nil,v1,v2,v3,v4,v5,v6,v7,v8,v9,v10,v11,v12,v13,v14,v15,v16,v17,v18,List.drop_succ_cons,List.drop_zero,List.drop_nil,List.take_succ_cons,List.take_zero,List.take_nil,List.length_cons,List.length_nil] | (refine awpL_loop 18 ?_; have hwq := trivial) | (refine condK_split ?_ ?_ <;> intro hwq) | (refine two_split ?_ ?_) | (refine guardK_split ?_ ?_ <;> intro hwq) | (refine guardE_split ?_ ?_ <;> intro hwq) | (refine awp_drawI 3 [] (List.range 22) [0, 1, 3, 7, 15, 0, 32, 96, 224, 511, 0, 1024, 3072, 7168, 15360, 0, 32768, 98304, 229376, 523264, 1023, 2097151] (by decide +kernel) ?_; have hwq := trivial) | (refine awp_drawW [] (by decide +kernel) ?_; have hwq := trivial) | fail))
      refine weak_mk (Weak.cutI 4 [2, 3, 4] ?_ ?_)
      · simp (maxSteps:=9999999)-implicitDefEqProofs only [simprocAttr,QH,Option.isSome,cond_true,cond_false,Option.bind,selB,V.rn,V.rns,Go.Ai.known,V.pz,V.pzs,T.toV,frz1,List.range,List.range.loop,ite_true,ite_false,if_true,if_false,ne_eq,implies_true,forall_const,eq_self,IntKind.bits,upd_tmsS,selT_cons,selT_nil,List.map_cons,List.map_nil,v1,v2,v3,v4,v5,v6,v7,v8,v9,v10,v11,v12,v13,v14,v15,v16,v17,v18,List.drop_succ_cons,List.drop_zero,List.drop_nil,List.take_succ_cons,List.take_zero,List.take_nil,List.length_cons,List.length_nil]
        rfl
      · simp (maxSteps:=9999999)-implicitDefEqProofs only [simprocAttr,QH,Option.isSome,cond_true,cond_false,Option.bind,selB,V.rn,V.rns,Go.Ai.known,V.pz,V.pzs,T.toV,frz1,List.range,List.range.loop,ite_true,ite_false,if_true,if_false,ne_eq,implies_true,forall_const,eq_self,IntKind.bits,upd_tmsS,selT_cons,selT_nil,List.map_cons,List.map_nil,v1,v2,v3,v4,v5,v6,v7,v8,v9,v10,v11,v12,v13,v14,v15,v16,v17,v18,List.drop_succ_cons,List.drop_zero,List.drop_nil,List.take_succ_cons,List.take_zero,List.take_nil,List.length_cons,List.length_nil]
    · (have hwq := trivial; repeat' (first | simp (maxSteps:=9999999)-implicitDefEqProofs only [go_sem,simprocAttr,hwq,u3,a3,c3,b3,z3,k3,u4,a4,c4,b4,z4,k4,u5,a5,c5,b5,z5,k5,u23,a23,c23,b23,z23,k23,u82,a82,c82,b82,z82,k82,u84,a84,c84,b84,z84,k84,u91,a91,c91,b91,z91,k91,u126,a126,c126,b126,z126,k126,l126,List.map_cons,List.map_nil,v1,v2,v3,v4,v5,v6,v7,v8,v9,v10,v11,v12,v13,v14,v15,v16,v17,v18,List.drop_succ_cons,List.drop_zero,List.drop_nil,List.take_succ_cons,List.take_zero,List.take_nil,List.length_cons,List.length_nil] | (refine awpL_loop 18 ?_; have hwq := trivial) | (refine condK_split ?_ ?_ <;> intro hwq) | (refine two_split ?_ ?_) | (refine guardK_split ?_ ?_ <;> intro hwq) | (refine guardE_split ?_ ?_ <;> intro hwq) | (refine awp_drawI 3 [] (List.range 22) [0, 1, 3, 7, 15, 0, 32, 96, 224, 511, 0, 1024, 3072, 7168, 15360, 0, 32768, 98304, 229376, 523264, 1023, 2097151] (by decide +kernel) ?_; have hwq := trivial) | (refine awp_drawW [] (by decide +kernel) ?_; have hwq := trivial) | fail))
      refine weak_mk (Weak.cutI 4 [2, 3, 4] ?_ ?_)
      · simp (maxSteps:=9999999)-implicitDefEqProofs only [simprocAttr,QH,Option.isSome,cond_true,cond_false,Option.bind,selB,V.rn,V.rns,Go.Ai.known,V.pz,V.pzs,T.toV,frz1,List.range,List.range.loop,ite_true,ite_false,if_true,if_false,ne_eq,implies_true,forall_const,eq_self,IntKind.bits,upd_tmsS,selT_cons,selT_nil,List.map_cons,List.map_nil,v1,v2,v3,v4,v5,v6,v7,v8,v9,v10,v11,v12,v13,v14,v15,v16,v17,v18,List.drop_succ_cons,List.drop_zero,List.drop_nil,List.take_succ_cons,List.take_zero,List.take_nil,List.length_cons,List.length_nil]
        rfl
      · simp (maxSteps:=9999999)-implicitDefEqProofs only [simprocAttr,QH,Option.isSome,cond_true,cond_false,Option.bind,selB,V.rn,V.rns,Go.Ai.known,V.pz,V.pzs,T.toV,frz1,List.range,List.range.loop,ite_true,ite_false,if_true,if_false,ne_eq,implies_true,forall_const,eq_self,IntKind.bits,upd_tmsS,selT_cons,selT_nil,List.map_cons,List.map_nil,v1,v2,v3,v4,v5,v6,v7,v8,v9,v10,v11,v12,v13,v14,v15,v16,v17,v18,List.drop_succ_cons,List.drop_zero,List.drop_nil,List.take_succ_cons,List.take_zero,List.take_nil,List.length_cons,List.length_nil]
    (have hwq := trivial; repeat' (first | simp (maxSteps:=9999999)-implicitDefEqProofs only [go_sem,simprocAttr,hwq,u3,a3,c3,b3,z3,k3,u4,a4,c4,b4,z4,k4,u5,a5,c5,b5,z5,k5,u23,a23,c23,b23,z23,k23,u82,a82,c82,b82,z82,k82,u84,a84,c84,b84,z84,k84,u91,a91,c91,b91,z91,k91,u126,a126,c126,b126,z126,k126,l126,List.map_cons,List.map_nil,v1,v2,v3,v4,v5,v6,v7,v8,v9,v10,v11,v12,v13,v14,v15,v16,v17,v18,List.drop_succ_cons,List.drop_zero,List.drop_nil,List.take_succ_cons,List.take_zero,List.take_nil,List.length_cons,List.length_nil] | (refine awpL_loop 18 ?_; have hwq := trivial) | (refine condK_split ?_ ?_ <;> intro hwq) | (refine two_split ?_ ?_) | (refine guardK_split ?_ ?_ <;> intro hwq) | (refine guardE_split ?_ ?_ <;> intro hwq) | (refine awp_drawI 3 [] (List.range 22) [0, 1, 3, 7, 15, 0, 32, 96, 224, 511, 0, 1024, 3072, 7168, 15360, 0, 32768, 98304, 229376, 523264, 1023, 2097151] (by decide +kernel) ?_; have hwq := trivial) | (refine awp_drawW [] (by decide +kernel) ?_; have hwq := trivial) | fail))
    exact ⟨_, rfl, by simp [V.leT, V.le, V.les]⟩
theorem mh47b : AC Try.prog 47 [bysV [0, 0, 0, 0]] [] (eqR (.tuple [vcV ⟨false, 0, []⟩, bysV [], vB true])) := by
  have v1 : bOr .i64 0 1 = 1 := by decide
  have v2 : bAndNot .i64 1 8192 = 1 := by decide
  have v3 : bAnd .i64 1 8192 = 0 := by decide
  have v4 : bOr .i64 0 10 = 10 := by decide
  have v5 : bOr .i64 0 0 = 0 := by decide
  have v6 : bAnd .i64 0 8192 = 0 := by decide
  have v7 : bAndNot .i64 0 8192 = 0 := by decide
  have v8 : (3 : Int).tdiv 3 = 1 := by decide
  have v9 : (2 : Int).tdiv 3 = 0 := by decide
  have v10 : (108 : Int).tdiv 36 = 3 := by decide
  have v11 : (108 : Int).tdiv 6 = 18 := by decide
  have v12 : (18 : Int).tmod 6 = 0 := by decide
  have v13 : (108 : Int).tmod 6 = 0 := by decide
  have v14 : IntKind.i64.wrap 3 = 3 := by decide
  have v15 : IntKind.i64.wrap 2 = 2 := by decide
  have v16 : IntKind.i64.wrap 5 = 5 := by decide
  have v17 : IntKind.i64.wrap 1 = 1 := by decide
  have v18 : IntKind.i64.wrap 4 = 4 := by decide
  refine AC_frozenW orders Try.func47 rfl (by kernel_rfl) (by kernel_rfl) Try.ntmps47 (by simp) ?_
  unfold Try.f47
  (have hwq := trivial; repeat' (first | simp (maxSteps:=9999999)-implicitDefEqProofs only [go_sem,simprocAttr,hwq,u3,a3,c3,b3,z3,k3,u4,a4,c4,b4,z4,k4,u5,a5,c5,b5,z5,k5,u23,a23,c23,b23,z23,k23,u82,a82,c82,b82,z82,k82,u84,a84,c84,b84,z84,k84,u91,a91,c91,b91,z91,k91,u126,a126,c126,b126,z126,k126,l126,List.map_cons,List.map_nil,v1,v2,v3,v4,v5,v6,v7,v8,v9,v10,v11,v12,v13,v14,v15,v16,v17,v18,List.drop_succ_cons,List.drop_zero,List.drop_nil,List.take_succ_cons,List.take_zero,List.take_nil,List.length_cons,List.length_nil] | (refine awpL_loop 18 ?_; have hwq := trivial) | (refine condK_split ?_ ?_ <;> intro hwq) | (refine two_split ?_ ?_) | (refine guardK_split ?_ ?_ <;> intro hwq) | (refine guardE_split ?_ ?_ <;> intro hwq) | (refine awp_drawI 3 [] (List.range 22) [0, 1, 3, 7, 15, 0, 32, 96, 224, 511, 0, 1024, 3072, 7168, 15360, 0, 32768, 98304, 229376, 523264, 1023, 2097151] (by decide +kernel) ?_; have hwq := trivial) | (refine awp_drawW [] (by decide +kernel) ?_; have hwq := trivial) | fail))
  all_goals
    refine awp_drawT [] [0, 1, 2, 3] 4 5 [6, 7] [6, 7] [0, 0, 0, 4, 14, 1, 63, 127] [0, 0, 0, 4, 14, 1, 63, 127] (by decide +kernel) ?_
    (have hwq := trivial; repeat' (first | simp (maxSteps:=9999999)-implicitDefEqProofs only [go_sem,simprocAttr,hwq,u3,a3,c3,b3,z3,k3,u4,a4,c4,b4,z4,k4,u5,a5,c5,b5,z5,k5,u23,a23,c23,b23,z23,k23,u82,a82,c82,b82,z82,k82,u84,a84,c84,b84,z84,k84,u91,a91,c91,b91,z91,k91,u126,a126,c126,b126,z126,k126,l126,List.map_cons,List.map_nil,v1,v2,v3,v4,v5,v6,v7,v8,v9,v10,v11,v12,v13,v14,v15,v16,v17,v18,List.drop_succ_cons,List.drop_zero,List.drop_nil,List.take_succ_cons,List.take_zero,List.take_nil,List.length_cons,List.length_nil] | (refine awpL_loop 18 ?_; have hwq := trivial) | (refine condK_split ?_ ?_ <;> intro hwq) | (refine two_split ?_ ?_) | (refine guardK_split ?_ ?_ <;> intro hwq) | (refine guardE_split ?_ ?_ <;> intro hwq) | (refine awp_drawI 3 [] (List.range 22) [0, 1, 3, 7, 15, 0, 32, 96, 224, 511, 0, 1024, 3072, 7168, 15360, 0, 32768, 98304, 229376, 523264, 1023, 2097151] (by decide +kernel) ?_; have hwq := trivial) | (refine awp_drawW [] (by decide +kernel) ?_; have hwq := trivial) | fail))
    refine two_mk ⟨tms [(2, .ptr 0 0 0), (3, bysV []), (4, vB true)], [.box [vB false, vI 0, .s (.slice none 0 0)] false, .box [vB false, vI 0, .s (.slice none 0 0)] false], [] ++ List.range' 2 0⟩ ?_ ?_ ?_
    · (have hwq := trivial; repeat' (first | simp (maxSteps:=9999999)-implicitDefEqProofs only [go_sem,simprocAttr,hwq,u3,a3,c3,b3,z3,k3,u4,a4,c4,b4,z4,k4,u5,a5,c5,b5,z5,k5,u23,a23,c23,b23,z23,k23,u82,a82,c82,b82,z82,k82,u84,a84,c84,b84,z84,k84,u91,a91,c91,b91,z91,k91,u126,a126,c126,b126,z126,k126,l126,List.map_cons,List.map_nil,v1,v2,v3,v4,v5,v6,v7,v8,v9,v10,v11,v12,v13,v14,v15,v16,v17,v18,List.drop_succ_cons,List.drop_zero,List.drop_nil,List.take_succ_cons,List.take_zero,List.take_nil,List.length_cons,List.length_nil] | (refine awpL_loop 18 ?_; have hwq := trivial) | (refine condK_split ?_ ?_ <;> intro hwq) | (refine two_split ?_ ?_) | (refine guardK_split ?_ ?_ <;> intro hwq) | (refine guardE_split ?_ ?_ <;> intro hwq) | (refine awp_drawI 3 [] (List.range 22) [0, 1, 3, 7, 15, 0, 32, 96, 224, 511, 0, 1024, 3072, 7168, 15360, 0, 32768, 98304, 229376, 523264, 1023, 2097151] (by decide +kernel) ?_; have hwq := trivial) | (refine awp_drawW [] (by decide +kernel) ?_; have hwq := trivial) | fail))
      refine weak_mk (Weak.cutI 2 [2, 3, 4] ?_ ?_)
      · simp (maxSteps:=9999999)-implicitDefEqProofs only [simprocAttr,QH,Option.isSome,cond_true,cond_false,Option.bind,selB,V.rn,V.rns,Go.Ai.known,V.pz,V.pzs,T.toV,frz1,List.range,List.range.loop,ite_true,ite_false,if_true,if_false,ne_eq,implies_true,forall_const,eq_self,IntKind.bits,upd_tmsS,selT_cons,selT_nil,List.map_cons,List.map_nil,v1,v2,v3,v4,v5,v6,v7,v8,v9,v10,v11,v12,v13,v14,v15,v16,v17,v18,List.drop_succ_cons,List.drop_zero,List.drop_nil,List.take_succ_cons,List.take_zero,List.take_nil,List.length_cons,List.length_nil]
        rfl
      · simp (maxSteps:=9999999)-implicitDefEqProofs only [simprocAttr,QH,Option.isSome,cond_true,cond_false,Option.bind,selB,V.rn,V.rns,Go.Ai.known,V.pz,V.pzs,T.toV,frz1,List.range,List.range.loop,ite_true,ite_false,if_true,if_false,ne_eq,implies_true,forall_const,eq_self,IntKind.bits,upd_tmsS,selT_cons,selT_nil,List.map_cons,List.map_nil,v1,v2,v3,v4,v5,v6,v7,v8,v9,v10,v11,v12,v13,v14,v15,v16,v17,v18,List.drop_succ_cons,List.drop_zero,List.drop_nil,List.take_succ_cons,List.take_zero,List.take_nil,List.length_cons,List.length_nil]
    · (have hwq := trivial; repeat' (first | simp (maxSteps:=9999999)-implicitDefEqProofs only [go_sem,simprocAttr,hwq,u3,a3,c3,b3,z3,k3,u4,a4,c4,b4,z4,k4,u5,a5,c5,b5,z5,k5,u23,a23,c23,b23,z23,k23,u82,a82,c82,b82,z82,k82,u84,a84,c84,b84,z84,k84,u91,a91,c91,b91,z91,k91,u126,a126,c126,b126,z126,k126,l126,List.map_cons,List.map_nil,v1,v2,v3,v4,v5,v6,v7,v8,v9,v10,v11,v12,v13,v14,v15,v16,v17,v18,List.drop_succ_cons,List.drop_zero,List.drop_nil,List.take_succ_cons,List.take_zero,List.take_nil,List.length_cons,List.length_nil] | (refine awpL_loop 18 ?_; have hwq := trivial) | (refine condK_split ?_ ?_ <;> intro hwq) | (refine two_split ?_ ?_) | (refine guardK_split ?_ ?_ <;> intro hwq) | (refine guardE_split ?_ ?_ <;> intro hwq) | (refine awp_drawI 3 [] (List.range 22) [0, 1, 3, 7, 15, 0, 32, 96, 224, 511, 0, 1024, 3072, 7168, 15360, 0, 32768, 98304, 229376, 523264, 1023, 2097151] (by decide +kernel) ?_; have hwq := trivial) | (refine awp_drawW [] (by decide +kernel) ?_; have hwq := trivial) | fail))
      refine weak_mk (Weak.cutI 2 [2, 3, 4] ?_ ?_)
      · simp (maxSteps:=9999999)-implicitDefEqProofs only [simprocAttr,QH,Option.isSome,cond_true,cond_false,Option.bind,selB,V.rn,V.rns,Go.Ai.known,V.pz,V.pzs,T.toV,frz1,List.range,List.range.loop,ite_true,ite_false,if_true,if_false,ne_eq,implies_true,forall_const,eq_self,IntKind.bits,upd_tmsS,selT_cons,selT_nil,List.map_cons,List.map_nil,v1,v2,v3,v4,v5,v6,v7,v8,v9,v10,v11,v12,v13,v14,v15,v16,v17,v18,List.drop_succ_cons,List.drop_zero,List.drop_nil,List.take_succ_cons,List.take_zero,List.take_nil,List.length_cons,List.length_nil]
        rfl
      · simp (maxSteps:=9999999)-implicitDefEqProofs only [simprocAttr,QH,Option.isSome,cond_true,cond_false,Option.bind,selB,V.rn,V.rns,Go.Ai.known,V.pz,V.pzs,T.toV,frz1,List.range,List.range.loop,ite_true,ite_false,if_true,if_false,ne_eq,implies_true,forall_const,eq_self,IntKind.bits,upd_tmsS,selT_cons,selT_nil,List.map_cons,List.map_nil,v1,v2,v3,v4,v5,v6,v7,v8,v9,v10,v11,v12,v13,v14,v15,v16,v17,v18,List.drop_succ_cons,List.drop_zero,List.drop_nil,List.take_succ_cons,List.take_zero,List.take_nil,List.length_cons,List.length_nil]
    (have hwq := trivial; repeat' (first | simp (maxSteps:=9999999)-implicitDefEqProofs only [go_sem,simprocAttr,hwq,u3,a3,c3,b3,z3,k3,u4,a4,c4,b4,z4,k4,u5,a5,c5,b5,z5,k5,u23,a23,c23,b23,z23,k23,u82,a82,c82,b82,z82,k82,u84,a84,c84,b84,z84,k84,u91,a91,c91,b91,z91,k91,u126,a126,c126,b126,z126,k126,l126,List.map_cons,List.map_nil,v1,v2,v3,v4,v5,v6,v7,v8,v9,v10,v11,v12,v13,v14,v15,v16,v17,v18,List.drop_succ_cons,List.drop_zero,List.drop_nil,List.take_succ_cons,List.take_zero,List.take_nil,List.length_cons,List.length_nil] | (refine awpL_loop 18 ?_; have hwq := trivial) | (refine condK_split ?_ ?_ <;> intro hwq) | (refine two_split ?_ ?_) | (refine guardK_split ?_ ?_ <;> intro hwq) | (refine guardE_split ?_ ?_ <;> intro hwq) | (refine awp_drawI 3 [] (List.range 22) [0, 1, 3, 7, 15, 0, 32, 96, 224, 511, 0, 1024, 3072, 7168, 15360, 0, 32768, 98304, 229376, 523264, 1023, 2097151] (by decide +kernel) ?_; have hwq := trivial) | (refine awp_drawW [] (by decide +kernel) ?_; have hwq := trivial) | fail))
    exact ⟨_, rfl, by simp [V.leT, V.le, V.les]⟩
end Go.Ai
