/- Contracts of functions of the loaded program: called with data in the ranges that each names, it returns this value and writes to no old memory. -/
import Derived.Test.YtbiolkmddpkheaaGreatPrvD
set_option linter.unusedVariables false
set_option linter.unusedSimpArgs false
set_option maxHeartbeats 4000000
set_option maxRecDepth 100000
namespace Go.Ai
open Go.Proofs
attribute [local go_sem] QH QR V.noimm V.noimms frzZs frzZ frzA frzV frzVs frzBox boxLen Option.isSome cond_true cond_false aopD calW flatV stepX amap stepY alookup afind aupdate adelete amlen arange ameq mapOf akeq pl V.mapT V.mapTs Option.bind stepK runK guardD stepE runD callD compact selB callK evS ofVal ofVals scalar aop ares mkRes V.rn V.rns V.cells? cellsAt Go.Ai.part aload astore setL V.atom abin aun intBin shiftBin aconv fieldOf aindexAddr aindex bound? aslice aarr abuild afill alen nilP nilS nilF aeq eqCells eqCell Go.Ai.known strBin abuiltin aappend abuildSlice arowsFill amakeSlice acopy aclear minmax rowsOf numsT notStr isIntD isByte V.pz V.pzs T.toV frz1 frz scalT scalTs chunkT List.range List.range.loop ite_true ite_false if_true if_false ne_eq implies_true forall_const eq_self IntKind.bits kPostKF_ret kPostKF_normal kPostX_ret kPostX_normal bsl nil2K nil2 kPostFW_ret kPostFW_normal kPostKM_ret kPostKM_normal kPostXK_ret kPostXK_normal
theorem flat_int (n : Int) : FlatB (.box [vI n] false) := ⟨fun f => by simp [mapT_box, V.mapTs, V.mapT], fun f => by simp [Blk.rn, V.rns, V.rn], fun m => by simp [Blk.pz, V.pzs, V.pz]⟩
theorem flat_pv (p : Pv) : FlatB (bxP p) := ⟨fun f => by simp [mapT_box, V.mapTs, V.mapT], fun f => by simp [Blk.rn, V.rns, V.rn], fun m => by simp [Blk.pz, V.pzs, V.pz]⟩
abbrev bxMp (m : Mp) : Blk := .box [vI m.p, vI m.v, vI m.s] false
theorem flat_mp (m : Mp) : FlatB (bxMp m) := ⟨fun f => by simp [mapT_box, V.mapTs, V.mapT], fun f => by simp [Blk.rn, V.rns, V.rn], fun m => by simp [Blk.pz, V.pzs, V.pz]⟩
theorem pk64 (x : Int) : AC Tryz.prog 64 [vI x] [] (eqR (vB (x != 1 && x != 2))) := by
  refine AC_plain orders Tryz.func64 rfl (by kernel_rfl) (by kernel_rfl) Tryz.ntmps64 (by simp) ?_
  unfold Tryz.f64
  (have hwq := trivial; repeat' (first | simp (maxSteps:=9999999)-implicitDefEqProofs only [go_sem,simprocAttr,hwq,FT4,FT59] | (refine awpL_loop 18 ?_; have hwq := trivial) | (refine condK_split ?_ ?_ <;> intro hwq) | (refine two_split ?_ ?_) | (refine guardK_split ?_ ?_ <;> intro hwq) | (refine guardE_split ?_ ?_ <;> intro hwq) | (refine awp_drawW [] (by decide +kernel) ?_; have hwq := trivial) | fail))
  all_goals simp_all
theorem pk113 (x : Mb) (n : Int) : AC Tryz.prog 113 [mbV x, .ptr 0 0 0] [.box [vI n] false] (eqS (vB (x.v == n)) [.box [vI n] false]) := by
  refine AC_heap orders [0] Tryz.func113 rfl (by kernel_rfl) (by kernel_rfl) Tryz.ntmps113 (by simp) ?_
  unfold Tryz.f113
  (have hwq := trivial; repeat' (first | simp (maxSteps:=9999999)-implicitDefEqProofs only [go_sem,simprocAttr,hwq,FT3,FT4,FT35,FT37] | (refine awpL_loop 18 ?_; have hwq := trivial) | (refine condK_split ?_ ?_ <;> intro hwq) | (refine two_split ?_ ?_) | (refine guardK_split ?_ ?_ <;> intro hwq) | (refine guardE_split ?_ ?_ <;> intro hwq) | (refine awp_drawW [] (by decide +kernel) ?_; have hwq := trivial) | fail))
theorem pk127 (x : Cr) (n : Int) : AC Tryz.prog 127 [crV x, .ptr 0 0 0] [.box [vI n] false] (eqS (vB (x.s == n)) [.box [vI n] false]) := by
  refine AC_heap orders [0] Tryz.func127 rfl (by kernel_rfl) (by kernel_rfl) Tryz.ntmps127 (by simp) ?_
  unfold Tryz.f127
  (have hwq := trivial; repeat' (first | simp (maxSteps:=9999999)-implicitDefEqProofs only [go_sem,simprocAttr,hwq,FT3,FT4,FT34] | (refine awpL_loop 18 ?_; have hwq := trivial) | (refine condK_split ?_ ?_ <;> intro hwq) | (refine two_split ?_ ?_) | (refine guardK_split ?_ ?_ <;> intro hwq) | (refine guardE_split ?_ ?_ <;> intro hwq) | (refine awp_drawW [] (by decide +kernel) ?_; have hwq := trivial) | fail))
theorem pk79 (x : Mp) (n m : Int) : AC Tryz.prog 79 [mpV x, .ptr 0 0 0, .ptr 1 0 0] [.box [vI n] false, .box [vI m] false] (eqS (vB (x.p == n && x.v == m)) [.box [vI n] false, .box [vI m] false]) := by
  refine AC_heap orders [0, 1] Tryz.func79 rfl (by kernel_rfl) (by kernel_rfl) Tryz.ntmps79 (by simp) ?_
  unfold Tryz.f79
  (have hwq := trivial; repeat' (first | simp (maxSteps:=9999999)-implicitDefEqProofs only [go_sem,simprocAttr,hwq,FT3,FT4,FT32] | (refine awpL_loop 18 ?_; have hwq := trivial) | (refine condK_split ?_ ?_ <;> intro hwq) | (refine two_split ?_ ?_) | (refine guardK_split ?_ ?_ <;> intro hwq) | (refine guardE_split ?_ ?_ <;> intro hwq) | (refine awp_drawW [] (by decide +kernel) ?_; have hwq := trivial) | fail))
  all_goals simp_all
theorem pk73 (x m : Mp) : AC Tryz.prog 73 [mpV x, .ptr 0 0 0] [bxMp m] (eqS (vB (x.p == m.p && x.s == m.s)) [bxMp m]) := by
  refine AC_heap orders [0] Tryz.func73 rfl (by kernel_rfl) (by kernel_rfl) Tryz.ntmps73 (by simp) ?_
  unfold Tryz.f73
  (have hwq := trivial; repeat' (first | simp (maxSteps:=9999999)-implicitDefEqProofs only [go_sem,simprocAttr,hwq,FT3,FT4,FT32] | (refine awpL_loop 18 ?_; have hwq := trivial) | (refine condK_split ?_ ?_ <;> intro hwq) | (refine two_split ?_ ?_) | (refine guardK_split ?_ ?_ <;> intro hwq) | (refine guardE_split ?_ ?_ <;> intro hwq) | (refine awp_drawW [] (by decide +kernel) ?_; have hwq := trivial) | fail))
  all_goals simp_all
theorem pk97 (x m : Mp) : AC Tryz.prog 97 [mpV x, .ptr 0 0 0] [bxMp m] (eqS (vB (x.p == m.p && (x.v == m.v || x.s == m.s))) [bxMp m]) := by
  refine AC_heap orders [0] Tryz.func97 rfl (by kernel_rfl) (by kernel_rfl) Tryz.ntmps97 (by simp) ?_
  unfold Tryz.f97
  (have hwq := trivial; repeat' (first | simp (maxSteps:=9999999)-implicitDefEqProofs only [go_sem,simprocAttr,hwq,FT3,FT4,FT32] | (refine awpL_loop 18 ?_; have hwq := trivial) | (refine condK_split ?_ ?_ <;> intro hwq) | (refine two_split ?_ ?_) | (refine guardK_split ?_ ?_ <;> intro hwq) | (refine guardE_split ?_ ?_ <;> intro hwq) | (refine awp_drawW [] (by decide +kernel) ?_; have hwq := trivial) | fail))
  all_goals simp_all
def hasM (bs : List Mb) (n : Int) : Bool := bs.any fun x => x.v == n
def hasC (cs : List Cr) (n : Int) : Bool := cs.any fun x => x.s == n
def okL (p : Pv) : Prop := p.ks.length ≤ 1000 ∧ p.ms.length ≤ 1000 ∧ p.cs.length ≤ 1000 ∧ p.bs.length ≤ 1000 ∧ ∀ b ∈ p.bs, b.l.length ≤ 1000
theorem pc48 (p : Pv) (hp : okL p) (n : Int) : AC Tryz.prog 48 [pvV p, vI n] [] (eqR (vB (hasM p.bs n))) := by
  have h := pcf65 113 _ (flat_int n) (fun x => x.v == n) p.bs (by have := hp.2.2.2.1; omega) (fun x _ => pk113 x n)
  unfold hasM
  refine AC_plain orders Tryz.func48 rfl (by kernel_rfl) (by kernel_rfl) Tryz.ntmps48 (by simp) ?_
  unfold Tryz.f48
  (have hwq := trivial; repeat' (first | simp (maxSteps:=9999999)-implicitDefEqProofs only [go_sem,simprocAttr,hwq,FT3,FT4,FT5,FT23,FT24,FT25,FT26,FT27,FT29,FT32,FT34,FT35,FT37,FT59,FT97] | (refine awpL_loop 18 ?_; have hwq := trivial) | (refine condK_split ?_ ?_ <;> intro hwq) | (refine two_split ?_ ?_) | (refine guardK_split ?_ ?_ <;> intro hwq) | (refine guardE_split ?_ ?_ <;> intro hwq) | (refine awp_drawW [] (by decide +kernel) ?_; have hwq := trivial) | (refine call_at [1] h (by simp) (by decide) rfl rfl (by simp [mapT_box, V.mapTs, V.mapT, pl]) (by simp [V.les, V.le, V.mapTs, V.mapT, pl]) ?_; have hwq := trivial) | fail))
theorem pc75 (p : Pv) (hp : okL p) (n : Int) : AC Tryz.prog 75 [pvV p, vI n] [] (eqR (vB (hasC p.cs n))) := by
  have h := pcf69 127 _ (flat_int n) (fun x => x.s == n) p.cs (by have := hp.2.2.1; omega) (fun x _ => pk127 x n)
  unfold hasC
  refine AC_plain orders Tryz.func75 rfl (by kernel_rfl) (by kernel_rfl) Tryz.ntmps75 (by simp) ?_
  unfold Tryz.f75
  (have hwq := trivial; repeat' (first | simp (maxSteps:=9999999)-implicitDefEqProofs only [go_sem,simprocAttr,hwq,FT3,FT4,FT5,FT23,FT24,FT25,FT26,FT27,FT29,FT32,FT34,FT35,FT37,FT59,FT99] | (refine awpL_loop 18 ?_; have hwq := trivial) | (refine condK_split ?_ ?_ <;> intro hwq) | (refine two_split ?_ ?_) | (refine guardK_split ?_ ?_ <;> intro hwq) | (refine guardE_split ?_ ?_ <;> intro hwq) | (refine awp_drawW [] (by decide +kernel) ?_; have hwq := trivial) | (refine call_at [1] h (by simp) (by decide) rfl rfl (by simp [mapT_box, V.mapTs, V.mapT, pl]) (by simp [V.les, V.le, V.mapTs, V.mapT, pl]) ?_; have hwq := trivial) | fail))
/-- What is wrong with a VLAN's ports. -/
def portsE (ks : List Int) (l : List Int) : Int := if risB ltI l = true then (if (l.any fun x => kindP ks x == 0) = true then 5 else if (l.any fun x => kindP ks x != 2) = true then 184 else 0) else 1
def PoI (p : Pv) (l : List Int) (n : Nat) (S : St) : Prop :=
  ∃ (j : Nat) (mv : List Nat), S = ⟨tms [(1, isV l), (2, .ptr 0 0 0), (12, isV l), (13, vI l.length), (14, vI j)], [bxP p], mv⟩ ∧ j ≤ l.length ∧ n = l.length - j ∧ ∀ x ∈ l.take j, (kindP p.ks x == 0) = false
def PoJ (p : Pv) (l : List Int) (n : Nat) (S : St) : Prop :=
  ∃ (j : Nat) (mv : List Nat), S = ⟨tms [(2, .ptr 0 0 0), (23, isV l), (24, vI l.length), (25, vI j)], [bxP p], mv⟩ ∧ j ≤ l.length ∧ n = l.length - j ∧ ∀ x ∈ l.take j, (kindP p.ks x != 2) = false
theorem any_some {α : Type} {q : α → Bool} {L : List α} {j : Nat} {x : α} (hg : L[j]? = some x) (h : q x = true) : L.any q = true := List.any_eq_true.2 ⟨x, mem_in hg, h⟩
theorem any_none {α : Type} {q : α → Bool} {L : List α} (h : ∀ x ∈ L, q x = false) : L.any q = false := by rw [List.any_eq_false]; intro x hx; simp [h x hx]
theorem take_more {α : Type} {q : α → Bool} {L : List α} {j : Nat} {x : α} (hno : ∀ y ∈ L.take j, q y = false) (hg : L[j]? = some x) (hx : q x = false) : ∀ y ∈ L.take (j + 1), q y = false := ix_more hno hg hx
theorem pc68 (p : Pv) (hp : okL p) (l : List Int) (hl : l.length ≤ 1000) : AC Tryz.prog 68 [pvV p, isV l] [] (eqR (vI (portsE p.ks l))) := by
  have h1 := pr124 l (by omega)
  have hk := fun x => pc74 p (by have := hp.1; omega) x
  refine AC_plain orders Tryz.func68 rfl (by kernel_rfl) (by kernel_rfl) Tryz.ntmps68 (by simp) ?_
  unfold Tryz.f68
  cases hr : risB ltI l with
  | false =>
    rw [hr] at h1
    have he : portsE p.ks l = 1 := by unfold portsE; rw [hr]; rfl
    rw [he]
    (have hwq := trivial; repeat' (first | simp (maxSteps:=9999999)-implicitDefEqProofs only [go_sem,simprocAttr,hwq,FT3,FT4,FT5,FT23,FT24,FT25,FT26,FT27,FT29,FT32,FT34,FT35,FT37,FT46,FT59,FT123] | (refine awpL_loop 18 ?_; have hwq := trivial) | (refine condK_split ?_ ?_ <;> intro hwq) | (refine two_split ?_ ?_) | (refine guardK_split ?_ ?_ <;> intro hwq) | (refine guardE_split ?_ ?_ <;> intro hwq) | (refine awp_drawW [] (by decide +kernel) ?_; have hwq := trivial) | (refine call_plain h1 rfl rfl ?_; have hwq := trivial) | fail))
  | true =>
    rw [hr] at h1
    (have hwq := trivial; repeat' (first | simp (maxSteps:=9999999)-implicitDefEqProofs only [go_sem,simprocAttr,hwq,FT3,FT4,FT5,FT23,FT24,FT25,FT26,FT27,FT29,FT32,FT34,FT35,FT37,FT46,FT59,FT123] | (refine condK_split ?_ ?_ <;> intro hwq) | (refine two_split ?_ ?_) | (refine guardK_split ?_ ?_ <;> intro hwq) | (refine guardE_split ?_ ?_ <;> intro hwq) | (refine awp_drawW [] (by decide +kernel) ?_; have hwq := trivial) | (refine call_plain h1 rfl rfl ?_; have hwq := trivial) | fail))
    refine awp_loopK (PoI p l) l.length _ (Weak.cutI 1 [1, 2, 12, 13, 14] ?_ ?_) ⟨0, _, rfl, by omega, rfl, by simp⟩ ?_
    · simp (maxSteps:=9999999)-implicitDefEqProofs only [simprocAttr,QH,Option.isSome,cond_true,cond_false,Option.bind,selB,V.rn,V.rns,Go.Ai.known,V.pz,V.pzs,T.toV,frz1,List.range,List.range.loop,ite_true,ite_false,if_true,if_false,ne_eq,implies_true,forall_const,eq_self,IntKind.bits,upd_tmsS,selT_cons,selT_nil,List.length_map,List.getElem?_map,Int.natCast_nonneg,List.length_append,List.map_append]
    · simp (maxSteps:=9999999)-implicitDefEqProofs only [simprocAttr,QH,Option.isSome,cond_true,cond_false,Option.bind,selB,V.rn,V.rns,Go.Ai.known,V.pz,V.pzs,T.toV,frz1,List.range,List.range.loop,ite_true,ite_false,if_true,if_false,ne_eq,implies_true,forall_const,eq_self,IntKind.bits,upd_tmsS,selT_cons,selT_nil]
    rintro kk S ⟨j, mv, rfl, hj, rfl, hno⟩
    have wj : IntKind.i64.wrap ((j : Int) + 1) = (j : Int) + 1 := wI64 _ (by omega) (by omega)
    by_cases hjl : j < l.length
    · have hjl' : (j : Int) < (l.length : Int) := by omega
      have hgj : l[j]? = some l[j] := List.getElem?_eq_getElem hjl
      obtain ⟨x, hx⟩ : ∃ x, l[j] = x := ⟨_, rfl⟩
      rw [hx] at hgj
      have hkx := hk x
      cases hq : (kindP p.ks x == 0) with
      | true =>
        have he : portsE p.ks l = 5 := by
          unfold portsE
          rw [hr, any_some (q := fun x => kindP p.ks x == 0) hgj hq]
          rfl
        rw [he]
        (have hwq := trivial; repeat' (first | simp (maxSteps:=9999999)-implicitDefEqProofs only [go_sem,simprocAttr,hwq,FT3,FT4,FT5,FT23,FT24,FT25,FT26,FT27,FT29,FT32,FT34,FT35,FT37,FT46,FT59,FT123,List.length_map,List.getElem?_map,Int.natCast_nonneg,List.length_append,List.map_append,hjl',hgj,wj,hq] | (refine condK_split ?_ ?_ <;> intro hwq) | (refine two_split ?_ ?_) | (refine guardK_split ?_ ?_ <;> intro hwq) | (refine guardE_split ?_ ?_ <;> intro hwq) | (refine awp_drawW [] (by decide +kernel) ?_; have hwq := trivial) | (refine call_plain hkx rfl rfl ?_; have hwq := trivial) | fail))
      | false =>
        (have hwq := trivial; repeat' (first | simp (maxSteps:=9999999)-implicitDefEqProofs only [go_sem,simprocAttr,hwq,FT3,FT4,FT5,FT23,FT24,FT25,FT26,FT27,FT29,FT32,FT34,FT35,FT37,FT46,FT59,FT123,List.length_map,List.getElem?_map,Int.natCast_nonneg,List.length_append,List.map_append,hjl',hgj,wj,hq] | (refine condK_split ?_ ?_ <;> intro hwq) | (refine two_split ?_ ?_) | (refine guardK_split ?_ ?_ <;> intro hwq) | (refine guardE_split ?_ ?_ <;> intro hwq) | (refine awp_drawW [] (by decide +kernel) ?_; have hwq := trivial) | (refine call_plain hkx rfl rfl ?_; have hwq := trivial) | fail))
        refine ⟨l.length - (j + 1), _, by omega, Weak.cutI 1 [1, 2, 12, 13, 14] ?_ ?_, j + 1, _, rfl, by omega, rfl, take_more hno hgj hq⟩
        · simp (maxSteps:=9999999)-implicitDefEqProofs only [simprocAttr,QH,Option.isSome,cond_true,cond_false,Option.bind,selB,V.rn,V.rns,Go.Ai.known,V.pz,V.pzs,T.toV,frz1,List.range,List.range.loop,ite_true,ite_false,if_true,if_false,ne_eq,implies_true,forall_const,eq_self,IntKind.bits,upd_tmsS,selT_cons,selT_nil,List.length_map,List.getElem?_map,Int.natCast_nonneg,List.length_append,List.map_append]
        · simp (maxSteps:=9999999)-implicitDefEqProofs only [simprocAttr,QH,Option.isSome,cond_true,cond_false,Option.bind,selB,V.rn,V.rns,Go.Ai.known,V.pz,V.pzs,T.toV,frz1,List.range,List.range.loop,ite_true,ite_false,if_true,if_false,ne_eq,implies_true,forall_const,eq_self,IntKind.bits,upd_tmsS,selT_cons,selT_nil,List.length_map,List.getElem?_map,Int.natCast_nonneg,List.length_append,List.map_append]
    · have hjl' : ¬ (j : Int) < (l.length : Int) := by omega
      rw [List.take_of_length_le (by omega)] at hno
      have h0 := any_none (q := fun x => kindP p.ks x == 0) hno
      (have hwq := trivial; repeat' (first | simp (maxSteps:=9999999)-implicitDefEqProofs only [go_sem,simprocAttr,hwq,FT3,FT4,FT5,FT23,FT24,FT25,FT26,FT27,FT29,FT32,FT34,FT35,FT37,FT46,FT59,FT123,List.length_map,List.getElem?_map,Int.natCast_nonneg,List.length_append,List.map_append,hjl'] | (refine condK_split ?_ ?_ <;> intro hwq) | (refine two_split ?_ ?_) | (refine guardK_split ?_ ?_ <;> intro hwq) | (refine guardE_split ?_ ?_ <;> intro hwq) | (refine awp_drawW [] (by decide +kernel) ?_; have hwq := trivial) | fail))
      refine awp_loopK (PoJ p l) l.length _ (Weak.cutI 1 [2, 23, 24, 25] ?_ ?_) ⟨0, _, rfl, by omega, rfl, by simp⟩ ?_
      · simp (maxSteps:=9999999)-implicitDefEqProofs only [simprocAttr,QH,Option.isSome,cond_true,cond_false,Option.bind,selB,V.rn,V.rns,Go.Ai.known,V.pz,V.pzs,T.toV,frz1,List.range,List.range.loop,ite_true,ite_false,if_true,if_false,ne_eq,implies_true,forall_const,eq_self,IntKind.bits,upd_tmsS,selT_cons,selT_nil,List.length_map,List.getElem?_map,Int.natCast_nonneg,List.length_append,List.map_append]
      · simp (maxSteps:=9999999)-implicitDefEqProofs only [simprocAttr,QH,Option.isSome,cond_true,cond_false,Option.bind,selB,V.rn,V.rns,Go.Ai.known,V.pz,V.pzs,T.toV,frz1,List.range,List.range.loop,ite_true,ite_false,if_true,if_false,ne_eq,implies_true,forall_const,eq_self,IntKind.bits,upd_tmsS,selT_cons,selT_nil]
      rintro kk S ⟨j, mv, rfl, hj, rfl, hno2⟩
      have wj : IntKind.i64.wrap ((j : Int) + 1) = (j : Int) + 1 := wI64 _ (by omega) (by omega)
      by_cases hjl : j < l.length
      · have hjl' : (j : Int) < (l.length : Int) := by omega
        have hgj : l[j]? = some l[j] := List.getElem?_eq_getElem hjl
        obtain ⟨x, hx⟩ : ∃ x, l[j] = x := ⟨_, rfl⟩
        rw [hx] at hgj
        have hkx := hk x
        cases hq : (kindP p.ks x != 2) with
        | true =>
          have he : portsE p.ks l = 184 := by
            unfold portsE
            rw [hr, h0, any_some (q := fun x => kindP p.ks x != 2) hgj hq]
            rfl
          rw [he]
          (have hwq := trivial; repeat' (first | simp (maxSteps:=9999999)-implicitDefEqProofs only [go_sem,simprocAttr,hwq,FT3,FT4,FT5,FT23,FT24,FT25,FT26,FT27,FT29,FT32,FT34,FT35,FT37,FT46,FT59,FT123,List.length_map,List.getElem?_map,Int.natCast_nonneg,List.length_append,List.map_append,hjl',hgj,wj,hq] | (refine condK_split ?_ ?_ <;> intro hwq) | (refine two_split ?_ ?_) | (refine guardK_split ?_ ?_ <;> intro hwq) | (refine guardE_split ?_ ?_ <;> intro hwq) | (refine awp_drawW [] (by decide +kernel) ?_; have hwq := trivial) | (refine call_plain hkx rfl rfl ?_; have hwq := trivial) | fail))
        | false =>
          (have hwq := trivial; repeat' (first | simp (maxSteps:=9999999)-implicitDefEqProofs only [go_sem,simprocAttr,hwq,FT3,FT4,FT5,FT23,FT24,FT25,FT26,FT27,FT29,FT32,FT34,FT35,FT37,FT46,FT59,FT123,List.length_map,List.getElem?_map,Int.natCast_nonneg,List.length_append,List.map_append,hjl',hgj,wj,hq] | (refine condK_split ?_ ?_ <;> intro hwq) | (refine two_split ?_ ?_) | (refine guardK_split ?_ ?_ <;> intro hwq) | (refine guardE_split ?_ ?_ <;> intro hwq) | (refine awp_drawW [] (by decide +kernel) ?_; have hwq := trivial) | (refine call_plain hkx rfl rfl ?_; have hwq := trivial) | fail))
          refine ⟨l.length - (j + 1), _, by omega, Weak.cutI 1 [2, 23, 24, 25] ?_ ?_, j + 1, _, rfl, by omega, rfl, take_more hno2 hgj hq⟩
          · simp (maxSteps:=9999999)-implicitDefEqProofs only [simprocAttr,QH,Option.isSome,cond_true,cond_false,Option.bind,selB,V.rn,V.rns,Go.Ai.known,V.pz,V.pzs,T.toV,frz1,List.range,List.range.loop,ite_true,ite_false,if_true,if_false,ne_eq,implies_true,forall_const,eq_self,IntKind.bits,upd_tmsS,selT_cons,selT_nil,List.length_map,List.getElem?_map,Int.natCast_nonneg,List.length_append,List.map_append]
          · simp (maxSteps:=9999999)-implicitDefEqProofs only [simprocAttr,QH,Option.isSome,cond_true,cond_false,Option.bind,selB,V.rn,V.rns,Go.Ai.known,V.pz,V.pzs,T.toV,frz1,List.range,List.range.loop,ite_true,ite_false,if_true,if_false,ne_eq,implies_true,forall_const,eq_self,IntKind.bits,upd_tmsS,selT_cons,selT_nil,List.length_map,List.getElem?_map,Int.natCast_nonneg,List.length_append,List.map_append]
      · have hjl' : ¬ (j : Int) < (l.length : Int) := by omega
        rw [List.take_of_length_le (by omega)] at hno2
        have h2 := any_none (q := fun x => kindP p.ks x != 2) hno2
        have he : portsE p.ks l = 0 := by
          unfold portsE
          rw [hr, h0, h2]
          rfl
        rw [he]
        (have hwq := trivial; repeat' (first | simp (maxSteps:=9999999)-implicitDefEqProofs only [go_sem,simprocAttr,hwq,FT3,FT4,FT5,FT23,FT24,FT25,FT26,FT27,FT29,FT32,FT34,FT35,FT37,FT46,FT59,FT123,List.length_map,List.getElem?_map,Int.natCast_nonneg,List.length_append,List.map_append,hjl'] | (refine condK_split ?_ ?_ <;> intro hwq) | (refine two_split ?_ ?_) | (refine guardK_split ?_ ?_ <;> intro hwq) | (refine guardE_split ?_ ?_ <;> intro hwq) | (refine awp_drawW [] (by decide +kernel) ?_; have hwq := trivial) | fail))
theorem pk66 (p : Pv) (hp : okL p) (x : Mb) (hx : x.l.length ≤ 1000) : AC Tryz.prog 66 [mbV x, .ptr 0 0 0] [bxP p] (eqS (vB (!decide (vidOk x.v) || portsE p.ks x.l != 0)) [bxP p]) := by
  have h1 := pc67 x.v
  have h2 := pc68 p hp x.l hx
  generalize decide (vidOk x.v) = b at h1
  refine AC_heap orders [0] Tryz.func66 rfl (by kernel_rfl) (by kernel_rfl) Tryz.ntmps66 (by simp) ?_
  unfold Tryz.f66
  (have hwq := trivial; repeat' (first | simp (maxSteps:=9999999)-implicitDefEqProofs only [go_sem,simprocAttr,hwq,FT3,FT4,FT5,FT23,FT24,FT25,FT26,FT27,FT29,FT32,FT34,FT35,FT37,FT46,FT59] | (refine awpL_loop 18 ?_; have hwq := trivial) | (refine condK_split ?_ ?_ <;> intro hwq) | (refine two_split ?_ ?_) | (refine guardK_split ?_ ?_ <;> intro hwq) | (refine guardE_split ?_ ?_ <;> intro hwq) | (refine awp_drawW [] (by decide +kernel) ?_; have hwq := trivial) | (refine call_plain h1 rfl rfl ?_; have hwq := trivial) | (refine call_plain h2 rfl rfl ?_; have hwq := trivial) | fail))
  all_goals simp_all
theorem pk70 (p : Pv) (hp : okL p) (x : Cr) : AC Tryz.prog 70 [crV x, .ptr 0 0 0] [bxP p] (eqS (vB (!decide (isidOk x.s) || !hasM p.bs x.v)) [bxP p]) := by
  have h1 := pc71 x.s
  have h2 := pc48 p hp x.v
  generalize decide (isidOk x.s) = b at h1
  generalize hasM p.bs x.v = b2 at h2
  refine AC_heap orders [0] Tryz.func70 rfl (by kernel_rfl) (by kernel_rfl) Tryz.ntmps70 (by simp) ?_
  unfold Tryz.f70
  (have hwq := trivial; repeat' (first | simp (maxSteps:=9999999)-implicitDefEqProofs only [go_sem,simprocAttr,hwq,FT3,FT4,FT5,FT23,FT24,FT25,FT26,FT27,FT29,FT32,FT34,FT35,FT37,FT59] | (refine awpL_loop 18 ?_; have hwq := trivial) | (refine condK_split ?_ ?_ <;> intro hwq) | (refine two_split ?_ ?_) | (refine guardK_split ?_ ?_ <;> intro hwq) | (refine guardE_split ?_ ?_ <;> intro hwq) | (refine awp_drawW [] (by decide +kernel) ?_; have hwq := trivial) | (refine call_plain h1 rfl rfl ?_; have hwq := trivial) | (refine call_plain h2 rfl rfl ?_; have hwq := trivial) | fail))
  all_goals simp_all
end Go.Ai

set_option linter.unusedVariables false
set_option linter.unusedSimpArgs false
set_option maxHeartbeats 8000000
set_option maxRecDepth 100000
namespace Go.Ai
open Go.Proofs
attribute [local go_sem] QH QR V.noimm V.noimms frzZs frzZ frzA frzV frzVs frzBox boxLen Option.isSome cond_true cond_false aopD calW flatV stepX amap stepY alookup afind aupdate adelete amlen arange ameq mapOf akeq pl V.mapT V.mapTs Option.bind stepK runK guardD stepE runD callD compact selB callK evS ofVal ofVals scalar aop ares mkRes V.rn V.rns V.cells? cellsAt Go.Ai.part aload astore setL V.atom abin aun intBin shiftBin aconv fieldOf aindexAddr aindex bound? aslice aarr abuild afill alen nilP nilS nilF aeq eqCells eqCell Go.Ai.known strBin abuiltin aappend abuildSlice arowsFill amakeSlice acopy aclear minmax rowsOf numsT notStr isIntD isByte V.pz V.pzs T.toV frz1 frz scalT scalTs chunkT List.range List.range.loop ite_true ite_false if_true if_false ne_eq implies_true forall_const eq_self IntKind.bits kPostKF_ret kPostKF_normal kPostX_ret kPostX_normal bsl nil2K nil2 kPostFW_ret kPostFW_normal kPostKM_ret kPostKM_normal kPostXK_ret kPostXK_normal
def CpI (p : Pv) (n : Nat) (S : St) : Prop :=
  ∃ (j : Nat) (mv : List Nat), S = ⟨tms [(1, .ptr 0 0 0), (2, .ptr 1 0 0), (22, vI p.bs.length), (23, vI j)], [.box [.s (.int .u8 p.own.a), .s (.int .u8 p.own.b), .s (.int .u8 p.own.c), .s (.int .u8 p.own.d), .s (.int .u8 p.own.e), .s (.int .u8 p.own.f), isV p.ks, msV p.ms, csV p.cs, .own 2 0 p.bs.length] false, .box [.s (.int .u8 0), .s (.int .u8 0), .s (.int .u8 0), .s (.int .u8 0), .s (.int .u8 0), .s (.int .u8 0), .s (.slice none 0 0), .s (.slice none 0 0), .s (.slice none 0 0), .s (.slice none 0 0)] false, .rows 2 (p.bs.map mbT) false], mv⟩ ∧ j ≤ p.bs.length ∧ n = p.bs.length - j
theorem pc33 (p : Pv) (hp : okL p) : AC Tryz.prog 33 [pvV p] [] (eqR (pvV p)) := by
  obtain ⟨l1, l2, l3, l4, l5⟩ := hp
  have n93 := pcl93 (p.ks.map inT) (by simp; omega)
  have n94 := pcl94 (p.ms.map mpT) (by simp; omega)
  have n95 := pcl95 (p.cs.map crT) (by simp; omega)
  have n96 := pco96 (p.bs.map mbT) (by simp; omega)
  rw [List.length_map] at n96
  refine AC_frozen orders Tryz.func33 rfl (by kernel_rfl) (by kernel_rfl) Tryz.ntmps33 (by simp) ?_
  unfold Tryz.f33
  (have hwq := trivial; repeat' (first | simp (maxSteps:=9999999)-implicitDefEqProofs only [go_sem,simprocAttr,hwq,FT3,FT5,FT23,FT24,FT25,FT26,FT27,FT29,FT32,FT34,FT35,FT37,FT59,List.length_map,List.getElem?_map,Int.natCast_nonneg,List.length_append,List.map_append] | (refine condK_split ?_ ?_ <;> intro hwq) | (refine two_split ?_ ?_) | (refine guardK_split ?_ ?_ <;> intro hwq) | (refine guardE_split ?_ ?_ <;> intro hwq) | (refine awp_drawI 1 [96] (List.range 20) [0, 1, 3, 0, 8, 31, 0, 64, 255, 0, 512, 2047, 1759, 8191, 16383, 32767, 65535, 131071, 262143, 524287] (by decide +kernel) ?_; have hwq := trivial) | (refine awp_drawW [96] (by decide +kernel) ?_; have hwq := trivial) | (refine draw_plain n93 rfl (fun _ => rfl) ?_; have hwq := trivial) | (refine draw_plain n94 rfl (fun _ => rfl) ?_; have hwq := trivial) | (refine draw_plain n95 rfl (fun _ => rfl) ?_; have hwq := trivial) | (refine drawW_at [] n96 (by simp) (by decide) rfl rfl (by simp) (V.les_refl _) ?_; have hwq := trivial) | fail))
  refine awp_loopK (CpI p) p.bs.length _ (Weak.cutI 3 [1, 2, 22, 23] ?_ ?_) ⟨0, _, rfl, by omega, rfl⟩ ?_
  · simp (maxSteps:=9999999)-implicitDefEqProofs only [simprocAttr,QH,Option.isSome,cond_true,cond_false,Option.bind,selB,V.rn,V.rns,Go.Ai.known,V.pz,V.pzs,T.toV,frz1,List.range,List.range.loop,ite_true,ite_false,if_true,if_false,ne_eq,implies_true,forall_const,eq_self,IntKind.bits,upd_tmsS,selT_cons,selT_nil,List.length_map,List.getElem?_map,Int.natCast_nonneg,List.length_append,List.map_append]
  · simp (maxSteps:=9999999)-implicitDefEqProofs only [simprocAttr,QH,Option.isSome,cond_true,cond_false,Option.bind,selB,V.rn,V.rns,Go.Ai.known,V.pz,V.pzs,T.toV,frz1,List.range,List.range.loop,ite_true,ite_false,if_true,if_false,ne_eq,implies_true,forall_const,eq_self,IntKind.bits,upd_tmsS,selT_cons,selT_nil]
  rintro kk S ⟨j, mv, rfl, hj, rfl⟩
  have wj : IntKind.i64.wrap ((j : Int) + 1) = (j : Int) + 1 := wI64 _ (by omega) (by omega)
  by_cases hjl : j < p.bs.length
  · have hjl' : (j : Int) < (p.bs.length : Int) := by omega
    have hgj : p.bs[j]? = some p.bs[j] := List.getElem?_eq_getElem hjl
    obtain ⟨x, hx⟩ : ∃ x, p.bs[j] = x := ⟨_, rfl⟩
    rw [hx] at hgj
    have n46 := pcl46 (x.l.map inT) (by simp; have := l5 x (mem_in hgj); omega)
    have hset : List.set (List.map mbT p.bs) j (mbT x) = List.map mbT p.bs := by
      apply List.ext_getElem?
      intro i
      by_cases hij : j = i
      · subst hij
        rw [List.getElem?_set_self (by simpa using hjl), List.getElem?_map, hgj]
        rfl
      · rw [List.getElem?_set_ne hij]
    (have hwq := trivial; repeat' (first | simp (maxSteps:=9999999)-implicitDefEqProofs only [go_sem,simprocAttr,hwq,FT3,FT5,FT23,FT24,FT25,FT26,FT27,FT29,FT32,FT34,FT35,FT37,FT59,List.length_map,List.getElem?_map,Int.natCast_nonneg,List.length_append,List.map_append,hjl',hgj,wj,hset] | (refine condK_split ?_ ?_ <;> intro hwq) | (refine two_split ?_ ?_) | (refine guardK_split ?_ ?_ <;> intro hwq) | (refine guardE_split ?_ ?_ <;> intro hwq) | (refine awp_drawI 1 [96] (List.range 20) [0, 1, 3, 0, 8, 31, 0, 64, 255, 0, 512, 2047, 1759, 8191, 16383, 32767, 65535, 131071, 262143, 524287] (by decide +kernel) ?_; have hwq := trivial) | (refine awp_drawW [96] (by decide +kernel) ?_; have hwq := trivial) | (refine draw_plain n46 rfl (fun _ => rfl) ?_; have hwq := trivial) | fail))
    refine ⟨p.bs.length - (j + 1), _, by omega, Weak.cutI 3 [1, 2, 22, 23] ?_ ?_, j + 1, _, rfl, by omega, rfl⟩
    · simp (maxSteps:=9999999)-implicitDefEqProofs only [simprocAttr,QH,Option.isSome,cond_true,cond_false,Option.bind,selB,V.rn,V.rns,Go.Ai.known,V.pz,V.pzs,T.toV,frz1,List.range,List.range.loop,ite_true,ite_false,if_true,if_false,ne_eq,implies_true,forall_const,eq_self,IntKind.bits,upd_tmsS,selT_cons,selT_nil,List.length_map,List.getElem?_map,Int.natCast_nonneg,List.length_append,List.map_append]
    · simp (maxSteps:=9999999)-implicitDefEqProofs only [simprocAttr,QH,Option.isSome,cond_true,cond_false,Option.bind,selB,V.rn,V.rns,Go.Ai.known,V.pz,V.pzs,T.toV,frz1,List.range,List.range.loop,ite_true,ite_false,if_true,if_false,ne_eq,implies_true,forall_const,eq_self,IntKind.bits,upd_tmsS,selT_cons,selT_nil,List.length_map,List.getElem?_map,Int.natCast_nonneg,List.length_append,List.map_append]
  · have hjl' : ¬ (j : Int) < (p.bs.length : Int) := by omega
    have tk : List.take p.bs.length (List.map mbT p.bs) = List.map mbT p.bs := List.take_of_length_le (by simp)
    (have hwq := trivial; repeat' (first | simp (maxSteps:=9999999)-implicitDefEqProofs only [go_sem,simprocAttr,hwq,FT3,FT5,FT23,FT24,FT25,FT26,FT27,FT29,FT32,FT34,FT35,FT37,FT59,List.length_map,List.getElem?_map,Int.natCast_nonneg,List.length_append,List.map_append,hjl',tk,Nat.le_refl] | (refine condK_split ?_ ?_ <;> intro hwq) | (refine two_split ?_ ?_) | (refine guardK_split ?_ ?_ <;> intro hwq) | (refine guardE_split ?_ ?_ <;> intro hwq) | (refine awp_drawI 1 [96] (List.range 20) [0, 1, 3, 0, 8, 31, 0, 64, 255, 0, 512, 2047, 1759, 8191, 16383, 32767, 65535, 131071, 262143, 524287] (by decide +kernel) ?_; have hwq := trivial) | (refine awp_drawW [96] (by decide +kernel) ?_; have hwq := trivial) | fail))
end Go.Ai

set_option linter.unusedVariables false
set_option linter.unusedSimpArgs false
set_option maxHeartbeats 8000000
set_option maxRecDepth 100000
namespace Go.Ai
open Go.Proofs
attribute [local go_sem] QH QR V.noimm V.noimms frzZs frzZ frzA frzV frzVs frzBox boxLen Option.isSome cond_true cond_false aopD calW flatV stepX amap stepY alookup afind aupdate adelete amlen arange ameq mapOf akeq pl V.mapT V.mapTs Option.bind stepK runK guardD stepE runD callD compact selB callK evS ofVal ofVals scalar aop ares mkRes V.rn V.rns V.cells? cellsAt Go.Ai.part aload astore setL V.atom abin aun intBin shiftBin aconv fieldOf aindexAddr aindex bound? aslice aarr abuild afill alen nilP nilS nilF aeq eqCells eqCell Go.Ai.known strBin abuiltin aappend abuildSlice arowsFill amakeSlice acopy aclear minmax rowsOf numsT notStr isIntD isByte V.pz V.pzs T.toV frz1 frz scalT scalTs chunkT List.range List.range.loop ite_true ite_false if_true if_false ne_eq implies_true forall_const eq_self IntKind.bits kPostKF_ret kPostKF_normal kPostX_ret kPostX_normal bsl nil2K nil2 kPostFW_ret kPostFW_normal kPostKM_ret kPostKM_normal kPostXK_ret kPostXK_normal
def mOk (p : Pv) (pre : List Mp) (m : Mp) : Bool := !(pre.any fun x => x.p == m.p && x.s == m.s) && (kindP p.ks m.p == 1 && (decide (vidOk m.v) && hasC p.cs m.s))
def okA (p : Pv) : Bool := kindZ p.own.a p.own.b p.own.c p.own.d p.own.e p.own.f == 1 && (decide (1 ≤ (p.ks.length : Int) ∧ (p.ks.length : Int) ≤ 8) && (decide ((p.ms.length : Int) ≤ 64) && (decide ((p.cs.length : Int) ≤ 64) && decide ((p.bs.length : Int) ≤ 64))))
def okR (p : Pv) : Bool := risB ltMb p.bs && (risB ltCr p.cs && risB beforeB p.ms)
def okQ (p : Pv) : Bool := !(p.ks.any fun x => x != 1 && x != 2) && (!(p.bs.any fun x => !decide (vidOk x.v) || portsE p.ks x.l != 0) && !(p.cs.any fun x => !decide (isidOk x.s) || !hasM p.bs x.v))
def okM (p : Pv) : Bool := (List.range p.ms.length).all fun i => mOk p (p.ms.take i) (p.ms.getD i default)
/-- May it be? -/
def okB (p : Pv) : Bool := okA p && (okR p && (okQ p && okM p))
def checkE (p : Pv) : Int := if okB p = true then 0 else 180
theorem chk_no {p : Pv} (h : okB p = false) : (180 : Int) = checkE p := by unfold checkE; rw [h]; rfl
def ChI (p : Pv) (n : Nat) (S : St) : Prop :=
  ∃ (j : Nat) (mv : List Nat), S = ⟨tms [(1, .ptr 0 0 0), (3, vB true), (52, msV p.ms), (53, vI p.ms.length), (54, vI j)], [bxP p], mv⟩ ∧ j ≤ p.ms.length ∧ n = p.ms.length - j ∧ ∀ i, i < j → mOk p (p.ms.take i) (p.ms.getD i default) = true
theorem pc17 (p : Pv) (hp : okL p) (ho : isB p.own.a) : AC Tryz.prog 17 [pvV p] [] (eqR (vI (checkE p))) := by
  obtain ⟨l1, l2, l3, l4, l5⟩ := hp
  have n58 := pc58 p.own.a p.own.b p.own.c p.own.d p.own.e p.own.f ho
  have n59 := pc59 (p.ks.length : Int) 1 8
  have n60 := pr60 p.bs (by omega)
  have n61 := pr61 p.cs (by omega)
  have n62 := pr62 p.ms (by omega)
  have n63 := pcf63 64 (fun x => x != 1 && x != 2) p.ks (by omega) (fun x _ => pk64 x)
  have n65 := pcf65 66 _ (flat_pv p) (fun x => !decide (vidOk x.v) || portsE p.ks x.l != 0) p.bs (by omega) (fun x hx => pk66 p ⟨l1, l2, l3, l4, l5⟩ x (l5 x hx))
  have n69 := pcf69 70 _ (flat_pv p) (fun x => !decide (isidOk x.s) || !hasM p.bs x.v) p.cs (by omega) (fun x hx => pk70 p ⟨l1, l2, l3, l4, l5⟩ x)
  refine AC_plain orders Tryz.func17 rfl (by kernel_rfl) (by kernel_rfl) Tryz.ntmps17 (by simp) ?_
  unfold Tryz.f17
  have dA : okA p = (kindZ p.own.a p.own.b p.own.c p.own.d p.own.e p.own.f == 1 && (decide (1 ≤ (p.ks.length : Int) ∧ (p.ks.length : Int) ≤ 8) && (decide ((p.ms.length : Int) ≤ 64) && (decide ((p.cs.length : Int) ≤ 64) && decide ((p.bs.length : Int) ≤ 64))))) := rfl
  have dR : okR p = (risB ltMb p.bs && (risB ltCr p.cs && risB beforeB p.ms)) := rfl
  have dQ : okQ p = (!(p.ks.any fun x => x != 1 && x != 2) && (!(p.bs.any fun x => !decide (vidOk x.v) || portsE p.ks x.l != 0) && !(p.cs.any fun x => !decide (isidOk x.s) || !hasM p.bs x.v))) := rfl
  generalize decide (1 ≤ (p.ks.length : Int) ∧ (p.ks.length : Int) ≤ 8) = gb1 at n59 dA
  generalize risB ltMb p.bs = r1 at n60 dR
  generalize risB ltCr p.cs = r2 at n61 dR
  generalize risB beforeB p.ms = r3 at n62 dR
  generalize (p.ks.any fun x => x != 1 && x != 2) = q1 at n63 dQ
  generalize (p.bs.any fun x => !decide (vidOk x.v) || portsE p.ks x.l != 0) = q2 at n65 dQ
  generalize (p.cs.any fun x => !decide (isidOk x.s) || !hasM p.bs x.v) = q3 at n69 dQ
  obtain ⟨gg3, hc3⟩ : ∃ c, decide ((p.ms.length : Int) ≤ 64) = c := ⟨_, rfl⟩
  obtain ⟨gg4, hc4⟩ : ∃ c, decide ((p.cs.length : Int) ≤ 64) = c := ⟨_, rfl⟩
  obtain ⟨gg5, hc5⟩ : ∃ c, decide ((p.bs.length : Int) ≤ 64) = c := ⟨_, rfl⟩
  rw [hc3, hc4, hc5] at dA
  have dB : okB p = (okA p && (okR p && (okQ p && okM p))) := rfl
  (have hwq := trivial; repeat' (first | simp (maxSteps:=9999999)-implicitDefEqProofs only [go_sem,simprocAttr,hwq,FT3,FT4,FT5,FT23,FT24,FT25,FT26,FT27,FT29,FT32,FT34,FT35,FT37,FT46,FT59,FT69,FT73,FT78,FT86,FT93,FT97,FT99,FT101,List.length_map,List.getElem?_map,Int.natCast_nonneg,List.length_append,List.map_append,hc3,hc4,hc5] | (refine condK_split ?_ ?_ <;> intro hwq) | (refine two_split ?_ ?_) | (refine guardK_split ?_ ?_ <;> intro hwq) | (refine guardE_split ?_ ?_ <;> intro hwq) | (refine awp_drawW [] (by decide +kernel) ?_; have hwq := trivial) | (refine call_plain n58 rfl rfl ?_; have hwq := trivial) | (refine call_plain n59 rfl rfl ?_; have hwq := trivial) | (refine call_plain n60 rfl rfl ?_; have hwq := trivial) | (refine call_plain n61 rfl rfl ?_; have hwq := trivial) | (refine call_plain n62 rfl rfl ?_; have hwq := trivial) | (refine call_plain n63 rfl rfl ?_; have hwq := trivial) | (refine call_at [0] n65 (by simp) (by decide) rfl rfl (by simp [mapT_box, V.mapTs, V.mapT, pl]) (by simp [V.les, V.le, V.mapTs, V.mapT, pl]) ?_; have hwq := trivial) | (refine call_at [0] n69 (by simp) (by decide) rfl rfl (by simp [mapT_box, V.mapTs, V.mapT, pl]) (by simp [V.les, V.le, V.mapTs, V.mapT, pl]) ?_; have hwq := trivial) | fail))
  all_goals first
    | (clear hc3 hc4 hc5; refine chk_no ?_; rw [dB, dA, dR, dQ]; simp_all; done)
    | skip
  have h3 : r3 = true := by simp_all
  subst h3
  have hok : (okA p && (okR p && okQ p)) = true := by clear hc3 hc4 hc5; rw [dA, dR, dQ]; simp_all
  refine awp_loopK (ChI p) p.ms.length _ (Weak.cutI 1 [1, 3, 52, 53, 54] ?_ ?_) ⟨0, _, rfl, by omega, rfl, by simp⟩ ?_
  · simp (maxSteps:=9999999)-implicitDefEqProofs only [simprocAttr,QH,Option.isSome,cond_true,cond_false,Option.bind,selB,V.rn,V.rns,Go.Ai.known,V.pz,V.pzs,T.toV,frz1,List.range,List.range.loop,ite_true,ite_false,if_true,if_false,ne_eq,implies_true,forall_const,eq_self,IntKind.bits,upd_tmsS,selT_cons,selT_nil,List.length_map,List.getElem?_map,Int.natCast_nonneg,List.length_append,List.map_append]
  · simp (maxSteps:=9999999)-implicitDefEqProofs only [simprocAttr,QH,Option.isSome,cond_true,cond_false,Option.bind,selB,V.rn,V.rns,Go.Ai.known,V.pz,V.pzs,T.toV,frz1,List.range,List.range.loop,ite_true,ite_false,if_true,if_false,ne_eq,implies_true,forall_const,eq_self,IntKind.bits,upd_tmsS,selT_cons,selT_nil]
  rintro kk S ⟨j, mv, rfl, hj, rfl, hno⟩
  have wj : IntKind.i64.wrap ((j : Int) + 1) = (j : Int) + 1 := wI64 _ (by omega) (by omega)
  by_cases hjl : j < p.ms.length
  · have hjl' : (j : Int) < (p.ms.length : Int) := by omega
    have hgj : p.ms[j]? = some p.ms[j] := List.getElem?_eq_getElem hjl
    obtain ⟨m, hm⟩ : ∃ m, p.ms[j] = m := ⟨_, rfl⟩
    rw [hm] at hgj
    have hd : p.ms.getD j default = m := by rw [List.getD_eq_getElem?_getD, hgj]; rfl
    have htk : List.take j (List.map mpT p.ms) = List.map mpT (p.ms.take j) := by rw [List.map_take]
    have hjle : j ≤ p.ms.length := hj
    have n72 := pcf72 73 _ (flat_mp m) (fun x => x.p == m.p && x.s == m.s) (p.ms.take j) (by rw [List.length_take]; omega) (fun x _ => pk73 x m)
    have n74 := pc74 p (by omega) m.p
    have n67 := pc67 m.v
    have n75 := pc75 p ⟨l1, l2, l3, l4, l5⟩ m.s
    have dM : mOk p (p.ms.take j) m = (!((p.ms.take j).any fun x => x.p == m.p && x.s == m.s) && (kindP p.ks m.p == 1 && (decide (vidOk m.v) && hasC p.cs m.s))) := rfl
    generalize ((p.ms.take j).any fun x => x.p == m.p && x.s == m.s) = m1 at n72 dM
    generalize decide (vidOk m.v) = m3 at n67 dM
    generalize hasC p.cs m.s = m4 at n75 dM
    have bad : mOk p (p.ms.take j) m = false → okB p = false := by
      intro h
      have : okM p = false := by
        rw [Bool.eq_false_iff]
        intro hc
        have := List.all_eq_true.1 hc j (List.mem_range.2 hjl)
        rw [hd, h] at this
        simp at this
      rw [dB, this]
      simp
    (have hwq := trivial; repeat' (first | simp (maxSteps:=9999999)-implicitDefEqProofs only [go_sem,simprocAttr,hwq,FT3,FT4,FT5,FT23,FT24,FT25,FT26,FT27,FT29,FT32,FT34,FT35,FT37,FT46,FT59,FT69,FT73,FT78,FT86,FT93,FT97,FT99,FT101,List.length_map,List.getElem?_map,Int.natCast_nonneg,List.length_append,List.map_append,hjl',hjle,hgj,wj,htk,Nat.zero_le,Nat.sub_zero] | (refine condK_split ?_ ?_ <;> intro hwq) | (refine two_split ?_ ?_) | (refine guardK_split ?_ ?_ <;> intro hwq) | (refine guardE_split ?_ ?_ <;> intro hwq) | (refine awp_drawW [] (by decide +kernel) ?_; have hwq := trivial) | (refine call_at [1] n72 (by simp) (by decide) rfl rfl (by simp [mapT_box, V.mapTs, V.mapT, pl]) (by simp [V.les, V.le, V.mapTs, V.mapT, pl]) ?_; have hwq := trivial) | (refine call_plain n74 rfl rfl ?_; have hwq := trivial) | (refine call_plain n67 rfl rfl ?_; have hwq := trivial) | (refine call_plain n75 rfl rfl ?_; have hwq := trivial) | fail))
    all_goals first
      | (refine chk_no (bad ?_); rw [dM]; simp_all; done)
      | skip
    refine ⟨p.ms.length - (j + 1), _, by omega, Weak.cutI 1 [1, 3, 52, 53, 54] ?_ ?_, j + 1, _, rfl, by omega, rfl, fun i hi => ?_⟩
    · simp (maxSteps:=9999999)-implicitDefEqProofs only [simprocAttr,QH,Option.isSome,cond_true,cond_false,Option.bind,selB,V.rn,V.rns,Go.Ai.known,V.pz,V.pzs,T.toV,frz1,List.range,List.range.loop,ite_true,ite_false,if_true,if_false,ne_eq,implies_true,forall_const,eq_self,IntKind.bits,upd_tmsS,selT_cons,selT_nil,List.length_map,List.getElem?_map,Int.natCast_nonneg,List.length_append,List.map_append]
    · simp (maxSteps:=9999999)-implicitDefEqProofs only [simprocAttr,QH,Option.isSome,cond_true,cond_false,Option.bind,selB,V.rn,V.rns,Go.Ai.known,V.pz,V.pzs,T.toV,frz1,List.range,List.range.loop,ite_true,ite_false,if_true,if_false,ne_eq,implies_true,forall_const,eq_self,IntKind.bits,upd_tmsS,selT_cons,selT_nil,List.length_map,List.getElem?_map,Int.natCast_nonneg,List.length_append,List.map_append]
    · by_cases hij : i < j
      · exact hno i hij
      · obtain rfl : i = j := by omega
        rw [hd, dM]
        simp_all
  · have hjl' : ¬ (j : Int) < (p.ms.length : Int) := by omega
    have hM : okM p = true := List.all_eq_true.2 fun i hi => hno i (by have := List.mem_range.1 hi; omega)
    have he : checkE p = 0 := by
      unfold checkE
      have e : okB p = true := by
        rw [dB, hM, Bool.and_true]
        exact hok
      rw [e]
      rfl
    rw [he]
    (have hwq := trivial; repeat' (first | simp (maxSteps:=9999999)-implicitDefEqProofs only [go_sem,simprocAttr,hwq,FT3,FT4,FT5,FT23,FT24,FT25,FT26,FT27,FT29,FT32,FT34,FT35,FT37,FT46,FT59,FT69,FT73,FT78,FT86,FT93,FT97,FT99,FT101,List.length_map,List.getElem?_map,Int.natCast_nonneg,List.length_append,List.map_append,hjl'] | (refine condK_split ?_ ?_ <;> intro hwq) | (refine two_split ?_ ?_) | (refine guardK_split ?_ ?_ <;> intro hwq) | (refine guardE_split ?_ ?_ <;> intro hwq) | (refine awp_drawW [] (by decide +kernel) ?_; have hwq := trivial) | fail))
end Go.Ai

set_option linter.unusedVariables false
set_option linter.unusedSimpArgs false
set_option maxHeartbeats 8000000
set_option maxRecDepth 100000
namespace Go.Ai
open Go.Proofs
attribute [local go_sem] QH QR V.noimm V.noimms frzZs frzZ frzA frzV frzVs frzBox boxLen Option.isSome cond_true cond_false aopD calW flatV stepX amap stepY alookup afind aupdate adelete amlen arange ameq mapOf akeq pl V.mapT V.mapTs Option.bind stepK runK guardD stepE runD callD compact selB callK evS ofVal ofVals scalar aop ares mkRes V.rn V.rns V.cells? cellsAt Go.Ai.part aload astore setL V.atom abin aun intBin shiftBin aconv fieldOf aindexAddr aindex bound? aslice aarr abuild afill alen nilP nilS nilF aeq eqCells eqCell Go.Ai.known strBin abuiltin aappend abuildSlice arowsFill amakeSlice acopy aclear minmax rowsOf numsT notStr isIntD isByte V.pz V.pzs T.toV frz1 frz scalT scalTs chunkT List.range List.range.loop ite_true ite_false if_true if_false ne_eq implies_true forall_const eq_self IntKind.bits kPostKF_ret kPostKF_normal kPostX_ret kPostX_normal bsl nil2K nil2 kPostFW_ret kPostFW_normal kPostKM_ret kPostKM_normal kPostXK_ret kPostXK_normal
def fullZ (n : Int) : Int := if 64 ≤ n then 3 else 0
def aMap (b1 b2 : Bool) (k : Int) (b3 b4 : Bool) (n : Int) : Int := if b1 = false ∨ b2 = false then 1 else if k = 0 then 5 else if k ≠ 1 then 184 else if b3 = true then 181 else if b4 = false then 182 else fullZ n
def addMapE (p : Pv) (m : Mp) : Int := aMap (decide (vidOk m.v)) (decide (isidOk m.s)) (kindP p.ks m.p) (p.ms.any fun x => x.p == m.p && (x.v == m.v || x.s == m.s)) (hasC p.cs m.s) p.ms.length
theorem pc34 (p : Pv) (hp : okL p) (m : Mp) : AC Tryz.prog 34 [pvV p, mpV m] [] (eqR (vI (addMapE p m))) := by
  have n67 := pc67 m.v
  have n71 := pc71 m.s
  have n74 := pc74 p (by have := hp.1; omega) m.p
  have n72 := pcf72 97 _ (flat_mp m) (fun x => x.p == m.p && (x.v == m.v || x.s == m.s)) p.ms (by have := hp.2.1; omega) (fun x _ => pk97 x m)
  have n75 := pc75 p hp m.s
  have n98 := pc98 (p.ms.length : Int)
  unfold addMapE
  generalize decide (vidOk m.v) = m1 at *
  generalize decide (isidOk m.s) = m2 at *
  generalize kindP p.ks m.p = kk at *
  generalize (p.ms.any fun x => x.p == m.p && (x.v == m.v || x.s == m.s)) = m3 at *
  generalize hasC p.cs m.s = m4 at *
  refine AC_plain orders Tryz.func34 rfl (by kernel_rfl) (by kernel_rfl) Tryz.ntmps34 (by simp) ?_
  unfold Tryz.f34
  (have hwq := trivial; repeat' (first | simp (maxSteps:=9999999)-implicitDefEqProofs only [go_sem,simprocAttr,hwq,FT3,FT4,FT5,FT23,FT24,FT25,FT26,FT27,FT29,FT32,FT34,FT35,FT37,FT46,FT59,FT101,List.length_map,List.getElem?_map,Int.natCast_nonneg,List.length_append,List.map_append] | (refine awpL_loop 18 ?_; have hwq := trivial) | (refine condK_split ?_ ?_ <;> intro hwq) | (refine two_split ?_ ?_) | (refine guardK_split ?_ ?_ <;> intro hwq) | (refine guardE_split ?_ ?_ <;> intro hwq) | (refine awp_drawW [] (by decide +kernel) ?_; have hwq := trivial) | (refine call_plain n67 rfl rfl ?_; have hwq := trivial) | (refine call_plain n71 rfl rfl ?_; have hwq := trivial) | (refine call_plain n74 rfl rfl ?_; have hwq := trivial) | (refine call_at [1] n72 (by simp) (by decide) rfl rfl (by simp [mapT_box, V.mapTs, V.mapT, pl]) (by simp [V.les, V.le, V.mapTs, V.mapT, pl]) ?_; have hwq := trivial) | (refine call_plain n75 rfl rfl ?_; have hwq := trivial) | (refine call_plain n98 rfl rfl ?_; have hwq := trivial) | fail))
  all_goals (simp_all [aMap, fullZ])
def aCar (b1 b2 b3 b4 : Bool) (n : Int) : Int := if b1 = false ∨ b2 = false then 1 else if b3 = true then 181 else if b4 = false then 182 else fullZ n
def addCarryE (p : Pv) (c : Cr) : Int := aCar (decide (isidOk c.s)) (decide (vidOk c.v)) (hasC p.cs c.s) (hasM p.bs c.v) p.cs.length
theorem pc39 (p : Pv) (hp : okL p) (c : Cr) : AC Tryz.prog 39 [pvV p, crV c] [] (eqR (vI (addCarryE p c))) := by
  have n67 := pc67 c.v
  have n71 := pc71 c.s
  have n75 := pc75 p hp c.s
  have n48 := pc48 p hp c.v
  have n98 := pc98 (p.cs.length : Int)
  unfold addCarryE
  generalize decide (vidOk c.v) = m1 at *
  generalize decide (isidOk c.s) = m2 at *
  generalize hasC p.cs c.s = m3 at *
  generalize hasM p.bs c.v = m4 at *
  refine AC_plain orders Tryz.func39 rfl (by kernel_rfl) (by kernel_rfl) Tryz.ntmps39 (by simp) ?_
  unfold Tryz.f39
  (have hwq := trivial; repeat' (first | simp (maxSteps:=9999999)-implicitDefEqProofs only [go_sem,simprocAttr,hwq,FT3,FT4,FT5,FT23,FT24,FT25,FT26,FT27,FT29,FT32,FT34,FT35,FT37,FT46,FT59,List.length_map,List.getElem?_map,Int.natCast_nonneg,List.length_append,List.map_append] | (refine awpL_loop 18 ?_; have hwq := trivial) | (refine condK_split ?_ ?_ <;> intro hwq) | (refine two_split ?_ ?_) | (refine guardK_split ?_ ?_ <;> intro hwq) | (refine guardE_split ?_ ?_ <;> intro hwq) | (refine awp_drawW [] (by decide +kernel) ?_; have hwq := trivial) | (refine call_plain n67 rfl rfl ?_; have hwq := trivial) | (refine call_plain n71 rfl rfl ?_; have hwq := trivial) | (refine call_plain n75 rfl rfl ?_; have hwq := trivial) | (refine call_plain n48 rfl rfl ?_; have hwq := trivial) | (refine call_plain n98 rfl rfl ?_; have hwq := trivial) | fail))
  all_goals (simp_all [aCar, fullZ])
def sMem (b1 : Bool) (e : Int) (b2 : Bool) (n : Int) : Int := if b1 = false then 1 else if e ≠ 0 then e else if b2 = true then 0 else fullZ n
def setMemberE (p : Pv) (w : Mb) : Int := sMem (decide (vidOk w.v)) (portsE p.ks w.l) (hasM p.bs w.v) p.bs.length
theorem pc44 (p : Pv) (hp : okL p) (w : Mb) (hw : w.l.length ≤ 1000) : AC Tryz.prog 44 [pvV p, mbV w] [] (eqR (vI (setMemberE p w))) := by
  have n67 := pc67 w.v
  have n68 := pc68 p hp w.l hw
  have n48 := pc48 p hp w.v
  have n98 := pc98 (p.bs.length : Int)
  unfold setMemberE
  generalize decide (vidOk w.v) = m1 at *
  generalize portsE p.ks w.l = ee at *
  generalize hasM p.bs w.v = m4 at *
  refine AC_plain orders Tryz.func44 rfl (by kernel_rfl) (by kernel_rfl) Tryz.ntmps44 (by simp) ?_
  unfold Tryz.f44
  (have hwq := trivial; repeat' (first | simp (maxSteps:=9999999)-implicitDefEqProofs only [go_sem,simprocAttr,hwq,FT3,FT4,FT5,FT23,FT24,FT25,FT26,FT27,FT29,FT32,FT34,FT35,FT37,FT46,FT59,List.length_map,List.getElem?_map,Int.natCast_nonneg,List.length_append,List.map_append] | (refine awpL_loop 18 ?_; have hwq := trivial) | (refine condK_split ?_ ?_ <;> intro hwq) | (refine two_split ?_ ?_) | (refine guardK_split ?_ ?_ <;> intro hwq) | (refine guardE_split ?_ ?_ <;> intro hwq) | (refine awp_drawW [] (by decide +kernel) ?_; have hwq := trivial) | (refine call_plain n67 rfl rfl ?_; have hwq := trivial) | (refine call_plain n68 rfl rfl ?_; have hwq := trivial) | (refine call_plain n48 rfl rfl ?_; have hwq := trivial) | (refine call_plain n98 rfl rfl ?_; have hwq := trivial) | fail))
  all_goals (simp_all [sMem, fullZ])
theorem flat1_Mp (x : Mp) : FlatB (bxMp x) := ⟨fun f => by simp [mapT_box, V.mapTs, V.mapT], fun f => by simp [Blk.rn, V.rns, V.rn], fun m => by simp [Blk.pz, V.pzs, V.pz]⟩
theorem pbs99_nil (x : Mp) : AC Tryz.prog 99 [.sl 3 [], mpV x, .clo (.func 36) [] []] [] (eqR (.tuple [vI 0, vB false])) := by
  refine AC_plain orders Tryz.func99 rfl (by kernel_rfl) (by kernel_rfl) Tryz.ntmps99 (by simp) ?_
  unfold Tryz.f99
  (have hwq := trivial; repeat' (first | simp (maxSteps:=9999999)-implicitDefEqProofs only [go_sem,simprocAttr,hwq,FT3,FT4,FT25,FT32,FT69,FT85] | (refine awpL_loop 18 ?_; have hwq := trivial) | (refine condK_split ?_ ?_ <;> intro hwq) | (refine two_split ?_ ?_) | (refine guardK_split ?_ ?_ <;> intro hwq) | (refine guardE_split ?_ ?_ <;> intro hwq) | (refine awp_drawI 8 [] (List.range 16) [0, 0, 0, 6, 14, 30, 30, 30, 222, 478, 30, 2046, 4094, 8190, 4095, 32767] (by decide +kernel) ?_; have hwq := trivial) | (refine awp_drawW [] (by decide +kernel) ?_; have hwq := trivial) | fail))
theorem pin100_nil (x : Mp) (b0 : Blk) (hb0 : FlatB b0) : AC Tryz.prog 100 [.own 1 0 0, vI 0, .own 2 0 1] [b0, .rows 3 [] false, .rows 3 [mpT x] false] (fun r s mv => r = .own 1 0 1 ∧ s = [b0, .rows 3 [mpT x] false, .rows 3 [mpT x] false] ∧ mv = [1]) := by
  have hff : List.filter (fun x => decide (x < 3)) [1] = [1] := rfl
  refine AC_heapM orders [0, 1, 2] [1] Tryz.func100 rfl (by kernel_rfl) (by kernel_rfl) Tryz.ntmps100 (by simp) ?_
  unfold Tryz.f100
  (have hwq := trivial; repeat' (first | simp (maxSteps:=9999999)-implicitDefEqProofs only [go_sem,simprocAttr,hwq,FT3,FT4,FT25,FT32,hb0.rn,hb0.pz,hff] | (refine awpL_loop 18 ?_; have hwq := trivial) | (refine condK_split ?_ ?_ <;> intro hwq) | (refine two_split ?_ ?_) | (refine guardK_split ?_ ?_ <;> intro hwq) | (refine guardE_split ?_ ?_ <;> intro hwq) | (refine awp_drawW [] (by decide +kernel) ?_; have hwq := trivial) | fail))
theorem put35_nil (x : Mp) : AC Tryz.prog 35 [.sl 3 [], mpV x, .clo (.func 36) [] []] [] (eqR (.sl 3 [mpT x])) := by
  have h1 := pbs99_nil x
  have h2 := pco94 [] (by simp)
  have h3 := pin100_nil x _ (flat1_Mp x)
  refine AC_frozen orders Tryz.func35 rfl (by kernel_rfl) (by kernel_rfl) Tryz.ntmps35 (by simp) ?_
  unfold Tryz.f35
  (have hwq := trivial; repeat' (first | simp (maxSteps:=9999999)-implicitDefEqProofs only [go_sem,simprocAttr,hwq,FT3,FT25,FT32,FT69] | (refine awpL_loop 18 ?_; have hwq := trivial) | (refine condK_split ?_ ?_ <;> intro hwq) | (refine two_split ?_ ?_) | (refine guardK_split ?_ ?_ <;> intro hwq) | (refine guardE_split ?_ ?_ <;> intro hwq) | (refine awp_drawW [] (by decide +kernel) ?_; have hwq := trivial) | (refine call_plain h1 rfl rfl ?_; have hwq := trivial) | (refine call_at [] h2 (by simp) (by simp) rfl rfl rfl (V.les_refl _) ?_; have hwq := trivial) | (refine call_here h3 ?_; have hwq := trivial) | fail))
theorem flat1_Cr (x : Cr) : FlatB (.box [vI x.s, vI x.v] false) := ⟨fun f => by simp [mapT_box, V.mapTs, V.mapT], fun f => by simp [Blk.rn, V.rns, V.rn], fun m => by simp [Blk.pz, V.pzs, V.pz]⟩
theorem pbs106_nil (x : Cr) : AC Tryz.prog 106 [.sl 2 [], crV x, .clo (.func 41) [] []] [] (eqR (.tuple [vI 0, vB false])) := by
  refine AC_plain orders Tryz.func106 rfl (by kernel_rfl) (by kernel_rfl) Tryz.ntmps106 (by simp) ?_
  unfold Tryz.f106
  (have hwq := trivial; repeat' (first | simp (maxSteps:=9999999)-implicitDefEqProofs only [go_sem,simprocAttr,hwq,FT3,FT4,FT26,FT34,FT73,FT85] | (refine awpL_loop 18 ?_; have hwq := trivial) | (refine condK_split ?_ ?_ <;> intro hwq) | (refine two_split ?_ ?_) | (refine guardK_split ?_ ?_ <;> intro hwq) | (refine guardE_split ?_ ?_ <;> intro hwq) | (refine awp_drawI 8 [] (List.range 16) [0, 0, 0, 6, 14, 30, 30, 30, 222, 478, 30, 2046, 4094, 8190, 4095, 32767] (by decide +kernel) ?_; have hwq := trivial) | (refine awp_drawW [] (by decide +kernel) ?_; have hwq := trivial) | fail))
theorem pin107_nil (x : Cr) (b0 : Blk) (hb0 : FlatB b0) : AC Tryz.prog 107 [.own 1 0 0, vI 0, .own 2 0 1] [b0, .rows 2 [] false, .rows 2 [crT x] false] (fun r s mv => r = .own 1 0 1 ∧ s = [b0, .rows 2 [crT x] false, .rows 2 [crT x] false] ∧ mv = [1]) := by
  have hff : List.filter (fun x => decide (x < 3)) [1] = [1] := rfl
  refine AC_heapM orders [0, 1, 2] [1] Tryz.func107 rfl (by kernel_rfl) (by kernel_rfl) Tryz.ntmps107 (by simp) ?_
  unfold Tryz.f107
  (have hwq := trivial; repeat' (first | simp (maxSteps:=9999999)-implicitDefEqProofs only [go_sem,simprocAttr,hwq,FT3,FT4,FT26,FT34,hb0.rn,hb0.pz,hff] | (refine awpL_loop 18 ?_; have hwq := trivial) | (refine condK_split ?_ ?_ <;> intro hwq) | (refine two_split ?_ ?_) | (refine guardK_split ?_ ?_ <;> intro hwq) | (refine guardE_split ?_ ?_ <;> intro hwq) | (refine awp_drawW [] (by decide +kernel) ?_; have hwq := trivial) | fail))
theorem put40_nil (x : Cr) : AC Tryz.prog 40 [.sl 2 [], crV x, .clo (.func 41) [] []] [] (eqR (.sl 2 [crT x])) := by
  have h1 := pbs106_nil x
  have h2 := pco95 [] (by simp)
  have h3 := pin107_nil x _ (flat1_Cr x)
  refine AC_frozen orders Tryz.func40 rfl (by kernel_rfl) (by kernel_rfl) Tryz.ntmps40 (by simp) ?_
  unfold Tryz.f40
  (have hwq := trivial; repeat' (first | simp (maxSteps:=9999999)-implicitDefEqProofs only [go_sem,simprocAttr,hwq,FT3,FT26,FT34,FT73] | (refine awpL_loop 18 ?_; have hwq := trivial) | (refine condK_split ?_ ?_ <;> intro hwq) | (refine two_split ?_ ?_) | (refine guardK_split ?_ ?_ <;> intro hwq) | (refine guardE_split ?_ ?_ <;> intro hwq) | (refine awp_drawW [] (by decide +kernel) ?_; have hwq := trivial) | (refine call_plain h1 rfl rfl ?_; have hwq := trivial) | (refine call_at [] h2 (by simp) (by simp) rfl rfl rfl (V.les_refl _) ?_; have hwq := trivial) | (refine call_here h3 ?_; have hwq := trivial) | fail))
theorem flat1_Mb (x : Mb) : FlatB (.box [vI x.v, isV x.l] false) := ⟨fun f => by simp [mapT_box, V.mapTs, V.mapT], fun f => by simp [Blk.rn, V.rns, V.rn], fun m => by simp [Blk.pz, V.pzs, V.pz]⟩
theorem pbs111_nil (x : Mb) : AC Tryz.prog 111 [.sl 2 [], mbV x, .clo (.func 47) [] []] [] (eqR (.tuple [vI 0, vB false])) := by
  refine AC_plain orders Tryz.func111 rfl (by kernel_rfl) (by kernel_rfl) Tryz.ntmps111 (by simp) ?_
  unfold Tryz.f111
  (have hwq := trivial; repeat' (first | simp (maxSteps:=9999999)-implicitDefEqProofs only [go_sem,simprocAttr,hwq,FT3,FT4,FT27,FT35,FT37,FT78,FT85] | (refine awpL_loop 18 ?_; have hwq := trivial) | (refine condK_split ?_ ?_ <;> intro hwq) | (refine two_split ?_ ?_) | (refine guardK_split ?_ ?_ <;> intro hwq) | (refine guardE_split ?_ ?_ <;> intro hwq) | (refine awp_drawI 8 [] (List.range 16) [0, 0, 0, 6, 14, 30, 30, 30, 222, 478, 30, 2046, 4094, 8190, 4095, 32767] (by decide +kernel) ?_; have hwq := trivial) | (refine awp_drawW [] (by decide +kernel) ?_; have hwq := trivial) | fail))
theorem pin112_nil (x : Mb) (b0 : Blk) (hb0 : FlatB b0) : AC Tryz.prog 112 [.own 1 0 0, vI 0, .own 2 0 1] [b0, .rows 2 [] false, .rows 2 [mbT x] false] (fun r s mv => r = .own 1 0 1 ∧ s = [b0, .rows 2 [mbT x] false, .rows 2 [mbT x] false] ∧ mv = [1]) := by
  have hff : List.filter (fun x => decide (x < 3)) [1] = [1] := rfl
  refine AC_heapM orders [0, 1, 2] [1] Tryz.func112 rfl (by kernel_rfl) (by kernel_rfl) Tryz.ntmps112 (by simp) ?_
  unfold Tryz.f112
  (have hwq := trivial; repeat' (first | simp (maxSteps:=9999999)-implicitDefEqProofs only [go_sem,simprocAttr,hwq,FT3,FT4,FT27,FT35,FT37,hb0.rn,hb0.pz,hff] | (refine awpL_loop 18 ?_; have hwq := trivial) | (refine condK_split ?_ ?_ <;> intro hwq) | (refine two_split ?_ ?_) | (refine guardK_split ?_ ?_ <;> intro hwq) | (refine guardE_split ?_ ?_ <;> intro hwq) | (refine awp_drawW [] (by decide +kernel) ?_; have hwq := trivial) | fail))
theorem put45_nil (x : Mb) : AC Tryz.prog 45 [.sl 2 [], mbV x, .clo (.func 47) [] []] [] (eqR (.sl 2 [mbT x])) := by
  have h1 := pbs111_nil x
  have h2 := pco96 [] (by simp)
  have h3 := pin112_nil x _ (flat1_Mb x)
  refine AC_frozen orders Tryz.func45 rfl (by kernel_rfl) (by kernel_rfl) Tryz.ntmps45 (by simp) ?_
  unfold Tryz.f45
  (have hwq := trivial; repeat' (first | simp (maxSteps:=9999999)-implicitDefEqProofs only [go_sem,simprocAttr,hwq,FT3,FT27,FT35,FT37,FT78] | (refine awpL_loop 18 ?_; have hwq := trivial) | (refine condK_split ?_ ?_ <;> intro hwq) | (refine two_split ?_ ?_) | (refine guardK_split ?_ ?_ <;> intro hwq) | (refine guardE_split ?_ ?_ <;> intro hwq) | (refine awp_drawW [] (by decide +kernel) ?_; have hwq := trivial) | (refine call_plain h1 rfl rfl ?_; have hwq := trivial) | (refine call_at [] h2 (by simp) (by simp) rfl rfl rfl (V.les_refl _) ?_; have hwq := trivial) | (refine call_here h3 ?_; have hwq := trivial) | fail))
end Go.Ai

set_option linter.unusedVariables false
set_option linter.unusedSimpArgs false
set_option maxHeartbeats 8000000
set_option maxRecDepth 100000
namespace Go.Ai
open Go.Proofs
attribute [local go_sem] QH QR V.noimm V.noimms frzZs frzZ frzA frzV frzVs frzBox boxLen Option.isSome cond_true cond_false aopD calW flatV stepX amap stepY alookup afind aupdate adelete amlen arange ameq mapOf akeq pl V.mapT V.mapTs Option.bind stepK runK guardD stepE runD callD compact selB callK evS ofVal ofVals scalar aop ares mkRes V.rn V.rns V.cells? cellsAt Go.Ai.part aload astore setL V.atom abin aun intBin shiftBin aconv fieldOf aindexAddr aindex bound? aslice aarr abuild afill alen nilP nilS nilF aeq eqCells eqCell Go.Ai.known strBin abuiltin aappend abuildSlice arowsFill amakeSlice acopy aclear minmax rowsOf numsT notStr isIntD isByte V.pz V.pzs T.toV frz1 frz scalT scalTs chunkT List.range List.range.loop ite_true ite_false if_true if_false ne_eq implies_true forall_const eq_self IntKind.bits kPostKF_ret kPostKF_normal kPostX_ret kPostX_normal bsl nil2K nil2 kPostFW_ret kPostFW_normal kPostKM_ret kPostKM_normal kPostXK_ret kPostXK_normal
/-- A command, with what prov does not look at. -/
structure Cm where
  k : Int
  m : Mp
  c : Cr
  w : Mb
  ev : Int
  em : Mc
  ep : Int
  es : Bool
  et : Int
  id : Int
  po : Int
  co : Int
abbrev cmL (x : Cm) : List V := [vI x.k, vI x.m.p, vI x.m.v, vI x.m.s, vI x.c.s, vI x.c.v, vI x.w.v, isV x.w.l, vI x.ev, .s (.int .u8 x.em.a), .s (.int .u8 x.em.b), .s (.int .u8 x.em.c), .s (.int .u8 x.em.d), .s (.int .u8 x.em.e), .s (.int .u8 x.em.f), vI x.ep, vB x.es, vI x.et, .s (.int .u64 x.id), vI x.po, .s (.int .u32 x.co)]
abbrev cmV (x : Cm) : V := .agg (cmL x)
theorem pc57 (ks : List Int) : AC Tryz.prog 57 [isV ks] [] (eqR (pvV ⟨⟨2, 0, 0, 0, 0, 1⟩, ks, [], [], []⟩)) := by
  refine AC_frozenW orders Tryz.func57 rfl (by kernel_rfl) (by kernel_rfl) Tryz.ntmps57 (by simp) ?_
  unfold Tryz.f57
  (have hwq := trivial; repeat' (first | simp (maxSteps:=9999999)-implicitDefEqProofs only [go_sem,simprocAttr,hwq,FT3,FT5,FT23,FT24,FT25,FT26,FT27,FT29,FT32,FT34,FT35,FT37,FT59] | (refine awpL_loop 18 ?_; have hwq := trivial) | (refine condK_split ?_ ?_ <;> intro hwq) | (refine two_split ?_ ?_) | (refine guardK_split ?_ ?_ <;> intro hwq) | (refine guardE_split ?_ ?_ <;> intro hwq) | (refine awp_drawW [] (by decide +kernel) ?_; have hwq := trivial) | fail))
  exact ⟨_, rfl, by simp [V.leT, V.le, V.les]⟩
theorem pq20 (p : Pv) (hp : okL p) (a b : Int) : AC Tryz.prog 20 [pvV p, vI a, vI b] [] (eqR (match p.ms.find? (fun x => x.p == a && x.v == b) with
    | some x => .tuple [vI x.s, vB true]
    | none => .tuple [vI 0, vB false])) := by
  have h := pcf78 79 (.box [vI a] false) (flat_int a) (.box [vI b] false) (flat_int b) (fun x => x.p == a && x.v == b) p.ms (by have := hp.2.1; omega) (fun x _ => pk79 x a b)
  unfold fst78 at h
  cases hf : p.ms.find? (fun x => x.p == a && x.v == b) with
  | none =>
    rw [hf] at h
    refine AC_plain orders Tryz.func20 rfl (by kernel_rfl) (by kernel_rfl) Tryz.ntmps20 (by simp) ?_
    unfold Tryz.f20
    (have hwq := trivial; repeat' (first | simp (maxSteps:=9999999)-implicitDefEqProofs only [go_sem,simprocAttr,hwq,FT3,FT4,FT5,FT23,FT24,FT25,FT26,FT27,FT29,FT32,FT34,FT35,FT37,FT59,FT101] | (refine awpL_loop 18 ?_; have hwq := trivial) | (refine condK_split ?_ ?_ <;> intro hwq) | (refine two_split ?_ ?_) | (refine guardK_split ?_ ?_ <;> intro hwq) | (refine guardE_split ?_ ?_ <;> intro hwq) | (refine awp_drawW [] (by decide +kernel) ?_; have hwq := trivial) | (refine call_at [1, 2] h (by simp) (by decide) rfl rfl (by simp [mapT_box, V.mapTs, V.mapT, pl]) (by simp [V.les, V.le, V.mapTs, V.mapT, pl]) ?_; have hwq := trivial) | fail))
  | some x =>
    rw [hf] at h
    refine AC_plain orders Tryz.func20 rfl (by kernel_rfl) (by kernel_rfl) Tryz.ntmps20 (by simp) ?_
    unfold Tryz.f20
    (have hwq := trivial; repeat' (first | simp (maxSteps:=9999999)-implicitDefEqProofs only [go_sem,simprocAttr,hwq,FT3,FT4,FT5,FT23,FT24,FT25,FT26,FT27,FT29,FT32,FT34,FT35,FT37,FT59,FT101] | (refine awpL_loop 18 ?_; have hwq := trivial) | (refine condK_split ?_ ?_ <;> intro hwq) | (refine two_split ?_ ?_) | (refine guardK_split ?_ ?_ <;> intro hwq) | (refine guardE_split ?_ ?_ <;> intro hwq) | (refine awp_drawW [] (by decide +kernel) ?_; have hwq := trivial) | (refine call_at [1, 2] h (by simp) (by decide) rfl rfl (by simp [mapT_box, V.mapTs, V.mapT, pl]) (by simp [V.les, V.le, V.mapTs, V.mapT, pl]) ?_; have hwq := trivial) | fail))
theorem pdo1 (p : Pv) (hp : okL p) (ho : isB p.own.a) (hck : checkE p = 0) (x : Cm) (hk : x.k = 1) (he : addMapE p x.m = 0) (l' : List Mp) (hput : AC Tryz.prog 35 [msV p.ms, mpV x.m, .clo (.func 36) [] []] [] (eqR (msV l'))) :
    AC Tryz.prog 12 [pvV p, cmV x] [] (eqR (.tuple [pvV { p with ms := l' }, vI 0])) := by
  have n33 := pc33 p hp
  have n17 := pc17 p hp ho
  rw [hck] at n17
  have ne := pc34 p hp x.m
  rw [he] at ne
  have q1 : (x.k == 1) = true := by rw [hk]; rfl
  have q2 : (x.k == 2) = false := by rw [hk]; rfl
  have q3 : (x.k == 3) = false := by rw [hk]; rfl
  have q4 : (x.k == 4) = false := by rw [hk]; rfl
  have q5 : (x.k == 5) = false := by rw [hk]; rfl
  have q6 : (x.k == 6) = false := by rw [hk]; rfl
  refine AC_frozen orders Tryz.func12 rfl (by kernel_rfl) (by kernel_rfl) Tryz.ntmps12 (by simp) ?_
  unfold Tryz.f12
  (have hwq := trivial; repeat' (first | simp (maxSteps:=9999999)-implicitDefEqProofs only [go_sem,simprocAttr,hwq,FT3,FT4,FT5,FT23,FT24,FT25,FT26,FT27,FT29,FT30,FT32,FT34,FT35,FT37,FT39,FT40,FT41,FT43,FT46,FT59,FT69,FT73,FT78,List.length_map,List.getElem?_map,Int.natCast_nonneg,List.length_append,List.map_append,q1,q2,q3,q4,q5,q6] | (refine awpL_loop 18 ?_; have hwq := trivial) | (refine condK_split ?_ ?_ <;> intro hwq) | (refine two_split ?_ ?_) | (refine guardK_split ?_ ?_ <;> intro hwq) | (refine guardE_split ?_ ?_ <;> intro hwq) | (refine awp_drawW [] (by decide +kernel) ?_; have hwq := trivial) | (refine call_plain n33 rfl rfl ?_; have hwq := trivial) | (refine call_plain n17 rfl rfl ?_; have hwq := trivial) | (refine call_plain ne rfl rfl ?_; have hwq := trivial) | (refine call_plain hput rfl rfl ?_; have hwq := trivial) | fail))
theorem pdo3 (p : Pv) (hp : okL p) (ho : isB p.own.a) (hck : checkE p = 0) (x : Cm) (hk : x.k = 3) (he : addCarryE p x.c = 0) (l' : List Cr) (hput : AC Tryz.prog 40 [csV p.cs, crV x.c, .clo (.func 41) [] []] [] (eqR (csV l'))) :
    AC Tryz.prog 12 [pvV p, cmV x] [] (eqR (.tuple [pvV { p with cs := l' }, vI 0])) := by
  have n33 := pc33 p hp
  have n17 := pc17 p hp ho
  rw [hck] at n17
  have ne := pc39 p hp x.c
  rw [he] at ne
  have q1 : (x.k == 1) = false := by rw [hk]; rfl
  have q2 : (x.k == 2) = false := by rw [hk]; rfl
  have q3 : (x.k == 3) = true := by rw [hk]; rfl
  have q4 : (x.k == 4) = false := by rw [hk]; rfl
  have q5 : (x.k == 5) = false := by rw [hk]; rfl
  have q6 : (x.k == 6) = false := by rw [hk]; rfl
  refine AC_frozen orders Tryz.func12 rfl (by kernel_rfl) (by kernel_rfl) Tryz.ntmps12 (by simp) ?_
  unfold Tryz.f12
  (have hwq := trivial; repeat' (first | simp (maxSteps:=9999999)-implicitDefEqProofs only [go_sem,simprocAttr,hwq,FT3,FT4,FT5,FT23,FT24,FT25,FT26,FT27,FT29,FT30,FT32,FT34,FT35,FT37,FT39,FT40,FT41,FT43,FT46,FT59,FT69,FT73,FT78,List.length_map,List.getElem?_map,Int.natCast_nonneg,List.length_append,List.map_append,q1,q2,q3,q4,q5,q6] | (refine awpL_loop 18 ?_; have hwq := trivial) | (refine condK_split ?_ ?_ <;> intro hwq) | (refine two_split ?_ ?_) | (refine guardK_split ?_ ?_ <;> intro hwq) | (refine guardE_split ?_ ?_ <;> intro hwq) | (refine awp_drawW [] (by decide +kernel) ?_; have hwq := trivial) | (refine call_plain n33 rfl rfl ?_; have hwq := trivial) | (refine call_plain n17 rfl rfl ?_; have hwq := trivial) | (refine call_plain ne rfl rfl ?_; have hwq := trivial) | (refine call_plain hput rfl rfl ?_; have hwq := trivial) | fail))
theorem pdo5 (p : Pv) (hp : okL p) (ho : isB p.own.a) (hck : checkE p = 0) (x : Cm) (hk : x.k = 5) (hw : x.w.l.length ≤ 1000) (he : setMemberE p x.w = 0) (l' : List Mb) (hput : AC Tryz.prog 45 [bsV p.bs, mbV x.w, .clo (.func 47) [] []] [] (eqR (bsV l'))) :
    AC Tryz.prog 12 [pvV p, cmV x] [] (eqR (.tuple [pvV { p with bs := l' }, vI 0])) := by
  have n33 := pc33 p hp
  have n17 := pc17 p hp ho
  rw [hck] at n17
  have ne := pc44 p hp x.w hw
  rw [he] at ne
  have q1 : (x.k == 1) = false := by rw [hk]; rfl
  have q2 : (x.k == 2) = false := by rw [hk]; rfl
  have q3 : (x.k == 3) = false := by rw [hk]; rfl
  have q4 : (x.k == 4) = false := by rw [hk]; rfl
  have q5 : (x.k == 5) = true := by rw [hk]; rfl
  have q6 : (x.k == 6) = false := by rw [hk]; rfl
  have n46 := pcl46 (x.w.l.map inT) (by simp; omega)
  refine AC_frozen orders Tryz.func12 rfl (by kernel_rfl) (by kernel_rfl) Tryz.ntmps12 (by simp) ?_
  unfold Tryz.f12
  (have hwq := trivial; repeat' (first | simp (maxSteps:=9999999)-implicitDefEqProofs only [go_sem,simprocAttr,hwq,FT3,FT4,FT5,FT23,FT24,FT25,FT26,FT27,FT29,FT30,FT32,FT34,FT35,FT37,FT39,FT40,FT41,FT43,FT46,FT59,FT69,FT73,FT78,List.length_map,List.getElem?_map,Int.natCast_nonneg,List.length_append,List.map_append,q1,q2,q3,q4,q5,q6] | (refine awpL_loop 18 ?_; have hwq := trivial) | (refine condK_split ?_ ?_ <;> intro hwq) | (refine two_split ?_ ?_) | (refine guardK_split ?_ ?_ <;> intro hwq) | (refine guardE_split ?_ ?_ <;> intro hwq) | (refine awp_drawW [] (by decide +kernel) ?_; have hwq := trivial) | (refine call_plain n33 rfl rfl ?_; have hwq := trivial) | (refine call_plain n17 rfl rfl ?_; have hwq := trivial) | (refine call_plain ne rfl rfl ?_; have hwq := trivial) | (refine call_plain hput rfl rfl ?_; have hwq := trivial) | (refine draw_plain n46 rfl (fun _ => rfl) ?_; have hwq := trivial) | (refine draw_plain hput rfl (fun _ => rfl) ?_; have hwq := trivial) | fail))
/-- The page's example. -/
abbrev aw0 : Pv := ⟨⟨2, 0, 0, 0, 0, 1⟩, [1, 2], [], [], []⟩
abbrev aw1 : Pv := ⟨⟨2, 0, 0, 0, 0, 1⟩, [1, 2], [], [], [⟨10, [1]⟩]⟩
abbrev aw2 : Pv := ⟨⟨2, 0, 0, 0, 0, 1⟩, [1, 2], [], [⟨5000, 10⟩], [⟨10, [1]⟩]⟩
abbrev aw3 : Pv := ⟨⟨2, 0, 0, 0, 0, 1⟩, [1, 2], [⟨0, 100, 5000⟩], [⟨5000, 10⟩], [⟨10, [1]⟩]⟩
abbrev zMp : Mp := ⟨0, 0, 0⟩
abbrev zCr : Cr := ⟨0, 0⟩
abbrev zMb : Mb := ⟨0, []⟩
abbrev awC (k : Int) (m : Mp) (c : Cr) (w : Mb) : Cm := ⟨k, m, c, w, 0, ⟨0, 0, 0, 0, 0, 0⟩, 0, false, 0, 0, 0, 0⟩
theorem aw_ok (p : Pv) (h1 : p.ks.length ≤ 1000) (h2 : p.ms.length ≤ 1000) (h3 : p.cs.length ≤ 1000) (h4 : p.bs.length ≤ 1000) (h5 : ∀ b ∈ p.bs, b.l.length ≤ 1000) : okL p := ⟨h1, h2, h3, h4, h5⟩
theorem AC.lesA {P : Program} {f : FuncId} {args args' : List V} {σ : List Blk} {R : V → List Blk → List Nat → Prop} (h : AC P f args' σ R) (hl : V.les args args') : AC P f args σ R := ⟨h.1, fun β I w vs hi hv => h.2 β I w vs hi (VRs.le _ hl hv)⟩
abbrev cmN (x : Cm) : V := .agg [vI x.k, vI x.m.p, vI x.m.v, vI x.m.s, vI x.c.s, vI x.c.v, vI x.w.v, .s (.slice none 0 0), vI x.ev, .s (.int .u8 x.em.a), .s (.int .u8 x.em.b), .s (.int .u8 x.em.c), .s (.int .u8 x.em.d), .s (.int .u8 x.em.e), .s (.int .u8 x.em.f), vI x.ep, vB x.es, vI x.et, .s (.int .u64 x.id), vI x.po, .s (.int .u32 x.co)]
theorem cmN_le (p : V) (x : Cm) (h : x.w.l = []) : V.les [p, cmN x] [p, cmV x] := by
  have hp := V.les_refl [p]
  simp only [V.les, and_true] at hp
  simp [V.les, V.le, hp, h]
theorem call_dataF {P : Program} {k : FuncId} {args args1 args' : List V} {σ σ1 : List Blk} {v : V} {K : V → List Blk → List Nat → Prop} (h : AC P k args' [] (eqR v)) (hs : frzVs false σ args = some (args1, σ1)) (hle : V.les args1 args') (hv : v.mapT (· + σ.length) = v) (hn : v.noimm = false) (hk : K v σ1 []) : AC P k args σ K :=
  call_data h hs hle hv (by rw [hn]; exact hk)
theorem pc15 : AC Tryz.prog 15 [] [] (eqR (vB true)) := by
  have i2 : isB 2 := by unfold isB; decide
  have o0 : okL aw0 := aw_ok _ (by decide) (by decide) (by decide) (by decide) (by decide)
  have o1 : okL aw1 := aw_ok _ (by decide) (by decide) (by decide) (by decide) (by decide)
  have o2 : okL aw2 := aw_ok _ (by decide) (by decide) (by decide) (by decide) (by decide)
  have o3 : okL aw3 := aw_ok _ (by decide) (by decide) (by decide) (by decide) (by decide)
  have n57 := pc57 [1, 2]
  have n1 := pdo5 aw0 o0 i2 (by decide +kernel) (awC 5 zMp zCr ⟨10, [1]⟩) rfl (by decide) (by decide +kernel) [⟨10, [1]⟩] (put45_nil _)
  have n2 := (pdo3 aw1 o1 i2 (by decide +kernel) (awC 3 zMp ⟨5000, 10⟩ zMb) rfl (by decide +kernel) [⟨5000, 10⟩] (put40_nil _)).lesA (cmN_le _ _ rfl)
  have n3 := (pdo1 aw2 o2 i2 (by decide +kernel) (awC 1 ⟨0, 100, 5000⟩ zCr zMb) rfl (by decide +kernel) [⟨0, 100, 5000⟩] (put35_nil _)).lesA (cmN_le _ _ rfl)
  have n20 := pq20 aw3 o3 0 100
  rw [show (aw3.ms.find? fun x => x.p == 0 && x.v == 100) = some ⟨0, 100, 5000⟩ from by decide +kernel] at n20
  have n17 := pc17 aw3 o3 i2
  rw [show checkE aw3 = 0 from by decide +kernel] at n17
  refine AC_plain orders Tryz.func15 rfl (by kernel_rfl) (by kernel_rfl) Tryz.ntmps15 (by simp) ?_
  unfold Tryz.f15
  (have hwq := trivial; repeat' (first | simp (maxSteps:=9999999)-implicitDefEqProofs only [go_sem,simprocAttr,hwq,FT3,FT4,FT5,FT23,FT24,FT25,FT26,FT27,FT29,FT30,FT32,FT34,FT35,FT37,FT39,FT40,FT41,FT43,FT46,FT59] | (refine awpL_loop 18 ?_; have hwq := trivial) | (refine condK_split ?_ ?_ <;> intro hwq) | (refine two_split ?_ ?_) | (refine guardK_split ?_ ?_ <;> intro hwq) | (refine guardE_split ?_ ?_ <;> intro hwq) | (refine awp_drawW [] (by decide +kernel) ?_; have hwq := trivial) | (refine call_dataF n57 rfl (V.les_refl _) rfl rfl ?_; have hwq := trivial) | (refine call_dataF n1 rfl (V.les_refl _) rfl rfl ?_; have hwq := trivial) | (refine call_dataF n2 rfl (V.les_refl _) rfl rfl ?_; have hwq := trivial) | (refine call_dataF n3 rfl (V.les_refl _) rfl rfl ?_; have hwq := trivial) | (refine call_plain n20 rfl rfl ?_; have hwq := trivial) | (refine call_plain n17 rfl rfl ?_; have hwq := trivial) | fail))
end Go.Ai

set_option linter.unusedVariables false
set_option maxRecDepth 100000
namespace Go.Ai
/-- A command as cells. -/
abbrev cmT (x : Cm) : List T := [.s (.int .i64 x.k), .s (.int .i64 x.m.p), .s (.int .i64 x.m.v), .s (.int .i64 x.m.s), .s (.int .i64 x.c.s), .s (.int .i64 x.c.v), .s (.int .i64 x.w.v), .sl 1 (x.w.l.map inT), .s (.int .i64 x.ev), .s (.int .u8 x.em.a), .s (.int .u8 x.em.b), .s (.int .u8 x.em.c), .s (.int .u8 x.em.d), .s (.int .u8 x.em.e), .s (.int .u8 x.em.f), .s (.int .i64 x.ep), .s (.bool x.es), .s (.int .i64 x.et), .s (.int .u64 x.id), .s (.int .i64 x.po), .s (.int .u32 x.co)]
end Go.Ai
namespace Go.Proofs.YtbiolkmddpkheaaGreat
open Go.ChangeShapes Go.WideShapes Go.ChangeAt Go.RowKit Go.Ai
theorem rdKd (W : World) : Rd Tryz.prog W 30 fun ts => ∃ n : Int, ts = inT n := Rd.mono (rd_int Tryz.underlying30 (by kernel_rfl)) fun ts ⟨n, e, _⟩ => ⟨n, e⟩
theorem rdBo (W : World) : Rd Tryz.prog W 4 fun ts => ∃ b : Bool, ts = [.s (.bool b)] := rd_bool Tryz.underlying4 (by kernel_rfl)
theorem rdId (W : World) : Rd Tryz.prog W 40 fun ts => ∃ n : Int, ts = [.s (.int .u64 n)] := Rd.mono (rd_int Tryz.underlying40 (by kernel_rfl)) fun ts ⟨n, e, _⟩ => ⟨n, e⟩
theorem rdCo (W : World) : Rd Tryz.prog W 41 fun ts => ∃ n : Int, ts = [.s (.int .u32 n)] := Rd.mono (rd_int Tryz.underlying41 (by kernel_rfl)) fun ts ⟨n, e, _⟩ => ⟨n, e⟩
theorem rdEn (W : World) : Rd Tryz.prog W 39 fun ts => ∃ (v : Int) (m : Mc) (p : Int) (s : Bool) (t : Int), ts = [.s (.int .i64 v), .s (.int .u8 m.a), .s (.int .u8 m.b), .s (.int .u8 m.c), .s (.int .u8 m.d), .s (.int .u8 m.e), .s (.int .u8 m.f), .s (.int .i64 p), .s (.bool s), .s (.int .i64 t)] := by
  refine Rd.mono (rd_struct Tryz.underlying39 (by kernel_rfl) (gs := [_, _, _, _, _]) ⟨by kernel_rfl, rdIn W, by kernel_rfl, rdMac W, by kernel_rfl, rdIn W, by kernel_rfl, rdBo W, by kernel_rfl, rdIn W, trivial⟩) fun ts h => ?_
  obtain ⟨_, _, rfl, ⟨v, rfl⟩, _, _, rfl, ⟨m, hm, rfl⟩, _, _, rfl, ⟨p, rfl⟩, _, _, rfl, ⟨s, rfl⟩, _, _, rfl, ⟨t, rfl⟩, rfl⟩ := h
  exact ⟨v, m, p, s, t, rfl⟩
theorem rdCm (W : World) : Rd Tryz.prog W 43 fun ts => ∃ x : Cm, ts = cmT x := by
  refine Rd.mono (rd_struct Tryz.underlying43 (by kernel_rfl) (gs := [_, _, _, _, _, _, _, _]) ⟨by kernel_rfl, rdKd W, by kernel_rfl, rdMp W, by kernel_rfl, rdCr W, by kernel_rfl, rdMb W, by kernel_rfl, rdEn W, by kernel_rfl, rdId W, by kernel_rfl, rdIn W, by kernel_rfl, rdCo W, trivial⟩) fun ts h => ?_
  obtain ⟨_, _, rfl, ⟨k, rfl⟩, _, _, rfl, ⟨m, rfl⟩, _, _, rfl, ⟨c, rfl⟩, _, _, rfl, ⟨w, rfl⟩, _, _, rfl, ⟨ev, em, ep, es, et, rfl⟩, _, _, rfl, ⟨id, rfl⟩, _, _, rfl, ⟨po, rfl⟩, _, _, rfl, ⟨co, rfl⟩, rfl⟩ := h
  exact ⟨⟨k, m, c, w, ev, em, ep, es, et, id, po, co⟩, rfl⟩
section
variable {H : Type} {enc : TypeId × Value → H} {W : World} {r : Reach} {b0 : Nat} {v : Value} {d : DataW H} {ps : List MemPlace}
theorem got_cms (hval : Value.okWide Tryz.prog W r b0 52 v) (hd : DataW.Trod enc Tryz.prog W 0 (fun _ => true) true 52 v d ps) :
    ∃ x, VR noB (memI W) x v ∧ ∃ l : List Cm, x = .sl 21 (l.map cmT) ∧ l.length ≤ maxLen := by
  have hc : Tryz.prog.cellsOf 43 = 21 := by kernel_rfl
  obtain ⟨x, h1, rows, rfl, hm, hr⟩ := got_slice Tryz.underlying52 (by kernel_rfl) (by rw [hc]; omega) (rdCm W) hval hd
  obtain ⟨l, rfl⟩ := rows_of cmT (rows := rows) (fun r hr' => (hr r hr').2)
  exact ⟨_, h1, l, by rw [hc], by simpa using hm⟩
end
end Go.Proofs.YtbiolkmddpkheaaGreat

set_option linter.unusedVariables false
set_option linter.unusedSimpArgs false
set_option maxHeartbeats 8000000
set_option maxRecDepth 100000
namespace Go.Ai
open Go.Proofs
attribute [local go_sem] QH QR V.noimm V.noimms frzZs frzZ frzA frzV frzVs frzBox boxLen Option.isSome cond_true cond_false aopD calW flatV stepX amap stepY alookup afind aupdate adelete amlen arange ameq mapOf akeq pl V.mapT V.mapTs Option.bind stepK runK guardD stepE runD callD compact selB callK evS ofVal ofVals scalar aop ares mkRes V.rn V.rns V.cells? cellsAt Go.Ai.part aload astore setL V.atom abin aun intBin shiftBin aconv fieldOf aindexAddr aindex bound? aslice aarr abuild afill alen nilP nilS nilF aeq eqCells eqCell Go.Ai.known strBin abuiltin aappend abuildSlice arowsFill amakeSlice acopy aclear minmax rowsOf numsT notStr isIntD isByte V.pz V.pzs T.toV frz1 frz scalT scalTs chunkT List.range List.range.loop ite_true ite_false if_true if_false ne_eq implies_true forall_const eq_self IntKind.bits kPostKF_ret kPostKF_normal kPostX_ret kPostX_normal bsl nil2K nil2 kPostFW_ret kPostFW_normal kPostKM_ret kPostKM_normal kPostXK_ret kPostXK_normal
theorem find_at {α : Type} {q : α → Bool} {L : List α} {j : Nat} {x : α} (hno : ∀ y ∈ L.take j, q y = false) (hg : L[j]? = some x) (hx : q x = true) : L.find? q = some x := by
  obtain ⟨hj, he⟩ := List.getElem?_eq_some_iff.1 hg
  rw [List.find?_eq_some_iff_getElem]
  refine ⟨hx, j, hj, he, fun k hk => ?_⟩
  have := hno L[k] (by rw [List.mem_take_iff_getElem]; exact ⟨k, by omega, rfl⟩)
  simp [this]
theorem find_no {α : Type} {q : α → Bool} {L : List α} (hno : ∀ y ∈ L, q y = false) : L.find? q = none := List.find?_eq_none.2 fun x hx => by simp [hno x hx]
def rf25 (p : Pv) (a : Int) : V := match p.cs.find? (fun x => x.s == a) with
  | some x => .tuple [vI x.v, vB true]
  | none => .tuple [vI 0, vB false]
def Fi25 (p : Pv) (a : Int) (n : Nat) (S : St) : Prop :=
  ∃ (j : Nat) (mv : List Nat), S = ⟨tms [(1, vI a), (2, .ptr 0 0 0), (6, vI j)], [bxP p], mv⟩ ∧ j ≤ p.cs.length ∧ n = p.cs.length - j ∧ ∀ y ∈ p.cs.take j, (fun x : Cr => x.s == a) y = false
theorem pq25 (p : Pv) (hp : okL p) (a : Int) : AC Tryz.prog 25 [pvV p, vI a] [] (eqR (rf25 p a)) := by
  obtain ⟨l1, l2, l3, l4, l5⟩ := hp
  unfold rf25
  refine AC_plain orders Tryz.func25 rfl (by kernel_rfl) (by kernel_rfl) Tryz.ntmps25 (by simp) ?_
  unfold Tryz.f25
  (have hwq := trivial; repeat' (first | simp (maxSteps:=9999999)-implicitDefEqProofs only [go_sem,simprocAttr,hwq,FT3,FT4,FT5,FT23,FT24,FT25,FT26,FT27,FT29,FT32,FT34,FT35,FT37,FT59] | (refine condK_split ?_ ?_ <;> intro hwq) | (refine two_split ?_ ?_) | (refine guardK_split ?_ ?_ <;> intro hwq) | (refine guardE_split ?_ ?_ <;> intro hwq) | (refine awp_drawW [] (by decide +kernel) ?_; have hwq := trivial) | fail))
  refine awp_loopK (Fi25 p a) p.cs.length _ (Weak.cutI 1 [1, 2, 6] ?_ ?_) ⟨0, _, rfl, by omega, rfl, by simp⟩ ?_
  · simp (maxSteps:=9999999)-implicitDefEqProofs only [simprocAttr,QH,Option.isSome,cond_true,cond_false,Option.bind,selB,V.rn,V.rns,Go.Ai.known,V.pz,V.pzs,T.toV,frz1,List.range,List.range.loop,ite_true,ite_false,if_true,if_false,ne_eq,implies_true,forall_const,eq_self,IntKind.bits,upd_tmsS,selT_cons,selT_nil]
  · simp (maxSteps:=9999999)-implicitDefEqProofs only [simprocAttr,QH,Option.isSome,cond_true,cond_false,Option.bind,selB,V.rn,V.rns,Go.Ai.known,V.pz,V.pzs,T.toV,frz1,List.range,List.range.loop,ite_true,ite_false,if_true,if_false,ne_eq,implies_true,forall_const,eq_self,IntKind.bits,upd_tmsS,selT_cons,selT_nil]
  rintro kk S ⟨j, mv, rfl, hj, rfl, hno⟩
  have wj : IntKind.i64.wrap ((j : Int) + 1) = (j : Int) + 1 := wI64 _ (by omega) (by omega)
  by_cases hjl : j < p.cs.length
  · have hjl' : (j : Int) < (p.cs.length : Int) := by omega
    have hgj : p.cs[j]? = some p.cs[j] := List.getElem?_eq_getElem hjl
    obtain ⟨x, hx⟩ : ∃ x, p.cs[j] = x := ⟨_, rfl⟩
    rw [hx] at hgj
    by_cases hq : (fun x : Cr => x.s == a) x = true
    · rw [find_at hno hgj hq]
      have hq' : (x.s == a) = true := hq
      (have hwq := trivial; repeat' (first | simp (maxSteps:=9999999)-implicitDefEqProofs only [go_sem,simprocAttr,hwq,FT3,FT4,FT5,FT23,FT24,FT25,FT26,FT27,FT29,FT32,FT34,FT35,FT37,FT59,List.length_map,List.getElem?_map,Int.natCast_nonneg,List.length_append,List.map_append,hjl',hgj,wj,hq'] | (refine condK_split ?_ ?_ <;> intro hwq) | (refine two_split ?_ ?_) | (refine guardK_split ?_ ?_ <;> intro hwq) | (refine guardE_split ?_ ?_ <;> intro hwq) | (refine awp_drawW [] (by decide +kernel) ?_; have hwq := trivial) | fail))
    · have hq0 : (fun x : Cr => x.s == a) x = false := by simpa using hq
      have hq' : (x.s == a) = false := hq0
      have more := take_more hno hgj hq0
      (have hwq := trivial; repeat' (first | simp (maxSteps:=9999999)-implicitDefEqProofs only [go_sem,simprocAttr,hwq,FT3,FT4,FT5,FT23,FT24,FT25,FT26,FT27,FT29,FT32,FT34,FT35,FT37,FT59,List.length_map,List.getElem?_map,Int.natCast_nonneg,List.length_append,List.map_append,hjl',hgj,wj,hq'] | (refine condK_split ?_ ?_ <;> intro hwq) | (refine two_split ?_ ?_) | (refine guardK_split ?_ ?_ <;> intro hwq) | (refine guardE_split ?_ ?_ <;> intro hwq) | (refine awp_drawW [] (by decide +kernel) ?_; have hwq := trivial) | fail))
      refine ⟨p.cs.length - (j + 1), _, by omega, Weak.cutI 1 [1, 2, 6] ?_ ?_, j + 1, _, rfl, by omega, rfl, more⟩
      · simp (maxSteps:=9999999)-implicitDefEqProofs only [simprocAttr,QH,Option.isSome,cond_true,cond_false,Option.bind,selB,V.rn,V.rns,Go.Ai.known,V.pz,V.pzs,T.toV,frz1,List.range,List.range.loop,ite_true,ite_false,if_true,if_false,ne_eq,implies_true,forall_const,eq_self,IntKind.bits,upd_tmsS,selT_cons,selT_nil,List.length_map,List.getElem?_map,Int.natCast_nonneg,List.length_append,List.map_append]
      · simp (maxSteps:=9999999)-implicitDefEqProofs only [simprocAttr,QH,Option.isSome,cond_true,cond_false,Option.bind,selB,V.rn,V.rns,Go.Ai.known,V.pz,V.pzs,T.toV,frz1,List.range,List.range.loop,ite_true,ite_false,if_true,if_false,ne_eq,implies_true,forall_const,eq_self,IntKind.bits,upd_tmsS,selT_cons,selT_nil,List.length_map,List.getElem?_map,Int.natCast_nonneg,List.length_append,List.map_append]
  · have hjl' : ¬ (j : Int) < (p.cs.length : Int) := by omega
    rw [List.take_of_length_le (by omega)] at hno
    rw [find_no hno]
    (have hwq := trivial; repeat' (first | simp (maxSteps:=9999999)-implicitDefEqProofs only [go_sem,simprocAttr,hwq,FT3,FT4,FT5,FT23,FT24,FT25,FT26,FT27,FT29,FT32,FT34,FT35,FT37,FT59,List.length_map,List.getElem?_map,Int.natCast_nonneg,List.length_append,List.map_append,hjl'] | (refine condK_split ?_ ?_ <;> intro hwq) | (refine two_split ?_ ?_) | (refine guardK_split ?_ ?_ <;> intro hwq) | (refine guardE_split ?_ ?_ <;> intro hwq) | (refine awp_drawW [] (by decide +kernel) ?_; have hwq := trivial) | fail))
def rf18 (p : Pv) (a : Int) : V := match p.bs.find? (fun x => x.v == a) with
  | some x => .tuple [isV x.l, vB true]
  | none => .tuple [.s (.slice none 0 0), vB false]
def Fi18 (p : Pv) (a : Int) (n : Nat) (S : St) : Prop :=
  ∃ (j : Nat) (mv : List Nat), S = ⟨tms [(1, vI a), (2, .ptr 0 0 0), (6, vI j)], [bxP p], mv⟩ ∧ j ≤ p.bs.length ∧ n = p.bs.length - j ∧ ∀ y ∈ p.bs.take j, (fun x : Mb => x.v == a) y = false
theorem pq18 (p : Pv) (hp : okL p) (a : Int) : AC Tryz.prog 18 [pvV p, vI a] [] (eqR (rf18 p a)) := by
  obtain ⟨l1, l2, l3, l4, l5⟩ := hp
  unfold rf18
  refine AC_plain orders Tryz.func18 rfl (by kernel_rfl) (by kernel_rfl) Tryz.ntmps18 (by simp) ?_
  unfold Tryz.f18
  (have hwq := trivial; repeat' (first | simp (maxSteps:=9999999)-implicitDefEqProofs only [go_sem,simprocAttr,hwq,FT3,FT4,FT5,FT23,FT24,FT25,FT26,FT27,FT29,FT32,FT34,FT35,FT37,FT59] | (refine condK_split ?_ ?_ <;> intro hwq) | (refine two_split ?_ ?_) | (refine guardK_split ?_ ?_ <;> intro hwq) | (refine guardE_split ?_ ?_ <;> intro hwq) | (refine awp_drawW [] (by decide +kernel) ?_; have hwq := trivial) | fail))
  refine awp_loopK (Fi18 p a) p.bs.length _ (Weak.cutI 1 [1, 2, 6] ?_ ?_) ⟨0, _, rfl, by omega, rfl, by simp⟩ ?_
  · simp (maxSteps:=9999999)-implicitDefEqProofs only [simprocAttr,QH,Option.isSome,cond_true,cond_false,Option.bind,selB,V.rn,V.rns,Go.Ai.known,V.pz,V.pzs,T.toV,frz1,List.range,List.range.loop,ite_true,ite_false,if_true,if_false,ne_eq,implies_true,forall_const,eq_self,IntKind.bits,upd_tmsS,selT_cons,selT_nil]
  · simp (maxSteps:=9999999)-implicitDefEqProofs only [simprocAttr,QH,Option.isSome,cond_true,cond_false,Option.bind,selB,V.rn,V.rns,Go.Ai.known,V.pz,V.pzs,T.toV,frz1,List.range,List.range.loop,ite_true,ite_false,if_true,if_false,ne_eq,implies_true,forall_const,eq_self,IntKind.bits,upd_tmsS,selT_cons,selT_nil]
  rintro kk S ⟨j, mv, rfl, hj, rfl, hno⟩
  have wj : IntKind.i64.wrap ((j : Int) + 1) = (j : Int) + 1 := wI64 _ (by omega) (by omega)
  by_cases hjl : j < p.bs.length
  · have hjl' : (j : Int) < (p.bs.length : Int) := by omega
    have hgj : p.bs[j]? = some p.bs[j] := List.getElem?_eq_getElem hjl
    obtain ⟨x, hx⟩ : ∃ x, p.bs[j] = x := ⟨_, rfl⟩
    rw [hx] at hgj
    by_cases hq : (fun x : Mb => x.v == a) x = true
    · rw [find_at hno hgj hq]
      have hq' : (x.v == a) = true := hq
      (have hwq := trivial; repeat' (first | simp (maxSteps:=9999999)-implicitDefEqProofs only [go_sem,simprocAttr,hwq,FT3,FT4,FT5,FT23,FT24,FT25,FT26,FT27,FT29,FT32,FT34,FT35,FT37,FT59,List.length_map,List.getElem?_map,Int.natCast_nonneg,List.length_append,List.map_append,hjl',hgj,wj,hq'] | (refine condK_split ?_ ?_ <;> intro hwq) | (refine two_split ?_ ?_) | (refine guardK_split ?_ ?_ <;> intro hwq) | (refine guardE_split ?_ ?_ <;> intro hwq) | (refine awp_drawW [] (by decide +kernel) ?_; have hwq := trivial) | fail))
    · have hq0 : (fun x : Mb => x.v == a) x = false := by simpa using hq
      have hq' : (x.v == a) = false := hq0
      have more := take_more hno hgj hq0
      (have hwq := trivial; repeat' (first | simp (maxSteps:=9999999)-implicitDefEqProofs only [go_sem,simprocAttr,hwq,FT3,FT4,FT5,FT23,FT24,FT25,FT26,FT27,FT29,FT32,FT34,FT35,FT37,FT59,List.length_map,List.getElem?_map,Int.natCast_nonneg,List.length_append,List.map_append,hjl',hgj,wj,hq'] | (refine condK_split ?_ ?_ <;> intro hwq) | (refine two_split ?_ ?_) | (refine guardK_split ?_ ?_ <;> intro hwq) | (refine guardE_split ?_ ?_ <;> intro hwq) | (refine awp_drawW [] (by decide +kernel) ?_; have hwq := trivial) | fail))
      refine ⟨p.bs.length - (j + 1), _, by omega, Weak.cutI 1 [1, 2, 6] ?_ ?_, j + 1, _, rfl, by omega, rfl, more⟩
      · simp (maxSteps:=9999999)-implicitDefEqProofs only [simprocAttr,QH,Option.isSome,cond_true,cond_false,Option.bind,selB,V.rn,V.rns,Go.Ai.known,V.pz,V.pzs,T.toV,frz1,List.range,List.range.loop,ite_true,ite_false,if_true,if_false,ne_eq,implies_true,forall_const,eq_self,IntKind.bits,upd_tmsS,selT_cons,selT_nil,List.length_map,List.getElem?_map,Int.natCast_nonneg,List.length_append,List.map_append]
      · simp (maxSteps:=9999999)-implicitDefEqProofs only [simprocAttr,QH,Option.isSome,cond_true,cond_false,Option.bind,selB,V.rn,V.rns,Go.Ai.known,V.pz,V.pzs,T.toV,frz1,List.range,List.range.loop,ite_true,ite_false,if_true,if_false,ne_eq,implies_true,forall_const,eq_self,IntKind.bits,upd_tmsS,selT_cons,selT_nil,List.length_map,List.getElem?_map,Int.natCast_nonneg,List.length_append,List.map_append]
  · have hjl' : ¬ (j : Int) < (p.bs.length : Int) := by omega
    rw [List.take_of_length_le (by omega)] at hno
    rw [find_no hno]
    (have hwq := trivial; repeat' (first | simp (maxSteps:=9999999)-implicitDefEqProofs only [go_sem,simprocAttr,hwq,FT3,FT4,FT5,FT23,FT24,FT25,FT26,FT27,FT29,FT32,FT34,FT35,FT37,FT59,List.length_map,List.getElem?_map,Int.natCast_nonneg,List.length_append,List.map_append,hjl'] | (refine condK_split ?_ ?_ <;> intro hwq) | (refine two_split ?_ ?_) | (refine guardK_split ?_ ?_ <;> intro hwq) | (refine guardE_split ?_ ?_ <;> intro hwq) | (refine awp_drawW [] (by decide +kernel) ?_; have hwq := trivial) | fail))
def Rj119 (L : List Int) (k : Nat) (S : St) : Prop :=
  ∃ (j : Nat) (mv : List Nat), S = ⟨tms [(0, isV L), (3, vI j)], [], mv⟩ ∧ 1 ≤ j ∧ j ≤ L.length + 1 ∧ k = L.length + 1 - j ∧ ∀ i x y, i + 1 < j → L[i]? = some x → L[i + 1]? = some y → ltI x y = true
theorem pc119 (L : List Int) (hl : L.length ≤ 100000) : AC Tryz.prog 119 [isV L] [] (eqR (vB (risB ltI L))) := by
  refine AC_plain orders Tryz.func119 rfl (by kernel_rfl) (by kernel_rfl) Tryz.ntmps119 (by simp) ?_
  unfold Tryz.f119
  (have hwq := trivial; repeat' (first | simp (maxSteps:=9999999)-implicitDefEqProofs only [go_sem,simprocAttr,hwq,FT3,FT4,FT35] | (refine condK_split ?_ ?_ <;> intro hwq) | (refine two_split ?_ ?_) | (refine guardK_split ?_ ?_ <;> intro hwq) | (refine guardE_split ?_ ?_ <;> intro hwq) | (refine awp_drawW [] (by decide +kernel) ?_; have hwq := trivial) | fail))
  refine awp_loopK (Rj119 L) L.length _ (Weak.cutI 0 [0, 3] ?_ ?_) ⟨1, _, rfl, by omega, by omega, by omega, fun i _ _ h => by omega⟩ ?_
  · simp (maxSteps:=9999999)-implicitDefEqProofs only [simprocAttr,QH,Option.isSome,cond_true,cond_false,Option.bind,selB,V.rn,V.rns,Go.Ai.known,V.pz,V.pzs,T.toV,frz1,List.range,List.range.loop,ite_true,ite_false,if_true,if_false,ne_eq,implies_true,forall_const,eq_self,IntKind.bits,upd_tmsS,selT_cons,selT_nil]
  · simp (maxSteps:=9999999)-implicitDefEqProofs only [simprocAttr,QH,Option.isSome,cond_true,cond_false,Option.bind,selB,V.rn,V.rns,Go.Ai.known,V.pz,V.pzs,T.toV,frz1,List.range,List.range.loop,ite_true,ite_false,if_true,if_false,ne_eq,implies_true,forall_const,eq_self,IntKind.bits,upd_tmsS,selT_cons,selT_nil]
  rintro kk S ⟨j, mv, rfl, hj1, hj, rfl, hp⟩
  obtain ⟨p, hjp⟩ : ∃ p, j = p + 1 := ⟨j - 1, by omega⟩
  have wj : IntKind.i64.wrap ((j : Int) + 1) = (j : Int) + 1 := wI64 _ (by omega) (by omega)
  have wp : IntKind.i64.wrap ((j : Int) - 1) = (p : Int) := by rw [wI64 _ (by omega) (by omega)]; omega
  by_cases hjl : j < L.length
  · have hjl' : (j : Int) < (L.length : Int) := by omega
    have hpl' : (p : Int) < (L.length : Int) := by omega
    have hg0 : L[p]? = some (L[p]'(by omega)) := List.getElem?_eq_getElem (by omega)
    have hg1 : L[j]? = some L[j] := List.getElem?_eq_getElem hjl
    obtain ⟨x, hx⟩ : ∃ x, L[p]'(by omega) = x := ⟨_, rfl⟩
    obtain ⟨y, hy⟩ : ∃ y, L[j] = y := ⟨_, rfl⟩
    rw [hx] at hg0
    rw [hy] at hg1
    by_cases hlt : x < y
    · have hge : ¬ y ≤ x := by omega
      (have hwq := trivial; repeat' (first | simp (maxSteps:=9999999)-implicitDefEqProofs only [go_sem,simprocAttr,hwq,FT3,FT4,FT35,List.length_map,List.getElem?_map,Int.natCast_nonneg,List.length_append,List.map_append,hjl',hpl',hg0,hg1,wj,wp,hge] | (refine condK_split ?_ ?_ <;> intro hwq) | (refine two_split ?_ ?_) | (refine guardK_split ?_ ?_ <;> intro hwq) | (refine guardE_split ?_ ?_ <;> intro hwq) | (refine awp_drawW [] (by decide +kernel) ?_; have hwq := trivial) | fail))
      refine ⟨L.length + 1 - (j + 1), _, by omega, Weak.cutI 0 [0, 3] ?_ ?_, j + 1, _, rfl, by omega, by omega, rfl, fun i a b hi ha hb => ?_⟩
      · simp (maxSteps:=9999999)-implicitDefEqProofs only [simprocAttr,QH,Option.isSome,cond_true,cond_false,Option.bind,selB,V.rn,V.rns,Go.Ai.known,V.pz,V.pzs,T.toV,frz1,List.range,List.range.loop,ite_true,ite_false,if_true,if_false,ne_eq,implies_true,forall_const,eq_self,IntKind.bits,upd_tmsS,selT_cons,selT_nil,List.length_map,List.getElem?_map,Int.natCast_nonneg,List.length_append,List.map_append]
      · simp (maxSteps:=9999999)-implicitDefEqProofs only [simprocAttr,QH,Option.isSome,cond_true,cond_false,Option.bind,selB,V.rn,V.rns,Go.Ai.known,V.pz,V.pzs,T.toV,frz1,List.range,List.range.loop,ite_true,ite_false,if_true,if_false,ne_eq,implies_true,forall_const,eq_self,IntKind.bits,upd_tmsS,selT_cons,selT_nil,List.length_map,List.getElem?_map,Int.natCast_nonneg,List.length_append,List.map_append]
      · by_cases hij : i + 1 < j
        · exact hp i a b hij ha hb
        · obtain rfl : i = p := by omega
          rw [hg0] at ha
          rw [← hjp, hg1] at hb
          cases ha
          cases hb
          simp [ltI, hlt]
    · have hge : y ≤ x := by omega
      have hr : risB ltI L = false := by
        rw [Bool.eq_false_iff]
        intro h
        have := (risB_iff ltI L).1 h p x y hg0 (by rw [← hjp]; exact hg1)
        simp [ltI] at this
        omega
      (have hwq := trivial; repeat' (first | simp (maxSteps:=9999999)-implicitDefEqProofs only [go_sem,simprocAttr,hwq,FT3,FT4,FT35,List.length_map,List.getElem?_map,Int.natCast_nonneg,List.length_append,List.map_append,hjl',hpl',hg0,hg1,wj,wp,hge,hr] | (refine condK_split ?_ ?_ <;> intro hwq) | (refine two_split ?_ ?_) | (refine guardK_split ?_ ?_ <;> intro hwq) | (refine guardE_split ?_ ?_ <;> intro hwq) | (refine awp_drawW [] (by decide +kernel) ?_; have hwq := trivial) | fail))
  · have hjl' : ¬ (j : Int) < (L.length : Int) := by omega
    have hr : risB ltI L = true := (risB_iff ltI L).2 fun i x y hx hy => hp i x y (by
      have := (List.getElem?_eq_some_iff.1 hy).1
      omega) hx hy
    (have hwq := trivial; repeat' (first | simp (maxSteps:=9999999)-implicitDefEqProofs only [go_sem,simprocAttr,hwq,FT3,FT4,FT35,List.length_map,List.getElem?_map,Int.natCast_nonneg,List.length_append,List.map_append,hjl',hr] | (refine condK_split ?_ ?_ <;> intro hwq) | (refine two_split ?_ ?_) | (refine guardK_split ?_ ?_ <;> intro hwq) | (refine guardE_split ?_ ?_ <;> intro hwq) | (refine awp_drawW [] (by decide +kernel) ?_; have hwq := trivial) | fail))
def Ar120 (p : Pv) (l : List Int) (k : Int) (n : Nat) (S : St) : Prop :=
  ∃ (j : Nat) (mv : List Nat), S = ⟨tms [(1, isV l), (2, vI k), (3, .ptr 0 0 0), (7, vI j)], [bxP p], mv⟩ ∧ j ≤ l.length ∧ n = l.length - j ∧ ∀ x ∈ l.take j, (kindP p.ks x != k) = false
theorem pc120 (p : Pv) (hp : okL p) (l : List Int) (hl : l.length ≤ 1000) (k : Int) (hk0 : k ≠ 0) : AC Tryz.prog 120 [pvV p, isV l, vI k] [] (eqR (vB (!l.any fun x => kindP p.ks x != k))) := by
  obtain ⟨l1, l2, l3, l4, l5⟩ := hp
  refine AC_plain orders Tryz.func120 rfl (by kernel_rfl) (by kernel_rfl) Tryz.ntmps120 (by simp) ?_
  unfold Tryz.f120
  (have hwq := trivial; repeat' (first | simp (maxSteps:=9999999)-implicitDefEqProofs only [go_sem,simprocAttr,hwq,FT3,FT4,FT5,FT23,FT24,FT25,FT26,FT27,FT29,FT32,FT34,FT35,FT37,FT59] | (refine condK_split ?_ ?_ <;> intro hwq) | (refine two_split ?_ ?_) | (refine guardK_split ?_ ?_ <;> intro hwq) | (refine guardE_split ?_ ?_ <;> intro hwq) | (refine awp_drawI 4 [] (List.range 27) [0, 0, 3, 7, 15, 31, 63, 63, 255, 511, 63, 1087, 3135, 8191, 16383, 32767, 65535, 131071, 65535, 65535, 851967, 1900543, 4194303, 8388607, 65535, 33554431, 67108863] (by decide +kernel) ?_; have hwq := trivial) | (refine awp_drawW [] (by decide +kernel) ?_; have hwq := trivial) | fail))
  refine awp_loopK (Ar120 p l k) l.length _ (Weak.cutI 1 [1, 2, 3, 7] ?_ ?_) ⟨0, _, rfl, by omega, rfl, by simp⟩ ?_
  · simp (maxSteps:=9999999)-implicitDefEqProofs only [simprocAttr,QH,Option.isSome,cond_true,cond_false,Option.bind,selB,V.rn,V.rns,Go.Ai.known,V.pz,V.pzs,T.toV,frz1,List.range,List.range.loop,ite_true,ite_false,if_true,if_false,ne_eq,implies_true,forall_const,eq_self,IntKind.bits,upd_tmsS,selT_cons,selT_nil]
  · simp (maxSteps:=9999999)-implicitDefEqProofs only [simprocAttr,QH,Option.isSome,cond_true,cond_false,Option.bind,selB,V.rn,V.rns,Go.Ai.known,V.pz,V.pzs,T.toV,frz1,List.range,List.range.loop,ite_true,ite_false,if_true,if_false,ne_eq,implies_true,forall_const,eq_self,IntKind.bits,upd_tmsS,selT_cons,selT_nil]
  rintro kk S ⟨j, mv, rfl, hj, rfl, hno⟩
  have wj : IntKind.i64.wrap ((j : Int) + 1) = (j : Int) + 1 := wI64 _ (by omega) (by omega)
  by_cases hjl : j < l.length
  · have hjl' : (j : Int) < (l.length : Int) := by omega
    have hgj : l[j]? = some l[j] := List.getElem?_eq_getElem hjl
    obtain ⟨x, hx⟩ : ∃ x, l[j] = x := ⟨_, rfl⟩
    rw [hx] at hgj
    have stop : (kindP p.ks x != k) = true → (!l.any fun x => kindP p.ks x != k) = false := fun h => by rw [any_some (q := fun x => kindP p.ks x != k) hgj h]; rfl
    by_cases h1 : x < 0
    · have hs := stop (by
        have : kindP p.ks x = 0 := by unfold kindP; rw [if_neg (by omega)]
        rw [this]; simpa using (Ne.symm hk0))
      (have hwq := trivial; repeat' (first | simp (maxSteps:=9999999)-implicitDefEqProofs only [go_sem,simprocAttr,hwq,FT3,FT4,FT5,FT23,FT24,FT25,FT26,FT27,FT29,FT32,FT34,FT35,FT37,FT59,List.length_map,List.getElem?_map,Int.natCast_nonneg,List.length_append,List.map_append,hjl',hgj,wj,h1,hs] | (refine condK_split ?_ ?_ <;> intro hwq) | (refine two_split ?_ ?_) | (refine guardK_split ?_ ?_ <;> intro hwq) | (refine guardE_split ?_ ?_ <;> intro hwq) | (refine awp_drawI 4 [] (List.range 27) [0, 0, 3, 7, 15, 31, 63, 63, 255, 511, 63, 1087, 3135, 8191, 16383, 32767, 65535, 131071, 65535, 65535, 851967, 1900543, 4194303, 8388607, 65535, 33554431, 67108863] (by decide +kernel) ?_; have hwq := trivial) | (refine awp_drawW [] (by decide +kernel) ?_; have hwq := trivial) | fail))
    · by_cases h2 : (p.ks.length : Int) ≤ x
      · have hs := stop (by
          have : kindP p.ks x = 0 := by unfold kindP; rw [if_pos (by omega), List.getD_eq_getElem?_getD, List.getElem?_eq_none (by omega)]; rfl
          rw [this]; simpa using (Ne.symm hk0))
        (have hwq := trivial; repeat' (first | simp (maxSteps:=9999999)-implicitDefEqProofs only [go_sem,simprocAttr,hwq,FT3,FT4,FT5,FT23,FT24,FT25,FT26,FT27,FT29,FT32,FT34,FT35,FT37,FT59,List.length_map,List.getElem?_map,Int.natCast_nonneg,List.length_append,List.map_append,hjl',hgj,wj,h1,h2,hs] | (refine condK_split ?_ ?_ <;> intro hwq) | (refine two_split ?_ ?_) | (refine guardK_split ?_ ?_ <;> intro hwq) | (refine guardE_split ?_ ?_ <;> intro hwq) | (refine awp_drawI 4 [] (List.range 27) [0, 0, 3, 7, 15, 31, 63, 63, 255, 511, 63, 1087, 3135, 8191, 16383, 32767, 65535, 131071, 65535, 65535, 851967, 1900543, 4194303, 8388607, 65535, 33554431, 67108863] (by decide +kernel) ?_; have hwq := trivial) | (refine awp_drawW [] (by decide +kernel) ?_; have hwq := trivial) | fail))
      · obtain ⟨i, rfl⟩ := Int.eq_ofNat_of_zero_le (by omega : 0 ≤ x)
        have hil : i < p.ks.length := by omega
        have hil' : (i : Int) < (p.ks.length : Int) := by omega
        have hgi : p.ks[i]? = some p.ks[i] := List.getElem?_eq_getElem hil
        obtain ⟨y, hy⟩ : ∃ y, p.ks[i] = y := ⟨_, rfl⟩
        rw [hy] at hgi
        have hky : kindP p.ks (i : Int) = y := by unfold kindP; rw [if_pos (by omega), Int.toNat_natCast, List.getD_eq_getElem?_getD, hgi]; rfl
        cases hq : (y != k) with
        | true =>
          have hs := stop (by rw [hky]; exact hq)
          (have hwq := trivial; repeat' (first | simp (maxSteps:=9999999)-implicitDefEqProofs only [go_sem,simprocAttr,hwq,FT3,FT4,FT5,FT23,FT24,FT25,FT26,FT27,FT29,FT32,FT34,FT35,FT37,FT59,List.length_map,List.getElem?_map,Int.natCast_nonneg,List.length_append,List.map_append,hjl',hgj,wj,h1,h2,hil',hgi,hq,hs] | (refine condK_split ?_ ?_ <;> intro hwq) | (refine two_split ?_ ?_) | (refine guardK_split ?_ ?_ <;> intro hwq) | (refine guardE_split ?_ ?_ <;> intro hwq) | (refine awp_drawI 4 [] (List.range 27) [0, 0, 3, 7, 15, 31, 63, 63, 255, 511, 63, 1087, 3135, 8191, 16383, 32767, 65535, 131071, 65535, 65535, 851967, 1900543, 4194303, 8388607, 65535, 33554431, 67108863] (by decide +kernel) ?_; have hwq := trivial) | (refine awp_drawW [] (by decide +kernel) ?_; have hwq := trivial) | fail))
        | false =>
          (have hwq := trivial; repeat' (first | simp (maxSteps:=9999999)-implicitDefEqProofs only [go_sem,simprocAttr,hwq,FT3,FT4,FT5,FT23,FT24,FT25,FT26,FT27,FT29,FT32,FT34,FT35,FT37,FT59,List.length_map,List.getElem?_map,Int.natCast_nonneg,List.length_append,List.map_append,hjl',hgj,wj,h1,h2,hil',hgi,hq] | (refine condK_split ?_ ?_ <;> intro hwq) | (refine two_split ?_ ?_) | (refine guardK_split ?_ ?_ <;> intro hwq) | (refine guardE_split ?_ ?_ <;> intro hwq) | (refine awp_drawI 4 [] (List.range 27) [0, 0, 3, 7, 15, 31, 63, 63, 255, 511, 63, 1087, 3135, 8191, 16383, 32767, 65535, 131071, 65535, 65535, 851967, 1900543, 4194303, 8388607, 65535, 33554431, 67108863] (by decide +kernel) ?_; have hwq := trivial) | (refine awp_drawW [] (by decide +kernel) ?_; have hwq := trivial) | fail))
          refine ⟨l.length - (j + 1), _, by omega, Weak.cutI 1 [1, 2, 3, 7] ?_ ?_, j + 1, _, rfl, by omega, rfl, take_more (q := fun x => kindP p.ks x != k) hno hgj (by rw [hky]; exact hq)⟩
          · simp (maxSteps:=9999999)-implicitDefEqProofs only [simprocAttr,QH,Option.isSome,cond_true,cond_false,Option.bind,selB,V.rn,V.rns,Go.Ai.known,V.pz,V.pzs,T.toV,frz1,List.range,List.range.loop,ite_true,ite_false,if_true,if_false,ne_eq,implies_true,forall_const,eq_self,IntKind.bits,upd_tmsS,selT_cons,selT_nil,List.length_map,List.getElem?_map,Int.natCast_nonneg,List.length_append,List.map_append]
          · simp (maxSteps:=9999999)-implicitDefEqProofs only [simprocAttr,QH,Option.isSome,cond_true,cond_false,Option.bind,selB,V.rn,V.rns,Go.Ai.known,V.pz,V.pzs,T.toV,frz1,List.range,List.range.loop,ite_true,ite_false,if_true,if_false,ne_eq,implies_true,forall_const,eq_self,IntKind.bits,upd_tmsS,selT_cons,selT_nil,List.length_map,List.getElem?_map,Int.natCast_nonneg,List.length_append,List.map_append]
  · have hjl' : ¬ (j : Int) < (l.length : Int) := by omega
    rw [List.take_of_length_le (by omega)] at hno
    have hs : (!l.any fun x => kindP p.ks x != k) = true := by rw [any_none (q := fun x => kindP p.ks x != k) hno]; rfl
    (have hwq := trivial; repeat' (first | simp (maxSteps:=9999999)-implicitDefEqProofs only [go_sem,simprocAttr,hwq,FT3,FT4,FT5,FT23,FT24,FT25,FT26,FT27,FT29,FT32,FT34,FT35,FT37,FT59,List.length_map,List.getElem?_map,Int.natCast_nonneg,List.length_append,List.map_append,hjl',hs] | (refine condK_split ?_ ?_ <;> intro hwq) | (refine two_split ?_ ?_) | (refine guardK_split ?_ ?_ <;> intro hwq) | (refine guardE_split ?_ ?_ <;> intro hwq) | (refine awp_drawI 4 [] (List.range 27) [0, 0, 3, 7, 15, 31, 63, 63, 255, 511, 63, 1087, 3135, 8191, 16383, 32767, 65535, 131071, 65535, 65535, 851967, 1900543, 4194303, 8388607, 65535, 33554431, 67108863] (by decide +kernel) ?_; have hwq := trivial) | (refine awp_drawW [] (by decide +kernel) ?_; have hwq := trivial) | fail))
end Go.Ai
