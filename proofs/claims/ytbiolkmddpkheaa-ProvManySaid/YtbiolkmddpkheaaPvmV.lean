/- Contracts of functions of the loaded program: called with data in the ranges that each names, it returns this value and writes to no old memory. -/
import Derived.Test.YtbiolkmddpkheaaPvmE
set_option linter.unusedVariables false
set_option linter.unusedSimpArgs false
set_option maxHeartbeats 8000000
set_option maxRecDepth 100000
namespace Go.Ai
open Go.Proofs
attribute [local go_sem] QH QR V.noimm V.noimms frzZs frzZ frzA frzV frzVs frzBox boxLen Option.isSome cond_true cond_false aopD calW flatV stepX amap stepY alookup afind aupdate adelete amlen arange ameq mapOf akeq pl V.mapT V.mapTs Option.bind stepK runK guardD stepE runD callD compact selB callK evS ofVal ofVals scalar aop ares mkRes V.rn V.rns V.cells? cellsAt Go.Ai.part aload astore setL V.atom abin aun intBin shiftBin aconv fieldOf aindexAddr aindex bound? aslice aarr abuild afill alen nilP nilS nilF aeq eqCells eqCell Go.Ai.known strBin abuiltin aappend abuildSlice arowsFill amakeSlice acopy aclear minmax rowsOf numsT notStr isIntD isByte V.pz V.pzs T.toV frz1 frz scalT scalTs chunkT List.range List.range.loop ite_true ite_false if_true if_false ne_eq implies_true forall_const eq_self IntKind.bits kPostKF_ret kPostKF_normal kPostX_ret kPostX_normal bsl nil2K nil2 kPostFW_ret kPostFW_normal kPostKM_ret kPostKM_normal kPostXK_ret kPostXK_normal
def mOk (p : Pv) (pre : List Mp) (m : Mp) : Bool := !(pre.any fun x => x.p == m.p && x.s == m.s) && (kindP p.ks m.p == 1 && (decide (vidOk m.v) && hasC p.cs m.s))
def okA (p : Pv) : Bool := kindZ p.own.a p.own.b p.own.c p.own.d p.own.e p.own.f == 1 && (decide (1 ≤ (p.ks.length : Int) ∧ (p.ks.length : Int) ≤ 8) && (decide ((p.ms.length : Int) ≤ 64) && (decide ((p.cs.length : Int) ≤ 64) && decide ((p.bs.length : Int) ≤ 64))))
def okR (p : Pv) : Bool := risB ltMb p.bs && (risB ltCr p.cs && risB beforeB p.ms)
def okQ (p : Pv) : Bool := !(p.ks.any fun x => x != 1 && x != 2) && (!(p.bs.any fun x => !decide (vidOk x.v) || portsE p.ks x.l != 0) && !(p.cs.any fun x => !decide (isidOk x.s) || !hasM p.bs x.v))
def okM (p : Pv) : Bool := (List.range p.ms.length).all fun i => mOk p (p.ms.take i) (p.ms.getD i default)
/-- May it be? -/
def okB (p : Pv) : Bool := okA p && (okR p && (okQ p && okM p))
def checkE (p : Pv) : Int := if okB p = true then 0 else 180
theorem chk_no {p : Pv} (h : okB p = false) : (180 : Int) = checkE p := by unfold checkE; rw [h]; rfl
def ChI (p : Pv) (n : Nat) (S : St) : Prop :=
  ∃ (j : Nat) (mv : List Nat), S = ⟨tms [(1, .ptr 0 0 0), (3, vB true), (52, msV p.ms), (53, vI p.ms.length), (54, vI j)], [bxP p], mv⟩ ∧ j ≤ p.ms.length ∧ n = p.ms.length - j ∧ ∀ i, i < j → mOk p (p.ms.take i) (p.ms.getD i default) = true
theorem pc17 (p : Pv) (hp : okL p) (ho : isB p.own.a) : AC Try.prog 8 [pvV p] [] (eqR (vI (checkE p))) := by
  obtain ⟨l1, l2, l3, l4, l5⟩ := hp
  have n58 := pc58 p.own.a p.own.b p.own.c p.own.d p.own.e p.own.f ho
  have n59 := pc59 (p.ks.length : Int) 1 8
  have n60 := pr60 p.bs (by omega)
  have n61 := pr61 p.cs (by omega)
  have n62 := pr62 p.ms (by omega)
  have n63 := pcf63 38 (fun x => x != 1 && x != 2) p.ks (by omega) (fun x _ => pk64 x)
  have n65 := pcf65 40 _ (flat_pv p) (fun x => !decide (vidOk x.v) || portsE p.ks x.l != 0) p.bs (by omega) (fun x hx => pk66 p ⟨l1, l2, l3, l4, l5⟩ x (l5 x hx))
  have n69 := pcf69 44 _ (flat_pv p) (fun x => !decide (isidOk x.s) || !hasM p.bs x.v) p.cs (by omega) (fun x hx => pk70 p ⟨l1, l2, l3, l4, l5⟩ x)
  refine AC_plain orders Try.func8 rfl (by kernel_rfl) (by kernel_rfl) Try.ntmps8 (by simp) ?_
  unfold Try.f8
  have dA : okA p = (kindZ p.own.a p.own.b p.own.c p.own.d p.own.e p.own.f == 1 && (decide (1 ≤ (p.ks.length : Int) ∧ (p.ks.length : Int) ≤ 8) && (decide ((p.ms.length : Int) ≤ 64) && (decide ((p.cs.length : Int) ≤ 64) && decide ((p.bs.length : Int) ≤ 64))))) := rfl
  have dR : okR p = (risB ltMb p.bs && (risB ltCr p.cs && risB beforeB p.ms)) := rfl
  have dQ : okQ p = (!(p.ks.any fun x => x != 1 && x != 2) && (!(p.bs.any fun x => !decide (vidOk x.v) || portsE p.ks x.l != 0) && !(p.cs.any fun x => !decide (isidOk x.s) || !hasM p.bs x.v))) := rfl
  generalize decide (1 ≤ (p.ks.length : Int) ∧ (p.ks.length : Int) ≤ 8) = gb1 at n59 dA
  generalize risB ltMb p.bs = r1 at n60 dR
  generalize risB ltCr p.cs = r2 at n61 dR
  generalize risB beforeB p.ms = r3 at n62 dR
  generalize (p.ks.any fun x => x != 1 && x != 2) = q1 at n63 dQ
  generalize (p.bs.any fun x => !decide (vidOk x.v) || portsE p.ks x.l != 0) = q2 at n65 dQ
  generalize (p.cs.any fun x => !decide (isidOk x.s) || !hasM p.bs x.v) = q3 at n69 dQ
  obtain ⟨gg3, hc3⟩ : ∃ c, decide ((p.ms.length : Int) ≤ 64) = c := ⟨_, rfl⟩
  obtain ⟨gg4, hc4⟩ : ∃ c, decide ((p.cs.length : Int) ≤ 64) = c := ⟨_, rfl⟩
  obtain ⟨gg5, hc5⟩ : ∃ c, decide ((p.bs.length : Int) ≤ 64) = c := ⟨_, rfl⟩
  rw [hc3, hc4, hc5] at dA
  have dB : okB p = (okA p && (okR p && (okQ p && okM p))) := rfl
  (have hwq := trivial; repeat' (first | simp (maxSteps:=9999999)-implicitDefEqProofs only [go_sem,simprocAttr,hwq,FT3,FT4,FT5,FT23,FT24,FT25,FT26,FT27,FT29,FT31,FT32,FT36,FT38,FT40,FT42,FT55,FT59,FT65,FT73,FT80,FT84,FT86,FT88,List.length_map,List.getElem?_map,Int.natCast_nonneg,List.length_append,List.map_append,hc3,hc4,hc5] | (refine condK_split ?_ ?_ <;> intro hwq) | (refine two_split ?_ ?_) | (refine guardK_split ?_ ?_ <;> intro hwq) | (refine guardE_split ?_ ?_ <;> intro hwq) | (refine awp_drawW [] (by decide +kernel) ?_; have hwq := trivial) | (refine call_plain n58 rfl rfl ?_; have hwq := trivial) | (refine call_plain n59 rfl rfl ?_; have hwq := trivial) | (refine call_plain n60 rfl rfl ?_; have hwq := trivial) | (refine call_plain n61 rfl rfl ?_; have hwq := trivial) | (refine call_plain n62 rfl rfl ?_; have hwq := trivial) | (refine call_plain n63 rfl rfl ?_; have hwq := trivial) | (refine call_at [0] n65 (by simp) (by decide) rfl rfl (by simp [mapT_box, V.mapTs, V.mapT, pl]) (by simp [V.les, V.le, V.mapTs, V.mapT, pl]) ?_; have hwq := trivial) | (refine call_at [0] n69 (by simp) (by decide) rfl rfl (by simp [mapT_box, V.mapTs, V.mapT, pl]) (by simp [V.les, V.le, V.mapTs, V.mapT, pl]) ?_; have hwq := trivial) | fail))
  all_goals first
    | (clear hc3 hc4 hc5; refine chk_no ?_; rw [dB, dA, dR, dQ]; simp_all; done)
    | skip
  have h3 : r3 = true := by simp_all
  subst h3
  have hok : (okA p && (okR p && okQ p)) = true := by clear hc3 hc4 hc5; rw [dA, dR, dQ]; simp_all
  refine awp_loopK (ChI p) p.ms.length _ (Weak.cutI 1 [1, 3, 52, 53, 54] ?_ ?_) ⟨0, _, rfl, by omega, rfl, by simp⟩ ?_
  · simp (maxSteps:=9999999)-implicitDefEqProofs only [simprocAttr,QH,Option.isSome,cond_true,cond_false,Option.bind,selB,V.rn,V.rns,Go.Ai.known,V.pz,V.pzs,T.toV,frz1,List.range,List.range.loop,ite_true,ite_false,if_true,if_false,ne_eq,implies_true,forall_const,eq_self,IntKind.bits,upd_tmsS,selT_cons,selT_nil,List.length_map,List.getElem?_map,Int.natCast_nonneg,List.length_append,List.map_append]
  · simp (maxSteps:=9999999)-implicitDefEqProofs only [simprocAttr,QH,Option.isSome,cond_true,cond_false,Option.bind,selB,V.rn,V.rns,Go.Ai.known,V.pz,V.pzs,T.toV,frz1,List.range,List.range.loop,ite_true,ite_false,if_true,if_false,ne_eq,implies_true,forall_const,eq_self,IntKind.bits,upd_tmsS,selT_cons,selT_nil]
  rintro kk S ⟨j, mv, rfl, hj, rfl, hno⟩
  have wj : IntKind.i64.wrap ((j : Int) + 1) = (j : Int) + 1 := wI64 _ (by omega) (by omega)
  by_cases hjl : j < p.ms.length
  · have hjl' : (j : Int) < (p.ms.length : Int) := by omega
    have hgj : p.ms[j]? = some p.ms[j] := List.getElem?_eq_getElem hjl
    obtain ⟨m, hm⟩ : ∃ m, p.ms[j] = m := ⟨_, rfl⟩
    rw [hm] at hgj
    have hd : p.ms.getD j default = m := by rw [List.getD_eq_getElem?_getD, hgj]; rfl
    have htk : List.take j (List.map mpT p.ms) = List.map mpT (p.ms.take j) := by rw [List.map_take]
    have hjle : j ≤ p.ms.length := hj
    have n72 := pcf72 47 _ (flat_mp m) (fun x => x.p == m.p && x.s == m.s) (p.ms.take j) (by rw [List.length_take]; omega) (fun x _ => pk73 x m)
    have n74 := pc74 p (by omega) m.p
    have n67 := pc67 m.v
    have n75 := pc75 p ⟨l1, l2, l3, l4, l5⟩ m.s
    have dM : mOk p (p.ms.take j) m = (!((p.ms.take j).any fun x => x.p == m.p && x.s == m.s) && (kindP p.ks m.p == 1 && (decide (vidOk m.v) && hasC p.cs m.s))) := rfl
    generalize ((p.ms.take j).any fun x => x.p == m.p && x.s == m.s) = m1 at n72 dM
    generalize decide (vidOk m.v) = m3 at n67 dM
    generalize hasC p.cs m.s = m4 at n75 dM
    have bad : mOk p (p.ms.take j) m = false → okB p = false := by
      intro h
      have : okM p = false := by
        rw [Bool.eq_false_iff]
        intro hc
        have := List.all_eq_true.1 hc j (List.mem_range.2 hjl)
        rw [hd, h] at this
        simp at this
      rw [dB, this]
      simp
    (have hwq := trivial; repeat' (first | simp (maxSteps:=9999999)-implicitDefEqProofs only [go_sem,simprocAttr,hwq,FT3,FT4,FT5,FT23,FT24,FT25,FT26,FT27,FT29,FT31,FT32,FT36,FT38,FT40,FT42,FT55,FT59,FT65,FT73,FT80,FT84,FT86,FT88,List.length_map,List.getElem?_map,Int.natCast_nonneg,List.length_append,List.map_append,hjl',hjle,hgj,wj,htk,Nat.zero_le,Nat.sub_zero] | (refine condK_split ?_ ?_ <;> intro hwq) | (refine two_split ?_ ?_) | (refine guardK_split ?_ ?_ <;> intro hwq) | (refine guardE_split ?_ ?_ <;> intro hwq) | (refine awp_drawW [] (by decide +kernel) ?_; have hwq := trivial) | (refine call_at [1] n72 (by simp) (by decide) rfl rfl (by simp [mapT_box, V.mapTs, V.mapT, pl]) (by simp [V.les, V.le, V.mapTs, V.mapT, pl]) ?_; have hwq := trivial) | (refine call_plain n74 rfl rfl ?_; have hwq := trivial) | (refine call_plain n67 rfl rfl ?_; have hwq := trivial) | (refine call_plain n75 rfl rfl ?_; have hwq := trivial) | fail))
    all_goals first
      | (refine chk_no (bad ?_); rw [dM]; simp_all; done)
      | skip
    refine ⟨p.ms.length - (j + 1), _, by omega, Weak.cutI 1 [1, 3, 52, 53, 54] ?_ ?_, j + 1, _, rfl, by omega, rfl, fun i hi => ?_⟩
    · simp (maxSteps:=9999999)-implicitDefEqProofs only [simprocAttr,QH,Option.isSome,cond_true,cond_false,Option.bind,selB,V.rn,V.rns,Go.Ai.known,V.pz,V.pzs,T.toV,frz1,List.range,List.range.loop,ite_true,ite_false,if_true,if_false,ne_eq,implies_true,forall_const,eq_self,IntKind.bits,upd_tmsS,selT_cons,selT_nil,List.length_map,List.getElem?_map,Int.natCast_nonneg,List.length_append,List.map_append]
    · simp (maxSteps:=9999999)-implicitDefEqProofs only [simprocAttr,QH,Option.isSome,cond_true,cond_false,Option.bind,selB,V.rn,V.rns,Go.Ai.known,V.pz,V.pzs,T.toV,frz1,List.range,List.range.loop,ite_true,ite_false,if_true,if_false,ne_eq,implies_true,forall_const,eq_self,IntKind.bits,upd_tmsS,selT_cons,selT_nil,List.length_map,List.getElem?_map,Int.natCast_nonneg,List.length_append,List.map_append]
    · by_cases hij : i < j
      · exact hno i hij
      · obtain rfl : i = j := by omega
        rw [hd, dM]
        simp_all
  · have hjl' : ¬ (j : Int) < (p.ms.length : Int) := by omega
    have hM : okM p = true := List.all_eq_true.2 fun i hi => hno i (by have := List.mem_range.1 hi; omega)
    have he : checkE p = 0 := by
      unfold checkE
      have e : okB p = true := by
        rw [dB, hM, Bool.and_true]
        exact hok
      rw [e]
      rfl
    rw [he]
    (have hwq := trivial; repeat' (first | simp (maxSteps:=9999999)-implicitDefEqProofs only [go_sem,simprocAttr,hwq,FT3,FT4,FT5,FT23,FT24,FT25,FT26,FT27,FT29,FT31,FT32,FT36,FT38,FT40,FT42,FT55,FT59,FT65,FT73,FT80,FT84,FT86,FT88,List.length_map,List.getElem?_map,Int.natCast_nonneg,List.length_append,List.map_append,hjl'] | (refine condK_split ?_ ?_ <;> intro hwq) | (refine two_split ?_ ?_) | (refine guardK_split ?_ ?_ <;> intro hwq) | (refine guardE_split ?_ ?_ <;> intro hwq) | (refine awp_drawW [] (by decide +kernel) ?_; have hwq := trivial) | fail))
end Go.Ai

set_option linter.unusedVariables false
set_option linter.unusedSimpArgs false
set_option maxHeartbeats 8000000
set_option maxRecDepth 100000
namespace Go.Ai
open Go.Proofs
theorem mp_eq (x y : Mp) : (x.p == y.p && (x.v == y.v && x.s == y.s)) = decide (x = y) := by
  obtain ⟨a, b, c⟩ := x
  obtain ⟨a2, b2, c2⟩ := y
  rw [Bool.eq_iff_iff]
  simp [and_assoc]
theorem cr_eq (x y : Cr) : (x.s == y.s && x.v == y.v) = decide (x = y) := by
  obtain ⟨a, b⟩ := x
  obtain ⟨a2, b2⟩ := y
  rw [Bool.eq_iff_iff]
  simp
end Go.Ai

set_option linter.unusedVariables false
set_option linter.unusedSimpArgs false
set_option maxHeartbeats 8000000
set_option maxRecDepth 100000
namespace Go.Ai
open Go.Proofs
/-- With one more, ahead of the first that it is less than. -/
def insL {α : Type} (lt : α → α → Bool) (x : α) : List α → List α
  | [] => [x]
  | y :: l => if lt x y = true then x :: y :: l else y :: insL lt x l
theorem insL_none {α : Type} {lt : α → α → Bool} {x : α} : ∀ {L : List α}, (∀ y ∈ L, lt x y = false) → insL lt x L = L ++ [x]
  | [], _ => rfl
  | y :: l, h => by
    rw [insL, if_neg (by rw [h y (by simp)]; simp), insL_none fun z hz => h z (by simp [hz])]
    rfl
theorem insL_app {α : Type} {lt : α → α → Bool} {x : α} : ∀ {A B : List α}, (∃ y ∈ A, lt x y = true) → insL lt x (A ++ B) = insL lt x A ++ B
  | [], _, h => by obtain ⟨y, hy, _⟩ := h; simp at hy
  | y :: A, B, h => by
    rw [List.cons_append, insL, insL]
    by_cases hy : lt x y = true
    · rw [if_pos hy, if_pos hy]; rfl
    · rw [if_neg hy, if_neg hy, insL_app (by
        obtain ⟨z, hz, hl⟩ := h
        rcases List.mem_cons.1 hz with rfl | hz
        · exact (hy hl).elim
        · exact ⟨z, hz, hl⟩)]
      rfl
theorem insL_len {α : Type} {lt : α → α → Bool} {x : α} : ∀ {L : List α}, (insL lt x L).length = L.length + 1
  | [] => rfl
  | y :: l => by
    rw [insL]
    split
    · rfl
    · simp [insL_len]
/-- How far the loop of an insertion has come. -/
def InsS {α : Type} (lt : α → α → Bool) (x : α) (L : List α) (j : Nat) (N : List α) (b : Bool) : Prop :=
  (b = false ∧ N = L.take j ∧ ∀ y ∈ L.take j, lt x y = false) ∨ (b = true ∧ N = insL lt x (L.take j) ∧ ∃ y ∈ L.take j, lt x y = true)
theorem InsS.len {α : Type} {lt : α → α → Bool} {x : α} {L : List α} {j : Nat} {N : List α} {b : Bool} (h : InsS lt x L j N b) : N.length ≤ L.length + 1 := by
  rcases h with ⟨_, rfl, _⟩ | ⟨_, rfl, _⟩
  · rw [List.length_take]; omega
  · rw [insL_len, List.length_take]; omega
theorem InsS.later {α : Type} {lt : α → α → Bool} {x y : α} {L : List α} {j : Nat} {N : List α} (h : InsS lt x L j N true) (hg : L[j]? = some y) : InsS lt x L (j + 1) (N ++ [y]) true := by
  rcases h with ⟨h, _⟩ | ⟨_, rfl, z, hz, hl⟩
  · cases h
  · exact .inr ⟨rfl, by rw [take_in hg, insL_app ⟨z, hz, hl⟩], z, by rw [take_in hg]; simp [hz], hl⟩
theorem InsS.done {α : Type} {lt : α → α → Bool} {x : α} {L : List α} {N : List α} {b : Bool} (h : InsS lt x L L.length N b) : insL lt x L = if b = true then N else N ++ [x] := by
  rw [InsS, List.take_length] at h
  rcases h with ⟨rfl, rfl, hno⟩ | ⟨rfl, rfl, _⟩
  · rw [insL_none hno]; rfl
  · rfl
theorem wj_of {j l : Nat} (h : j ≤ l) (h2 : l ≤ 1000) : IntKind.i64.wrap ((j : Int) + 1) = (j : Int) + 1 := wI64 _ (by omega) (by omega)
theorem st_of {j l : Nat} (h : j < l) : l - (j + 1) < l - j := by omega
theorem nl_of {j l : Nat} (h : ¬ j < l) (h2 : j ≤ l) : j = l := by omega
theorem le_of_sl {a b : Nat} (h : a = b) : a ≤ b := by omega
def rMap (b1 b2 b0 : Bool) (k : Int) (a1 a2 : Bool) (b4 : Bool) (n : Int) : Int := if b1 = false ∨ b2 = false then 1 else if b0 = false then 5 else if k ≠ 1 then 184 else if a1 = true ∨ a2 = true then 181 else if b4 = false then 182 else if 64 ≤ n then 3 else 0
def inK (ks : List Int) (x : Int) : Bool := decide (0 ≤ x ∧ x < (ks.length : Int))
def refMapE (p : Pv) (m : Mp) : Int := rMap (decide (vidOk m.v)) (decide (isidOk m.s)) (inK p.ks m.p) (kindP p.ks m.p) (p.ms.find? fun x => x.p == m.p && x.v == m.v).isSome (p.ms.find? fun x => x.p == m.p && x.s == m.s).isSome (p.cs.find? fun x => x.s == m.s).isSome p.ms.length
end Go.Ai

set_option linter.unusedVariables false
set_option linter.unusedSimpArgs false
set_option maxHeartbeats 8000000
set_option maxRecDepth 100000
namespace Go.Ai
open Go.Proofs
abbrev bxCr (x : Cr) : Blk := .box [vI x.s, vI x.v] false
def rCar (b1 b2 a1 b4 : Bool) (n : Int) : Int := if b1 = false ∨ b2 = false then 1 else if a1 = true then 181 else if b4 = false then 182 else if 64 ≤ n then 3 else 0
def refCarE (p : Pv) (c : Cr) : Int := rCar (decide (vidOk c.v)) (decide (isidOk c.s)) (p.cs.find? fun x => x.s == c.s).isSome (p.bs.find? fun x => x.v == c.v).isSome p.cs.length
end Go.Ai

set_option linter.unusedVariables false
set_option linter.unusedSimpArgs false
set_option maxHeartbeats 8000000
set_option maxRecDepth 100000
namespace Go.Ai
open Go.Proofs
attribute [local go_sem] QH QR V.noimm V.noimms frzZs frzZ frzA frzV frzVs frzBox boxLen Option.isSome cond_true cond_false aopD calW flatV stepX amap stepY alookup afind aupdate adelete amlen arange ameq mapOf akeq pl V.mapT V.mapTs Option.bind stepK runK guardD stepE runD callD compact selB callK evS ofVal ofVals scalar aop ares mkRes V.rn V.rns V.cells? cellsAt Go.Ai.part aload astore setL V.atom abin aun intBin shiftBin aconv fieldOf aindexAddr aindex bound? aslice aarr abuild afill alen nilP nilS nilF aeq eqCells eqCell Go.Ai.known strBin abuiltin aappend abuildSlice arowsFill amakeSlice acopy aclear minmax rowsOf numsT notStr isIntD isByte V.pz V.pzs T.toV frz1 frz scalT scalTs chunkT List.range List.range.loop ite_true ite_false if_true if_false ne_eq implies_true forall_const eq_self IntKind.bits kPostKF_ret kPostKF_normal kPostX_ret kPostX_normal bsl nil2K nil2 kPostFW_ret kPostFW_normal kPostKM_ret kPostKM_normal kPostXK_ret kPostXK_normal
theorem pcl93 (rows : List (List T)) (hl : rows.length ≤ 100000) : AC Try.prog 28 [.sl 1 rows] [] (eqR (.sl 1 rows)) := by
  cases rows with
  | nil =>
    refine AC_frozenW orders Try.func28 rfl (by kernel_rfl) (by kernel_rfl) Try.ntmps28 (by simp) ?_
    unfold Try.f28
    (have hwq := trivial; repeat' (first | simp (maxSteps:=9999999)-implicitDefEqProofs only [go_sem,simprocAttr,hwq,FT24,FT31] | (refine awpL_loop 18 ?_; have hwq := trivial) | (refine condK_split ?_ ?_ <;> intro hwq) | (refine two_split ?_ ?_) | (refine guardK_split ?_ ?_ <;> intro hwq) | (refine guardE_split ?_ ?_ <;> intro hwq) | (refine awp_drawW [] (by decide +kernel) ?_; have hwq := trivial) | fail))
    all_goals exact ⟨_, rfl, by simp [V.leT, V.le]⟩
  | cons r rows =>
    have hz : (rows.length + 1) * 8 ≤ 140737488355328 := by simp at hl; omega
    have tk : List.take (rows.length + 1) (r :: rows) = r :: rows := List.take_of_length_le (by simp)
    refine AC_frozen orders Try.func28 rfl (by kernel_rfl) (by kernel_rfl) Try.ntmps28 (by simp) ?_
    unfold Try.f28
    (have hwq := trivial; repeat' (first | simp (maxSteps:=9999999)-implicitDefEqProofs only [go_sem,simprocAttr,hwq,FT24,FT31,List.length_map,List.getElem?_map,Int.natCast_nonneg,List.length_append,List.map_append,List.length_cons,hz,tk,Nat.le_refl,List.nil_append] | (refine awpL_loop 18 ?_; have hwq := trivial) | (refine condK_split ?_ ?_ <;> intro hwq) | (refine two_split ?_ ?_) | (refine guardK_split ?_ ?_ <;> intro hwq) | (refine guardE_split ?_ ?_ <;> intro hwq) | (refine awp_drawW [] (by decide +kernel) ?_; have hwq := trivial) | fail))
theorem pcl94 (rows : List (List T)) (hl : rows.length ≤ 100000) : AC Try.prog 29 [.sl 3 rows] [] (eqR (.sl 3 rows)) := by
  cases rows with
  | nil =>
    refine AC_frozenW orders Try.func29 rfl (by kernel_rfl) (by kernel_rfl) Try.ntmps29 (by simp) ?_
    unfold Try.f29
    (have hwq := trivial; repeat' (first | simp (maxSteps:=9999999)-implicitDefEqProofs only [go_sem,simprocAttr,hwq,FT3,FT25,FT40] | (refine awpL_loop 18 ?_; have hwq := trivial) | (refine condK_split ?_ ?_ <;> intro hwq) | (refine two_split ?_ ?_) | (refine guardK_split ?_ ?_ <;> intro hwq) | (refine guardE_split ?_ ?_ <;> intro hwq) | (refine awp_drawW [] (by decide +kernel) ?_; have hwq := trivial) | fail))
    all_goals exact ⟨_, rfl, by simp [V.leT, V.le]⟩
  | cons r rows =>
    have hz : (rows.length + 1) * 24 ≤ 140737488355328 := by simp at hl; omega
    have tk : List.take (rows.length + 1) (r :: rows) = r :: rows := List.take_of_length_le (by simp)
    refine AC_frozen orders Try.func29 rfl (by kernel_rfl) (by kernel_rfl) Try.ntmps29 (by simp) ?_
    unfold Try.f29
    (have hwq := trivial; repeat' (first | simp (maxSteps:=9999999)-implicitDefEqProofs only [go_sem,simprocAttr,hwq,FT3,FT25,FT40,List.length_map,List.getElem?_map,Int.natCast_nonneg,List.length_append,List.map_append,List.length_cons,hz,tk,Nat.le_refl,List.nil_append] | (refine awpL_loop 18 ?_; have hwq := trivial) | (refine condK_split ?_ ?_ <;> intro hwq) | (refine two_split ?_ ?_) | (refine guardK_split ?_ ?_ <;> intro hwq) | (refine guardE_split ?_ ?_ <;> intro hwq) | (refine awp_drawW [] (by decide +kernel) ?_; have hwq := trivial) | fail))
theorem pco94 (rows : List (List T)) (hl : rows.length ≤ 100000) : AC Try.prog 29 [.sl 3 rows] [] (eqS (.own 0 0 rows.length) [.rows 3 rows false]) := by
  have hff : List.filter (fun _ : Nat => false) [0] = [] := rfl
  cases rows with
  | nil =>
    refine AC.virt (σ := []) (z := 3) ?_
    refine AC_oneK orders (fun b : Bool => if b then [] else [0]) Try.func29 rfl (by kernel_rfl) (by kernel_rfl) Try.ntmps29 (by simp) ?_
    unfold Try.f29
    (have hwq := trivial; repeat' (first | simp (maxSteps:=9999999)-implicitDefEqProofs only [go_sem,simprocAttr,hwq,FT3,FT25,FT40] | (refine awpL_loop 18 ?_; have hwq := trivial) | (refine condK_split ?_ ?_ <;> intro hwq) | (refine two_split ?_ ?_) | (refine guardK_split ?_ ?_ <;> intro hwq) | (refine guardE_split ?_ ?_ <;> intro hwq) | (refine awp_drawW [] (by decide +kernel) ?_; have hwq := trivial) | fail))
    · refine endX true ?_
      simp (maxSteps:=9999999)-implicitDefEqProofs only [go_sem,simprocAttr,FT3,FT25,FT40,hff]
    · refine endX false ?_
      simp (maxSteps:=9999999)-implicitDefEqProofs only [go_sem,simprocAttr,FT3,FT25,FT40,hff]
  | cons r rows =>
    have hz : (rows.length + 1) * 24 ≤ 140737488355328 := by simp at hl; omega
    refine AC_heap orders [0] Try.func29 rfl (by kernel_rfl) (by kernel_rfl) Try.ntmps29 (by simp) ?_
    unfold Try.f29
    (have hwq := trivial; repeat' (first | simp (maxSteps:=9999999)-implicitDefEqProofs only [go_sem,simprocAttr,hwq,FT3,FT25,FT40,List.length_map,List.getElem?_map,Int.natCast_nonneg,List.length_append,List.map_append,List.length_cons,hz,List.nil_append,hff] | (refine awpL_loop 18 ?_; have hwq := trivial) | (refine condK_split ?_ ?_ <;> intro hwq) | (refine two_split ?_ ?_) | (refine guardK_split ?_ ?_ <;> intro hwq) | (refine guardE_split ?_ ?_ <;> intro hwq) | (refine awp_drawW [] (by decide +kernel) ?_; have hwq := trivial) | fail))
theorem pcl95 (rows : List (List T)) (hl : rows.length ≤ 100000) : AC Try.prog 30 [.sl 2 rows] [] (eqR (.sl 2 rows)) := by
  cases rows with
  | nil =>
    refine AC_frozenW orders Try.func30 rfl (by kernel_rfl) (by kernel_rfl) Try.ntmps30 (by simp) ?_
    unfold Try.f30
    (have hwq := trivial; repeat' (first | simp (maxSteps:=9999999)-implicitDefEqProofs only [go_sem,simprocAttr,hwq,FT3,FT26,FT42] | (refine awpL_loop 18 ?_; have hwq := trivial) | (refine condK_split ?_ ?_ <;> intro hwq) | (refine two_split ?_ ?_) | (refine guardK_split ?_ ?_ <;> intro hwq) | (refine guardE_split ?_ ?_ <;> intro hwq) | (refine awp_drawW [] (by decide +kernel) ?_; have hwq := trivial) | fail))
    all_goals exact ⟨_, rfl, by simp [V.leT, V.le]⟩
  | cons r rows =>
    have hz : (rows.length + 1) * 16 ≤ 140737488355328 := by simp at hl; omega
    have tk : List.take (rows.length + 1) (r :: rows) = r :: rows := List.take_of_length_le (by simp)
    refine AC_frozen orders Try.func30 rfl (by kernel_rfl) (by kernel_rfl) Try.ntmps30 (by simp) ?_
    unfold Try.f30
    (have hwq := trivial; repeat' (first | simp (maxSteps:=9999999)-implicitDefEqProofs only [go_sem,simprocAttr,hwq,FT3,FT26,FT42,List.length_map,List.getElem?_map,Int.natCast_nonneg,List.length_append,List.map_append,List.length_cons,hz,tk,Nat.le_refl,List.nil_append] | (refine awpL_loop 18 ?_; have hwq := trivial) | (refine condK_split ?_ ?_ <;> intro hwq) | (refine two_split ?_ ?_) | (refine guardK_split ?_ ?_ <;> intro hwq) | (refine guardE_split ?_ ?_ <;> intro hwq) | (refine awp_drawW [] (by decide +kernel) ?_; have hwq := trivial) | fail))
theorem pco95 (rows : List (List T)) (hl : rows.length ≤ 100000) : AC Try.prog 30 [.sl 2 rows] [] (eqS (.own 0 0 rows.length) [.rows 2 rows false]) := by
  have hff : List.filter (fun _ : Nat => false) [0] = [] := rfl
  cases rows with
  | nil =>
    refine AC.virt (σ := []) (z := 2) ?_
    refine AC_oneK orders (fun b : Bool => if b then [] else [0]) Try.func30 rfl (by kernel_rfl) (by kernel_rfl) Try.ntmps30 (by simp) ?_
    unfold Try.f30
    (have hwq := trivial; repeat' (first | simp (maxSteps:=9999999)-implicitDefEqProofs only [go_sem,simprocAttr,hwq,FT3,FT26,FT42] | (refine awpL_loop 18 ?_; have hwq := trivial) | (refine condK_split ?_ ?_ <;> intro hwq) | (refine two_split ?_ ?_) | (refine guardK_split ?_ ?_ <;> intro hwq) | (refine guardE_split ?_ ?_ <;> intro hwq) | (refine awp_drawW [] (by decide +kernel) ?_; have hwq := trivial) | fail))
    · refine endX true ?_
      simp (maxSteps:=9999999)-implicitDefEqProofs only [go_sem,simprocAttr,FT3,FT26,FT42,hff]
    · refine endX false ?_
      simp (maxSteps:=9999999)-implicitDefEqProofs only [go_sem,simprocAttr,FT3,FT26,FT42,hff]
  | cons r rows =>
    have hz : (rows.length + 1) * 16 ≤ 140737488355328 := by simp at hl; omega
    refine AC_heap orders [0] Try.func30 rfl (by kernel_rfl) (by kernel_rfl) Try.ntmps30 (by simp) ?_
    unfold Try.f30
    (have hwq := trivial; repeat' (first | simp (maxSteps:=9999999)-implicitDefEqProofs only [go_sem,simprocAttr,hwq,FT3,FT26,FT42,List.length_map,List.getElem?_map,Int.natCast_nonneg,List.length_append,List.map_append,List.length_cons,hz,List.nil_append,hff] | (refine awpL_loop 18 ?_; have hwq := trivial) | (refine condK_split ?_ ?_ <;> intro hwq) | (refine two_split ?_ ?_) | (refine guardK_split ?_ ?_ <;> intro hwq) | (refine guardE_split ?_ ?_ <;> intro hwq) | (refine awp_drawW [] (by decide +kernel) ?_; have hwq := trivial) | fail))
theorem pco96 (rows : List (List T)) (hl : rows.length ≤ 100000) : AC Try.prog 31 [.sl 2 rows] [] (eqS (.own 0 0 rows.length) [.rows 2 rows false]) := by
  have hff : List.filter (fun _ : Nat => false) [0] = [] := rfl
  cases rows with
  | nil =>
    refine AC.virt (σ := []) (z := 2) ?_
    refine AC_oneK orders (fun b : Bool => if b then [] else [0]) Try.func31 rfl (by kernel_rfl) (by kernel_rfl) Try.ntmps31 (by simp) ?_
    unfold Try.f31
    (have hwq := trivial; repeat' (first | simp (maxSteps:=9999999)-implicitDefEqProofs only [go_sem,simprocAttr,hwq,FT3,FT27,FT36,FT38] | (refine awpL_loop 18 ?_; have hwq := trivial) | (refine condK_split ?_ ?_ <;> intro hwq) | (refine two_split ?_ ?_) | (refine guardK_split ?_ ?_ <;> intro hwq) | (refine guardE_split ?_ ?_ <;> intro hwq) | (refine awp_drawW [] (by decide +kernel) ?_; have hwq := trivial) | fail))
    · refine endX true ?_
      simp (maxSteps:=9999999)-implicitDefEqProofs only [go_sem,simprocAttr,FT3,FT27,FT36,FT38,hff]
    · refine endX false ?_
      simp (maxSteps:=9999999)-implicitDefEqProofs only [go_sem,simprocAttr,FT3,FT27,FT36,FT38,hff]
  | cons r rows =>
    have hz : (rows.length + 1) * 32 ≤ 140737488355328 := by simp at hl; omega
    refine AC_heap orders [0] Try.func31 rfl (by kernel_rfl) (by kernel_rfl) Try.ntmps31 (by simp) ?_
    unfold Try.f31
    (have hwq := trivial; repeat' (first | simp (maxSteps:=9999999)-implicitDefEqProofs only [go_sem,simprocAttr,hwq,FT3,FT27,FT36,FT38,List.length_map,List.getElem?_map,Int.natCast_nonneg,List.length_append,List.map_append,List.length_cons,hz,List.nil_append,hff] | (refine awpL_loop 18 ?_; have hwq := trivial) | (refine condK_split ?_ ?_ <;> intro hwq) | (refine two_split ?_ ?_) | (refine guardK_split ?_ ?_ <;> intro hwq) | (refine guardE_split ?_ ?_ <;> intro hwq) | (refine awp_drawW [] (by decide +kernel) ?_; have hwq := trivial) | fail))
theorem pcl46 (rows : List (List T)) (hl : rows.length ≤ 100000) : AC Try.prog 22 [.sl 1 rows] [] (eqR (.sl 1 rows)) := by
  cases rows with
  | nil =>
    refine AC_frozenW orders Try.func22 rfl (by kernel_rfl) (by kernel_rfl) Try.ntmps22 (by simp) ?_
    unfold Try.f22
    (have hwq := trivial; repeat' (first | simp (maxSteps:=9999999)-implicitDefEqProofs only [go_sem,simprocAttr,hwq,FT3,FT36] | (refine awpL_loop 18 ?_; have hwq := trivial) | (refine condK_split ?_ ?_ <;> intro hwq) | (refine two_split ?_ ?_) | (refine guardK_split ?_ ?_ <;> intro hwq) | (refine guardE_split ?_ ?_ <;> intro hwq) | (refine awp_drawW [] (by decide +kernel) ?_; have hwq := trivial) | fail))
    all_goals exact ⟨_, rfl, by simp [V.leT, V.le]⟩
  | cons r rows =>
    have hz : (rows.length + 1) * 8 ≤ 140737488355328 := by simp at hl; omega
    have tk : List.take (rows.length + 1) (r :: rows) = r :: rows := List.take_of_length_le (by simp)
    refine AC_frozen orders Try.func22 rfl (by kernel_rfl) (by kernel_rfl) Try.ntmps22 (by simp) ?_
    unfold Try.f22
    (have hwq := trivial; repeat' (first | simp (maxSteps:=9999999)-implicitDefEqProofs only [go_sem,simprocAttr,hwq,FT3,FT36,List.length_map,List.getElem?_map,Int.natCast_nonneg,List.length_append,List.map_append,List.length_cons,hz,tk,Nat.le_refl,List.nil_append] | (refine awpL_loop 18 ?_; have hwq := trivial) | (refine condK_split ?_ ?_ <;> intro hwq) | (refine two_split ?_ ?_) | (refine guardK_split ?_ ?_ <;> intro hwq) | (refine guardE_split ?_ ?_ <;> intro hwq) | (refine awp_drawW [] (by decide +kernel) ?_; have hwq := trivial) | fail))
end Go.Ai

set_option linter.unusedVariables false
set_option linter.unusedSimpArgs false
set_option maxHeartbeats 8000000
set_option maxRecDepth 100000
namespace Go.Ai
open Go.Proofs
attribute [local go_sem] QH QR V.noimm V.noimms frzZs frzZ frzA frzV frzVs frzBox boxLen Option.isSome cond_true cond_false aopD calW flatV stepX amap stepY alookup afind aupdate adelete amlen arange ameq mapOf akeq pl V.mapT V.mapTs Option.bind stepK runK guardD stepE runD callD compact selB callK evS ofVal ofVals scalar aop ares mkRes V.rn V.rns V.cells? cellsAt Go.Ai.part aload astore setL V.atom abin aun intBin shiftBin aconv fieldOf aindexAddr aindex bound? aslice aarr abuild afill alen nilP nilS nilF aeq eqCells eqCell Go.Ai.known strBin abuiltin aappend abuildSlice arowsFill amakeSlice acopy aclear minmax rowsOf numsT notStr isIntD isByte V.pz V.pzs T.toV frz1 frz scalT scalTs chunkT List.range List.range.loop ite_true ite_false if_true if_false ne_eq implies_true forall_const eq_self IntKind.bits kPostKF_ret kPostKF_normal kPostX_ret kPostX_normal bsl nil2K nil2 kPostFW_ret kPostFW_normal kPostKM_ret kPostKM_normal kPostXK_ret kPostXK_normal
def CpI (p : Pv) (n : Nat) (S : St) : Prop :=
  ∃ (j : Nat) (mv : List Nat), S = ⟨tms [(1, .ptr 0 0 0), (2, .ptr 1 0 0), (22, vI p.bs.length), (23, vI j)], [.box [.s (.int .u8 p.own.a), .s (.int .u8 p.own.b), .s (.int .u8 p.own.c), .s (.int .u8 p.own.d), .s (.int .u8 p.own.e), .s (.int .u8 p.own.f), isV p.ks, msV p.ms, csV p.cs, .own 2 0 p.bs.length] false, .box [.s (.int .u8 0), .s (.int .u8 0), .s (.int .u8 0), .s (.int .u8 0), .s (.int .u8 0), .s (.int .u8 0), .s (.slice none 0 0), .s (.slice none 0 0), .s (.slice none 0 0), .s (.slice none 0 0)] false, .rows 2 (p.bs.map mbT) false], mv⟩ ∧ j ≤ p.bs.length ∧ n = p.bs.length - j
theorem pc33 (p : Pv) (hp : okL p) : AC Try.prog 7 [pvV p] [] (eqR (pvV p)) := by
  obtain ⟨l1, l2, l3, l4, l5⟩ := hp
  have n93 := pcl93 (p.ks.map inT) (by simp; omega)
  have n94 := pcl94 (p.ms.map mpT) (by simp; omega)
  have n95 := pcl95 (p.cs.map crT) (by simp; omega)
  have n96 := pco96 (p.bs.map mbT) (by simp; omega)
  rw [List.length_map] at n96
  refine AC_frozen orders Try.func7 rfl (by kernel_rfl) (by kernel_rfl) Try.ntmps7 (by simp) ?_
  unfold Try.f7
  (have hwq := trivial; repeat' (first | simp (maxSteps:=9999999)-implicitDefEqProofs only [go_sem,simprocAttr,hwq,FT3,FT5,FT23,FT24,FT25,FT26,FT27,FT29,FT31,FT36,FT38,FT40,FT42,List.length_map,List.getElem?_map,Int.natCast_nonneg,List.length_append,List.map_append] | (refine condK_split ?_ ?_ <;> intro hwq) | (refine two_split ?_ ?_) | (refine guardK_split ?_ ?_ <;> intro hwq) | (refine guardE_split ?_ ?_ <;> intro hwq) | (refine awp_drawI 1 [31] (List.range 20) [0, 1, 3, 0, 8, 31, 0, 64, 255, 0, 512, 2047, 1759, 8191, 16383, 32767, 65535, 131071, 262143, 524287] (by decide +kernel) ?_; have hwq := trivial) | (refine awp_drawW [31] (by decide +kernel) ?_; have hwq := trivial) | (refine draw_plain n93 rfl (fun _ => rfl) ?_; have hwq := trivial) | (refine draw_plain n94 rfl (fun _ => rfl) ?_; have hwq := trivial) | (refine draw_plain n95 rfl (fun _ => rfl) ?_; have hwq := trivial) | (refine drawW_at [] n96 (by simp) (by decide) rfl rfl (by simp) (V.les_refl _) ?_; have hwq := trivial) | fail))
  refine awp_loopK (CpI p) p.bs.length _ (Weak.cutI 3 [1, 2, 22, 23] ?_ ?_) ⟨0, _, rfl, by omega, rfl⟩ ?_
  · simp (maxSteps:=9999999)-implicitDefEqProofs only [simprocAttr,QH,Option.isSome,cond_true,cond_false,Option.bind,selB,V.rn,V.rns,Go.Ai.known,V.pz,V.pzs,T.toV,frz1,List.range,List.range.loop,ite_true,ite_false,if_true,if_false,ne_eq,implies_true,forall_const,eq_self,IntKind.bits,upd_tmsS,selT_cons,selT_nil,List.length_map,List.getElem?_map,Int.natCast_nonneg,List.length_append,List.map_append]
  · simp (maxSteps:=9999999)-implicitDefEqProofs only [simprocAttr,QH,Option.isSome,cond_true,cond_false,Option.bind,selB,V.rn,V.rns,Go.Ai.known,V.pz,V.pzs,T.toV,frz1,List.range,List.range.loop,ite_true,ite_false,if_true,if_false,ne_eq,implies_true,forall_const,eq_self,IntKind.bits,upd_tmsS,selT_cons,selT_nil]
  rintro kk S ⟨j, mv, rfl, hj, rfl⟩
  have wj : IntKind.i64.wrap ((j : Int) + 1) = (j : Int) + 1 := wI64 _ (by omega) (by omega)
  by_cases hjl : j < p.bs.length
  · have hjl' : (j : Int) < (p.bs.length : Int) := by omega
    have hgj : p.bs[j]? = some p.bs[j] := List.getElem?_eq_getElem hjl
    obtain ⟨x, hx⟩ : ∃ x, p.bs[j] = x := ⟨_, rfl⟩
    rw [hx] at hgj
    have n46 := pcl46 (x.l.map inT) (by simp; have := l5 x (mem_in hgj); omega)
    have hset : List.set (List.map mbT p.bs) j (mbT x) = List.map mbT p.bs := by
      apply List.ext_getElem?
      intro i
      by_cases hij : j = i
      · subst hij
        rw [List.getElem?_set_self (by simpa using hjl), List.getElem?_map, hgj]
        rfl
      · rw [List.getElem?_set_ne hij]
    (have hwq := trivial; repeat' (first | simp (maxSteps:=9999999)-implicitDefEqProofs only [go_sem,simprocAttr,hwq,FT3,FT5,FT23,FT24,FT25,FT26,FT27,FT29,FT31,FT36,FT38,FT40,FT42,List.length_map,List.getElem?_map,Int.natCast_nonneg,List.length_append,List.map_append,hjl',hgj,wj,hset] | (refine condK_split ?_ ?_ <;> intro hwq) | (refine two_split ?_ ?_) | (refine guardK_split ?_ ?_ <;> intro hwq) | (refine guardE_split ?_ ?_ <;> intro hwq) | (refine awp_drawI 1 [31] (List.range 20) [0, 1, 3, 0, 8, 31, 0, 64, 255, 0, 512, 2047, 1759, 8191, 16383, 32767, 65535, 131071, 262143, 524287] (by decide +kernel) ?_; have hwq := trivial) | (refine awp_drawW [31] (by decide +kernel) ?_; have hwq := trivial) | (refine draw_plain n46 rfl (fun _ => rfl) ?_; have hwq := trivial) | fail))
    refine ⟨p.bs.length - (j + 1), _, by omega, Weak.cutI 3 [1, 2, 22, 23] ?_ ?_, j + 1, _, rfl, by omega, rfl⟩
    · simp (maxSteps:=9999999)-implicitDefEqProofs only [simprocAttr,QH,Option.isSome,cond_true,cond_false,Option.bind,selB,V.rn,V.rns,Go.Ai.known,V.pz,V.pzs,T.toV,frz1,List.range,List.range.loop,ite_true,ite_false,if_true,if_false,ne_eq,implies_true,forall_const,eq_self,IntKind.bits,upd_tmsS,selT_cons,selT_nil,List.length_map,List.getElem?_map,Int.natCast_nonneg,List.length_append,List.map_append]
    · simp (maxSteps:=9999999)-implicitDefEqProofs only [simprocAttr,QH,Option.isSome,cond_true,cond_false,Option.bind,selB,V.rn,V.rns,Go.Ai.known,V.pz,V.pzs,T.toV,frz1,List.range,List.range.loop,ite_true,ite_false,if_true,if_false,ne_eq,implies_true,forall_const,eq_self,IntKind.bits,upd_tmsS,selT_cons,selT_nil,List.length_map,List.getElem?_map,Int.natCast_nonneg,List.length_append,List.map_append]
  · have hjl' : ¬ (j : Int) < (p.bs.length : Int) := by omega
    have tk : List.take p.bs.length (List.map mbT p.bs) = List.map mbT p.bs := List.take_of_length_le (by simp)
    (have hwq := trivial; repeat' (first | simp (maxSteps:=9999999)-implicitDefEqProofs only [go_sem,simprocAttr,hwq,FT3,FT5,FT23,FT24,FT25,FT26,FT27,FT29,FT31,FT36,FT38,FT40,FT42,List.length_map,List.getElem?_map,Int.natCast_nonneg,List.length_append,List.map_append,hjl',tk,Nat.le_refl] | (refine condK_split ?_ ?_ <;> intro hwq) | (refine two_split ?_ ?_) | (refine guardK_split ?_ ?_ <;> intro hwq) | (refine guardE_split ?_ ?_ <;> intro hwq) | (refine awp_drawI 1 [31] (List.range 20) [0, 1, 3, 0, 8, 31, 0, 64, 255, 0, 512, 2047, 1759, 8191, 16383, 32767, 65535, 131071, 262143, 524287] (by decide +kernel) ?_; have hwq := trivial) | (refine awp_drawW [31] (by decide +kernel) ?_; have hwq := trivial) | fail))
end Go.Ai

set_option linter.unusedVariables false
set_option linter.unusedSimpArgs false
set_option maxHeartbeats 8000000
set_option maxRecDepth 100000
namespace Go.Ai
open Go.Proofs
attribute [local go_sem] QH QR V.noimm V.noimms frzZs frzZ frzA frzV frzVs frzBox boxLen Option.isSome cond_true cond_false aopD calW flatV stepX amap stepY alookup afind aupdate adelete amlen arange ameq mapOf akeq pl V.mapT V.mapTs Option.bind stepK runK guardD stepE runD callD compact selB callK evS ofVal ofVals scalar aop ares mkRes V.rn V.rns V.cells? cellsAt Go.Ai.part aload astore setL V.atom abin aun intBin shiftBin aconv fieldOf aindexAddr aindex bound? aslice aarr abuild afill alen nilP nilS nilF aeq eqCells eqCell Go.Ai.known strBin abuiltin aappend abuildSlice arowsFill amakeSlice acopy aclear minmax rowsOf numsT notStr isIntD isByte V.pz V.pzs T.toV frz1 frz scalT scalTs chunkT List.range List.range.loop ite_true ite_false if_true if_false ne_eq implies_true forall_const eq_self IntKind.bits kPostKF_ret kPostKF_normal kPostX_ret kPostX_normal bsl nil2K nil2 kPostFW_ret kPostFW_normal kPostKM_ret kPostKM_normal kPostXK_ret kPostXK_normal
def fullZ (n : Int) : Int := if 64 ≤ n then 3 else 0
def aMap (b1 b2 : Bool) (k : Int) (b3 b4 : Bool) (n : Int) : Int := if b1 = false ∨ b2 = false then 1 else if k = 0 then 5 else if k ≠ 1 then 184 else if b3 = true then 181 else if b4 = false then 182 else fullZ n
def addMapE (p : Pv) (m : Mp) : Int := aMap (decide (vidOk m.v)) (decide (isidOk m.s)) (kindP p.ks m.p) (p.ms.any fun x => x.p == m.p && (x.v == m.v || x.s == m.s)) (hasC p.cs m.s) p.ms.length
theorem pc34 (p : Pv) (hp : okL p) (m : Mp) : AC Try.prog 9 [pvV p, mpV m] [] (eqR (vI (addMapE p m))) := by
  have n67 := pc67 m.v
  have n71 := pc71 m.s
  have n74 := pc74 p (by have := hp.1; omega) m.p
  have n72 := pcf72 50 _ (flat_mp m) (fun x => x.p == m.p && (x.v == m.v || x.s == m.s)) p.ms (by have := hp.2.1; omega) (fun x _ => pk97 x m)
  have n75 := pc75 p hp m.s
  have n98 := pc98 (p.ms.length : Int)
  unfold addMapE
  generalize decide (vidOk m.v) = m1 at *
  generalize decide (isidOk m.s) = m2 at *
  generalize kindP p.ks m.p = kk at *
  generalize (p.ms.any fun x => x.p == m.p && (x.v == m.v || x.s == m.s)) = m3 at *
  generalize hasC p.cs m.s = m4 at *
  refine AC_plain orders Try.func9 rfl (by kernel_rfl) (by kernel_rfl) Try.ntmps9 (by simp) ?_
  unfold Try.f9
  (have hwq := trivial; repeat' (first | simp (maxSteps:=9999999)-implicitDefEqProofs only [go_sem,simprocAttr,hwq,FT3,FT4,FT5,FT23,FT24,FT25,FT26,FT27,FT29,FT31,FT32,FT36,FT38,FT40,FT42,FT88,List.length_map,List.getElem?_map,Int.natCast_nonneg,List.length_append,List.map_append] | (refine awpL_loop 18 ?_; have hwq := trivial) | (refine condK_split ?_ ?_ <;> intro hwq) | (refine two_split ?_ ?_) | (refine guardK_split ?_ ?_ <;> intro hwq) | (refine guardE_split ?_ ?_ <;> intro hwq) | (refine awp_drawW [] (by decide +kernel) ?_; have hwq := trivial) | (refine call_plain n67 rfl rfl ?_; have hwq := trivial) | (refine call_plain n71 rfl rfl ?_; have hwq := trivial) | (refine call_plain n74 rfl rfl ?_; have hwq := trivial) | (refine call_at [1] n72 (by simp) (by decide) rfl rfl (by simp [mapT_box, V.mapTs, V.mapT, pl]) (by simp [V.les, V.le, V.mapTs, V.mapT, pl]) ?_; have hwq := trivial) | (refine call_plain n75 rfl rfl ?_; have hwq := trivial) | (refine call_plain n98 rfl rfl ?_; have hwq := trivial) | fail))
  all_goals (simp_all [aMap, fullZ])
def aCar (b1 b2 b3 b4 : Bool) (n : Int) : Int := if b1 = false ∨ b2 = false then 1 else if b3 = true then 181 else if b4 = false then 182 else fullZ n
def addCarryE (p : Pv) (c : Cr) : Int := aCar (decide (isidOk c.s)) (decide (vidOk c.v)) (hasC p.cs c.s) (hasM p.bs c.v) p.cs.length
theorem pc39 (p : Pv) (hp : okL p) (c : Cr) : AC Try.prog 14 [pvV p, crV c] [] (eqR (vI (addCarryE p c))) := by
  have n67 := pc67 c.v
  have n71 := pc71 c.s
  have n75 := pc75 p hp c.s
  have n48 := pc48 p hp c.v
  have n98 := pc98 (p.cs.length : Int)
  unfold addCarryE
  generalize decide (vidOk c.v) = m1 at *
  generalize decide (isidOk c.s) = m2 at *
  generalize hasC p.cs c.s = m3 at *
  generalize hasM p.bs c.v = m4 at *
  refine AC_plain orders Try.func14 rfl (by kernel_rfl) (by kernel_rfl) Try.ntmps14 (by simp) ?_
  unfold Try.f14
  (have hwq := trivial; repeat' (first | simp (maxSteps:=9999999)-implicitDefEqProofs only [go_sem,simprocAttr,hwq,FT3,FT4,FT5,FT23,FT24,FT25,FT26,FT27,FT29,FT31,FT32,FT36,FT38,FT40,FT42,List.length_map,List.getElem?_map,Int.natCast_nonneg,List.length_append,List.map_append] | (refine awpL_loop 18 ?_; have hwq := trivial) | (refine condK_split ?_ ?_ <;> intro hwq) | (refine two_split ?_ ?_) | (refine guardK_split ?_ ?_ <;> intro hwq) | (refine guardE_split ?_ ?_ <;> intro hwq) | (refine awp_drawW [] (by decide +kernel) ?_; have hwq := trivial) | (refine call_plain n67 rfl rfl ?_; have hwq := trivial) | (refine call_plain n71 rfl rfl ?_; have hwq := trivial) | (refine call_plain n75 rfl rfl ?_; have hwq := trivial) | (refine call_plain n48 rfl rfl ?_; have hwq := trivial) | (refine call_plain n98 rfl rfl ?_; have hwq := trivial) | fail))
  all_goals (simp_all [aCar, fullZ])
def sMem (b1 : Bool) (e : Int) (b2 : Bool) (n : Int) : Int := if b1 = false then 1 else if e ≠ 0 then e else if b2 = true then 0 else fullZ n
def setMemberE (p : Pv) (w : Mb) : Int := sMem (decide (vidOk w.v)) (portsE p.ks w.l) (hasM p.bs w.v) p.bs.length
theorem pc44 (p : Pv) (hp : okL p) (w : Mb) (hw : w.l.length ≤ 1000) : AC Try.prog 20 [pvV p, mbV w] [] (eqR (vI (setMemberE p w))) := by
  have n67 := pc67 w.v
  have n68 := pc68 p hp w.l hw
  have n48 := pc48 p hp w.v
  have n98 := pc98 (p.bs.length : Int)
  unfold setMemberE
  generalize decide (vidOk w.v) = m1 at *
  generalize portsE p.ks w.l = ee at *
  generalize hasM p.bs w.v = m4 at *
  refine AC_plain orders Try.func20 rfl (by kernel_rfl) (by kernel_rfl) Try.ntmps20 (by simp) ?_
  unfold Try.f20
  (have hwq := trivial; repeat' (first | simp (maxSteps:=9999999)-implicitDefEqProofs only [go_sem,simprocAttr,hwq,FT3,FT4,FT5,FT23,FT24,FT25,FT26,FT27,FT29,FT31,FT32,FT36,FT38,FT40,FT42,List.length_map,List.getElem?_map,Int.natCast_nonneg,List.length_append,List.map_append] | (refine awpL_loop 18 ?_; have hwq := trivial) | (refine condK_split ?_ ?_ <;> intro hwq) | (refine two_split ?_ ?_) | (refine guardK_split ?_ ?_ <;> intro hwq) | (refine guardE_split ?_ ?_ <;> intro hwq) | (refine awp_drawW [] (by decide +kernel) ?_; have hwq := trivial) | (refine call_plain n67 rfl rfl ?_; have hwq := trivial) | (refine call_plain n68 rfl rfl ?_; have hwq := trivial) | (refine call_plain n48 rfl rfl ?_; have hwq := trivial) | (refine call_plain n98 rfl rfl ?_; have hwq := trivial) | fail))
  all_goals (simp_all [sMem, fullZ])
theorem flat1_Mp (x : Mp) : FlatB (bxMp x) := ⟨fun f => by simp [mapT_box, V.mapTs, V.mapT], fun f => by simp [Blk.rn, V.rns, V.rn], fun m => by simp [Blk.pz, V.pzs, V.pz]⟩
theorem pbs99_nil (x : Mp) : AC Try.prog 52 [.sl 3 [], mpV x, .clo (.func 11) [] []] [] (eqR (.tuple [vI 0, vB false])) := by
  refine AC_plain orders Try.func52 rfl (by kernel_rfl) (by kernel_rfl) Try.ntmps52 (by simp) ?_
  unfold Try.f52
  (have hwq := trivial; repeat' (first | simp (maxSteps:=9999999)-implicitDefEqProofs only [go_sem,simprocAttr,hwq,FT3,FT4,FT25,FT40,FT55,FT115] | (refine awpL_loop 18 ?_; have hwq := trivial) | (refine condK_split ?_ ?_ <;> intro hwq) | (refine two_split ?_ ?_) | (refine guardK_split ?_ ?_ <;> intro hwq) | (refine guardE_split ?_ ?_ <;> intro hwq) | (refine awp_drawI 8 [] (List.range 16) [0, 0, 0, 6, 14, 30, 30, 30, 222, 478, 30, 2046, 4094, 8190, 4095, 32767] (by decide +kernel) ?_; have hwq := trivial) | (refine awp_drawW [] (by decide +kernel) ?_; have hwq := trivial) | fail))
theorem pin100_nil (x : Mp) (b0 : Blk) (hb0 : FlatB b0) : AC Try.prog 53 [.own 1 0 0, vI 0, .own 2 0 1] [b0, .rows 3 [] false, .rows 3 [mpT x] false] (fun r s mv => r = .own 1 0 1 ∧ s = [b0, .rows 3 [mpT x] false, .rows 3 [mpT x] false] ∧ mv = [1]) := by
  have hff : List.filter (fun x => decide (x < 3)) [1] = [1] := rfl
  refine AC_heapM orders [0, 1, 2] [1] Try.func53 rfl (by kernel_rfl) (by kernel_rfl) Try.ntmps53 (by simp) ?_
  unfold Try.f53
  (have hwq := trivial; repeat' (first | simp (maxSteps:=9999999)-implicitDefEqProofs only [go_sem,simprocAttr,hwq,FT3,FT4,FT25,FT40,hb0.rn,hb0.pz,hff] | (refine awpL_loop 18 ?_; have hwq := trivial) | (refine condK_split ?_ ?_ <;> intro hwq) | (refine two_split ?_ ?_) | (refine guardK_split ?_ ?_ <;> intro hwq) | (refine guardE_split ?_ ?_ <;> intro hwq) | (refine awp_drawW [] (by decide +kernel) ?_; have hwq := trivial) | fail))
theorem put35_nil (x : Mp) : AC Try.prog 10 [.sl 3 [], mpV x, .clo (.func 11) [] []] [] (eqR (.sl 3 [mpT x])) := by
  have h1 := pbs99_nil x
  have h2 := pco94 [] (by simp)
  have h3 := pin100_nil x _ (flat1_Mp x)
  refine AC_frozen orders Try.func10 rfl (by kernel_rfl) (by kernel_rfl) Try.ntmps10 (by simp) ?_
  unfold Try.f10
  (have hwq := trivial; repeat' (first | simp (maxSteps:=9999999)-implicitDefEqProofs only [go_sem,simprocAttr,hwq,FT3,FT25,FT40,FT55] | (refine awpL_loop 18 ?_; have hwq := trivial) | (refine condK_split ?_ ?_ <;> intro hwq) | (refine two_split ?_ ?_) | (refine guardK_split ?_ ?_ <;> intro hwq) | (refine guardE_split ?_ ?_ <;> intro hwq) | (refine awp_drawW [] (by decide +kernel) ?_; have hwq := trivial) | (refine call_plain h1 rfl rfl ?_; have hwq := trivial) | (refine call_at [] h2 (by simp) (by simp) rfl rfl rfl (V.les_refl _) ?_; have hwq := trivial) | (refine call_here h3 ?_; have hwq := trivial) | fail))
theorem flat1_Cr (x : Cr) : FlatB (.box [vI x.s, vI x.v] false) := ⟨fun f => by simp [mapT_box, V.mapTs, V.mapT], fun f => by simp [Blk.rn, V.rns, V.rn], fun m => by simp [Blk.pz, V.pzs, V.pz]⟩
theorem pbs106_nil (x : Cr) : AC Try.prog 59 [.sl 2 [], crV x, .clo (.func 16) [] []] [] (eqR (.tuple [vI 0, vB false])) := by
  refine AC_plain orders Try.func59 rfl (by kernel_rfl) (by kernel_rfl) Try.ntmps59 (by simp) ?_
  unfold Try.f59
  (have hwq := trivial; repeat' (first | simp (maxSteps:=9999999)-implicitDefEqProofs only [go_sem,simprocAttr,hwq,FT3,FT4,FT26,FT42,FT59,FT115] | (refine awpL_loop 18 ?_; have hwq := trivial) | (refine condK_split ?_ ?_ <;> intro hwq) | (refine two_split ?_ ?_) | (refine guardK_split ?_ ?_ <;> intro hwq) | (refine guardE_split ?_ ?_ <;> intro hwq) | (refine awp_drawI 8 [] (List.range 16) [0, 0, 0, 6, 14, 30, 30, 30, 222, 478, 30, 2046, 4094, 8190, 4095, 32767] (by decide +kernel) ?_; have hwq := trivial) | (refine awp_drawW [] (by decide +kernel) ?_; have hwq := trivial) | fail))
theorem pin107_nil (x : Cr) (b0 : Blk) (hb0 : FlatB b0) : AC Try.prog 60 [.own 1 0 0, vI 0, .own 2 0 1] [b0, .rows 2 [] false, .rows 2 [crT x] false] (fun r s mv => r = .own 1 0 1 ∧ s = [b0, .rows 2 [crT x] false, .rows 2 [crT x] false] ∧ mv = [1]) := by
  have hff : List.filter (fun x => decide (x < 3)) [1] = [1] := rfl
  refine AC_heapM orders [0, 1, 2] [1] Try.func60 rfl (by kernel_rfl) (by kernel_rfl) Try.ntmps60 (by simp) ?_
  unfold Try.f60
  (have hwq := trivial; repeat' (first | simp (maxSteps:=9999999)-implicitDefEqProofs only [go_sem,simprocAttr,hwq,FT3,FT4,FT26,FT42,hb0.rn,hb0.pz,hff] | (refine awpL_loop 18 ?_; have hwq := trivial) | (refine condK_split ?_ ?_ <;> intro hwq) | (refine two_split ?_ ?_) | (refine guardK_split ?_ ?_ <;> intro hwq) | (refine guardE_split ?_ ?_ <;> intro hwq) | (refine awp_drawW [] (by decide +kernel) ?_; have hwq := trivial) | fail))
theorem put40_nil (x : Cr) : AC Try.prog 15 [.sl 2 [], crV x, .clo (.func 16) [] []] [] (eqR (.sl 2 [crT x])) := by
  have h1 := pbs106_nil x
  have h2 := pco95 [] (by simp)
  have h3 := pin107_nil x _ (flat1_Cr x)
  refine AC_frozen orders Try.func15 rfl (by kernel_rfl) (by kernel_rfl) Try.ntmps15 (by simp) ?_
  unfold Try.f15
  (have hwq := trivial; repeat' (first | simp (maxSteps:=9999999)-implicitDefEqProofs only [go_sem,simprocAttr,hwq,FT3,FT26,FT42,FT59] | (refine awpL_loop 18 ?_; have hwq := trivial) | (refine condK_split ?_ ?_ <;> intro hwq) | (refine two_split ?_ ?_) | (refine guardK_split ?_ ?_ <;> intro hwq) | (refine guardE_split ?_ ?_ <;> intro hwq) | (refine awp_drawW [] (by decide +kernel) ?_; have hwq := trivial) | (refine call_plain h1 rfl rfl ?_; have hwq := trivial) | (refine call_at [] h2 (by simp) (by simp) rfl rfl rfl (V.les_refl _) ?_; have hwq := trivial) | (refine call_here h3 ?_; have hwq := trivial) | fail))
theorem flat1_Mb (x : Mb) : FlatB (.box [vI x.v, isV x.l] false) := ⟨fun f => by simp [mapT_box, V.mapTs, V.mapT], fun f => by simp [Blk.rn, V.rns, V.rn], fun m => by simp [Blk.pz, V.pzs, V.pz]⟩
theorem pbs111_nil (x : Mb) : AC Try.prog 64 [.sl 2 [], mbV x, .clo (.func 23) [] []] [] (eqR (.tuple [vI 0, vB false])) := by
  refine AC_plain orders Try.func64 rfl (by kernel_rfl) (by kernel_rfl) Try.ntmps64 (by simp) ?_
  unfold Try.f64
  (have hwq := trivial; repeat' (first | simp (maxSteps:=9999999)-implicitDefEqProofs only [go_sem,simprocAttr,hwq,FT3,FT4,FT27,FT36,FT38,FT65,FT115] | (refine awpL_loop 18 ?_; have hwq := trivial) | (refine condK_split ?_ ?_ <;> intro hwq) | (refine two_split ?_ ?_) | (refine guardK_split ?_ ?_ <;> intro hwq) | (refine guardE_split ?_ ?_ <;> intro hwq) | (refine awp_drawI 8 [] (List.range 16) [0, 0, 0, 6, 14, 30, 30, 30, 222, 478, 30, 2046, 4094, 8190, 4095, 32767] (by decide +kernel) ?_; have hwq := trivial) | (refine awp_drawW [] (by decide +kernel) ?_; have hwq := trivial) | fail))
theorem pin112_nil (x : Mb) (b0 : Blk) (hb0 : FlatB b0) : AC Try.prog 65 [.own 1 0 0, vI 0, .own 2 0 1] [b0, .rows 2 [] false, .rows 2 [mbT x] false] (fun r s mv => r = .own 1 0 1 ∧ s = [b0, .rows 2 [mbT x] false, .rows 2 [mbT x] false] ∧ mv = [1]) := by
  have hff : List.filter (fun x => decide (x < 3)) [1] = [1] := rfl
  refine AC_heapM orders [0, 1, 2] [1] Try.func65 rfl (by kernel_rfl) (by kernel_rfl) Try.ntmps65 (by simp) ?_
  unfold Try.f65
  (have hwq := trivial; repeat' (first | simp (maxSteps:=9999999)-implicitDefEqProofs only [go_sem,simprocAttr,hwq,FT3,FT4,FT27,FT36,FT38,hb0.rn,hb0.pz,hff] | (refine awpL_loop 18 ?_; have hwq := trivial) | (refine condK_split ?_ ?_ <;> intro hwq) | (refine two_split ?_ ?_) | (refine guardK_split ?_ ?_ <;> intro hwq) | (refine guardE_split ?_ ?_ <;> intro hwq) | (refine awp_drawW [] (by decide +kernel) ?_; have hwq := trivial) | fail))
theorem put45_nil (x : Mb) : AC Try.prog 21 [.sl 2 [], mbV x, .clo (.func 23) [] []] [] (eqR (.sl 2 [mbT x])) := by
  have h1 := pbs111_nil x
  have h2 := pco96 [] (by simp)
  have h3 := pin112_nil x _ (flat1_Mb x)
  refine AC_frozen orders Try.func21 rfl (by kernel_rfl) (by kernel_rfl) Try.ntmps21 (by simp) ?_
  unfold Try.f21
  (have hwq := trivial; repeat' (first | simp (maxSteps:=9999999)-implicitDefEqProofs only [go_sem,simprocAttr,hwq,FT3,FT27,FT36,FT38,FT65] | (refine awpL_loop 18 ?_; have hwq := trivial) | (refine condK_split ?_ ?_ <;> intro hwq) | (refine two_split ?_ ?_) | (refine guardK_split ?_ ?_ <;> intro hwq) | (refine guardE_split ?_ ?_ <;> intro hwq) | (refine awp_drawW [] (by decide +kernel) ?_; have hwq := trivial) | (refine call_plain h1 rfl rfl ?_; have hwq := trivial) | (refine call_at [] h2 (by simp) (by simp) rfl rfl rfl (V.les_refl _) ?_; have hwq := trivial) | (refine call_here h3 ?_; have hwq := trivial) | fail))
end Go.Ai

set_option linter.unusedVariables false
set_option linter.unusedSimpArgs false
set_option maxHeartbeats 8000000
set_option maxRecDepth 100000
namespace Go.Ai
open Go.Proofs
attribute [local go_sem] QH QR V.noimm V.noimms frzZs frzZ frzA frzV frzVs frzBox boxLen Option.isSome cond_true cond_false aopD calW flatV stepX amap stepY alookup afind aupdate adelete amlen arange ameq mapOf akeq pl V.mapT V.mapTs Option.bind stepK runK guardD stepE runD callD compact selB callK evS ofVal ofVals scalar aop ares mkRes V.rn V.rns V.cells? cellsAt Go.Ai.part aload astore setL V.atom abin aun intBin shiftBin aconv fieldOf aindexAddr aindex bound? aslice aarr abuild afill alen nilP nilS nilF aeq eqCells eqCell Go.Ai.known strBin abuiltin aappend abuildSlice arowsFill amakeSlice acopy aclear minmax rowsOf numsT notStr isIntD isByte V.pz V.pzs T.toV frz1 frz scalT scalTs chunkT List.range List.range.loop ite_true ite_false if_true if_false ne_eq implies_true forall_const eq_self IntKind.bits kPostKF_ret kPostKF_normal kPostX_ret kPostX_normal bsl nil2K nil2 kPostFW_ret kPostFW_normal kPostKM_ret kPostKM_normal kPostXK_ret kPostXK_normal
/-- A command, with what prov does not look at. -/
structure Cm where
  k : Int
  m : Mp
  c : Cr
  w : Mb
  ev : Int
  em : Mc
  ep : Int
  es : Bool
  et : Int
  id : Int
  po : Int
  co : Int
abbrev cmL (x : Cm) : List V := [vI x.k, vI x.m.p, vI x.m.v, vI x.m.s, vI x.c.s, vI x.c.v, vI x.w.v, isV x.w.l, vI x.ev, .s (.int .u8 x.em.a), .s (.int .u8 x.em.b), .s (.int .u8 x.em.c), .s (.int .u8 x.em.d), .s (.int .u8 x.em.e), .s (.int .u8 x.em.f), vI x.ep, vB x.es, vI x.et, .s (.int .u64 x.id), vI x.po, .s (.int .u32 x.co)]
abbrev cmV (x : Cm) : V := .agg (cmL x)
theorem pc57 (ks : List Int) : AC Try.prog 4 [isV ks] [] (eqR (pvV ⟨⟨2, 0, 0, 0, 0, 1⟩, ks, [], [], []⟩)) := by
  refine AC_frozenW orders Try.func4 rfl (by kernel_rfl) (by kernel_rfl) Try.ntmps4 (by simp) ?_
  unfold Try.f4
  (have hwq := trivial; repeat' (first | simp (maxSteps:=9999999)-implicitDefEqProofs only [go_sem,simprocAttr,hwq,FT3,FT5,FT23,FT24,FT25,FT26,FT27,FT29,FT31,FT36,FT38,FT40,FT42] | (refine awpL_loop 18 ?_; have hwq := trivial) | (refine condK_split ?_ ?_ <;> intro hwq) | (refine two_split ?_ ?_) | (refine guardK_split ?_ ?_ <;> intro hwq) | (refine guardE_split ?_ ?_ <;> intro hwq) | (refine awp_drawW [] (by decide +kernel) ?_; have hwq := trivial) | fail))
  exact ⟨_, rfl, by simp [V.leT, V.le, V.les]⟩
theorem pq20 (p : Pv) (hp : okL p) (a b : Int) : AC Try.prog 27 [pvV p, vI a, vI b] [] (eqR (match p.ms.find? (fun x => x.p == a && x.v == b) with
    | some x => .tuple [vI x.s, vB true]
    | none => .tuple [vI 0, vB false])) := by
  have h := pcf78 70 (.box [vI a] false) (flat_int a) (.box [vI b] false) (flat_int b) (fun x => x.p == a && x.v == b) p.ms (by have := hp.2.1; omega) (fun x _ => pk79 x a b)
  unfold fst78 at h
  cases hf : p.ms.find? (fun x => x.p == a && x.v == b) with
  | none =>
    rw [hf] at h
    refine AC_plain orders Try.func27 rfl (by kernel_rfl) (by kernel_rfl) Try.ntmps27 (by simp) ?_
    unfold Try.f27
    (have hwq := trivial; repeat' (first | simp (maxSteps:=9999999)-implicitDefEqProofs only [go_sem,simprocAttr,hwq,FT3,FT4,FT5,FT23,FT24,FT25,FT26,FT27,FT29,FT31,FT36,FT38,FT40,FT42,FT88] | (refine awpL_loop 18 ?_; have hwq := trivial) | (refine condK_split ?_ ?_ <;> intro hwq) | (refine two_split ?_ ?_) | (refine guardK_split ?_ ?_ <;> intro hwq) | (refine guardE_split ?_ ?_ <;> intro hwq) | (refine awp_drawW [] (by decide +kernel) ?_; have hwq := trivial) | (refine call_at [1, 2] h (by simp) (by decide) rfl rfl (by simp [mapT_box, V.mapTs, V.mapT, pl]) (by simp [V.les, V.le, V.mapTs, V.mapT, pl]) ?_; have hwq := trivial) | fail))
  | some x =>
    rw [hf] at h
    refine AC_plain orders Try.func27 rfl (by kernel_rfl) (by kernel_rfl) Try.ntmps27 (by simp) ?_
    unfold Try.f27
    (have hwq := trivial; repeat' (first | simp (maxSteps:=9999999)-implicitDefEqProofs only [go_sem,simprocAttr,hwq,FT3,FT4,FT5,FT23,FT24,FT25,FT26,FT27,FT29,FT31,FT36,FT38,FT40,FT42,FT88] | (refine awpL_loop 18 ?_; have hwq := trivial) | (refine condK_split ?_ ?_ <;> intro hwq) | (refine two_split ?_ ?_) | (refine guardK_split ?_ ?_ <;> intro hwq) | (refine guardE_split ?_ ?_ <;> intro hwq) | (refine awp_drawW [] (by decide +kernel) ?_; have hwq := trivial) | (refine call_at [1, 2] h (by simp) (by decide) rfl rfl (by simp [mapT_box, V.mapTs, V.mapT, pl]) (by simp [V.les, V.le, V.mapTs, V.mapT, pl]) ?_; have hwq := trivial) | fail))
theorem pdo1 (p : Pv) (hp : okL p) (ho : isB p.own.a) (hck : checkE p = 0) (x : Cm) (hk : x.k = 1) (he : addMapE p x.m = 0) (l' : List Mp) (hput : AC Try.prog 10 [msV p.ms, mpV x.m, .clo (.func 11) [] []] [] (eqR (msV l'))) :
    AC Try.prog 5 [pvV p, cmV x] [] (eqR (.tuple [pvV { p with ms := l' }, vI 0])) := by
  have n33 := pc33 p hp
  have n17 := pc17 p hp ho
  rw [hck] at n17
  have ne := pc34 p hp x.m
  rw [he] at ne
  have q1 : (x.k == 1) = true := by rw [hk]; rfl
  have q2 : (x.k == 2) = false := by rw [hk]; rfl
  have q3 : (x.k == 3) = false := by rw [hk]; rfl
  have q4 : (x.k == 4) = false := by rw [hk]; rfl
  have q5 : (x.k == 5) = false := by rw [hk]; rfl
  have q6 : (x.k == 6) = false := by rw [hk]; rfl
  refine AC_frozen orders Try.func5 rfl (by kernel_rfl) (by kernel_rfl) Try.ntmps5 (by simp) ?_
  unfold Try.f5
  (have hwq := trivial; repeat' (first | simp (maxSteps:=9999999)-implicitDefEqProofs only [go_sem,simprocAttr,hwq,FT3,FT4,FT5,FT23,FT24,FT25,FT26,FT27,FT29,FT31,FT32,FT35,FT36,FT38,FT40,FT42,FT44,FT45,FT46,FT48,FT55,FT59,FT65,List.length_map,List.getElem?_map,Int.natCast_nonneg,List.length_append,List.map_append,q1,q2,q3,q4,q5,q6] | (refine awpL_loop 18 ?_; have hwq := trivial) | (refine condK_split ?_ ?_ <;> intro hwq) | (refine two_split ?_ ?_) | (refine guardK_split ?_ ?_ <;> intro hwq) | (refine guardE_split ?_ ?_ <;> intro hwq) | (refine awp_drawW [] (by decide +kernel) ?_; have hwq := trivial) | (refine call_plain n33 rfl rfl ?_; have hwq := trivial) | (refine call_plain n17 rfl rfl ?_; have hwq := trivial) | (refine call_plain ne rfl rfl ?_; have hwq := trivial) | (refine call_plain hput rfl rfl ?_; have hwq := trivial) | fail))
theorem pdo3 (p : Pv) (hp : okL p) (ho : isB p.own.a) (hck : checkE p = 0) (x : Cm) (hk : x.k = 3) (he : addCarryE p x.c = 0) (l' : List Cr) (hput : AC Try.prog 15 [csV p.cs, crV x.c, .clo (.func 16) [] []] [] (eqR (csV l'))) :
    AC Try.prog 5 [pvV p, cmV x] [] (eqR (.tuple [pvV { p with cs := l' }, vI 0])) := by
  have n33 := pc33 p hp
  have n17 := pc17 p hp ho
  rw [hck] at n17
  have ne := pc39 p hp x.c
  rw [he] at ne
  have q1 : (x.k == 1) = false := by rw [hk]; rfl
  have q2 : (x.k == 2) = false := by rw [hk]; rfl
  have q3 : (x.k == 3) = true := by rw [hk]; rfl
  have q4 : (x.k == 4) = false := by rw [hk]; rfl
  have q5 : (x.k == 5) = false := by rw [hk]; rfl
  have q6 : (x.k == 6) = false := by rw [hk]; rfl
  refine AC_frozen orders Try.func5 rfl (by kernel_rfl) (by kernel_rfl) Try.ntmps5 (by simp) ?_
  unfold Try.f5
  (have hwq := trivial; repeat' (first | simp (maxSteps:=9999999)-implicitDefEqProofs only [go_sem,simprocAttr,hwq,FT3,FT4,FT5,FT23,FT24,FT25,FT26,FT27,FT29,FT31,FT32,FT35,FT36,FT38,FT40,FT42,FT44,FT45,FT46,FT48,FT55,FT59,FT65,List.length_map,List.getElem?_map,Int.natCast_nonneg,List.length_append,List.map_append,q1,q2,q3,q4,q5,q6] | (refine awpL_loop 18 ?_; have hwq := trivial) | (refine condK_split ?_ ?_ <;> intro hwq) | (refine two_split ?_ ?_) | (refine guardK_split ?_ ?_ <;> intro hwq) | (refine guardE_split ?_ ?_ <;> intro hwq) | (refine awp_drawW [] (by decide +kernel) ?_; have hwq := trivial) | (refine call_plain n33 rfl rfl ?_; have hwq := trivial) | (refine call_plain n17 rfl rfl ?_; have hwq := trivial) | (refine call_plain ne rfl rfl ?_; have hwq := trivial) | (refine call_plain hput rfl rfl ?_; have hwq := trivial) | fail))
theorem pdo5 (p : Pv) (hp : okL p) (ho : isB p.own.a) (hck : checkE p = 0) (x : Cm) (hk : x.k = 5) (hw : x.w.l.length ≤ 1000) (he : setMemberE p x.w = 0) (l' : List Mb) (hput : AC Try.prog 21 [bsV p.bs, mbV x.w, .clo (.func 23) [] []] [] (eqR (bsV l'))) :
    AC Try.prog 5 [pvV p, cmV x] [] (eqR (.tuple [pvV { p with bs := l' }, vI 0])) := by
  have n33 := pc33 p hp
  have n17 := pc17 p hp ho
  rw [hck] at n17
  have ne := pc44 p hp x.w hw
  rw [he] at ne
  have q1 : (x.k == 1) = false := by rw [hk]; rfl
  have q2 : (x.k == 2) = false := by rw [hk]; rfl
  have q3 : (x.k == 3) = false := by rw [hk]; rfl
  have q4 : (x.k == 4) = false := by rw [hk]; rfl
  have q5 : (x.k == 5) = true := by rw [hk]; rfl
  have q6 : (x.k == 6) = false := by rw [hk]; rfl
  have n46 := pcl46 (x.w.l.map inT) (by simp; omega)
  refine AC_frozen orders Try.func5 rfl (by kernel_rfl) (by kernel_rfl) Try.ntmps5 (by simp) ?_
  unfold Try.f5
  (have hwq := trivial; repeat' (first | simp (maxSteps:=9999999)-implicitDefEqProofs only [go_sem,simprocAttr,hwq,FT3,FT4,FT5,FT23,FT24,FT25,FT26,FT27,FT29,FT31,FT32,FT35,FT36,FT38,FT40,FT42,FT44,FT45,FT46,FT48,FT55,FT59,FT65,List.length_map,List.getElem?_map,Int.natCast_nonneg,List.length_append,List.map_append,q1,q2,q3,q4,q5,q6] | (refine awpL_loop 18 ?_; have hwq := trivial) | (refine condK_split ?_ ?_ <;> intro hwq) | (refine two_split ?_ ?_) | (refine guardK_split ?_ ?_ <;> intro hwq) | (refine guardE_split ?_ ?_ <;> intro hwq) | (refine awp_drawW [] (by decide +kernel) ?_; have hwq := trivial) | (refine call_plain n33 rfl rfl ?_; have hwq := trivial) | (refine call_plain n17 rfl rfl ?_; have hwq := trivial) | (refine call_plain ne rfl rfl ?_; have hwq := trivial) | (refine call_plain hput rfl rfl ?_; have hwq := trivial) | (refine draw_plain n46 rfl (fun _ => rfl) ?_; have hwq := trivial) | (refine draw_plain hput rfl (fun _ => rfl) ?_; have hwq := trivial) | fail))
/-- The page's example. -/
abbrev aw0 : Pv := ⟨⟨2, 0, 0, 0, 0, 1⟩, [1, 2], [], [], []⟩
abbrev aw1 : Pv := ⟨⟨2, 0, 0, 0, 0, 1⟩, [1, 2], [], [], [⟨10, [1]⟩]⟩
abbrev aw2 : Pv := ⟨⟨2, 0, 0, 0, 0, 1⟩, [1, 2], [], [⟨5000, 10⟩], [⟨10, [1]⟩]⟩
abbrev aw3 : Pv := ⟨⟨2, 0, 0, 0, 0, 1⟩, [1, 2], [⟨0, 100, 5000⟩], [⟨5000, 10⟩], [⟨10, [1]⟩]⟩
abbrev zMp : Mp := ⟨0, 0, 0⟩
abbrev zCr : Cr := ⟨0, 0⟩
abbrev zMb : Mb := ⟨0, []⟩
abbrev awC (k : Int) (m : Mp) (c : Cr) (w : Mb) : Cm := ⟨k, m, c, w, 0, ⟨0, 0, 0, 0, 0, 0⟩, 0, false, 0, 0, 0, 0⟩
theorem aw_ok (p : Pv) (h1 : p.ks.length ≤ 1000) (h2 : p.ms.length ≤ 1000) (h3 : p.cs.length ≤ 1000) (h4 : p.bs.length ≤ 1000) (h5 : ∀ b ∈ p.bs, b.l.length ≤ 1000) : okL p := ⟨h1, h2, h3, h4, h5⟩
theorem AC.lesA {P : Program} {f : FuncId} {args args' : List V} {σ : List Blk} {R : V → List Blk → List Nat → Prop} (h : AC P f args' σ R) (hl : V.les args args') : AC P f args σ R := ⟨h.1, fun β I w vs hi hv => h.2 β I w vs hi (VRs.le _ hl hv)⟩
abbrev cmN (x : Cm) : V := .agg [vI x.k, vI x.m.p, vI x.m.v, vI x.m.s, vI x.c.s, vI x.c.v, vI x.w.v, .s (.slice none 0 0), vI x.ev, .s (.int .u8 x.em.a), .s (.int .u8 x.em.b), .s (.int .u8 x.em.c), .s (.int .u8 x.em.d), .s (.int .u8 x.em.e), .s (.int .u8 x.em.f), vI x.ep, vB x.es, vI x.et, .s (.int .u64 x.id), vI x.po, .s (.int .u32 x.co)]
theorem cmN_le (p : V) (x : Cm) (h : x.w.l = []) : V.les [p, cmN x] [p, cmV x] := by
  have hp := V.les_refl [p]
  simp only [V.les, and_true] at hp
  simp [V.les, V.le, hp, h]
theorem call_dataF {P : Program} {k : FuncId} {args args1 args' : List V} {σ σ1 : List Blk} {v : V} {K : V → List Blk → List Nat → Prop} (h : AC P k args' [] (eqR v)) (hs : frzVs false σ args = some (args1, σ1)) (hle : V.les args1 args') (hv : v.mapT (· + σ.length) = v) (hn : v.noimm = false) (hk : K v σ1 []) : AC P k args σ K :=
  call_data h hs hle hv (by rw [hn]; exact hk)
theorem pc15 : AC Try.prog 6 [] [] (eqR (vB true)) := by
  have i2 : isB 2 := by unfold isB; decide
  have o0 : okL aw0 := aw_ok _ (by decide) (by decide) (by decide) (by decide) (by decide)
  have o1 : okL aw1 := aw_ok _ (by decide) (by decide) (by decide) (by decide) (by decide)
  have o2 : okL aw2 := aw_ok _ (by decide) (by decide) (by decide) (by decide) (by decide)
  have o3 : okL aw3 := aw_ok _ (by decide) (by decide) (by decide) (by decide) (by decide)
  have n57 := pc57 [1, 2]
  have n1 := pdo5 aw0 o0 i2 (by decide +kernel) (awC 5 zMp zCr ⟨10, [1]⟩) rfl (by decide) (by decide +kernel) [⟨10, [1]⟩] (put45_nil _)
  have n2 := (pdo3 aw1 o1 i2 (by decide +kernel) (awC 3 zMp ⟨5000, 10⟩ zMb) rfl (by decide +kernel) [⟨5000, 10⟩] (put40_nil _)).lesA (cmN_le _ _ rfl)
  have n3 := (pdo1 aw2 o2 i2 (by decide +kernel) (awC 1 ⟨0, 100, 5000⟩ zCr zMb) rfl (by decide +kernel) [⟨0, 100, 5000⟩] (put35_nil _)).lesA (cmN_le _ _ rfl)
  have n20 := pq20 aw3 o3 0 100
  rw [show (aw3.ms.find? fun x => x.p == 0 && x.v == 100) = some ⟨0, 100, 5000⟩ from by decide +kernel] at n20
  have n17 := pc17 aw3 o3 i2
  rw [show checkE aw3 = 0 from by decide +kernel] at n17
  refine AC_plain orders Try.func6 rfl (by kernel_rfl) (by kernel_rfl) Try.ntmps6 (by simp) ?_
  unfold Try.f6
  (have hwq := trivial; repeat' (first | simp (maxSteps:=9999999)-implicitDefEqProofs only [go_sem,simprocAttr,hwq,FT3,FT4,FT5,FT23,FT24,FT25,FT26,FT27,FT29,FT31,FT32,FT35,FT36,FT38,FT40,FT42,FT44,FT45,FT46,FT48] | (refine awpL_loop 18 ?_; have hwq := trivial) | (refine condK_split ?_ ?_ <;> intro hwq) | (refine two_split ?_ ?_) | (refine guardK_split ?_ ?_ <;> intro hwq) | (refine guardE_split ?_ ?_ <;> intro hwq) | (refine awp_drawW [] (by decide +kernel) ?_; have hwq := trivial) | (refine call_dataF n57 rfl (V.les_refl _) rfl rfl ?_; have hwq := trivial) | (refine call_dataF n1 rfl (V.les_refl _) rfl rfl ?_; have hwq := trivial) | (refine call_dataF n2 rfl (V.les_refl _) rfl rfl ?_; have hwq := trivial) | (refine call_dataF n3 rfl (V.les_refl _) rfl rfl ?_; have hwq := trivial) | (refine call_plain n20 rfl rfl ?_; have hwq := trivial) | (refine call_plain n17 rfl rfl ?_; have hwq := trivial) | fail))
end Go.Ai

set_option linter.unusedVariables false
set_option linter.unusedSimpArgs false
set_option maxHeartbeats 8000000
set_option maxRecDepth 100000
namespace Go.Ai
open Go.Proofs
attribute [local go_sem] QH QR V.noimm V.noimms frzZs frzZ frzA frzV frzVs frzBox boxLen Option.isSome cond_true cond_false aopD calW flatV stepX amap stepY alookup afind aupdate adelete amlen arange ameq mapOf akeq pl V.mapT V.mapTs Option.bind stepK runK guardD stepE runD callD compact selB callK evS ofVal ofVals scalar aop ares mkRes V.rn V.rns V.cells? cellsAt Go.Ai.part aload astore setL V.atom abin aun intBin shiftBin aconv fieldOf aindexAddr aindex bound? aslice aarr abuild afill alen nilP nilS nilF aeq eqCells eqCell Go.Ai.known strBin abuiltin aappend abuildSlice arowsFill amakeSlice acopy aclear minmax rowsOf numsT notStr isIntD isByte V.pz V.pzs T.toV frz1 frz scalT scalTs chunkT List.range List.range.loop ite_true ite_false if_true if_false ne_eq implies_true forall_const eq_self IntKind.bits kPostKF_ret kPostKF_normal kPostX_ret kPostX_normal bsl nil2K nil2 kPostFW_ret kPostFW_normal kPostKM_ret kPostKM_normal kPostXK_ret kPostXK_normal
def At27 (p : Pv) (a : Int) (n : Nat) (S : St) : Prop :=
  ∃ (j : Nat) (N : List Int) (mv : List Nat), S = ⟨tms [(1, vI a), (2, .ptr 0 0 0), (5, .own 1 0 N.length), (9, msV p.ms), (10, vI p.ms.length), (11, vI j)], [bxP p, .rows 1 (N.map inT) false], mv⟩ ∧ N = ((p.ms.take j).filter (fun x => x.s == a)).map (·.p) ∧ j ≤ p.ms.length ∧ n = p.ms.length - j
theorem pq27 (p : Pv) (hp : okL p) (a : Int) : AC Try.prog 18 [pvV p, vI a] [] (eqR (isV ((p.ms.filter (fun x => x.s == a)).map (·.p)))) := by
  obtain ⟨l1, l2, l3, l4, l5⟩ := hp
  refine AC_frozen orders Try.func18 rfl (by kernel_rfl) (by kernel_rfl) Try.ntmps18 (by simp) ?_
  unfold Try.f18
  (have hwq := trivial; repeat' (first | simp (maxSteps:=9999999)-implicitDefEqProofs only [go_sem,simprocAttr,hwq,FT3,FT5,FT23,FT24,FT25,FT26,FT27,FT29,FT31,FT36,FT38,FT40,FT42] | (refine condK_split ?_ ?_ <;> intro hwq) | (refine two_split ?_ ?_) | (refine guardK_split ?_ ?_ <;> intro hwq) | (refine guardE_split ?_ ?_ <;> intro hwq) | (refine awp_drawW [] (by decide +kernel) ?_; have hwq := trivial) | fail))
  refine awp_loopK (At27 p a) p.ms.length _ (Weak.trans (Weak.virt 5 1 (.inl rfl)) (Weak.cutI 2 [1, 2, 5, 9, 10, 11] ?_ ?_)) ⟨0, [], _, rfl, by simp, by omega, rfl⟩ ?_
  · simp (maxSteps:=9999999)-implicitDefEqProofs only [simprocAttr,QH,Option.isSome,cond_true,cond_false,Option.bind,selB,V.rn,V.rns,Go.Ai.known,V.pz,V.pzs,T.toV,frz1,List.range,List.range.loop,ite_true,ite_false,if_true,if_false,ne_eq,implies_true,forall_const,eq_self,IntKind.bits,upd_tmsS,selT_cons,selT_nil,List.length_map,List.getElem?_map,Int.natCast_nonneg,List.length_append,List.map_append]
  · simp (maxSteps:=9999999)-implicitDefEqProofs only [simprocAttr,QH,Option.isSome,cond_true,cond_false,Option.bind,selB,V.rn,V.rns,Go.Ai.known,V.pz,V.pzs,T.toV,frz1,List.range,List.range.loop,ite_true,ite_false,if_true,if_false,ne_eq,implies_true,forall_const,eq_self,IntKind.bits,upd_tmsS,selT_cons,selT_nil]
  rintro kk S ⟨j, N, mv, rfl, hN, hj, rfl⟩
  have hNl : N.length ≤ 1000 := by
    rw [hN, List.length_map]
    have h1 := List.length_filter_le (fun x : Mp => x.s == a) (p.ms.take j)
    rw [List.length_take] at h1
    omega
  have zs : (N.length + 1) * 8 ≤ 140737488355328 := by omega
  have wj : IntKind.i64.wrap ((j : Int) + 1) = (j : Int) + 1 := wI64 _ (by omega) (by omega)
  by_cases hjl : j < p.ms.length
  · have hjl' : (j : Int) < (p.ms.length : Int) := by omega
    have hgj : p.ms[j]? = some p.ms[j] := List.getElem?_eq_getElem hjl
    obtain ⟨x, hx⟩ : ∃ x, p.ms[j] = x := ⟨_, rfl⟩
    rw [hx] at hgj
    cases hq : (x.s == a) with
    | true =>
      have hNx : N ++ [x.p] = ((p.ms.take (j + 1)).filter (fun x => x.s == a)).map (·.p) := by rw [take_in hgj, List.filter_append, List.map_append, hN]; simp [hq]
      (have hwq := trivial; repeat' (first | simp (maxSteps:=9999999)-implicitDefEqProofs only [go_sem,simprocAttr,hwq,FT3,FT5,FT23,FT24,FT25,FT26,FT27,FT29,FT31,FT36,FT38,FT40,FT42,List.length_map,List.getElem?_map,Int.natCast_nonneg,List.length_append,List.map_append,hjl',hgj,wj,zs,hq] | (refine condK_split ?_ ?_ <;> intro hwq) | (refine two_split ?_ ?_) | (refine guardK_split ?_ ?_ <;> intro hwq) | (refine guardE_split ?_ ?_ <;> intro hwq) | (refine awp_drawW [] (by decide +kernel) ?_; have hwq := trivial) | fail))
      refine ⟨p.ms.length - (j + 1), _, by omega, Weak.cutI 2 [1, 2, 5, 9, 10, 11] ?_ ?_, j + 1, N ++ [x.p], _, rfl, hNx, by omega, rfl⟩
      · simp (maxSteps:=9999999)-implicitDefEqProofs only [simprocAttr,QH,Option.isSome,cond_true,cond_false,Option.bind,selB,V.rn,V.rns,Go.Ai.known,V.pz,V.pzs,T.toV,frz1,List.range,List.range.loop,ite_true,ite_false,if_true,if_false,ne_eq,implies_true,forall_const,eq_self,IntKind.bits,upd_tmsS,selT_cons,selT_nil,List.length_map,List.getElem?_map,Int.natCast_nonneg,List.length_append,List.map_append,List.length_cons,List.length_nil,List.map_cons,List.map_nil]
      · simp (maxSteps:=9999999)-implicitDefEqProofs only [simprocAttr,QH,Option.isSome,cond_true,cond_false,Option.bind,selB,V.rn,V.rns,Go.Ai.known,V.pz,V.pzs,T.toV,frz1,List.range,List.range.loop,ite_true,ite_false,if_true,if_false,ne_eq,implies_true,forall_const,eq_self,IntKind.bits,upd_tmsS,selT_cons,selT_nil,List.length_map,List.getElem?_map,Int.natCast_nonneg,List.length_append,List.map_append,List.length_cons,List.length_nil,List.map_cons,List.map_nil]
    | false =>
      have hNx : N = ((p.ms.take (j + 1)).filter (fun x => x.s == a)).map (·.p) := by rw [take_in hgj, List.filter_append, List.map_append, hN]; simp [hq]
      (have hwq := trivial; repeat' (first | simp (maxSteps:=9999999)-implicitDefEqProofs only [go_sem,simprocAttr,hwq,FT3,FT5,FT23,FT24,FT25,FT26,FT27,FT29,FT31,FT36,FT38,FT40,FT42,List.length_map,List.getElem?_map,Int.natCast_nonneg,List.length_append,List.map_append,hjl',hgj,wj,hq] | (refine condK_split ?_ ?_ <;> intro hwq) | (refine two_split ?_ ?_) | (refine guardK_split ?_ ?_ <;> intro hwq) | (refine guardE_split ?_ ?_ <;> intro hwq) | (refine awp_drawW [] (by decide +kernel) ?_; have hwq := trivial) | fail))
      refine ⟨p.ms.length - (j + 1), _, by omega, Weak.cutI 2 [1, 2, 5, 9, 10, 11] ?_ ?_, j + 1, N, _, rfl, hNx, by omega, rfl⟩
      · simp (maxSteps:=9999999)-implicitDefEqProofs only [simprocAttr,QH,Option.isSome,cond_true,cond_false,Option.bind,selB,V.rn,V.rns,Go.Ai.known,V.pz,V.pzs,T.toV,frz1,List.range,List.range.loop,ite_true,ite_false,if_true,if_false,ne_eq,implies_true,forall_const,eq_self,IntKind.bits,upd_tmsS,selT_cons,selT_nil,List.length_map,List.getElem?_map,Int.natCast_nonneg,List.length_append,List.map_append]
      · simp (maxSteps:=9999999)-implicitDefEqProofs only [simprocAttr,QH,Option.isSome,cond_true,cond_false,Option.bind,selB,V.rn,V.rns,Go.Ai.known,V.pz,V.pzs,T.toV,frz1,List.range,List.range.loop,ite_true,ite_false,if_true,if_false,ne_eq,implies_true,forall_const,eq_self,IntKind.bits,upd_tmsS,selT_cons,selT_nil,List.length_map,List.getElem?_map,Int.natCast_nonneg,List.length_append,List.map_append]
  · have hjl' : ¬ (j : Int) < (p.ms.length : Int) := by omega
    rw [List.take_of_length_le (by omega)] at hN
    have tk : List.take N.length (List.map inT N) = List.map inT N := List.take_of_length_le (by simp)
    rw [← hN]
    (have hwq := trivial; repeat' (first | simp (maxSteps:=9999999)-implicitDefEqProofs only [go_sem,simprocAttr,hwq,FT3,FT5,FT23,FT24,FT25,FT26,FT27,FT29,FT31,FT36,FT38,FT40,FT42,List.length_map,List.getElem?_map,Int.natCast_nonneg,List.length_append,List.map_append,hjl',tk,Nat.le_refl] | (refine condK_split ?_ ?_ <;> intro hwq) | (refine two_split ?_ ?_) | (refine guardK_split ?_ ?_ <;> intro hwq) | (refine guardE_split ?_ ?_ <;> intro hwq) | (refine awp_drawW [] (by decide +kernel) ?_; have hwq := trivial) | fail))
def At29 (p : Pv) (a : Int) (n : Nat) (S : St) : Prop :=
  ∃ (j : Nat) (N : List Int) (mv : List Nat), S = ⟨tms [(1, vI a), (2, .ptr 0 0 0), (5, .own 1 0 N.length), (9, csV p.cs), (10, vI p.cs.length), (11, vI j)], [bxP p, .rows 1 (N.map inT) false], mv⟩ ∧ N = ((p.cs.take j).filter (fun x => x.v == a)).map (·.s) ∧ j ≤ p.cs.length ∧ n = p.cs.length - j
theorem pq29 (p : Pv) (hp : okL p) (a : Int) : AC Try.prog 25 [pvV p, vI a] [] (eqR (isV ((p.cs.filter (fun x => x.v == a)).map (·.s)))) := by
  obtain ⟨l1, l2, l3, l4, l5⟩ := hp
  refine AC_frozen orders Try.func25 rfl (by kernel_rfl) (by kernel_rfl) Try.ntmps25 (by simp) ?_
  unfold Try.f25
  (have hwq := trivial; repeat' (first | simp (maxSteps:=9999999)-implicitDefEqProofs only [go_sem,simprocAttr,hwq,FT3,FT5,FT23,FT24,FT25,FT26,FT27,FT29,FT31,FT36,FT38,FT40,FT42] | (refine condK_split ?_ ?_ <;> intro hwq) | (refine two_split ?_ ?_) | (refine guardK_split ?_ ?_ <;> intro hwq) | (refine guardE_split ?_ ?_ <;> intro hwq) | (refine awp_drawW [] (by decide +kernel) ?_; have hwq := trivial) | fail))
  refine awp_loopK (At29 p a) p.cs.length _ (Weak.trans (Weak.virt 5 1 (.inl rfl)) (Weak.cutI 2 [1, 2, 5, 9, 10, 11] ?_ ?_)) ⟨0, [], _, rfl, by simp, by omega, rfl⟩ ?_
  · simp (maxSteps:=9999999)-implicitDefEqProofs only [simprocAttr,QH,Option.isSome,cond_true,cond_false,Option.bind,selB,V.rn,V.rns,Go.Ai.known,V.pz,V.pzs,T.toV,frz1,List.range,List.range.loop,ite_true,ite_false,if_true,if_false,ne_eq,implies_true,forall_const,eq_self,IntKind.bits,upd_tmsS,selT_cons,selT_nil,List.length_map,List.getElem?_map,Int.natCast_nonneg,List.length_append,List.map_append]
  · simp (maxSteps:=9999999)-implicitDefEqProofs only [simprocAttr,QH,Option.isSome,cond_true,cond_false,Option.bind,selB,V.rn,V.rns,Go.Ai.known,V.pz,V.pzs,T.toV,frz1,List.range,List.range.loop,ite_true,ite_false,if_true,if_false,ne_eq,implies_true,forall_const,eq_self,IntKind.bits,upd_tmsS,selT_cons,selT_nil]
  rintro kk S ⟨j, N, mv, rfl, hN, hj, rfl⟩
  have hNl : N.length ≤ 1000 := by
    rw [hN, List.length_map]
    have h1 := List.length_filter_le (fun x : Cr => x.v == a) (p.cs.take j)
    rw [List.length_take] at h1
    omega
  have zs : (N.length + 1) * 8 ≤ 140737488355328 := by omega
  have wj : IntKind.i64.wrap ((j : Int) + 1) = (j : Int) + 1 := wI64 _ (by omega) (by omega)
  by_cases hjl : j < p.cs.length
  · have hjl' : (j : Int) < (p.cs.length : Int) := by omega
    have hgj : p.cs[j]? = some p.cs[j] := List.getElem?_eq_getElem hjl
    obtain ⟨x, hx⟩ : ∃ x, p.cs[j] = x := ⟨_, rfl⟩
    rw [hx] at hgj
    cases hq : (x.v == a) with
    | true =>
      have hNx : N ++ [x.s] = ((p.cs.take (j + 1)).filter (fun x => x.v == a)).map (·.s) := by rw [take_in hgj, List.filter_append, List.map_append, hN]; simp [hq]
      (have hwq := trivial; repeat' (first | simp (maxSteps:=9999999)-implicitDefEqProofs only [go_sem,simprocAttr,hwq,FT3,FT5,FT23,FT24,FT25,FT26,FT27,FT29,FT31,FT36,FT38,FT40,FT42,List.length_map,List.getElem?_map,Int.natCast_nonneg,List.length_append,List.map_append,hjl',hgj,wj,zs,hq] | (refine condK_split ?_ ?_ <;> intro hwq) | (refine two_split ?_ ?_) | (refine guardK_split ?_ ?_ <;> intro hwq) | (refine guardE_split ?_ ?_ <;> intro hwq) | (refine awp_drawW [] (by decide +kernel) ?_; have hwq := trivial) | fail))
      refine ⟨p.cs.length - (j + 1), _, by omega, Weak.cutI 2 [1, 2, 5, 9, 10, 11] ?_ ?_, j + 1, N ++ [x.s], _, rfl, hNx, by omega, rfl⟩
      · simp (maxSteps:=9999999)-implicitDefEqProofs only [simprocAttr,QH,Option.isSome,cond_true,cond_false,Option.bind,selB,V.rn,V.rns,Go.Ai.known,V.pz,V.pzs,T.toV,frz1,List.range,List.range.loop,ite_true,ite_false,if_true,if_false,ne_eq,implies_true,forall_const,eq_self,IntKind.bits,upd_tmsS,selT_cons,selT_nil,List.length_map,List.getElem?_map,Int.natCast_nonneg,List.length_append,List.map_append,List.length_cons,List.length_nil,List.map_cons,List.map_nil]
      · simp (maxSteps:=9999999)-implicitDefEqProofs only [simprocAttr,QH,Option.isSome,cond_true,cond_false,Option.bind,selB,V.rn,V.rns,Go.Ai.known,V.pz,V.pzs,T.toV,frz1,List.range,List.range.loop,ite_true,ite_false,if_true,if_false,ne_eq,implies_true,forall_const,eq_self,IntKind.bits,upd_tmsS,selT_cons,selT_nil,List.length_map,List.getElem?_map,Int.natCast_nonneg,List.length_append,List.map_append,List.length_cons,List.length_nil,List.map_cons,List.map_nil]
    | false =>
      have hNx : N = ((p.cs.take (j + 1)).filter (fun x => x.v == a)).map (·.s) := by rw [take_in hgj, List.filter_append, List.map_append, hN]; simp [hq]
      (have hwq := trivial; repeat' (first | simp (maxSteps:=9999999)-implicitDefEqProofs only [go_sem,simprocAttr,hwq,FT3,FT5,FT23,FT24,FT25,FT26,FT27,FT29,FT31,FT36,FT38,FT40,FT42,List.length_map,List.getElem?_map,Int.natCast_nonneg,List.length_append,List.map_append,hjl',hgj,wj,hq] | (refine condK_split ?_ ?_ <;> intro hwq) | (refine two_split ?_ ?_) | (refine guardK_split ?_ ?_ <;> intro hwq) | (refine guardE_split ?_ ?_ <;> intro hwq) | (refine awp_drawW [] (by decide +kernel) ?_; have hwq := trivial) | fail))
      refine ⟨p.cs.length - (j + 1), _, by omega, Weak.cutI 2 [1, 2, 5, 9, 10, 11] ?_ ?_, j + 1, N, _, rfl, hNx, by omega, rfl⟩
      · simp (maxSteps:=9999999)-implicitDefEqProofs only [simprocAttr,QH,Option.isSome,cond_true,cond_false,Option.bind,selB,V.rn,V.rns,Go.Ai.known,V.pz,V.pzs,T.toV,frz1,List.range,List.range.loop,ite_true,ite_false,if_true,if_false,ne_eq,implies_true,forall_const,eq_self,IntKind.bits,upd_tmsS,selT_cons,selT_nil,List.length_map,List.getElem?_map,Int.natCast_nonneg,List.length_append,List.map_append]
      · simp (maxSteps:=9999999)-implicitDefEqProofs only [simprocAttr,QH,Option.isSome,cond_true,cond_false,Option.bind,selB,V.rn,V.rns,Go.Ai.known,V.pz,V.pzs,T.toV,frz1,List.range,List.range.loop,ite_true,ite_false,if_true,if_false,ne_eq,implies_true,forall_const,eq_self,IntKind.bits,upd_tmsS,selT_cons,selT_nil,List.length_map,List.getElem?_map,Int.natCast_nonneg,List.length_append,List.map_append]
  · have hjl' : ¬ (j : Int) < (p.cs.length : Int) := by omega
    rw [List.take_of_length_le (by omega)] at hN
    have tk : List.take N.length (List.map inT N) = List.map inT N := List.take_of_length_le (by simp)
    rw [← hN]
    (have hwq := trivial; repeat' (first | simp (maxSteps:=9999999)-implicitDefEqProofs only [go_sem,simprocAttr,hwq,FT3,FT5,FT23,FT24,FT25,FT26,FT27,FT29,FT31,FT36,FT38,FT40,FT42,List.length_map,List.getElem?_map,Int.natCast_nonneg,List.length_append,List.map_append,hjl',tk,Nat.le_refl] | (refine condK_split ?_ ?_ <;> intro hwq) | (refine two_split ?_ ?_) | (refine guardK_split ?_ ?_ <;> intro hwq) | (refine guardE_split ?_ ?_ <;> intro hwq) | (refine awp_drawW [] (by decide +kernel) ?_; have hwq := trivial) | fail))
end Go.Ai

set_option linter.unusedVariables false
set_option linter.unusedSimpArgs false
set_option maxHeartbeats 8000000
set_option maxRecDepth 100000
namespace Go.Ai
open Go.Proofs
def delE51 (p : Pv) (m : Mp) : Int := if (p.ms.filter (fun y : Mp => !decide (y = m))).length = p.ms.length then 182 else 0
def delE53 (p : Pv) (m : Cr) : Int := if (p.cs.filter (fun y : Cr => !decide (y = m))).length = p.cs.length then 182 else if ((p.ms.filter (fun x => x.s == m.s)).map (·.p)).length = 0 then 0 else 183
def delE55 (p : Pv) (m : Int) : Int := if (p.bs.filter (fun y : Mb => y.v != m)).length = p.bs.length then 182 else if ((p.cs.filter (fun x => x.v == m)).map (·.s)).length = 0 then 0 else 183
end Go.Ai

set_option linter.unusedVariables false
set_option linter.unusedSimpArgs false
set_option maxHeartbeats 8000000
set_option maxRecDepth 100000
namespace Go.Ai
open Go.Proofs
/-- One step of the loop that lays a member. -/
def stepM (m : Mb) (s : List Mb × Bool) (y : Mb) : List Mb × Bool :=
  if s.2 = false ∧ m.v ≤ y.v then (if m.v = y.v then s.1 ++ [m] else s.1 ++ [m] ++ [y], true) else (if m.v = y.v then s.1 else s.1 ++ [y], s.2)
def setF (m : Mb) (L : List Mb) : List Mb × Bool := L.foldl (stepM m) ([], false)
def setMbL (m : Mb) (L : List Mb) : List Mb := if (setF m L).2 = true then (setF m L).1 else (setF m L).1 ++ [m]
def rMem (b1 b2 b3 b4 : Bool) (n : Int) : Int := if b1 = false ∨ b2 = false then 1 else if b3 = true then 5 else if b4 = false then 184 else if 64 < n then 3 else 0
def outK (ks : List Int) (x : Int) : Bool := !decide (0 ≤ x ∧ x < (ks.length : Int))
def refMemE (p : Pv) (m : Mb) : Int := rMem (decide (vidOk m.v)) (risB ltI m.l) (m.l.any (outK p.ks)) (!m.l.any fun x => kindP p.ks x != 2) (setMbL m p.bs).length
end Go.Ai

set_option linter.unusedVariables false
set_option linter.unusedSimpArgs false
set_option maxHeartbeats 8000000
set_option maxRecDepth 100000
namespace Go.Ai
open Go.Proofs
def refMap (p : Pv) (m : Mp) : Pv × Int := (if refMapE p m = 0 then { p with ms := insL beforeB m p.ms } else p, refMapE p m)
def refMapD (p : Pv) (m : Mp) : Pv × Int := (if delE51 p m = 0 then { p with ms := p.ms.filter (fun y : Mp => !decide (y = m)) } else p, delE51 p m)
def refCar (p : Pv) (m : Cr) : Pv × Int := (if refCarE p m = 0 then { p with cs := insL ltCr m p.cs } else p, refCarE p m)
def refCarD (p : Pv) (m : Cr) : Pv × Int := (if delE53 p m = 0 then { p with cs := p.cs.filter (fun y : Cr => !decide (y = m)) } else p, delE53 p m)
def refMem (p : Pv) (m : Mb) : Pv × Int := (if refMemE p m = 0 then { p with bs := setMbL m p.bs } else p, refMemE p m)
def refMemD (p : Pv) (m : Int) : Pv × Int := (if delE55 p m = 0 then { p with bs := p.bs.filter (fun y : Mb => y.v != m) } else p, delE55 p m)
/-- What the reference's Do answers. -/
def refDo (p : Pv) (x : Cm) : Pv × Int :=
  if checkE p != 0 then (p, checkE p) else if x.k == 1 then refMap p x.m else if x.k == 2 then refMapD p x.m else if x.k == 3 then refCar p x.c else if x.k == 4 then refCarD p x.c else if x.k == 5 then refMem p x.w else if x.k == 6 then refMemD p x.w.v else (p, 1)
end Go.Ai

set_option linter.unusedVariables false
set_option linter.unusedSimpArgs false
set_option maxHeartbeats 8000000
set_option maxRecDepth 100000
namespace Go.Ai
open Go.Proofs
attribute [local go_sem] QH QR V.noimm V.noimms frzZs frzZ frzA frzV frzVs frzBox boxLen Option.isSome cond_true cond_false aopD calW flatV stepX amap stepY alookup afind aupdate adelete amlen arange ameq mapOf akeq pl V.mapT V.mapTs Option.bind stepK runK guardD stepE runD callD compact selB callK evS ofVal ofVals scalar aop ares mkRes V.rn V.rns V.cells? cellsAt Go.Ai.part aload astore setL V.atom abin aun intBin shiftBin aconv fieldOf aindexAddr aindex bound? aslice aarr abuild afill alen nilP nilS nilF aeq eqCells eqCell Go.Ai.known strBin abuiltin aappend abuildSlice arowsFill amakeSlice acopy aclear minmax rowsOf numsT notStr isIntD isByte V.pz V.pzs T.toV frz1 frz scalT scalTs chunkT List.range List.range.loop ite_true ite_false if_true if_false ne_eq implies_true forall_const eq_self IntKind.bits kPostKF_ret kPostKF_normal kPostX_ret kPostX_normal bsl nil2K nil2 kPostFW_ret kPostFW_normal kPostKM_ret kPostKM_normal kPostXK_ret kPostXK_normal
/-- Where slices.Index finds x. -/
def idxFrom {α : Type} [DecidableEq α] (x : α) : List α → Nat → Int
  | [], _ => -1
  | y :: l, n => if x = y then (n : Int) else idxFrom x l (n + 1)
theorem idx_here {α : Type} [DecidableEq α] {x : α} : ∀ {L : List α} {j n : Nat}, (∀ y ∈ L.take j, x ≠ y) → L[j]? = some x → idxFrom x L n = ((n + j : Nat) : Int)
  | [], j, n, _, h => by simp at h
  | y :: l, 0, n, _, h => by
    simp only [List.getElem?_cons_zero, Option.some.injEq] at h
    rw [idxFrom, if_pos h.symm]; rfl
  | y :: l, j + 1, n, hn, h => by
    simp only [List.getElem?_cons_succ] at h
    rw [List.take_succ_cons] at hn
    rw [idxFrom, if_neg (hn y (List.mem_cons_self ..)), idx_here (fun z hz => hn z (List.mem_cons_of_mem _ hz)) h]
    congr 1; omega
theorem idx_none {α : Type} [DecidableEq α] {x : α} : ∀ {L : List α} {n : Nat}, (∀ y ∈ L, x ≠ y) → idxFrom x L n = -1
  | [], n, _ => rfl
  | y :: l, n, h => by
    rw [idxFrom, if_neg (h y (List.mem_cons_self ..)), idx_none fun z hz => h z (List.mem_cons_of_mem _ hz)]
theorem idx_pos {α : Type} [DecidableEq α] {x : α} : ∀ {L : List α} {n : Nat}, decide (0 ≤ idxFrom x L n) = decide (x ∈ L)
  | [], n => rfl
  | y :: l, n => by
    rw [idxFrom]
    by_cases h : x = y
    · rw [if_pos h]; simp [h]
    · rw [if_neg h, idx_pos]; simp [h]
theorem ne_more {α : Type} {x y : α} {L : List α} {j : Nat} (h : ∀ z ∈ L.take j, x ≠ z) (hg : L[j]? = some y) (hn : x ≠ y) : ∀ z ∈ L.take (j + 1), x ≠ z := by
  rw [take_in hg]
  intro z hz
  rcases List.mem_append.1 hz with h1 | h1
  · exact h z h1
  · rw [List.mem_singleton.1 h1]; exact hn
def Ix103 (x : Mp) (L : List Mp) (n : Nat) (S : St) : Prop :=
  ∃ (j : Nat) (mv : List Nat), S = ⟨tms [(0, msV L), (3, .ptr 0 0 0), (4, vI 0), (7, vI L.length), (8, vI j)], [bxMp x], mv⟩ ∧ (∀ y ∈ L.take j, x ≠ y) ∧ j ≤ L.length ∧ n = L.length - j
theorem pc103 (x : Mp) (L : List Mp) (hL : L.length ≤ 1000) : AC Try.prog 56 [msV L, mpV x] [] (eqR (vI (idxFrom x L 0))) := by
  obtain ⟨R, hR⟩ : ∃ R, idxFrom x L 0 = R := ⟨_, rfl⟩
  rw [hR]
  refine AC_plain orders Try.func56 rfl (by kernel_rfl) (by kernel_rfl) Try.ntmps56 (by simp) ?_
  unfold Try.f56
  (have hwq := trivial; repeat' (first | simp (maxSteps:=9999999)-implicitDefEqProofs only [go_sem,simprocAttr,hwq,FT3,FT25,FT40,List.length_map,List.getElem?_map,Int.natCast_nonneg,List.length_append,List.map_append] | (refine condK_split ?_ ?_ <;> intro hwq) | (refine two_split ?_ ?_) | (refine guardK_split ?_ ?_ <;> intro hwq) | (refine guardE_split ?_ ?_ <;> intro hwq) | (refine awp_drawW [] (by decide +kernel) ?_; have hwq := trivial) | fail))
  refine awp_loopK (Ix103 x L) L.length _ (Weak.cutI 1 [0, 3, 4, 7, 8] ?_ ?_) ⟨0, _, rfl, by simp, Nat.zero_le _, rfl⟩ ?_
  · simp (maxSteps:=9999999)-implicitDefEqProofs only [simprocAttr,QH,Option.isSome,cond_true,cond_false,Option.bind,selB,V.rn,V.rns,Go.Ai.known,V.pz,V.pzs,T.toV,frz1,List.range,List.range.loop,ite_true,ite_false,if_true,if_false,ne_eq,implies_true,forall_const,eq_self,IntKind.bits,upd_tmsS,selT_cons,selT_nil,List.length_map,List.getElem?_map,Int.natCast_nonneg,List.length_append,List.map_append]
  · simp (maxSteps:=9999999)-implicitDefEqProofs only [simprocAttr,QH,Option.isSome,cond_true,cond_false,Option.bind,selB,V.rn,V.rns,Go.Ai.known,V.pz,V.pzs,T.toV,frz1,List.range,List.range.loop,ite_true,ite_false,if_true,if_false,ne_eq,implies_true,forall_const,eq_self,IntKind.bits,upd_tmsS,selT_cons,selT_nil]
  rintro kk S ⟨j, mv, rfl, hno, hj, rfl⟩
  have wj := wj_of hj hL
  by_cases hjl : j < L.length
  · have hjl' : (j : Int) < (L.length : Int) := Int.ofNat_lt.2 hjl
    have hgj : L[j]? = some L[j] := List.getElem?_eq_getElem hjl
    obtain ⟨y, hy⟩ : ∃ y, L[j] = y := ⟨_, rfl⟩
    rw [hy] at hgj
    have hee := mp_eq x y
    by_cases hq : x = y
    · have hq' : decide (x = y) = true := decide_eq_true hq
      have hres : R = (j : Int) := by rw [← hR, idx_here hno (hq ▸ hgj), Nat.zero_add]
      rw [hres]
      (have hwq := trivial; repeat' (first | simp (maxSteps:=9999999)-implicitDefEqProofs only [go_sem,simprocAttr,hwq,FT3,FT25,FT40,List.length_map,List.getElem?_map,Int.natCast_nonneg,List.length_append,List.map_append,hjl',hgj,wj,hee,hq'] | (refine condK_split ?_ ?_ <;> intro hwq) | (refine two_split ?_ ?_) | (refine guardK_split ?_ ?_ <;> intro hwq) | (refine guardE_split ?_ ?_ <;> intro hwq) | (refine awp_drawW [] (by decide +kernel) ?_; have hwq := trivial) | fail))
    · have hq' : decide (x = y) = false := decide_eq_false hq
      (have hwq := trivial; repeat' (first | simp (maxSteps:=9999999)-implicitDefEqProofs only [go_sem,simprocAttr,hwq,FT3,FT25,FT40,List.length_map,List.getElem?_map,Int.natCast_nonneg,List.length_append,List.map_append,hjl',hgj,wj,hee,hq'] | (refine condK_split ?_ ?_ <;> intro hwq) | (refine two_split ?_ ?_) | (refine guardK_split ?_ ?_ <;> intro hwq) | (refine guardE_split ?_ ?_ <;> intro hwq) | (refine awp_drawW [] (by decide +kernel) ?_; have hwq := trivial) | fail))
      refine ⟨L.length - (j + 1), _, st_of hjl, Weak.cutI 1 [0, 3, 4, 7, 8] ?_ ?_, j + 1, _, rfl, ne_more hno hgj hq, hjl, rfl⟩
      · simp (maxSteps:=9999999)-implicitDefEqProofs only [simprocAttr,QH,Option.isSome,cond_true,cond_false,Option.bind,selB,V.rn,V.rns,Go.Ai.known,V.pz,V.pzs,T.toV,frz1,List.range,List.range.loop,ite_true,ite_false,if_true,if_false,ne_eq,implies_true,forall_const,eq_self,IntKind.bits,upd_tmsS,selT_cons,selT_nil,List.length_map,List.getElem?_map,Int.natCast_nonneg,List.length_append,List.map_append]
      · simp (maxSteps:=9999999)-implicitDefEqProofs only [simprocAttr,QH,Option.isSome,cond_true,cond_false,Option.bind,selB,V.rn,V.rns,Go.Ai.known,V.pz,V.pzs,T.toV,frz1,List.range,List.range.loop,ite_true,ite_false,if_true,if_false,ne_eq,implies_true,forall_const,eq_self,IntKind.bits,upd_tmsS,selT_cons,selT_nil,List.length_map,List.getElem?_map,Int.natCast_nonneg,List.length_append,List.map_append]
  · have hjl' : ¬ (j : Int) < (L.length : Int) := fun h => hjl (Int.ofNat_lt.1 h)
    rw [List.take_of_length_le (Nat.le_of_not_lt hjl)] at hno
    have hres : R = -1 := by rw [← hR, idx_none hno]
    rw [hres]
    (have hwq := trivial; repeat' (first | simp (maxSteps:=9999999)-implicitDefEqProofs only [go_sem,simprocAttr,hwq,FT3,FT25,FT40,List.length_map,List.getElem?_map,Int.natCast_nonneg,List.length_append,List.map_append,hjl'] | (refine condK_split ?_ ?_ <;> intro hwq) | (refine two_split ?_ ?_) | (refine guardK_split ?_ ?_ <;> intro hwq) | (refine guardE_split ?_ ?_ <;> intro hwq) | (refine awp_drawW [] (by decide +kernel) ?_; have hwq := trivial) | fail))
theorem pc37 (x : Mp) (L : List Mp) (hL : L.length ≤ 1000) : AC Try.prog 12 [msV L, mpV x] [] (eqR (vB (decide (x ∈ L)))) := by
  have h1 := pc103 x L hL
  have h2 := idx_pos (x := x) (L := L) (n := 0)
  generalize idxFrom x L 0 = i at h1 h2
  rw [← h2]
  refine AC_plain orders Try.func12 rfl (by kernel_rfl) (by kernel_rfl) Try.ntmps12 (by simp) ?_
  unfold Try.f12
  (have hwq := trivial; repeat' (first | simp (maxSteps:=9999999)-implicitDefEqProofs only [go_sem,simprocAttr,hwq,FT3,FT4,FT25,FT40,List.length_map,List.getElem?_map,Int.natCast_nonneg,List.length_append,List.map_append] | (refine condK_split ?_ ?_ <;> intro hwq) | (refine two_split ?_ ?_) | (refine guardK_split ?_ ?_ <;> intro hwq) | (refine guardE_split ?_ ?_ <;> intro hwq) | (refine awp_drawW [] (by decide +kernel) ?_; have hwq := trivial) | (refine call_plain h1 rfl rfl ?_; have hwq := trivial) | fail))
def Ix108 (x : Cr) (L : List Cr) (n : Nat) (S : St) : Prop :=
  ∃ (j : Nat) (mv : List Nat), S = ⟨tms [(0, csV L), (3, .ptr 0 0 0), (4, vI 0), (7, vI L.length), (8, vI j)], [bxCr x], mv⟩ ∧ (∀ y ∈ L.take j, x ≠ y) ∧ j ≤ L.length ∧ n = L.length - j
theorem pc108 (x : Cr) (L : List Cr) (hL : L.length ≤ 1000) : AC Try.prog 61 [csV L, crV x] [] (eqR (vI (idxFrom x L 0))) := by
  obtain ⟨R, hR⟩ : ∃ R, idxFrom x L 0 = R := ⟨_, rfl⟩
  rw [hR]
  refine AC_plain orders Try.func61 rfl (by kernel_rfl) (by kernel_rfl) Try.ntmps61 (by simp) ?_
  unfold Try.f61
  (have hwq := trivial; repeat' (first | simp (maxSteps:=9999999)-implicitDefEqProofs only [go_sem,simprocAttr,hwq,FT3,FT26,FT42,List.length_map,List.getElem?_map,Int.natCast_nonneg,List.length_append,List.map_append] | (refine condK_split ?_ ?_ <;> intro hwq) | (refine two_split ?_ ?_) | (refine guardK_split ?_ ?_ <;> intro hwq) | (refine guardE_split ?_ ?_ <;> intro hwq) | (refine awp_drawW [] (by decide +kernel) ?_; have hwq := trivial) | fail))
  refine awp_loopK (Ix108 x L) L.length _ (Weak.cutI 1 [0, 3, 4, 7, 8] ?_ ?_) ⟨0, _, rfl, by simp, Nat.zero_le _, rfl⟩ ?_
  · simp (maxSteps:=9999999)-implicitDefEqProofs only [simprocAttr,QH,Option.isSome,cond_true,cond_false,Option.bind,selB,V.rn,V.rns,Go.Ai.known,V.pz,V.pzs,T.toV,frz1,List.range,List.range.loop,ite_true,ite_false,if_true,if_false,ne_eq,implies_true,forall_const,eq_self,IntKind.bits,upd_tmsS,selT_cons,selT_nil,List.length_map,List.getElem?_map,Int.natCast_nonneg,List.length_append,List.map_append]
  · simp (maxSteps:=9999999)-implicitDefEqProofs only [simprocAttr,QH,Option.isSome,cond_true,cond_false,Option.bind,selB,V.rn,V.rns,Go.Ai.known,V.pz,V.pzs,T.toV,frz1,List.range,List.range.loop,ite_true,ite_false,if_true,if_false,ne_eq,implies_true,forall_const,eq_self,IntKind.bits,upd_tmsS,selT_cons,selT_nil]
  rintro kk S ⟨j, mv, rfl, hno, hj, rfl⟩
  have wj := wj_of hj hL
  by_cases hjl : j < L.length
  · have hjl' : (j : Int) < (L.length : Int) := Int.ofNat_lt.2 hjl
    have hgj : L[j]? = some L[j] := List.getElem?_eq_getElem hjl
    obtain ⟨y, hy⟩ : ∃ y, L[j] = y := ⟨_, rfl⟩
    rw [hy] at hgj
    have hee := cr_eq x y
    by_cases hq : x = y
    · have hq' : decide (x = y) = true := decide_eq_true hq
      have hres : R = (j : Int) := by rw [← hR, idx_here hno (hq ▸ hgj), Nat.zero_add]
      rw [hres]
      (have hwq := trivial; repeat' (first | simp (maxSteps:=9999999)-implicitDefEqProofs only [go_sem,simprocAttr,hwq,FT3,FT26,FT42,List.length_map,List.getElem?_map,Int.natCast_nonneg,List.length_append,List.map_append,hjl',hgj,wj,hee,hq'] | (refine condK_split ?_ ?_ <;> intro hwq) | (refine two_split ?_ ?_) | (refine guardK_split ?_ ?_ <;> intro hwq) | (refine guardE_split ?_ ?_ <;> intro hwq) | (refine awp_drawW [] (by decide +kernel) ?_; have hwq := trivial) | fail))
    · have hq' : decide (x = y) = false := decide_eq_false hq
      (have hwq := trivial; repeat' (first | simp (maxSteps:=9999999)-implicitDefEqProofs only [go_sem,simprocAttr,hwq,FT3,FT26,FT42,List.length_map,List.getElem?_map,Int.natCast_nonneg,List.length_append,List.map_append,hjl',hgj,wj,hee,hq'] | (refine condK_split ?_ ?_ <;> intro hwq) | (refine two_split ?_ ?_) | (refine guardK_split ?_ ?_ <;> intro hwq) | (refine guardE_split ?_ ?_ <;> intro hwq) | (refine awp_drawW [] (by decide +kernel) ?_; have hwq := trivial) | fail))
      refine ⟨L.length - (j + 1), _, st_of hjl, Weak.cutI 1 [0, 3, 4, 7, 8] ?_ ?_, j + 1, _, rfl, ne_more hno hgj hq, hjl, rfl⟩
      · simp (maxSteps:=9999999)-implicitDefEqProofs only [simprocAttr,QH,Option.isSome,cond_true,cond_false,Option.bind,selB,V.rn,V.rns,Go.Ai.known,V.pz,V.pzs,T.toV,frz1,List.range,List.range.loop,ite_true,ite_false,if_true,if_false,ne_eq,implies_true,forall_const,eq_self,IntKind.bits,upd_tmsS,selT_cons,selT_nil,List.length_map,List.getElem?_map,Int.natCast_nonneg,List.length_append,List.map_append]
      · simp (maxSteps:=9999999)-implicitDefEqProofs only [simprocAttr,QH,Option.isSome,cond_true,cond_false,Option.bind,selB,V.rn,V.rns,Go.Ai.known,V.pz,V.pzs,T.toV,frz1,List.range,List.range.loop,ite_true,ite_false,if_true,if_false,ne_eq,implies_true,forall_const,eq_self,IntKind.bits,upd_tmsS,selT_cons,selT_nil,List.length_map,List.getElem?_map,Int.natCast_nonneg,List.length_append,List.map_append]
  · have hjl' : ¬ (j : Int) < (L.length : Int) := fun h => hjl (Int.ofNat_lt.1 h)
    rw [List.take_of_length_le (Nat.le_of_not_lt hjl)] at hno
    have hres : R = -1 := by rw [← hR, idx_none hno]
    rw [hres]
    (have hwq := trivial; repeat' (first | simp (maxSteps:=9999999)-implicitDefEqProofs only [go_sem,simprocAttr,hwq,FT3,FT26,FT42,List.length_map,List.getElem?_map,Int.natCast_nonneg,List.length_append,List.map_append,hjl'] | (refine condK_split ?_ ?_ <;> intro hwq) | (refine two_split ?_ ?_) | (refine guardK_split ?_ ?_ <;> intro hwq) | (refine guardE_split ?_ ?_ <;> intro hwq) | (refine awp_drawW [] (by decide +kernel) ?_; have hwq := trivial) | fail))
theorem pc42 (x : Cr) (L : List Cr) (hL : L.length ≤ 1000) : AC Try.prog 17 [csV L, crV x] [] (eqR (vB (decide (x ∈ L)))) := by
  have h1 := pc108 x L hL
  have h2 := idx_pos (x := x) (L := L) (n := 0)
  generalize idxFrom x L 0 = i at h1 h2
  rw [← h2]
  refine AC_plain orders Try.func17 rfl (by kernel_rfl) (by kernel_rfl) Try.ntmps17 (by simp) ?_
  unfold Try.f17
  (have hwq := trivial; repeat' (first | simp (maxSteps:=9999999)-implicitDefEqProofs only [go_sem,simprocAttr,hwq,FT3,FT4,FT26,FT42,List.length_map,List.getElem?_map,Int.natCast_nonneg,List.length_append,List.map_append] | (refine condK_split ?_ ?_ <;> intro hwq) | (refine two_split ?_ ?_) | (refine guardK_split ?_ ?_ <;> intro hwq) | (refine guardE_split ?_ ?_ <;> intro hwq) | (refine awp_drawW [] (by decide +kernel) ?_; have hwq := trivial) | (refine call_plain h1 rfl rfl ?_; have hwq := trivial) | fail))
end Go.Ai
