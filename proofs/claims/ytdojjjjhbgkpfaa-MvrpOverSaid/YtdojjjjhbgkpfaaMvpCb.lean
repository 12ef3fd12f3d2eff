/- Contracts of functions of the loaded program: called with data in the ranges that each names, it returns this value and writes to no old memory. -/
import Derived.Test.YtdojjjjhbgkpfaaAiRg
import Derived.RangeFuncBox
import Derived.RangeFuncLeaves
import Derived.Shelf.Abstract
import Derived.WalkKit
import Derived.OwnWalkIn
import Derived.TacticsInMore
import Derived.LoopNIn
import Derived.LoopIn
import Derived.BigRegionIn
set_option linter.unusedVariables false
set_option linter.unusedSimpArgs false
namespace Go.Ai
open Go.Proofs Go.RowKit Go.Shelf
attribute [local go_sem] Oper.semAt_some
def chN (n : Nat) : Nat := (n + 2) / 3
set_option maxRecDepth 100000 in
set_option maxHeartbeats 4000000 in
theorem chunk1_in (F : Fence) (n : Nat) (h7 : F.fn 70) (hro : F.round = none) (hn : 1 ≤ n) (l B1 o1 B2 o2 b off len cap : Nat) (hlen : len ≤ 100000) (hcap : len ≤ cap) (I : Imm) (J Jx : List Nat → World → Prop)
    (hY : ∀ pre x W, J pre W → pre.length < chN len → YieldAt F (n - 1) Try.prog l #[.slice (some ⟨b, off + 3 * x, none⟩) (min 3 (len - 3 * x)) (min 3 (len - 3 * x))] W fun e W' =>
      (e = .returned (.bool true) ∧ J (pre ++ [x]) W' ∧ KpI I W W') ∨ (e = .returned (.bool false) ∧ Jx (pre ++ [x]) W'))
    (W : World) (hJ : AbidesFrom W.heap.size J) (a : Option Addr) (hA : 0 < len → a = some ⟨b, off, none⟩) (h1 : I B1 o1 = some (.slice a len cap)) (h2 : I B2 o2 = some (.int .i64 3)) (hW : ∀ b o v, I b o = some v → W.cell? ⟨b, o, none⟩ = some v) (h0 : J [] W) :
    CallsIn F n Try.prog 70 #[.func (.yield l) #[] #[], .pointer (some ⟨B1, o1, none⟩), .pointer (some ⟨B2, o2, none⟩)] W fun e W' => (∃ v, e = .returned v) ∧
      ((∃ ys, ys = List.range (chN len) ∧ J ys W') ∨ (∃ pre : List Nat, True ∧ Jx pre W')) := by
  have mixed := orders
  refine callsIn_of_wp Try.func70 rfl h7 ?_ hro
  simp only [Try.ntmps70, List.size_toArray, List.length_cons, List.length_nil, Nat.reduceAdd, Nat.reduceSub, Array.replicate_succ, Array.replicate_zero, List.push_toArray, List.append_toArray, List.nil_append, List.cons_append]
  unfold Try.f70
  gi_wp2
  gi_loopw [4] (fun i wr => ∃ k : Nat, k ≤ chN len ∧ i = .int .i64 ((3 * k : Nat) : Int) ∧ J (List.range k) wr ∧ ∀ b o v, I b o = some v → wr.cell? ⟨b, o, none⟩ = some v)
    (fun i _ => len + 3 - (intOf i).toNat)
  case atStart => exact ⟨0, Nat.zero_le _, rfl, h0, hW⟩
  case round =>
    obtain ⟨k, hk, rfl, hJs, hI⟩ := hrel
    have c1 := hI _ _ _ h1
    have c2 := hI _ _ _ h2
    by_cases hlt : 3 * k < len
    · obtain rfl := hA (by omega)
      have hkm : k < chN len := by unfold chN; omega
      obtain ⟨m, hm⟩ : ∃ m, min 3 (len - 3 * k) = m := ⟨_, rfl⟩
      have hif : (if ((len - 3 * k : Nat) : Int) < 3 then ((len - 3 * k : Nat) : Int) else 3) = (m : Int) := by split <;> omega
      have hcap' : ¬ cap = 3 * k := by omega
      have w1 : IntKind.i64.wrap (3 * (k : Int) + (m : Int)) = 3 * (k : Int) + (m : Int) := wI64 _ (by omega) (by omega)
      have w2 : IntKind.i64.wrap (3 * (k : Int) + 3) = 3 * (k : Int) + 3 := wI64 _ (by omega) (by omega)
      have hcell : ∀ b o v, I b o = some v → wr.drew.cell? ⟨b, o, none⟩ = some v := fun b o v h => hI b o v h
      obtain ⟨fn, tmps, assign, body, hy, hR⟩ := hY (List.range k) k wr.drew (hJ _ wr wr.drew none hJs ⟨rfl, rfl, rfl, Nat.le_refl _, fun _ _ _ => rfl⟩ (fun r e => by cases e)) (by rw [List.length_range]; exact hkm)
      rw [hm] at hy
      have c2' := hcell _ _ _ h2
      have c1' := hcell _ _ _ h1
      gi_wp2
      gi_region
      all_goals
        gi_wp2
        refine hR.mono ?_
        rintro e W3 (⟨rfl, hJ3, hk3⟩ | ⟨rfl, hJx3⟩)
        · have c3 : W3.cell? ⟨B2, o2, none⟩ = some (.int .i64 3) := hk3 _ _ _ h2 c2'
          gi_wp2
          go_roundw
          case rel => exact ⟨k + 1, by omega, by simp; omega, by rw [List.range_succ]; exact hJ3, fun b o v h => hk3 b o v h (hcell b o v h)⟩
          case measure => simp [intOf]; omega
        · gi_wp2
          refine bodyPost_ret (results_none rfl _ _ _) rfl ?_
          exact ⟨⟨_, rfl⟩, .inr ⟨_, trivial, hJx3⟩⟩
    · obtain rfl : k = chN len := by unfold chN at hk ⊢; omega
      gi_wp2
      go_end0
      exact ⟨⟨_, rfl⟩, .inl ⟨_, rfl, hJs⟩⟩
end Go.Ai

set_option linter.unusedVariables false
set_option linter.unusedSimpArgs false
namespace Go.Ai
open Go.Proofs Go.RowKit
def chk (l : List Int) (k : Nat) : List Int := (l.drop (3 * k)).take 3
theorem chunk_stops (l : List Int) (hl : l.length ≤ 100000) {β : Nat → Option BV} {I : Imm} {σ : List Blk} {w : World} (hi : Inv β I σ w) {lb : List Value} (hv : VRs β I [.iref [.sl 1 (l.map inT)], .iref [.s (.int .i64 3)]] lb) :
    ∃ encs : Nat → Value, (∀ β' I', (∀ b o v, I b o = some v → I' b o = some v) → ∀ x, VR β' I' (isV (chk l x)) (encs x)) ∧
      SeqStopsK Fence.wide 2 Try.prog 70 lb.toArray (fun x => #[encs x]) (KpI I) (fun ys => ys = List.range (chN l.length)) (fun _ => True) (chN l.length) w := by
  match lb, hv with
  | [c1, c2], hv =>
    simp only [VRs, VR, TRcells, TR, and_true, Nat.add_zero, List.length_map] at hv
    obtain ⟨⟨B1, o1, rfl, u1, h1, a, cap, rfl, hcap, hrows⟩, ⟨B2, o2, rfl, u2, h2, rfl, _⟩⟩ := hv
    have hW0 : ∀ (W : World), Below w.heap.size w W → ∀ b o v, I b o = some v → W.cell? ⟨b, o, none⟩ = some v := fun W hB b o v hb =>
      (hB.cell (p := ⟨b, o, none⟩) (hi.ilt hb)).trans (hi.imm b o v hb)
    by_cases h0 : l = []
    · subst h0
      refine ⟨fun _ => .slice none 0 0, fun β' I' _ x => ?_, fun lp J Jx W hB hA _ hY hJ => ?_⟩
      · simp [VR, TR, chk]
      · exact chunk1_in Fence.wide 2 (by trivial) rfl (by decide) lp B1 o1 B2 o2 0 0 0 cap (by decide) (Nat.zero_le _) I J Jx (fun pre x W1 _ hp => by simp [chN] at hp) W hA a (fun h => absurd h (by decide)) h1 h2 (hW0 W hB) hJ
    · have hlen : 0 < l.length := List.length_pos_iff.2 h0
      have hne : l.map inT ≠ [] := by simpa using h0
      rcases hrows with hr | ⟨b, off, rfl, hr⟩
      · exact absurd hr hne
      · refine ⟨fun x => .slice (some ⟨b, off + 3 * x, none⟩) (min 3 (l.length - 3 * x)) (min 3 (l.length - 3 * x)), fun β' I' hm x => ?_, fun lp J Jx W hB hA _ hY hJ => ?_⟩
        · have hr2 := TRrows.take 3 (TRrows.drop (3 * x) hr)
          rw [Nat.mul_one] at hr2
          have hlc : (chk l x).length = min 3 (l.length - 3 * x) := by simp [chk]
          simp only [VR, TR, List.length_map, hlc]
          refine ⟨_, _, rfl, Nat.le_refl _, .inr ⟨b, off + 3 * x, rfl, ?_⟩⟩
          have := TRrows.mono hm _ _ _ _ hr2
          unfold chk
          rw [List.map_take, List.map_drop]
          exact this
        · exact chunk1_in Fence.wide 2 (by trivial) rfl (by decide) lp B1 o1 B2 o2 b off l.length cap hl hcap I J Jx hY W hA (some ⟨b, off, none⟩) (fun _ => rfl) h1 h2 (hW0 W hB) hJ
end Go.Ai
