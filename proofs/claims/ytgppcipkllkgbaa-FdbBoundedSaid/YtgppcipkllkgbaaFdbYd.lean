/- Contracts of functions of the loaded program: called with data in the ranges that each names, it returns this value and writes to no old memory. -/
import Derived.Test.YtgppcipkllkgbaaFdbYa
set_option linter.unusedVariables false
set_option linter.unusedSimpArgs false
set_option maxHeartbeats 4000000
set_option maxRecDepth 100000
namespace Go.Ai
open Go.Proofs

theorem u8_lt {a b : Int} (ha : isB a) (hb : isB b) : (UInt8.ofNat a.toNat < UInt8.ofNat b.toNat) ↔ a < b := by
  unfold isB at ha hb
  rw [UInt8.lt_iff_toNat_lt]
  simp only [UInt8.toNat_ofNat']
  omega
theorem u8_eq {a b : Int} (ha : isB a) (hb : isB b) : (UInt8.ofNat a.toNat = UInt8.ofNat b.toNat) ↔ a = b := by
  unfold isB at ha hb
  rw [← UInt8.toNat_inj]
  simp only [UInt8.toNat_ofNat']
  omega
theorem strM_list (ns : List Int) : (strOfNums ns).toList = ns.map fun n => UInt8.ofNat n.toNat := by
  unfold strOfNums
  simp
theorem bytes_less (m n : Mc) (hm : okM m) (hn : okM n) : Op.bytesLess (strOfNums [m.a, m.b, m.c, m.d, m.e, m.f]).toList (strOfNums [n.a, n.b, n.c, n.d, n.e, n.f]).toList = decide (numM m < numM n) := by
  rw [strM_list, strM_list]
  obtain ⟨a1, a2, a3, a4, a5, a6⟩ := hm
  obtain ⟨b1, b2, b3, b4, b5, b6⟩ := hn
  simp only [List.map_cons, List.map_nil, Op.bytesLess, u8_lt a1 b1, u8_lt a2 b2, u8_lt a3 b3, u8_lt a4 b4, u8_lt a5 b5, u8_lt a6 b6]
  rw [Bool.eq_iff_iff]
  simp only [Bool.or_eq_true, Bool.and_eq_true, decide_eq_true_eq, beq_iff_eq, Bool.false_eq_true, and_false, or_false, u8_eq a1 b1, u8_eq a2 b2, u8_eq a3 b3, u8_eq a4 b4, u8_eq a5 b5, u8_eq a6 b6]
  unfold isB at *
  unfold numM numZ
  omega
end Go.Ai
