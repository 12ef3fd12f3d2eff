/- Contracts of functions of the loaded program: called with data in the ranges that each names, it returns this value and writes to no old memory. -/
import Derived.Test.YtbiolkmddpkheaaAiR
import Derived.Test.YtbiolkmddpkheaaChecked
import Derived.Test.YtbiolkmddpkheaaRows
set_option maxRecDepth 100000
set_option linter.unusedSimpArgs false
namespace Go.Ai
open Go.Proofs
theorem orders : Try.prog.follows .mixedOrders = true := by kernel_rfl
theorem u1 : Try.prog.underlying 1 = some (.func #[] #[] false) := by kernel_rfl
theorem u2 : Try.prog.underlying 2 = some (.int .i64) := by kernel_rfl
theorem h2 : Try.prog.stoodInHeld 2 = false := by kernel_rfl
theorem c2 : Try.prog.cellsOf 2 = 1 := by kernel_rfl
theorem b2 : Try.prog.bytesOf 2 = 8 := by kernel_rfl
theorem a2 : isAgg Try.prog 2 = some false := by kernel_rfl
theorem k2 : zok Try.prog 2 = true := by kernel_rfl
theorem u3 : Try.prog.underlying 3 = some (.int .i64) := by kernel_rfl
theorem h3 : Try.prog.stoodInHeld 3 = false := by kernel_rfl
theorem c3 : Try.prog.cellsOf 3 = 1 := by kernel_rfl
theorem b3 : Try.prog.bytesOf 3 = 8 := by kernel_rfl
theorem a3 : isAgg Try.prog 3 = some false := by kernel_rfl
theorem k3 : zok Try.prog 3 = true := by kernel_rfl
theorem z3 : zeroV Try.prog 3 = some (.s (.int .i64 0)) := by kernel_rfl
theorem u4 : Try.prog.underlying 4 = some .bool := by kernel_rfl
theorem h4 : Try.prog.stoodInHeld 4 = false := by kernel_rfl
theorem c4 : Try.prog.cellsOf 4 = 1 := by kernel_rfl
theorem b4 : Try.prog.bytesOf 4 = 1 := by kernel_rfl
theorem a4 : isAgg Try.prog 4 = some false := by kernel_rfl
theorem k4 : zok Try.prog 4 = true := by kernel_rfl
theorem z4 : zeroV Try.prog 4 = some (.s (.bool false)) := by kernel_rfl
theorem u5 : Try.prog.underlying 5 = some (.int .u8) := by kernel_rfl
theorem h5 : Try.prog.stoodInHeld 5 = false := by kernel_rfl
theorem c5 : Try.prog.cellsOf 5 = 1 := by kernel_rfl
theorem b5 : Try.prog.bytesOf 5 = 1 := by kernel_rfl
theorem a5 : isAgg Try.prog 5 = some false := by kernel_rfl
theorem k5 : zok Try.prog 5 = true := by kernel_rfl
theorem z5 : zeroV Try.prog 5 = some (.s (.int .u8 0)) := by kernel_rfl
theorem h6 : Try.prog.stoodInHeld 6 = false := by kernel_rfl
theorem a6 : isAgg Try.prog 6 = some false := by kernel_rfl
theorem h7 : Try.prog.stoodInHeld 7 = false := by kernel_rfl
theorem u8 : Try.prog.underlying 8 = some (.struct #[⟨ "x", 2, 0, false, "", "runtime", 0⟩, ⟨ "y", 3, 1, false, "", "runtime", 8⟩, ⟨ "signed", 4, 2, false, "", "runtime", 16⟩, ⟨ "code", 6, 3, false, "", "runtime", 17⟩]) := by kernel_rfl
theorem h8 : Try.prog.stoodInHeld 8 = false := by kernel_rfl
theorem k8 : zok Try.prog 8 = true := by kernel_rfl
theorem h9 : Try.prog.stoodInHeld 9 = false := by kernel_rfl
theorem h11 : Try.prog.stoodInHeld 11 = false := by kernel_rfl
theorem u16 : Try.prog.underlying 16 = some (.pointer 130) := by kernel_rfl
theorem u23 : Try.prog.underlying 23 = some (.array 6 5) := by kernel_rfl
theorem h23 : Try.prog.stoodInHeld 23 = false := by kernel_rfl
theorem c23 : Try.prog.cellsOf 23 = 6 := by kernel_rfl
theorem b23 : Try.prog.bytesOf 23 = 6 := by kernel_rfl
theorem a23 : isAgg Try.prog 23 = some true := by kernel_rfl
theorem k23 : zok Try.prog 23 = true := by kernel_rfl
theorem z23 : zeroV Try.prog 23 = some (.agg [(.s (.int .u8 0)), (.s (.int .u8 0)), (.s (.int .u8 0)), (.s (.int .u8 0)), (.s (.int .u8 0)), (.s (.int .u8 0))]) := by kernel_rfl
theorem u24 : Try.prog.underlying 24 = some (.slice 31) := by kernel_rfl
theorem c24 : Try.prog.cellsOf 24 = 1 := by kernel_rfl
theorem b24 : Try.prog.bytesOf 24 = 24 := by kernel_rfl
theorem a24 : isAgg Try.prog 24 = some false := by kernel_rfl
theorem k24 : zok Try.prog 24 = true := by kernel_rfl
theorem z24 : zeroV Try.prog 24 = some (.s (.slice none 0 0)) := by kernel_rfl
theorem u25 : Try.prog.underlying 25 = some (.slice 40) := by kernel_rfl
theorem c25 : Try.prog.cellsOf 25 = 1 := by kernel_rfl
theorem b25 : Try.prog.bytesOf 25 = 24 := by kernel_rfl
theorem a25 : isAgg Try.prog 25 = some false := by kernel_rfl
theorem k25 : zok Try.prog 25 = true := by kernel_rfl
theorem z25 : zeroV Try.prog 25 = some (.s (.slice none 0 0)) := by kernel_rfl
theorem u26 : Try.prog.underlying 26 = some (.slice 42) := by kernel_rfl
theorem c26 : Try.prog.cellsOf 26 = 1 := by kernel_rfl
theorem b26 : Try.prog.bytesOf 26 = 24 := by kernel_rfl
theorem a26 : isAgg Try.prog 26 = some false := by kernel_rfl
theorem k26 : zok Try.prog 26 = true := by kernel_rfl
theorem z26 : zeroV Try.prog 26 = some (.s (.slice none 0 0)) := by kernel_rfl
theorem u27 : Try.prog.underlying 27 = some (.slice 38) := by kernel_rfl
theorem c27 : Try.prog.cellsOf 27 = 1 := by kernel_rfl
theorem b27 : Try.prog.bytesOf 27 = 24 := by kernel_rfl
theorem a27 : isAgg Try.prog 27 = some false := by kernel_rfl
theorem k27 : zok Try.prog 27 = true := by kernel_rfl
theorem z27 : zeroV Try.prog 27 = some (.s (.slice none 0 0)) := by kernel_rfl
theorem u29 : Try.prog.underlying 29 = some (.struct #[⟨ "Own", 23, 0, false, "", "", 0⟩, ⟨ "Kinds", 24, 6, false, "", "", 8⟩, ⟨ "Maps", 25, 7, false, "", "", 32⟩, ⟨ "Carries", 26, 8, false, "", "", 56⟩, ⟨ "Members", 27, 9, false, "", "", 80⟩]) := by kernel_rfl
theorem c29 : Try.prog.cellsOf 29 = 10 := by kernel_rfl
theorem b29 : Try.prog.bytesOf 29 = 104 := by kernel_rfl
theorem a29 : isAgg Try.prog 29 = some true := by kernel_rfl
theorem k29 : zok Try.prog 29 = true := by kernel_rfl
theorem z29 : zeroV Try.prog 29 = some (.agg [(.s (.int .u8 0)), (.s (.int .u8 0)), (.s (.int .u8 0)), (.s (.int .u8 0)), (.s (.int .u8 0)), (.s (.int .u8 0)), (.s (.slice none 0 0)), (.s (.slice none 0 0)), (.s (.slice none 0 0)), (.s (.slice none 0 0))]) := by kernel_rfl
theorem u31 : Try.prog.underlying 31 = some (.int .i64) := by kernel_rfl
theorem c31 : Try.prog.cellsOf 31 = 1 := by kernel_rfl
theorem b31 : Try.prog.bytesOf 31 = 8 := by kernel_rfl
theorem a31 : isAgg Try.prog 31 = some false := by kernel_rfl
theorem k31 : zok Try.prog 31 = true := by kernel_rfl
theorem z31 : zeroV Try.prog 31 = some (.s (.int .i64 0)) := by kernel_rfl
theorem u32 : Try.prog.underlying 32 = some (.int .i64) := by kernel_rfl
theorem c32 : Try.prog.cellsOf 32 = 1 := by kernel_rfl
theorem b32 : Try.prog.bytesOf 32 = 8 := by kernel_rfl
theorem a32 : isAgg Try.prog 32 = some false := by kernel_rfl
theorem k32 : zok Try.prog 32 = true := by kernel_rfl
theorem z32 : zeroV Try.prog 32 = some (.s (.int .i64 0)) := by kernel_rfl
theorem u35 : Try.prog.underlying 35 = some (.int .i64) := by kernel_rfl
theorem h35 : Try.prog.stoodInHeld 35 = false := by kernel_rfl
theorem c35 : Try.prog.cellsOf 35 = 1 := by kernel_rfl
theorem b35 : Try.prog.bytesOf 35 = 8 := by kernel_rfl
theorem a35 : isAgg Try.prog 35 = some false := by kernel_rfl
theorem k35 : zok Try.prog 35 = true := by kernel_rfl
theorem z35 : zeroV Try.prog 35 = some (.s (.int .i64 0)) := by kernel_rfl
theorem u36 : Try.prog.underlying 36 = some (.slice 3) := by kernel_rfl
theorem c36 : Try.prog.cellsOf 36 = 1 := by kernel_rfl
theorem b36 : Try.prog.bytesOf 36 = 24 := by kernel_rfl
theorem a36 : isAgg Try.prog 36 = some false := by kernel_rfl
theorem k36 : zok Try.prog 36 = true := by kernel_rfl
theorem z36 : zeroV Try.prog 36 = some (.s (.slice none 0 0)) := by kernel_rfl
theorem u38 : Try.prog.underlying 38 = some (.struct #[⟨ "VID", 3, 0, false, "", "", 0⟩, ⟨ "Ports", 36, 1, false, "", "", 8⟩]) := by kernel_rfl
theorem h38 : Try.prog.stoodInHeld 38 = false := by kernel_rfl
theorem c38 : Try.prog.cellsOf 38 = 2 := by kernel_rfl
theorem b38 : Try.prog.bytesOf 38 = 32 := by kernel_rfl
theorem a38 : isAgg Try.prog 38 = some true := by kernel_rfl
theorem k38 : zok Try.prog 38 = true := by kernel_rfl
theorem z38 : zeroV Try.prog 38 = some (.agg [(.s (.int .i64 0)), (.s (.slice none 0 0))]) := by kernel_rfl
theorem u40 : Try.prog.underlying 40 = some (.struct #[⟨ "Port", 3, 0, false, "", "", 0⟩, ⟨ "VID", 3, 1, false, "", "", 8⟩, ⟨ "ISID", 3, 2, false, "", "", 16⟩]) := by kernel_rfl
theorem h40 : Try.prog.stoodInHeld 40 = false := by kernel_rfl
theorem c40 : Try.prog.cellsOf 40 = 3 := by kernel_rfl
theorem b40 : Try.prog.bytesOf 40 = 24 := by kernel_rfl
theorem a40 : isAgg Try.prog 40 = some true := by kernel_rfl
theorem k40 : zok Try.prog 40 = true := by kernel_rfl
theorem z40 : zeroV Try.prog 40 = some (.agg [(.s (.int .i64 0)), (.s (.int .i64 0)), (.s (.int .i64 0))]) := by kernel_rfl
theorem u42 : Try.prog.underlying 42 = some (.struct #[⟨ "ISID", 3, 0, false, "", "", 0⟩, ⟨ "VID", 3, 1, false, "", "", 8⟩]) := by kernel_rfl
theorem h42 : Try.prog.stoodInHeld 42 = false := by kernel_rfl
theorem c42 : Try.prog.cellsOf 42 = 2 := by kernel_rfl
theorem b42 : Try.prog.bytesOf 42 = 16 := by kernel_rfl
theorem a42 : isAgg Try.prog 42 = some true := by kernel_rfl
theorem k42 : zok Try.prog 42 = true := by kernel_rfl
theorem z42 : zeroV Try.prog 42 = some (.agg [(.s (.int .i64 0)), (.s (.int .i64 0))]) := by kernel_rfl
theorem u43 : Try.prog.underlying 43 = some (.struct #[⟨ "VID", 3, 0, false, "", "", 0⟩, ⟨ "M", 23, 1, false, "", "", 8⟩, ⟨ "Port", 3, 7, false, "", "", 16⟩, ⟨ "Static", 4, 8, false, "", "", 24⟩, ⟨ "Seen", 3, 9, false, "", "", 32⟩]) := by kernel_rfl
theorem h43 : Try.prog.stoodInHeld 43 = false := by kernel_rfl
theorem c43 : Try.prog.cellsOf 43 = 10 := by kernel_rfl
theorem b43 : Try.prog.bytesOf 43 = 40 := by kernel_rfl
theorem u44 : Try.prog.underlying 44 = some (.struct #[⟨ "VID", 3, 0, false, "", "", 0⟩, ⟨ "M", 23, 1, false, "", "", 8⟩, ⟨ "Port", 3, 7, false, "", "", 16⟩, ⟨ "Static", 4, 8, false, "", "", 24⟩, ⟨ "Seen", 3, 9, false, "", "", 32⟩]) := by kernel_rfl
theorem h44 : Try.prog.stoodInHeld 44 = false := by kernel_rfl
theorem c44 : Try.prog.cellsOf 44 = 10 := by kernel_rfl
theorem b44 : Try.prog.bytesOf 44 = 40 := by kernel_rfl
theorem a44 : isAgg Try.prog 44 = some true := by kernel_rfl
theorem k44 : zok Try.prog 44 = true := by kernel_rfl
theorem z44 : zeroV Try.prog 44 = some (.agg [(.s (.int .i64 0)), (.s (.int .u8 0)), (.s (.int .u8 0)), (.s (.int .u8 0)), (.s (.int .u8 0)), (.s (.int .u8 0)), (.s (.int .u8 0)), (.s (.int .i64 0)), (.s (.bool false)), (.s (.int .i64 0))]) := by kernel_rfl
theorem u45 : Try.prog.underlying 45 = some (.int .u64) := by kernel_rfl
theorem h45 : Try.prog.stoodInHeld 45 = false := by kernel_rfl
theorem c45 : Try.prog.cellsOf 45 = 1 := by kernel_rfl
theorem b45 : Try.prog.bytesOf 45 = 8 := by kernel_rfl
theorem a45 : isAgg Try.prog 45 = some false := by kernel_rfl
theorem k45 : zok Try.prog 45 = true := by kernel_rfl
theorem z45 : zeroV Try.prog 45 = some (.s (.int .u64 0)) := by kernel_rfl
theorem u46 : Try.prog.underlying 46 = some (.int .u32) := by kernel_rfl
theorem c46 : Try.prog.cellsOf 46 = 1 := by kernel_rfl
theorem b46 : Try.prog.bytesOf 46 = 4 := by kernel_rfl
theorem a46 : isAgg Try.prog 46 = some false := by kernel_rfl
theorem k46 : zok Try.prog 46 = true := by kernel_rfl
theorem z46 : zeroV Try.prog 46 = some (.s (.int .u32 0)) := by kernel_rfl
theorem u48 : Try.prog.underlying 48 = some (.struct #[⟨ "Kind", 35, 0, false, "", "", 0⟩, ⟨ "Map", 40, 1, false, "", "", 8⟩, ⟨ "Carry", 42, 4, false, "", "", 32⟩, ⟨ "Member", 38, 6, false, "", "", 48⟩, ⟨ "Entry", 44, 8, false, "", "", 80⟩, ⟨ "ID", 45, 18, false, "", "", 120⟩, ⟨ "Port", 3, 19, false, "", "", 128⟩, ⟨ "Cost", 46, 20, false, "", "", 136⟩]) := by kernel_rfl
theorem c48 : Try.prog.cellsOf 48 = 21 := by kernel_rfl
theorem b48 : Try.prog.bytesOf 48 = 144 := by kernel_rfl
theorem a48 : isAgg Try.prog 48 = some true := by kernel_rfl
theorem k48 : zok Try.prog 48 = true := by kernel_rfl
theorem z48 : zeroV Try.prog 48 = some (.agg [(.s (.int .i64 0)), (.s (.int .i64 0)), (.s (.int .i64 0)), (.s (.int .i64 0)), (.s (.int .i64 0)), (.s (.int .i64 0)), (.s (.int .i64 0)), (.s (.slice none 0 0)), (.s (.int .i64 0)), (.s (.int .u8 0)), (.s (.int .u8 0)), (.s (.int .u8 0)), (.s (.int .u8 0)), (.s (.int .u8 0)), (.s (.int .u8 0)), (.s (.int .i64 0)), (.s (.bool false)), (.s (.int .i64 0)), (.s (.int .u64 0)), (.s (.int .i64 0)), (.s (.int .u32 0))]) := by kernel_rfl
theorem u55 : Try.prog.underlying 55 = some (.func #[40, 40] #[3] false) := by kernel_rfl
theorem u59 : Try.prog.underlying 59 = some (.func #[42, 42] #[3] false) := by kernel_rfl
theorem u64 : Try.prog.underlying 64 = some (.func #[36] #[36] false) := by kernel_rfl
theorem u65 : Try.prog.underlying 65 = some (.func #[38, 38] #[3] false) := by kernel_rfl
theorem u73 : Try.prog.underlying 73 = some (.int .i64) := by kernel_rfl
theorem c73 : Try.prog.cellsOf 73 = 1 := by kernel_rfl
theorem b73 : Try.prog.bytesOf 73 = 8 := by kernel_rfl
theorem a73 : isAgg Try.prog 73 = some false := by kernel_rfl
theorem k73 : zok Try.prog 73 = true := by kernel_rfl
theorem z73 : zeroV Try.prog 73 = some (.s (.int .i64 0)) := by kernel_rfl
theorem u80 : Try.prog.underlying 80 = some (.func #[31] #[4] false) := by kernel_rfl
theorem u84 : Try.prog.underlying 84 = some (.func #[38] #[4] false) := by kernel_rfl
theorem u86 : Try.prog.underlying 86 = some (.func #[42] #[4] false) := by kernel_rfl
theorem u88 : Try.prog.underlying 88 = some (.func #[40] #[4] false) := by kernel_rfl
theorem u94 : Try.prog.underlying 94 = some (.func #[3, 3] #[3] false) := by kernel_rfl
theorem u106 : Try.prog.underlying 106 = some (.array 5 5) := by kernel_rfl
theorem h106 : Try.prog.stoodInHeld 106 = false := by kernel_rfl
theorem c106 : Try.prog.cellsOf 106 = 5 := by kernel_rfl
theorem b106 : Try.prog.bytesOf 106 = 5 := by kernel_rfl
theorem a106 : isAgg Try.prog 106 = some true := by kernel_rfl
theorem k106 : zok Try.prog 106 = true := by kernel_rfl
theorem z106 : zeroV Try.prog 106 = some (.agg [(.s (.int .u8 0)), (.s (.int .u8 0)), (.s (.int .u8 0)), (.s (.int .u8 0)), (.s (.int .u8 0))]) := by kernel_rfl
theorem u108 : Try.prog.underlying 108 = some (.array 3 5) := by kernel_rfl
theorem h108 : Try.prog.stoodInHeld 108 = false := by kernel_rfl
theorem c108 : Try.prog.cellsOf 108 = 3 := by kernel_rfl
theorem b108 : Try.prog.bytesOf 108 = 3 := by kernel_rfl
theorem a108 : isAgg Try.prog 108 = some true := by kernel_rfl
theorem k108 : zok Try.prog 108 = true := by kernel_rfl
theorem z108 : zeroV Try.prog 108 = some (.agg [(.s (.int .u8 0)), (.s (.int .u8 0)), (.s (.int .u8 0))]) := by kernel_rfl
theorem u115 : Try.prog.underlying 115 = some (.int .u64) := by kernel_rfl
theorem c115 : Try.prog.cellsOf 115 = 1 := by kernel_rfl
theorem b115 : Try.prog.bytesOf 115 = 8 := by kernel_rfl
theorem a115 : isAgg Try.prog 115 = some false := by kernel_rfl
theorem k115 : zok Try.prog 115 = true := by kernel_rfl
theorem z115 : zeroV Try.prog 115 = some (.s (.int .u64 0)) := by kernel_rfl
theorem l23 : leafK Try.prog 20 23 = some [.i, .i, .i, .i, .i, .i] := by simp [leafK, leafKs, tiles, List.replicate, u23, c23, h23, u5, c5, h5]
theorem l40 : leafK Try.prog 20 40 = some [.i, .i, .i] := by simp [leafK, leafKs, tiles, List.replicate, u40, c40, h40, u3, c3, h3]
theorem l42 : leafK Try.prog 20 42 = some [.i, .i] := by simp [leafK, leafKs, tiles, List.replicate, u42, c42, h42, u3, c3, h3]
theorem l43 : leafK Try.prog 20 43 = some [.i, .i, .i, .i, .i, .i, .i, .i, .b, .i] := by simp [leafK, leafKs, tiles, List.replicate, u43, c43, h43, u3, c3, h3, u23, c23, h23, u5, c5, h5, u4, c4, h4]
theorem l44 : leafK Try.prog 20 44 = some [.i, .i, .i, .i, .i, .i, .i, .i, .b, .i] := by simp [leafK, leafKs, tiles, List.replicate, u44, c44, h44, u3, c3, h3, u23, c23, h23, u5, c5, h5, u4, c4, h4]
theorem l106 : leafK Try.prog 20 106 = some [.i, .i, .i, .i, .i] := by simp [leafK, leafKs, tiles, List.replicate, u106, c106, h106, u5, c5, h5]
theorem l108 : leafK Try.prog 20 108 = some [.i, .i, .i] := by simp [leafK, leafKs, tiles, List.replicate, u108, c108, h108, u5, c5, h5]
theorem FT3 : (type_of% @u3) ∧ (type_of% @c3) ∧ (type_of% @b3) ∧ (type_of% @a3) ∧ (type_of% @k3) ∧ (type_of% @z3) := ⟨@u3, @c3, @b3, @a3, @k3, @z3⟩
theorem FT4 : (type_of% @u4) ∧ (type_of% @c4) ∧ (type_of% @b4) ∧ (type_of% @a4) ∧ (type_of% @k4) ∧ (type_of% @z4) := ⟨@u4, @c4, @b4, @a4, @k4, @z4⟩
theorem FT5 : (type_of% @u5) ∧ (type_of% @c5) ∧ (type_of% @b5) ∧ (type_of% @a5) ∧ (type_of% @k5) ∧ (type_of% @z5) := ⟨@u5, @c5, @b5, @a5, @k5, @z5⟩
theorem FT23 : (type_of% @u23) ∧ (type_of% @c23) ∧ (type_of% @b23) ∧ (type_of% @a23) ∧ (type_of% @k23) ∧ (type_of% @z23) ∧ (type_of% @l23) := ⟨@u23, @c23, @b23, @a23, @k23, @z23, @l23⟩
theorem FT24 : (type_of% @u24) ∧ (type_of% @c24) ∧ (type_of% @b24) ∧ (type_of% @a24) ∧ (type_of% @k24) ∧ (type_of% @z24) := ⟨@u24, @c24, @b24, @a24, @k24, @z24⟩
theorem FT25 : (type_of% @u25) ∧ (type_of% @c25) ∧ (type_of% @b25) ∧ (type_of% @a25) ∧ (type_of% @k25) ∧ (type_of% @z25) := ⟨@u25, @c25, @b25, @a25, @k25, @z25⟩
theorem FT26 : (type_of% @u26) ∧ (type_of% @c26) ∧ (type_of% @b26) ∧ (type_of% @a26) ∧ (type_of% @k26) ∧ (type_of% @z26) := ⟨@u26, @c26, @b26, @a26, @k26, @z26⟩
theorem FT27 : (type_of% @u27) ∧ (type_of% @c27) ∧ (type_of% @b27) ∧ (type_of% @a27) ∧ (type_of% @k27) ∧ (type_of% @z27) := ⟨@u27, @c27, @b27, @a27, @k27, @z27⟩
theorem FT29 : (type_of% @u29) ∧ (type_of% @c29) ∧ (type_of% @b29) ∧ (type_of% @a29) ∧ (type_of% @k29) ∧ (type_of% @z29) := ⟨@u29, @c29, @b29, @a29, @k29, @z29⟩
theorem FT31 : (type_of% @u31) ∧ (type_of% @c31) ∧ (type_of% @b31) ∧ (type_of% @a31) ∧ (type_of% @k31) ∧ (type_of% @z31) := ⟨@u31, @c31, @b31, @a31, @k31, @z31⟩
theorem FT32 : (type_of% @u32) ∧ (type_of% @c32) ∧ (type_of% @b32) ∧ (type_of% @a32) ∧ (type_of% @k32) ∧ (type_of% @z32) := ⟨@u32, @c32, @b32, @a32, @k32, @z32⟩
theorem FT35 : (type_of% @u35) ∧ (type_of% @c35) ∧ (type_of% @b35) ∧ (type_of% @a35) ∧ (type_of% @k35) ∧ (type_of% @z35) := ⟨@u35, @c35, @b35, @a35, @k35, @z35⟩
theorem FT36 : (type_of% @u36) ∧ (type_of% @c36) ∧ (type_of% @b36) ∧ (type_of% @a36) ∧ (type_of% @k36) ∧ (type_of% @z36) := ⟨@u36, @c36, @b36, @a36, @k36, @z36⟩
theorem FT38 : (type_of% @u38) ∧ (type_of% @c38) ∧ (type_of% @b38) ∧ (type_of% @a38) ∧ (type_of% @k38) ∧ (type_of% @z38) := ⟨@u38, @c38, @b38, @a38, @k38, @z38⟩
theorem FT40 : (type_of% @u40) ∧ (type_of% @c40) ∧ (type_of% @b40) ∧ (type_of% @a40) ∧ (type_of% @k40) ∧ (type_of% @z40) ∧ (type_of% @l40) := ⟨@u40, @c40, @b40, @a40, @k40, @z40, @l40⟩
theorem FT42 : (type_of% @u42) ∧ (type_of% @c42) ∧ (type_of% @b42) ∧ (type_of% @a42) ∧ (type_of% @k42) ∧ (type_of% @z42) ∧ (type_of% @l42) := ⟨@u42, @c42, @b42, @a42, @k42, @z42, @l42⟩
theorem FT44 : (type_of% @u44) ∧ (type_of% @c44) ∧ (type_of% @b44) ∧ (type_of% @a44) ∧ (type_of% @k44) ∧ (type_of% @z44) ∧ (type_of% @l44) := ⟨@u44, @c44, @b44, @a44, @k44, @z44, @l44⟩
theorem FT45 : (type_of% @u45) ∧ (type_of% @c45) ∧ (type_of% @b45) ∧ (type_of% @a45) ∧ (type_of% @k45) ∧ (type_of% @z45) := ⟨@u45, @c45, @b45, @a45, @k45, @z45⟩
theorem FT46 : (type_of% @u46) ∧ (type_of% @c46) ∧ (type_of% @b46) ∧ (type_of% @a46) ∧ (type_of% @k46) ∧ (type_of% @z46) := ⟨@u46, @c46, @b46, @a46, @k46, @z46⟩
theorem FT48 : (type_of% @u48) ∧ (type_of% @c48) ∧ (type_of% @b48) ∧ (type_of% @a48) ∧ (type_of% @k48) ∧ (type_of% @z48) := ⟨@u48, @c48, @b48, @a48, @k48, @z48⟩
theorem FT55 : (type_of% @u55) := @u55
theorem FT59 : (type_of% @u59) := @u59
theorem FT65 : (type_of% @u65) := @u65
theorem FT73 : (type_of% @u73) ∧ (type_of% @c73) ∧ (type_of% @b73) ∧ (type_of% @a73) ∧ (type_of% @k73) ∧ (type_of% @z73) := ⟨@u73, @c73, @b73, @a73, @k73, @z73⟩
theorem FT80 : (type_of% @u80) := @u80
theorem FT84 : (type_of% @u84) := @u84
theorem FT86 : (type_of% @u86) := @u86
theorem FT88 : (type_of% @u88) := @u88
theorem FT94 : (type_of% @u94) := @u94
theorem FT106 : (type_of% @u106) ∧ (type_of% @c106) ∧ (type_of% @b106) ∧ (type_of% @a106) ∧ (type_of% @k106) ∧ (type_of% @z106) ∧ (type_of% @l106) := ⟨@u106, @c106, @b106, @a106, @k106, @z106, @l106⟩
theorem FT108 : (type_of% @u108) ∧ (type_of% @c108) ∧ (type_of% @b108) ∧ (type_of% @a108) ∧ (type_of% @k108) ∧ (type_of% @z108) ∧ (type_of% @l108) := ⟨@u108, @c108, @b108, @a108, @k108, @z108, @l108⟩
theorem FT115 : (type_of% @u115) ∧ (type_of% @c115) ∧ (type_of% @b115) ∧ (type_of% @a115) ∧ (type_of% @k115) ∧ (type_of% @z115) := ⟨@u115, @c115, @b115, @a115, @k115, @z115⟩
end Go.Ai

set_option linter.unusedVariables false
set_option maxRecDepth 100000
namespace Go.Proofs.Ytbiolkmddpkheaa
open Go.ChangeShapes Go.WideShapes Go.ChangeAt Go.RowKit Go.Ai
theorem own : ownKnob Try.prog.godebug = none := by kernel_rfl
theorem laidOut : laidOutB Try.prog = true := by kernel_rfl
end Go.Proofs.Ytbiolkmddpkheaa
