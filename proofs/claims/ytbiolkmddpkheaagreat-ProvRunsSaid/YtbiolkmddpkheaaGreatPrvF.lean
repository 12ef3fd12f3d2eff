/- Contracts of functions of the loaded program: called with data in the ranges that each names, it returns this value and writes to no old memory. -/
import Derived.Test.YtbiolkmddpkheaaGreatAiR
import Derived.Test.YtbiolkmddpkheaaGreatChecked
set_option maxRecDepth 100000
set_option linter.unusedSimpArgs false
namespace Go.Ai
open Go.Proofs
theorem orders : Tryz.prog.follows .mixedOrders = true := by kernel_rfl
theorem u1 : Tryz.prog.underlying 1 = some (.func #[] #[] false) := by kernel_rfl
theorem u2 : Tryz.prog.underlying 2 = some (.int .i64) := by kernel_rfl
theorem h2 : Tryz.prog.stoodInHeld 2 = false := by kernel_rfl
theorem c2 : Tryz.prog.cellsOf 2 = 1 := by kernel_rfl
theorem b2 : Tryz.prog.bytesOf 2 = 8 := by kernel_rfl
theorem a2 : isAgg Tryz.prog 2 = some false := by kernel_rfl
theorem k2 : zok Tryz.prog 2 = true := by kernel_rfl
theorem u3 : Tryz.prog.underlying 3 = some (.int .i64) := by kernel_rfl
theorem h3 : Tryz.prog.stoodInHeld 3 = false := by kernel_rfl
theorem c3 : Tryz.prog.cellsOf 3 = 1 := by kernel_rfl
theorem b3 : Tryz.prog.bytesOf 3 = 8 := by kernel_rfl
theorem a3 : isAgg Tryz.prog 3 = some false := by kernel_rfl
theorem k3 : zok Tryz.prog 3 = true := by kernel_rfl
theorem z3 : zeroV Tryz.prog 3 = some (.s (.int .i64 0)) := by kernel_rfl
theorem u4 : Tryz.prog.underlying 4 = some .bool := by kernel_rfl
theorem h4 : Tryz.prog.stoodInHeld 4 = false := by kernel_rfl
theorem c4 : Tryz.prog.cellsOf 4 = 1 := by kernel_rfl
theorem b4 : Tryz.prog.bytesOf 4 = 1 := by kernel_rfl
theorem a4 : isAgg Tryz.prog 4 = some false := by kernel_rfl
theorem k4 : zok Tryz.prog 4 = true := by kernel_rfl
theorem z4 : zeroV Tryz.prog 4 = some (.s (.bool false)) := by kernel_rfl
theorem u5 : Tryz.prog.underlying 5 = some (.int .u8) := by kernel_rfl
theorem h5 : Tryz.prog.stoodInHeld 5 = false := by kernel_rfl
theorem c5 : Tryz.prog.cellsOf 5 = 1 := by kernel_rfl
theorem b5 : Tryz.prog.bytesOf 5 = 1 := by kernel_rfl
theorem a5 : isAgg Tryz.prog 5 = some false := by kernel_rfl
theorem k5 : zok Tryz.prog 5 = true := by kernel_rfl
theorem z5 : zeroV Tryz.prog 5 = some (.s (.int .u8 0)) := by kernel_rfl
theorem h6 : Tryz.prog.stoodInHeld 6 = false := by kernel_rfl
theorem a6 : isAgg Tryz.prog 6 = some false := by kernel_rfl
theorem h7 : Tryz.prog.stoodInHeld 7 = false := by kernel_rfl
theorem u8 : Tryz.prog.underlying 8 = some (.struct #[⟨ "x", 2, 0, false, "", "runtime", 0⟩, ⟨ "y", 3, 1, false, "", "runtime", 8⟩, ⟨ "signed", 4, 2, false, "", "runtime", 16⟩, ⟨ "code", 6, 3, false, "", "runtime", 17⟩]) := by kernel_rfl
theorem h8 : Tryz.prog.stoodInHeld 8 = false := by kernel_rfl
theorem k8 : zok Tryz.prog 8 = true := by kernel_rfl
theorem h9 : Tryz.prog.stoodInHeld 9 = false := by kernel_rfl
theorem h11 : Tryz.prog.stoodInHeld 11 = false := by kernel_rfl
theorem u16 : Tryz.prog.underlying 16 = some (.pointer 158) := by kernel_rfl
theorem h18 : Tryz.prog.stoodInHeld 18 = true := by kernel_rfl
theorem h21 : Tryz.prog.stoodInHeld 21 = false := by kernel_rfl
theorem u23 : Tryz.prog.underlying 23 = some (.array 6 5) := by kernel_rfl
theorem h23 : Tryz.prog.stoodInHeld 23 = false := by kernel_rfl
theorem c23 : Tryz.prog.cellsOf 23 = 6 := by kernel_rfl
theorem b23 : Tryz.prog.bytesOf 23 = 6 := by kernel_rfl
theorem a23 : isAgg Tryz.prog 23 = some true := by kernel_rfl
theorem k23 : zok Tryz.prog 23 = true := by kernel_rfl
theorem z23 : zeroV Tryz.prog 23 = some (.agg [(.s (.int .u8 0)), (.s (.int .u8 0)), (.s (.int .u8 0)), (.s (.int .u8 0)), (.s (.int .u8 0)), (.s (.int .u8 0))]) := by kernel_rfl
theorem u24 : Tryz.prog.underlying 24 = some (.slice 59) := by kernel_rfl
theorem c24 : Tryz.prog.cellsOf 24 = 1 := by kernel_rfl
theorem b24 : Tryz.prog.bytesOf 24 = 24 := by kernel_rfl
theorem a24 : isAgg Tryz.prog 24 = some false := by kernel_rfl
theorem k24 : zok Tryz.prog 24 = true := by kernel_rfl
theorem z24 : zeroV Tryz.prog 24 = some (.s (.slice none 0 0)) := by kernel_rfl
theorem u25 : Tryz.prog.underlying 25 = some (.slice 32) := by kernel_rfl
theorem h25 : Tryz.prog.stoodInHeld 25 = false := by kernel_rfl
theorem c25 : Tryz.prog.cellsOf 25 = 1 := by kernel_rfl
theorem b25 : Tryz.prog.bytesOf 25 = 24 := by kernel_rfl
theorem a25 : isAgg Tryz.prog 25 = some false := by kernel_rfl
theorem k25 : zok Tryz.prog 25 = true := by kernel_rfl
theorem z25 : zeroV Tryz.prog 25 = some (.s (.slice none 0 0)) := by kernel_rfl
theorem u26 : Tryz.prog.underlying 26 = some (.slice 34) := by kernel_rfl
theorem c26 : Tryz.prog.cellsOf 26 = 1 := by kernel_rfl
theorem b26 : Tryz.prog.bytesOf 26 = 24 := by kernel_rfl
theorem a26 : isAgg Tryz.prog 26 = some false := by kernel_rfl
theorem k26 : zok Tryz.prog 26 = true := by kernel_rfl
theorem z26 : zeroV Tryz.prog 26 = some (.s (.slice none 0 0)) := by kernel_rfl
theorem u27 : Tryz.prog.underlying 27 = some (.slice 37) := by kernel_rfl
theorem c27 : Tryz.prog.cellsOf 27 = 1 := by kernel_rfl
theorem b27 : Tryz.prog.bytesOf 27 = 24 := by kernel_rfl
theorem a27 : isAgg Tryz.prog 27 = some false := by kernel_rfl
theorem k27 : zok Tryz.prog 27 = true := by kernel_rfl
theorem z27 : zeroV Tryz.prog 27 = some (.s (.slice none 0 0)) := by kernel_rfl
theorem u29 : Tryz.prog.underlying 29 = some (.struct #[⟨ "Own", 23, 0, false, "", "", 0⟩, ⟨ "Kinds", 24, 6, false, "", "", 8⟩, ⟨ "Maps", 25, 7, false, "", "", 32⟩, ⟨ "Carries", 26, 8, false, "", "", 56⟩, ⟨ "Members", 27, 9, false, "", "", 80⟩]) := by kernel_rfl
theorem c29 : Tryz.prog.cellsOf 29 = 10 := by kernel_rfl
theorem b29 : Tryz.prog.bytesOf 29 = 104 := by kernel_rfl
theorem a29 : isAgg Tryz.prog 29 = some true := by kernel_rfl
theorem k29 : zok Tryz.prog 29 = true := by kernel_rfl
theorem z29 : zeroV Tryz.prog 29 = some (.agg [(.s (.int .u8 0)), (.s (.int .u8 0)), (.s (.int .u8 0)), (.s (.int .u8 0)), (.s (.int .u8 0)), (.s (.int .u8 0)), (.s (.slice none 0 0)), (.s (.slice none 0 0)), (.s (.slice none 0 0)), (.s (.slice none 0 0))]) := by kernel_rfl
theorem u30 : Tryz.prog.underlying 30 = some (.int .i64) := by kernel_rfl
theorem c30 : Tryz.prog.cellsOf 30 = 1 := by kernel_rfl
theorem b30 : Tryz.prog.bytesOf 30 = 8 := by kernel_rfl
theorem a30 : isAgg Tryz.prog 30 = some false := by kernel_rfl
theorem k30 : zok Tryz.prog 30 = true := by kernel_rfl
theorem z30 : zeroV Tryz.prog 30 = some (.s (.int .i64 0)) := by kernel_rfl
theorem u32 : Tryz.prog.underlying 32 = some (.struct #[⟨ "Port", 3, 0, false, "", "", 0⟩, ⟨ "VID", 3, 1, false, "", "", 8⟩, ⟨ "ISID", 3, 2, false, "", "", 16⟩]) := by kernel_rfl
theorem h32 : Tryz.prog.stoodInHeld 32 = false := by kernel_rfl
theorem c32 : Tryz.prog.cellsOf 32 = 3 := by kernel_rfl
theorem b32 : Tryz.prog.bytesOf 32 = 24 := by kernel_rfl
theorem a32 : isAgg Tryz.prog 32 = some true := by kernel_rfl
theorem k32 : zok Tryz.prog 32 = true := by kernel_rfl
theorem z32 : zeroV Tryz.prog 32 = some (.agg [(.s (.int .i64 0)), (.s (.int .i64 0)), (.s (.int .i64 0))]) := by kernel_rfl
theorem u34 : Tryz.prog.underlying 34 = some (.struct #[⟨ "ISID", 3, 0, false, "", "", 0⟩, ⟨ "VID", 3, 1, false, "", "", 8⟩]) := by kernel_rfl
theorem h34 : Tryz.prog.stoodInHeld 34 = false := by kernel_rfl
theorem c34 : Tryz.prog.cellsOf 34 = 2 := by kernel_rfl
theorem b34 : Tryz.prog.bytesOf 34 = 16 := by kernel_rfl
theorem a34 : isAgg Tryz.prog 34 = some true := by kernel_rfl
theorem k34 : zok Tryz.prog 34 = true := by kernel_rfl
theorem z34 : zeroV Tryz.prog 34 = some (.agg [(.s (.int .i64 0)), (.s (.int .i64 0))]) := by kernel_rfl
theorem u35 : Tryz.prog.underlying 35 = some (.slice 3) := by kernel_rfl
theorem h35 : Tryz.prog.stoodInHeld 35 = false := by kernel_rfl
theorem c35 : Tryz.prog.cellsOf 35 = 1 := by kernel_rfl
theorem b35 : Tryz.prog.bytesOf 35 = 24 := by kernel_rfl
theorem a35 : isAgg Tryz.prog 35 = some false := by kernel_rfl
theorem k35 : zok Tryz.prog 35 = true := by kernel_rfl
theorem z35 : zeroV Tryz.prog 35 = some (.s (.slice none 0 0)) := by kernel_rfl
theorem u37 : Tryz.prog.underlying 37 = some (.struct #[⟨ "VID", 3, 0, false, "", "", 0⟩, ⟨ "Ports", 35, 1, false, "", "", 8⟩]) := by kernel_rfl
theorem c37 : Tryz.prog.cellsOf 37 = 2 := by kernel_rfl
theorem b37 : Tryz.prog.bytesOf 37 = 32 := by kernel_rfl
theorem a37 : isAgg Tryz.prog 37 = some true := by kernel_rfl
theorem k37 : zok Tryz.prog 37 = true := by kernel_rfl
theorem z37 : zeroV Tryz.prog 37 = some (.agg [(.s (.int .i64 0)), (.s (.slice none 0 0))]) := by kernel_rfl
theorem u38 : Tryz.prog.underlying 38 = some (.struct #[⟨ "VID", 3, 0, false, "", "", 0⟩, ⟨ "M", 23, 1, false, "", "", 8⟩, ⟨ "Port", 3, 7, false, "", "", 16⟩, ⟨ "Static", 4, 8, false, "", "", 24⟩, ⟨ "Seen", 3, 9, false, "", "", 32⟩]) := by kernel_rfl
theorem h38 : Tryz.prog.stoodInHeld 38 = false := by kernel_rfl
theorem c38 : Tryz.prog.cellsOf 38 = 10 := by kernel_rfl
theorem b38 : Tryz.prog.bytesOf 38 = 40 := by kernel_rfl
theorem u39 : Tryz.prog.underlying 39 = some (.struct #[⟨ "VID", 3, 0, false, "", "", 0⟩, ⟨ "M", 23, 1, false, "", "", 8⟩, ⟨ "Port", 3, 7, false, "", "", 16⟩, ⟨ "Static", 4, 8, false, "", "", 24⟩, ⟨ "Seen", 3, 9, false, "", "", 32⟩]) := by kernel_rfl
theorem h39 : Tryz.prog.stoodInHeld 39 = false := by kernel_rfl
theorem c39 : Tryz.prog.cellsOf 39 = 10 := by kernel_rfl
theorem b39 : Tryz.prog.bytesOf 39 = 40 := by kernel_rfl
theorem a39 : isAgg Tryz.prog 39 = some true := by kernel_rfl
theorem k39 : zok Tryz.prog 39 = true := by kernel_rfl
theorem z39 : zeroV Tryz.prog 39 = some (.agg [(.s (.int .i64 0)), (.s (.int .u8 0)), (.s (.int .u8 0)), (.s (.int .u8 0)), (.s (.int .u8 0)), (.s (.int .u8 0)), (.s (.int .u8 0)), (.s (.int .i64 0)), (.s (.bool false)), (.s (.int .i64 0))]) := by kernel_rfl
theorem u40 : Tryz.prog.underlying 40 = some (.int .u64) := by kernel_rfl
theorem h40 : Tryz.prog.stoodInHeld 40 = false := by kernel_rfl
theorem c40 : Tryz.prog.cellsOf 40 = 1 := by kernel_rfl
theorem b40 : Tryz.prog.bytesOf 40 = 8 := by kernel_rfl
theorem a40 : isAgg Tryz.prog 40 = some false := by kernel_rfl
theorem k40 : zok Tryz.prog 40 = true := by kernel_rfl
theorem z40 : zeroV Tryz.prog 40 = some (.s (.int .u64 0)) := by kernel_rfl
theorem u41 : Tryz.prog.underlying 41 = some (.int .u32) := by kernel_rfl
theorem c41 : Tryz.prog.cellsOf 41 = 1 := by kernel_rfl
theorem b41 : Tryz.prog.bytesOf 41 = 4 := by kernel_rfl
theorem a41 : isAgg Tryz.prog 41 = some false := by kernel_rfl
theorem k41 : zok Tryz.prog 41 = true := by kernel_rfl
theorem z41 : zeroV Tryz.prog 41 = some (.s (.int .u32 0)) := by kernel_rfl
theorem u43 : Tryz.prog.underlying 43 = some (.struct #[⟨ "Kind", 30, 0, false, "", "", 0⟩, ⟨ "Map", 32, 1, false, "", "", 8⟩, ⟨ "Carry", 34, 4, false, "", "", 32⟩, ⟨ "Member", 37, 6, false, "", "", 48⟩, ⟨ "Entry", 39, 8, false, "", "", 80⟩, ⟨ "ID", 40, 18, false, "", "", 120⟩, ⟨ "Port", 3, 19, false, "", "", 128⟩, ⟨ "Cost", 41, 20, false, "", "", 136⟩]) := by kernel_rfl
theorem h43 : Tryz.prog.stoodInHeld 43 = false := by kernel_rfl
theorem c43 : Tryz.prog.cellsOf 43 = 21 := by kernel_rfl
theorem b43 : Tryz.prog.bytesOf 43 = 144 := by kernel_rfl
theorem a43 : isAgg Tryz.prog 43 = some true := by kernel_rfl
theorem k43 : zok Tryz.prog 43 = true := by kernel_rfl
theorem z43 : zeroV Tryz.prog 43 = some (.agg [(.s (.int .i64 0)), (.s (.int .i64 0)), (.s (.int .i64 0)), (.s (.int .i64 0)), (.s (.int .i64 0)), (.s (.int .i64 0)), (.s (.int .i64 0)), (.s (.slice none 0 0)), (.s (.int .i64 0)), (.s (.int .u8 0)), (.s (.int .u8 0)), (.s (.int .u8 0)), (.s (.int .u8 0)), (.s (.int .u8 0)), (.s (.int .u8 0)), (.s (.int .i64 0)), (.s (.bool false)), (.s (.int .i64 0)), (.s (.int .u64 0)), (.s (.int .i64 0)), (.s (.int .u32 0))]) := by kernel_rfl
theorem u46 : Tryz.prog.underlying 46 = some (.int .i64) := by kernel_rfl
theorem c46 : Tryz.prog.cellsOf 46 = 1 := by kernel_rfl
theorem b46 : Tryz.prog.bytesOf 46 = 8 := by kernel_rfl
theorem a46 : isAgg Tryz.prog 46 = some false := by kernel_rfl
theorem k46 : zok Tryz.prog 46 = true := by kernel_rfl
theorem z46 : zeroV Tryz.prog 46 = some (.s (.int .i64 0)) := by kernel_rfl
theorem u52 : Tryz.prog.underlying 52 = some (.slice 43) := by kernel_rfl
theorem h52 : Tryz.prog.stoodInHeld 52 = false := by kernel_rfl
theorem c52 : Tryz.prog.cellsOf 52 = 1 := by kernel_rfl
theorem b52 : Tryz.prog.bytesOf 52 = 24 := by kernel_rfl
theorem a52 : isAgg Tryz.prog 52 = some false := by kernel_rfl
theorem k52 : zok Tryz.prog 52 = true := by kernel_rfl
theorem z52 : zeroV Tryz.prog 52 = some (.s (.slice none 0 0)) := by kernel_rfl
theorem u59 : Tryz.prog.underlying 59 = some (.int .i64) := by kernel_rfl
theorem c59 : Tryz.prog.cellsOf 59 = 1 := by kernel_rfl
theorem b59 : Tryz.prog.bytesOf 59 = 8 := by kernel_rfl
theorem a59 : isAgg Tryz.prog 59 = some false := by kernel_rfl
theorem k59 : zok Tryz.prog 59 = true := by kernel_rfl
theorem z59 : zeroV Tryz.prog 59 = some (.s (.int .i64 0)) := by kernel_rfl
theorem u64 : Tryz.prog.underlying 64 = some (.func #[35, 35] #[4] false) := by kernel_rfl
theorem u69 : Tryz.prog.underlying 69 = some (.func #[32, 32] #[3] false) := by kernel_rfl
theorem u73 : Tryz.prog.underlying 73 = some (.func #[34, 34] #[3] false) := by kernel_rfl
theorem u78 : Tryz.prog.underlying 78 = some (.func #[37, 37] #[3] false) := by kernel_rfl
theorem u85 : Tryz.prog.underlying 85 = some (.int .u64) := by kernel_rfl
theorem c85 : Tryz.prog.cellsOf 85 = 1 := by kernel_rfl
theorem b85 : Tryz.prog.bytesOf 85 = 8 := by kernel_rfl
theorem a85 : isAgg Tryz.prog 85 = some false := by kernel_rfl
theorem k85 : zok Tryz.prog 85 = true := by kernel_rfl
theorem z85 : zeroV Tryz.prog 85 = some (.s (.int .u64 0)) := by kernel_rfl
theorem u86 : Tryz.prog.underlying 86 = some (.int .i64) := by kernel_rfl
theorem c86 : Tryz.prog.cellsOf 86 = 1 := by kernel_rfl
theorem b86 : Tryz.prog.bytesOf 86 = 8 := by kernel_rfl
theorem a86 : isAgg Tryz.prog 86 = some false := by kernel_rfl
theorem k86 : zok Tryz.prog 86 = true := by kernel_rfl
theorem z86 : zeroV Tryz.prog 86 = some (.s (.int .i64 0)) := by kernel_rfl
theorem u93 : Tryz.prog.underlying 93 = some (.func #[59] #[4] false) := by kernel_rfl
theorem u97 : Tryz.prog.underlying 97 = some (.func #[37] #[4] false) := by kernel_rfl
theorem u99 : Tryz.prog.underlying 99 = some (.func #[34] #[4] false) := by kernel_rfl
theorem u101 : Tryz.prog.underlying 101 = some (.func #[32] #[4] false) := by kernel_rfl
theorem u123 : Tryz.prog.underlying 123 = some (.func #[3, 3] #[3] false) := by kernel_rfl
theorem u136 : Tryz.prog.underlying 136 = some (.array 5 5) := by kernel_rfl
theorem h136 : Tryz.prog.stoodInHeld 136 = false := by kernel_rfl
theorem c136 : Tryz.prog.cellsOf 136 = 5 := by kernel_rfl
theorem b136 : Tryz.prog.bytesOf 136 = 5 := by kernel_rfl
theorem a136 : isAgg Tryz.prog 136 = some true := by kernel_rfl
theorem k136 : zok Tryz.prog 136 = true := by kernel_rfl
theorem z136 : zeroV Tryz.prog 136 = some (.agg [(.s (.int .u8 0)), (.s (.int .u8 0)), (.s (.int .u8 0)), (.s (.int .u8 0)), (.s (.int .u8 0))]) := by kernel_rfl
theorem u138 : Tryz.prog.underlying 138 = some (.array 3 5) := by kernel_rfl
theorem h138 : Tryz.prog.stoodInHeld 138 = false := by kernel_rfl
theorem c138 : Tryz.prog.cellsOf 138 = 3 := by kernel_rfl
theorem b138 : Tryz.prog.bytesOf 138 = 3 := by kernel_rfl
theorem a138 : isAgg Tryz.prog 138 = some true := by kernel_rfl
theorem k138 : zok Tryz.prog 138 = true := by kernel_rfl
theorem z138 : zeroV Tryz.prog 138 = some (.agg [(.s (.int .u8 0)), (.s (.int .u8 0)), (.s (.int .u8 0))]) := by kernel_rfl
theorem l23 : leafK Tryz.prog 20 23 = some [.i, .i, .i, .i, .i, .i] := by simp [leafK, leafKs, tiles, List.replicate, u23, c23, h23, u5, c5, h5]
theorem l32 : leafK Tryz.prog 20 32 = some [.i, .i, .i] := by simp [leafK, leafKs, tiles, List.replicate, u32, c32, h32, u3, c3, h3]
theorem l34 : leafK Tryz.prog 20 34 = some [.i, .i] := by simp [leafK, leafKs, tiles, List.replicate, u34, c34, h34, u3, c3, h3]
theorem l38 : leafK Tryz.prog 20 38 = some [.i, .i, .i, .i, .i, .i, .i, .i, .b, .i] := by simp [leafK, leafKs, tiles, List.replicate, u38, c38, h38, u3, c3, h3, u23, c23, h23, u5, c5, h5, u4, c4, h4]
theorem l39 : leafK Tryz.prog 20 39 = some [.i, .i, .i, .i, .i, .i, .i, .i, .b, .i] := by simp [leafK, leafKs, tiles, List.replicate, u39, c39, h39, u3, c3, h3, u23, c23, h23, u5, c5, h5, u4, c4, h4]
theorem l136 : leafK Tryz.prog 20 136 = some [.i, .i, .i, .i, .i] := by simp [leafK, leafKs, tiles, List.replicate, u136, c136, h136, u5, c5, h5]
theorem l138 : leafK Tryz.prog 20 138 = some [.i, .i, .i] := by simp [leafK, leafKs, tiles, List.replicate, u138, c138, h138, u5, c5, h5]
theorem FT3 : (type_of% @u3) ∧ (type_of% @c3) ∧ (type_of% @b3) ∧ (type_of% @a3) ∧ (type_of% @k3) ∧ (type_of% @z3) := ⟨@u3, @c3, @b3, @a3, @k3, @z3⟩
theorem FT4 : (type_of% @u4) ∧ (type_of% @c4) ∧ (type_of% @b4) ∧ (type_of% @a4) ∧ (type_of% @k4) ∧ (type_of% @z4) := ⟨@u4, @c4, @b4, @a4, @k4, @z4⟩
theorem FT5 : (type_of% @u5) ∧ (type_of% @c5) ∧ (type_of% @b5) ∧ (type_of% @a5) ∧ (type_of% @k5) ∧ (type_of% @z5) := ⟨@u5, @c5, @b5, @a5, @k5, @z5⟩
theorem FT23 : (type_of% @u23) ∧ (type_of% @c23) ∧ (type_of% @b23) ∧ (type_of% @a23) ∧ (type_of% @k23) ∧ (type_of% @z23) ∧ (type_of% @l23) := ⟨@u23, @c23, @b23, @a23, @k23, @z23, @l23⟩
theorem FT24 : (type_of% @u24) ∧ (type_of% @c24) ∧ (type_of% @b24) ∧ (type_of% @a24) ∧ (type_of% @k24) ∧ (type_of% @z24) := ⟨@u24, @c24, @b24, @a24, @k24, @z24⟩
theorem FT25 : (type_of% @u25) ∧ (type_of% @c25) ∧ (type_of% @b25) ∧ (type_of% @a25) ∧ (type_of% @k25) ∧ (type_of% @z25) := ⟨@u25, @c25, @b25, @a25, @k25, @z25⟩
theorem FT26 : (type_of% @u26) ∧ (type_of% @c26) ∧ (type_of% @b26) ∧ (type_of% @a26) ∧ (type_of% @k26) ∧ (type_of% @z26) := ⟨@u26, @c26, @b26, @a26, @k26, @z26⟩
theorem FT27 : (type_of% @u27) ∧ (type_of% @c27) ∧ (type_of% @b27) ∧ (type_of% @a27) ∧ (type_of% @k27) ∧ (type_of% @z27) := ⟨@u27, @c27, @b27, @a27, @k27, @z27⟩
theorem FT29 : (type_of% @u29) ∧ (type_of% @c29) ∧ (type_of% @b29) ∧ (type_of% @a29) ∧ (type_of% @k29) ∧ (type_of% @z29) := ⟨@u29, @c29, @b29, @a29, @k29, @z29⟩
theorem FT30 : (type_of% @u30) ∧ (type_of% @c30) ∧ (type_of% @b30) ∧ (type_of% @a30) ∧ (type_of% @k30) ∧ (type_of% @z30) := ⟨@u30, @c30, @b30, @a30, @k30, @z30⟩
theorem FT32 : (type_of% @u32) ∧ (type_of% @c32) ∧ (type_of% @b32) ∧ (type_of% @a32) ∧ (type_of% @k32) ∧ (type_of% @z32) ∧ (type_of% @l32) := ⟨@u32, @c32, @b32, @a32, @k32, @z32, @l32⟩
theorem FT34 : (type_of% @u34) ∧ (type_of% @c34) ∧ (type_of% @b34) ∧ (type_of% @a34) ∧ (type_of% @k34) ∧ (type_of% @z34) ∧ (type_of% @l34) := ⟨@u34, @c34, @b34, @a34, @k34, @z34, @l34⟩
theorem FT35 : (type_of% @u35) ∧ (type_of% @c35) ∧ (type_of% @b35) ∧ (type_of% @a35) ∧ (type_of% @k35) ∧ (type_of% @z35) := ⟨@u35, @c35, @b35, @a35, @k35, @z35⟩
theorem FT37 : (type_of% @u37) ∧ (type_of% @c37) ∧ (type_of% @b37) ∧ (type_of% @a37) ∧ (type_of% @k37) ∧ (type_of% @z37) := ⟨@u37, @c37, @b37, @a37, @k37, @z37⟩
theorem FT39 : (type_of% @u39) ∧ (type_of% @c39) ∧ (type_of% @b39) ∧ (type_of% @a39) ∧ (type_of% @k39) ∧ (type_of% @z39) ∧ (type_of% @l39) := ⟨@u39, @c39, @b39, @a39, @k39, @z39, @l39⟩
theorem FT40 : (type_of% @u40) ∧ (type_of% @c40) ∧ (type_of% @b40) ∧ (type_of% @a40) ∧ (type_of% @k40) ∧ (type_of% @z40) := ⟨@u40, @c40, @b40, @a40, @k40, @z40⟩
theorem FT41 : (type_of% @u41) ∧ (type_of% @c41) ∧ (type_of% @b41) ∧ (type_of% @a41) ∧ (type_of% @k41) ∧ (type_of% @z41) := ⟨@u41, @c41, @b41, @a41, @k41, @z41⟩
theorem FT43 : (type_of% @u43) ∧ (type_of% @c43) ∧ (type_of% @b43) ∧ (type_of% @a43) ∧ (type_of% @k43) ∧ (type_of% @z43) := ⟨@u43, @c43, @b43, @a43, @k43, @z43⟩
theorem FT46 : (type_of% @u46) ∧ (type_of% @c46) ∧ (type_of% @b46) ∧ (type_of% @a46) ∧ (type_of% @k46) ∧ (type_of% @z46) := ⟨@u46, @c46, @b46, @a46, @k46, @z46⟩
theorem FT52 : (type_of% @u52) ∧ (type_of% @c52) ∧ (type_of% @b52) ∧ (type_of% @a52) ∧ (type_of% @k52) ∧ (type_of% @z52) := ⟨@u52, @c52, @b52, @a52, @k52, @z52⟩
theorem FT59 : (type_of% @u59) ∧ (type_of% @c59) ∧ (type_of% @b59) ∧ (type_of% @a59) ∧ (type_of% @k59) ∧ (type_of% @z59) := ⟨@u59, @c59, @b59, @a59, @k59, @z59⟩
theorem FT69 : (type_of% @u69) := @u69
theorem FT73 : (type_of% @u73) := @u73
theorem FT78 : (type_of% @u78) := @u78
theorem FT85 : (type_of% @u85) ∧ (type_of% @c85) ∧ (type_of% @b85) ∧ (type_of% @a85) ∧ (type_of% @k85) ∧ (type_of% @z85) := ⟨@u85, @c85, @b85, @a85, @k85, @z85⟩
theorem FT86 : (type_of% @u86) ∧ (type_of% @c86) ∧ (type_of% @b86) ∧ (type_of% @a86) ∧ (type_of% @k86) ∧ (type_of% @z86) := ⟨@u86, @c86, @b86, @a86, @k86, @z86⟩
theorem FT93 : (type_of% @u93) := @u93
theorem FT97 : (type_of% @u97) := @u97
theorem FT99 : (type_of% @u99) := @u99
theorem FT101 : (type_of% @u101) := @u101
theorem FT123 : (type_of% @u123) := @u123
theorem FT136 : (type_of% @u136) ∧ (type_of% @c136) ∧ (type_of% @b136) ∧ (type_of% @a136) ∧ (type_of% @k136) ∧ (type_of% @z136) ∧ (type_of% @l136) := ⟨@u136, @c136, @b136, @a136, @k136, @z136, @l136⟩
theorem FT138 : (type_of% @u138) ∧ (type_of% @c138) ∧ (type_of% @b138) ∧ (type_of% @a138) ∧ (type_of% @k138) ∧ (type_of% @z138) ∧ (type_of% @l138) := ⟨@u138, @c138, @b138, @a138, @k138, @z138, @l138⟩
end Go.Ai
