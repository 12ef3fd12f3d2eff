/- Contracts of functions of the loaded program: called with data in the ranges that each names, it returns this value and writes to no old memory. -/
import Derived.Test.YtdojjjjhbgkpfaaAiR
import Derived.Test.YtdojjjjhbgkpfaaChecked
set_option maxRecDepth 100000
set_option linter.unusedSimpArgs false
namespace Go.Ai
open Go.Proofs
theorem orders : Try.prog.follows .mixedOrders = true := by kernel_rfl
theorem u1 : Try.prog.underlying 1 = some (.func #[] #[] false) := by kernel_rfl
theorem u2 : Try.prog.underlying 2 = some (.int .i64) := by kernel_rfl
theorem h2 : Try.prog.stoodInHeld 2 = false := by kernel_rfl
theorem c2 : Try.prog.cellsOf 2 = 1 := by kernel_rfl
theorem b2 : Try.prog.bytesOf 2 = 8 := by kernel_rfl
theorem a2 : isAgg Try.prog 2 = some false := by kernel_rfl
theorem k2 : zok Try.prog 2 = true := by kernel_rfl
theorem u3 : Try.prog.underlying 3 = some (.int .i64) := by kernel_rfl
theorem h3 : Try.prog.stoodInHeld 3 = false := by kernel_rfl
theorem c3 : Try.prog.cellsOf 3 = 1 := by kernel_rfl
theorem b3 : Try.prog.bytesOf 3 = 8 := by kernel_rfl
theorem a3 : isAgg Try.prog 3 = some false := by kernel_rfl
theorem k3 : zok Try.prog 3 = true := by kernel_rfl
theorem z3 : zeroV Try.prog 3 = some (.s (.int .i64 0)) := by kernel_rfl
theorem u4 : Try.prog.underlying 4 = some .bool := by kernel_rfl
theorem h4 : Try.prog.stoodInHeld 4 = false := by kernel_rfl
theorem c4 : Try.prog.cellsOf 4 = 1 := by kernel_rfl
theorem b4 : Try.prog.bytesOf 4 = 1 := by kernel_rfl
theorem a4 : isAgg Try.prog 4 = some false := by kernel_rfl
theorem k4 : zok Try.prog 4 = true := by kernel_rfl
theorem z4 : zeroV Try.prog 4 = some (.s (.bool false)) := by kernel_rfl
theorem u5 : Try.prog.underlying 5 = some (.int .u8) := by kernel_rfl
theorem h5 : Try.prog.stoodInHeld 5 = false := by kernel_rfl
theorem c5 : Try.prog.cellsOf 5 = 1 := by kernel_rfl
theorem b5 : Try.prog.bytesOf 5 = 1 := by kernel_rfl
theorem a5 : isAgg Try.prog 5 = some false := by kernel_rfl
theorem k5 : zok Try.prog 5 = true := by kernel_rfl
theorem z5 : zeroV Try.prog 5 = some (.s (.int .u8 0)) := by kernel_rfl
theorem h6 : Try.prog.stoodInHeld 6 = false := by kernel_rfl
theorem b6 : Try.prog.bytesOf 6 = 1 := by kernel_rfl
theorem h7 : Try.prog.stoodInHeld 7 = false := by kernel_rfl
theorem u8 : Try.prog.underlying 8 = some (.struct #[⟨ "x", 2, 0, false, "", "runtime", 0⟩, ⟨ "y", 3, 1, false, "", "runtime", 8⟩, ⟨ "signed", 4, 2, false, "", "runtime", 16⟩, ⟨ "code", 6, 3, false, "", "runtime", 17⟩]) := by kernel_rfl
theorem h8 : Try.prog.stoodInHeld 8 = false := by kernel_rfl
theorem u9 : Try.prog.underlying 9 = some .string := by kernel_rfl
theorem h9 : Try.prog.stoodInHeld 9 = false := by kernel_rfl
theorem c9 : Try.prog.cellsOf 9 = 1 := by kernel_rfl
theorem b9 : Try.prog.bytesOf 9 = 16 := by kernel_rfl
theorem a9 : isAgg Try.prog 9 = some false := by kernel_rfl
theorem k9 : zok Try.prog 9 = true := by kernel_rfl
theorem z9 : zeroV Try.prog 9 = some (.s (.string ⟨#[]⟩)) := by kernel_rfl
theorem h11 : Try.prog.stoodInHeld 11 = false := by kernel_rfl
theorem u16 : Try.prog.underlying 16 = some (.pointer 168) := by kernel_rfl
theorem u22 : Try.prog.underlying 22 = some (.slice 84) := by kernel_rfl
theorem c22 : Try.prog.cellsOf 22 = 1 := by kernel_rfl
theorem b22 : Try.prog.bytesOf 22 = 24 := by kernel_rfl
theorem a22 : isAgg Try.prog 22 = some false := by kernel_rfl
theorem k22 : zok Try.prog 22 = true := by kernel_rfl
theorem z22 : zeroV Try.prog 22 = some (.s (.slice none 0 0)) := by kernel_rfl
theorem u23 : Try.prog.underlying 23 = some (.slice 5) := by kernel_rfl
theorem c23 : Try.prog.cellsOf 23 = 1 := by kernel_rfl
theorem b23 : Try.prog.bytesOf 23 = 24 := by kernel_rfl
theorem a23 : isAgg Try.prog 23 = some false := by kernel_rfl
theorem k23 : zok Try.prog 23 = true := by kernel_rfl
theorem z23 : zeroV Try.prog 23 = some (.s (.slice none 0 0)) := by kernel_rfl
theorem u26 : Try.prog.underlying 26 = some (.int .i64) := by kernel_rfl
theorem c26 : Try.prog.cellsOf 26 = 1 := by kernel_rfl
theorem b26 : Try.prog.bytesOf 26 = 8 := by kernel_rfl
theorem a26 : isAgg Try.prog 26 = some false := by kernel_rfl
theorem k26 : zok Try.prog 26 = true := by kernel_rfl
theorem z26 : zeroV Try.prog 26 = some (.s (.int .i64 0)) := by kernel_rfl
theorem u32 : Try.prog.underlying 32 = some (.func #[23] #[22, 26] false) := by kernel_rfl
theorem u39 : Try.prog.underlying 39 = some (.struct #[⟨ "Leave", 3, 0, false, "", "", 0⟩, ⟨ "All", 3, 1, false, "", "", 8⟩]) := by kernel_rfl
theorem h39 : Try.prog.stoodInHeld 39 = false := by kernel_rfl
theorem c39 : Try.prog.cellsOf 39 = 2 := by kernel_rfl
theorem b39 : Try.prog.bytesOf 39 = 16 := by kernel_rfl
theorem a39 : isAgg Try.prog 39 = some true := by kernel_rfl
theorem k39 : zok Try.prog 39 = true := by kernel_rfl
theorem z39 : zeroV Try.prog 39 = some (.agg [(.s (.int .i64 0)), (.s (.int .i64 0))]) := by kernel_rfl
theorem u40 : Try.prog.underlying 40 = some (.slice 3) := by kernel_rfl
theorem h40 : Try.prog.stoodInHeld 40 = false := by kernel_rfl
theorem c40 : Try.prog.cellsOf 40 = 1 := by kernel_rfl
theorem b40 : Try.prog.bytesOf 40 = 24 := by kernel_rfl
theorem a40 : isAgg Try.prog 40 = some false := by kernel_rfl
theorem k40 : zok Try.prog 40 = true := by kernel_rfl
theorem z40 : zeroV Try.prog 40 = some (.s (.slice none 0 0)) := by kernel_rfl
theorem u41 : Try.prog.underlying 41 = some (.pointer 79) := by kernel_rfl
theorem c41 : Try.prog.cellsOf 41 = 1 := by kernel_rfl
theorem b41 : Try.prog.bytesOf 41 = 8 := by kernel_rfl
theorem a41 : isAgg Try.prog 41 = some false := by kernel_rfl
theorem k41 : zok Try.prog 41 = true := by kernel_rfl
theorem z41 : zeroV Try.prog 41 = some (.s (.pointer none)) := by kernel_rfl
theorem u50 : Try.prog.underlying 50 = some (.slice 120) := by kernel_rfl
theorem h50 : Try.prog.stoodInHeld 50 = false := by kernel_rfl
theorem c50 : Try.prog.cellsOf 50 = 1 := by kernel_rfl
theorem b50 : Try.prog.bytesOf 50 = 24 := by kernel_rfl
theorem a50 : isAgg Try.prog 50 = some false := by kernel_rfl
theorem k50 : zok Try.prog 50 = true := by kernel_rfl
theorem z50 : zeroV Try.prog 50 = some (.s (.slice none 0 0)) := by kernel_rfl
theorem u52 : Try.prog.underlying 52 = some (.struct #[⟨ "C", 39, 0, false, "", "", 0⟩, ⟨ "V", 50, 2, false, "", "", 16⟩, ⟨ "Clock", 3, 3, false, "", "", 40⟩]) := by kernel_rfl
theorem c52 : Try.prog.cellsOf 52 = 4 := by kernel_rfl
theorem b52 : Try.prog.bytesOf 52 = 48 := by kernel_rfl
theorem a52 : isAgg Try.prog 52 = some true := by kernel_rfl
theorem k52 : zok Try.prog 52 = true := by kernel_rfl
theorem z52 : zeroV Try.prog 52 = some (.agg [(.s (.int .i64 0)), (.s (.int .i64 0)), (.s (.slice none 0 0)), (.s (.int .i64 0))]) := by kernel_rfl
theorem u64 : Try.prog.underlying 64 = some (.func #[52, 23] #[52, 3] false) := by kernel_rfl
theorem u77 : Try.prog.underlying 77 = some (.map 3 105) := by kernel_rfl
theorem c77 : Try.prog.cellsOf 77 = 1 := by kernel_rfl
theorem b77 : Try.prog.bytesOf 77 = 8 := by kernel_rfl
theorem a77 : isAgg Try.prog 77 = some false := by kernel_rfl
theorem k77 : zok Try.prog 77 = true := by kernel_rfl
theorem z77 : zeroV Try.prog 77 = some (.s (.map none)) := by kernel_rfl
theorem u79 : Try.prog.underlying 79 = some (.struct #[⟨ "c", 39, 0, false, "", "pontage/mvrp", 0⟩, ⟨ "l", 77, 2, false, "", "pontage/mvrp", 16⟩, ⟨ "clock", 3, 3, false, "", "pontage/mvrp", 24⟩]) := by kernel_rfl
theorem c79 : Try.prog.cellsOf 79 = 4 := by kernel_rfl
theorem b79 : Try.prog.bytesOf 79 = 32 := by kernel_rfl
theorem a79 : isAgg Try.prog 79 = some true := by kernel_rfl
theorem k79 : zok Try.prog 79 = true := by kernel_rfl
theorem z79 : zeroV Try.prog 79 = some (.agg [(.s (.int .i64 0)), (.s (.int .i64 0)), (.s (.map none)), (.s (.int .i64 0))]) := by kernel_rfl
theorem u82 : Try.prog.underlying 82 = some (.slice 91) := by kernel_rfl
theorem c82 : Try.prog.cellsOf 82 = 1 := by kernel_rfl
theorem b82 : Try.prog.bytesOf 82 = 24 := by kernel_rfl
theorem a82 : isAgg Try.prog 82 = some false := by kernel_rfl
theorem k82 : zok Try.prog 82 = true := by kernel_rfl
theorem z82 : zeroV Try.prog 82 = some (.s (.slice none 0 0)) := by kernel_rfl
theorem u84 : Try.prog.underlying 84 = some (.struct #[⟨ "All", 4, 0, false, "", "", 0⟩, ⟨ "First", 3, 1, false, "", "", 8⟩, ⟨ "L", 82, 2, false, "", "", 16⟩]) := by kernel_rfl
theorem c84 : Try.prog.cellsOf 84 = 3 := by kernel_rfl
theorem b84 : Try.prog.bytesOf 84 = 40 := by kernel_rfl
theorem a84 : isAgg Try.prog 84 = some true := by kernel_rfl
theorem k84 : zok Try.prog 84 = true := by kernel_rfl
theorem z84 : zeroV Try.prog 84 = some (.agg [(.s (.bool false)), (.s (.int .i64 0)), (.s (.slice none 0 0))]) := by kernel_rfl
theorem u86 : Try.prog.underlying 86 = some (.func #[84] #[4] false) := by kernel_rfl
theorem u89 : Try.prog.underlying 89 = some (.func #[125] #[] false) := by kernel_rfl
theorem u91 : Try.prog.underlying 91 = some (.int .i64) := by kernel_rfl
theorem h91 : Try.prog.stoodInHeld 91 = false := by kernel_rfl
theorem c91 : Try.prog.cellsOf 91 = 1 := by kernel_rfl
theorem b91 : Try.prog.bytesOf 91 = 8 := by kernel_rfl
theorem a91 : isAgg Try.prog 91 = some false := by kernel_rfl
theorem k91 : zok Try.prog 91 = true := by kernel_rfl
theorem z91 : zeroV Try.prog 91 = some (.s (.int .i64 0)) := by kernel_rfl
theorem u92 : Try.prog.underlying 92 = some (.array 3 91) := by kernel_rfl
theorem h92 : Try.prog.stoodInHeld 92 = false := by kernel_rfl
theorem c92 : Try.prog.cellsOf 92 = 3 := by kernel_rfl
theorem b92 : Try.prog.bytesOf 92 = 24 := by kernel_rfl
theorem a92 : isAgg Try.prog 92 = some true := by kernel_rfl
theorem k92 : zok Try.prog 92 = true := by kernel_rfl
theorem z92 : zeroV Try.prog 92 = some (.agg [(.s (.int .i64 0)), (.s (.int .i64 0)), (.s (.int .i64 0))]) := by kernel_rfl
theorem u96 : Try.prog.underlying 96 = some (.int .i64) := by kernel_rfl
theorem h96 : Try.prog.stoodInHeld 96 = false := by kernel_rfl
theorem c96 : Try.prog.cellsOf 96 = 1 := by kernel_rfl
theorem b96 : Try.prog.bytesOf 96 = 8 := by kernel_rfl
theorem a96 : isAgg Try.prog 96 = some false := by kernel_rfl
theorem k96 : zok Try.prog 96 = true := by kernel_rfl
theorem z96 : zeroV Try.prog 96 = some (.s (.int .i64 0)) := by kernel_rfl
theorem u99 : Try.prog.underlying 99 = some (.int .i64) := by kernel_rfl
theorem h99 : Try.prog.stoodInHeld 99 = false := by kernel_rfl
theorem c99 : Try.prog.cellsOf 99 = 1 := by kernel_rfl
theorem b99 : Try.prog.bytesOf 99 = 8 := by kernel_rfl
theorem a99 : isAgg Try.prog 99 = some false := by kernel_rfl
theorem k99 : zok Try.prog 99 = true := by kernel_rfl
theorem z99 : zeroV Try.prog 99 = some (.s (.int .i64 0)) := by kernel_rfl
theorem u100 : Try.prog.underlying 100 = some (.int .i64) := by kernel_rfl
theorem h100 : Try.prog.stoodInHeld 100 = false := by kernel_rfl
theorem c100 : Try.prog.cellsOf 100 = 1 := by kernel_rfl
theorem b100 : Try.prog.bytesOf 100 = 8 := by kernel_rfl
theorem a100 : isAgg Try.prog 100 = some false := by kernel_rfl
theorem k100 : zok Try.prog 100 = true := by kernel_rfl
theorem z100 : zeroV Try.prog 100 = some (.s (.int .i64 0)) := by kernel_rfl
theorem u102 : Try.prog.underlying 102 = some (.func #[3] #[4] false) := by kernel_rfl
theorem u105 : Try.prog.underlying 105 = some (.struct #[⟨ "a", 96, 0, false, "", "pontage/mvrp", 0⟩, ⟨ "r", 100, 1, false, "", "pontage/mvrp", 8⟩, ⟨ "timer", 3, 2, false, "", "pontage/mvrp", 16⟩]) := by kernel_rfl
theorem h105 : Try.prog.stoodInHeld 105 = false := by kernel_rfl
theorem c105 : Try.prog.cellsOf 105 = 3 := by kernel_rfl
theorem b105 : Try.prog.bytesOf 105 = 24 := by kernel_rfl
theorem a105 : isAgg Try.prog 105 = some true := by kernel_rfl
theorem k105 : zok Try.prog 105 = true := by kernel_rfl
theorem z105 : zeroV Try.prog 105 = some (.agg [(.s (.int .i64 0)), (.s (.int .i64 0)), (.s (.int .i64 0))]) := by kernel_rfl
theorem u118 : Try.prog.underlying 118 = some (.struct #[⟨ "VID", 3, 0, false, "", "", 0⟩, ⟨ "A", 96, 1, false, "", "", 8⟩, ⟨ "R", 100, 2, false, "", "", 16⟩]) := by kernel_rfl
theorem h118 : Try.prog.stoodInHeld 118 = false := by kernel_rfl
theorem c118 : Try.prog.cellsOf 118 = 3 := by kernel_rfl
theorem b118 : Try.prog.bytesOf 118 = 24 := by kernel_rfl
theorem a118 : isAgg Try.prog 118 = some true := by kernel_rfl
theorem k118 : zok Try.prog 118 = true := by kernel_rfl
theorem z118 : zeroV Try.prog 118 = some (.agg [(.s (.int .i64 0)), (.s (.int .i64 0)), (.s (.int .i64 0))]) := by kernel_rfl
theorem u120 : Try.prog.underlying 120 = some (.struct #[⟨ "Reg", 118, 0, false, "", "", 0⟩, ⟨ "Timer", 3, 3, false, "", "", 24⟩]) := by kernel_rfl
theorem h120 : Try.prog.stoodInHeld 120 = false := by kernel_rfl
theorem c120 : Try.prog.cellsOf 120 = 4 := by kernel_rfl
theorem b120 : Try.prog.bytesOf 120 = 32 := by kernel_rfl
theorem a120 : isAgg Try.prog 120 = some true := by kernel_rfl
theorem k120 : zok Try.prog 120 = true := by kernel_rfl
theorem z120 : zeroV Try.prog 120 = some (.agg [(.s (.int .i64 0)), (.s (.int .i64 0)), (.s (.int .i64 0)), (.s (.int .i64 0))]) := by kernel_rfl
theorem u123 : Try.prog.underlying 123 = some (.func #[91] #[4] false) := by kernel_rfl
theorem u124 : Try.prog.underlying 124 = some (.int .u64) := by kernel_rfl
theorem c124 : Try.prog.cellsOf 124 = 1 := by kernel_rfl
theorem b124 : Try.prog.bytesOf 124 = 8 := by kernel_rfl
theorem a124 : isAgg Try.prog 124 = some false := by kernel_rfl
theorem k124 : zok Try.prog 124 = true := by kernel_rfl
theorem z124 : zeroV Try.prog 124 = some (.s (.int .u64 0)) := by kernel_rfl
theorem u126 : Try.prog.underlying 126 = some (.array 3 3) := by kernel_rfl
theorem h126 : Try.prog.stoodInHeld 126 = false := by kernel_rfl
theorem c126 : Try.prog.cellsOf 126 = 3 := by kernel_rfl
theorem b126 : Try.prog.bytesOf 126 = 24 := by kernel_rfl
theorem a126 : isAgg Try.prog 126 = some true := by kernel_rfl
theorem k126 : zok Try.prog 126 = true := by kernel_rfl
theorem z126 : zeroV Try.prog 126 = some (.agg [(.s (.int .i64 0)), (.s (.int .i64 0)), (.s (.int .i64 0))]) := by kernel_rfl
theorem u131 : Try.prog.underlying 131 = some (.array 6 99) := by kernel_rfl
theorem h131 : Try.prog.stoodInHeld 131 = false := by kernel_rfl
theorem c131 : Try.prog.cellsOf 131 = 6 := by kernel_rfl
theorem b131 : Try.prog.bytesOf 131 = 48 := by kernel_rfl
theorem a131 : isAgg Try.prog 131 = some true := by kernel_rfl
theorem k131 : zok Try.prog 131 = true := by kernel_rfl
theorem z131 : zeroV Try.prog 131 = some (.agg [(.s (.int .i64 0)), (.s (.int .i64 0)), (.s (.int .i64 0)), (.s (.int .i64 0)), (.s (.int .i64 0)), (.s (.int .i64 0))]) := by kernel_rfl
theorem u143 : Try.prog.underlying 143 = some (.int .i64) := by kernel_rfl
theorem c143 : Try.prog.cellsOf 143 = 1 := by kernel_rfl
theorem b143 : Try.prog.bytesOf 143 = 8 := by kernel_rfl
theorem a143 : isAgg Try.prog 143 = some false := by kernel_rfl
theorem k143 : zok Try.prog 143 = true := by kernel_rfl
theorem z143 : zeroV Try.prog 143 = some (.s (.int .i64 0)) := by kernel_rfl
theorem u151 : Try.prog.underlying 151 = some (.int .u32) := by kernel_rfl
theorem c151 : Try.prog.cellsOf 151 = 1 := by kernel_rfl
theorem b151 : Try.prog.bytesOf 151 = 4 := by kernel_rfl
theorem a151 : isAgg Try.prog 151 = some false := by kernel_rfl
theorem k151 : zok Try.prog 151 = true := by kernel_rfl
theorem z151 : zeroV Try.prog 151 = some (.s (.int .u32 0)) := by kernel_rfl
theorem u153 : Try.prog.underlying 153 = some (.int .u64) := by kernel_rfl
theorem c153 : Try.prog.cellsOf 153 = 1 := by kernel_rfl
theorem b153 : Try.prog.bytesOf 153 = 8 := by kernel_rfl
theorem a153 : isAgg Try.prog 153 = some false := by kernel_rfl
theorem k153 : zok Try.prog 153 = true := by kernel_rfl
theorem z153 : zeroV Try.prog 153 = some (.s (.int .u64 0)) := by kernel_rfl
theorem l39 : leafK Try.prog 20 39 = some [.i, .i] := by simp [leafK, leafKs, tiles, List.replicate, u39, c39, h39, u3, c3, h3]
theorem l92 : leafK Try.prog 20 92 = some [.i, .i, .i] := by simp [leafK, leafKs, tiles, List.replicate, u92, c92, h92, u91, c91, h91]
theorem l105 : leafK Try.prog 20 105 = some [.i, .i, .i] := by simp [leafK, leafKs, tiles, List.replicate, u105, c105, h105, u96, c96, h96, u100, c100, h100, u3, c3, h3]
theorem l118 : leafK Try.prog 20 118 = some [.i, .i, .i] := by simp [leafK, leafKs, tiles, List.replicate, u118, c118, h118, u3, c3, h3, u96, c96, h96, u100, c100, h100]
theorem l120 : leafK Try.prog 20 120 = some [.i, .i, .i, .i] := by simp [leafK, leafKs, tiles, List.replicate, u120, c120, h120, u118, c118, h118, u3, c3, h3, u96, c96, h96, u100, c100, h100]
theorem l126 : leafK Try.prog 20 126 = some [.i, .i, .i] := by simp [leafK, leafKs, tiles, List.replicate, u126, c126, h126, u3, c3, h3]
theorem l131 : leafK Try.prog 20 131 = some [.i, .i, .i, .i, .i, .i] := by simp [leafK, leafKs, tiles, List.replicate, u131, c131, h131, u99, c99, h99]
theorem FT3 : (type_of% @u3) ∧ (type_of% @c3) ∧ (type_of% @b3) ∧ (type_of% @a3) ∧ (type_of% @k3) ∧ (type_of% @z3) := ⟨@u3, @c3, @b3, @a3, @k3, @z3⟩
theorem FT4 : (type_of% @u4) ∧ (type_of% @c4) ∧ (type_of% @b4) ∧ (type_of% @a4) ∧ (type_of% @k4) ∧ (type_of% @z4) := ⟨@u4, @c4, @b4, @a4, @k4, @z4⟩
theorem FT5 : (type_of% @u5) ∧ (type_of% @c5) ∧ (type_of% @b5) ∧ (type_of% @a5) ∧ (type_of% @k5) ∧ (type_of% @z5) := ⟨@u5, @c5, @b5, @a5, @k5, @z5⟩
theorem FT22 : (type_of% @u22) ∧ (type_of% @c22) ∧ (type_of% @b22) ∧ (type_of% @a22) ∧ (type_of% @k22) ∧ (type_of% @z22) := ⟨@u22, @c22, @b22, @a22, @k22, @z22⟩
theorem FT23 : (type_of% @u23) ∧ (type_of% @c23) ∧ (type_of% @b23) ∧ (type_of% @a23) ∧ (type_of% @k23) ∧ (type_of% @z23) := ⟨@u23, @c23, @b23, @a23, @k23, @z23⟩
theorem FT26 : (type_of% @u26) ∧ (type_of% @c26) ∧ (type_of% @b26) ∧ (type_of% @a26) ∧ (type_of% @k26) ∧ (type_of% @z26) := ⟨@u26, @c26, @b26, @a26, @k26, @z26⟩
theorem FT39 : (type_of% @u39) ∧ (type_of% @c39) ∧ (type_of% @b39) ∧ (type_of% @a39) ∧ (type_of% @k39) ∧ (type_of% @z39) ∧ (type_of% @l39) := ⟨@u39, @c39, @b39, @a39, @k39, @z39, @l39⟩
theorem FT40 : (type_of% @u40) ∧ (type_of% @c40) ∧ (type_of% @b40) ∧ (type_of% @a40) ∧ (type_of% @k40) ∧ (type_of% @z40) := ⟨@u40, @c40, @b40, @a40, @k40, @z40⟩
theorem FT41 : (type_of% @u41) ∧ (type_of% @c41) ∧ (type_of% @b41) ∧ (type_of% @a41) ∧ (type_of% @k41) ∧ (type_of% @z41) := ⟨@u41, @c41, @b41, @a41, @k41, @z41⟩
theorem FT50 : (type_of% @u50) ∧ (type_of% @c50) ∧ (type_of% @b50) ∧ (type_of% @a50) ∧ (type_of% @k50) ∧ (type_of% @z50) := ⟨@u50, @c50, @b50, @a50, @k50, @z50⟩
theorem FT52 : (type_of% @u52) ∧ (type_of% @c52) ∧ (type_of% @b52) ∧ (type_of% @a52) ∧ (type_of% @k52) ∧ (type_of% @z52) := ⟨@u52, @c52, @b52, @a52, @k52, @z52⟩
theorem FT77 : (type_of% @u77) ∧ (type_of% @c77) ∧ (type_of% @b77) ∧ (type_of% @a77) ∧ (type_of% @k77) ∧ (type_of% @z77) := ⟨@u77, @c77, @b77, @a77, @k77, @z77⟩
theorem FT79 : (type_of% @u79) ∧ (type_of% @c79) ∧ (type_of% @b79) ∧ (type_of% @a79) ∧ (type_of% @k79) ∧ (type_of% @z79) := ⟨@u79, @c79, @b79, @a79, @k79, @z79⟩
theorem FT82 : (type_of% @u82) ∧ (type_of% @c82) ∧ (type_of% @b82) ∧ (type_of% @a82) ∧ (type_of% @k82) ∧ (type_of% @z82) := ⟨@u82, @c82, @b82, @a82, @k82, @z82⟩
theorem FT84 : (type_of% @u84) ∧ (type_of% @c84) ∧ (type_of% @b84) ∧ (type_of% @a84) ∧ (type_of% @k84) ∧ (type_of% @z84) := ⟨@u84, @c84, @b84, @a84, @k84, @z84⟩
theorem FT91 : (type_of% @u91) ∧ (type_of% @c91) ∧ (type_of% @b91) ∧ (type_of% @a91) ∧ (type_of% @k91) ∧ (type_of% @z91) := ⟨@u91, @c91, @b91, @a91, @k91, @z91⟩
theorem FT96 : (type_of% @u96) ∧ (type_of% @c96) ∧ (type_of% @b96) ∧ (type_of% @a96) ∧ (type_of% @k96) ∧ (type_of% @z96) := ⟨@u96, @c96, @b96, @a96, @k96, @z96⟩
theorem FT99 : (type_of% @u99) ∧ (type_of% @c99) ∧ (type_of% @b99) ∧ (type_of% @a99) ∧ (type_of% @k99) ∧ (type_of% @z99) := ⟨@u99, @c99, @b99, @a99, @k99, @z99⟩
theorem FT100 : (type_of% @u100) ∧ (type_of% @c100) ∧ (type_of% @b100) ∧ (type_of% @a100) ∧ (type_of% @k100) ∧ (type_of% @z100) := ⟨@u100, @c100, @b100, @a100, @k100, @z100⟩
theorem FT102 : (type_of% @u102) := @u102
theorem FT105 : (type_of% @u105) ∧ (type_of% @c105) ∧ (type_of% @b105) ∧ (type_of% @a105) ∧ (type_of% @k105) ∧ (type_of% @z105) ∧ (type_of% @l105) := ⟨@u105, @c105, @b105, @a105, @k105, @z105, @l105⟩
theorem FT118 : (type_of% @u118) ∧ (type_of% @c118) ∧ (type_of% @b118) ∧ (type_of% @a118) ∧ (type_of% @k118) ∧ (type_of% @z118) ∧ (type_of% @l118) := ⟨@u118, @c118, @b118, @a118, @k118, @z118, @l118⟩
theorem FT120 : (type_of% @u120) ∧ (type_of% @c120) ∧ (type_of% @b120) ∧ (type_of% @a120) ∧ (type_of% @k120) ∧ (type_of% @z120) ∧ (type_of% @l120) := ⟨@u120, @c120, @b120, @a120, @k120, @z120, @l120⟩
theorem FT126 : (type_of% @u126) ∧ (type_of% @c126) ∧ (type_of% @b126) ∧ (type_of% @a126) ∧ (type_of% @k126) ∧ (type_of% @z126) ∧ (type_of% @l126) := ⟨@u126, @c126, @b126, @a126, @k126, @z126, @l126⟩
end Go.Ai
