/- Closed facts on the types of the loaded program, each by reckoning; no condition. -/
import Derived.Test.YtpadhpkplpiceaaChecked
import Derived.Test.YtpadhpkplpiceaaAiK
set_option maxRecDepth 100000
set_option linter.unusedSimpArgs false
namespace Go.Ai
open Go.Proofs

theorem orders : Try.prog.follows .mixedOrders = true := by kernel_rfl
theorem u0 : Try.prog.underlying 0 = some (.tuple #[]) := by kernel_rfl
theorem u1 : Try.prog.underlying 1 = some (.func #[] #[] false) := by kernel_rfl
theorem u2 : Try.prog.underlying 2 = some (.int .i64) := by kernel_rfl
theorem h2 : Try.prog.stoodInHeld 2 = false := by kernel_rfl
theorem c2 : Try.prog.cellsOf 2 = 1 := by kernel_rfl
theorem b2 : Try.prog.bytesOf 2 = 8 := by kernel_rfl
theorem a2 : isAgg Try.prog 2 = some false := by kernel_rfl
theorem k2 : zok Try.prog 2 = true := by kernel_rfl
theorem z2 : zeroV Try.prog 2 = some (.s (.int .i64 0)) := by kernel_rfl
theorem u3 : Try.prog.underlying 3 = some (.int .i64) := by kernel_rfl
theorem h3 : Try.prog.stoodInHeld 3 = false := by kernel_rfl
theorem c3 : Try.prog.cellsOf 3 = 1 := by kernel_rfl
theorem b3 : Try.prog.bytesOf 3 = 8 := by kernel_rfl
theorem a3 : isAgg Try.prog 3 = some false := by kernel_rfl
theorem k3 : zok Try.prog 3 = true := by kernel_rfl
theorem z3 : zeroV Try.prog 3 = some (.s (.int .i64 0)) := by kernel_rfl
theorem u4 : Try.prog.underlying 4 = some .bool := by kernel_rfl
theorem h4 : Try.prog.stoodInHeld 4 = false := by kernel_rfl
theorem c4 : Try.prog.cellsOf 4 = 1 := by kernel_rfl
theorem b4 : Try.prog.bytesOf 4 = 1 := by kernel_rfl
theorem a4 : isAgg Try.prog 4 = some false := by kernel_rfl
theorem k4 : zok Try.prog 4 = true := by kernel_rfl
theorem z4 : zeroV Try.prog 4 = some (.s (.bool false)) := by kernel_rfl
theorem u5 : Try.prog.underlying 5 = some (.int .u8) := by kernel_rfl
theorem h5 : Try.prog.stoodInHeld 5 = false := by kernel_rfl
theorem c5 : Try.prog.cellsOf 5 = 1 := by kernel_rfl
theorem b5 : Try.prog.bytesOf 5 = 1 := by kernel_rfl
theorem a5 : isAgg Try.prog 5 = some false := by kernel_rfl
theorem k5 : zok Try.prog 5 = true := by kernel_rfl
theorem z5 : zeroV Try.prog 5 = some (.s (.int .u8 0)) := by kernel_rfl
theorem u6 : Try.prog.underlying 6 = some (.int .u8) := by kernel_rfl
theorem h6 : Try.prog.stoodInHeld 6 = false := by kernel_rfl
theorem c6 : Try.prog.cellsOf 6 = 1 := by kernel_rfl
theorem b6 : Try.prog.bytesOf 6 = 1 := by kernel_rfl
theorem a6 : isAgg Try.prog 6 = some false := by kernel_rfl
theorem k6 : zok Try.prog 6 = true := by kernel_rfl
theorem z6 : zeroV Try.prog 6 = some (.s (.int .u8 0)) := by kernel_rfl
theorem u7 : Try.prog.underlying 7 = some (.struct #[⟨ "x", 2, 0, false, "", "runtime", 0⟩, ⟨ "y", 3, 1, false, "", "runtime", 8⟩, ⟨ "signed", 4, 2, false, "", "runtime", 16⟩, ⟨ "code", 6, 3, false, "", "runtime", 17⟩]) := by kernel_rfl
theorem h7 : Try.prog.stoodInHeld 7 = false := by kernel_rfl
theorem c7 : Try.prog.cellsOf 7 = 4 := by kernel_rfl
theorem b7 : Try.prog.bytesOf 7 = 24 := by kernel_rfl
theorem a7 : isAgg Try.prog 7 = some true := by kernel_rfl
theorem k7 : zok Try.prog 7 = true := by kernel_rfl
theorem z7 : zeroV Try.prog 7 = some (.agg [(.s (.int .i64 0)), (.s (.int .i64 0)), (.s (.bool false)), (.s (.int .u8 0))]) := by kernel_rfl
theorem u8 : Try.prog.underlying 8 = some (.struct #[⟨ "x", 2, 0, false, "", "runtime", 0⟩, ⟨ "y", 3, 1, false, "", "runtime", 8⟩, ⟨ "signed", 4, 2, false, "", "runtime", 16⟩, ⟨ "code", 6, 3, false, "", "runtime", 17⟩]) := by kernel_rfl
theorem h8 : Try.prog.stoodInHeld 8 = false := by kernel_rfl
theorem c8 : Try.prog.cellsOf 8 = 4 := by kernel_rfl
theorem b8 : Try.prog.bytesOf 8 = 24 := by kernel_rfl
theorem a8 : isAgg Try.prog 8 = some true := by kernel_rfl
theorem k8 : zok Try.prog 8 = true := by kernel_rfl
theorem z8 : zeroV Try.prog 8 = some (.agg [(.s (.int .i64 0)), (.s (.int .i64 0)), (.s (.bool false)), (.s (.int .u8 0))]) := by kernel_rfl
theorem u9 : Try.prog.underlying 9 = some .string := by kernel_rfl
theorem h9 : Try.prog.stoodInHeld 9 = false := by kernel_rfl
theorem c9 : Try.prog.cellsOf 9 = 1 := by kernel_rfl
theorem b9 : Try.prog.bytesOf 9 = 16 := by kernel_rfl
theorem a9 : isAgg Try.prog 9 = some false := by kernel_rfl
theorem k9 : zok Try.prog 9 = true := by kernel_rfl
theorem z9 : zeroV Try.prog 9 = some (.s (.string ⟨#[]⟩)) := by kernel_rfl
theorem u10 : Try.prog.underlying 10 = some .string := by kernel_rfl
theorem h10 : Try.prog.stoodInHeld 10 = false := by kernel_rfl
theorem c10 : Try.prog.cellsOf 10 = 1 := by kernel_rfl
theorem b10 : Try.prog.bytesOf 10 = 16 := by kernel_rfl
theorem a10 : isAgg Try.prog 10 = some false := by kernel_rfl
theorem k10 : zok Try.prog 10 = true := by kernel_rfl
theorem z10 : zeroV Try.prog 10 = some (.s (.string ⟨#[]⟩)) := by kernel_rfl
theorem u11 : Try.prog.underlying 11 = some .string := by kernel_rfl
theorem h11 : Try.prog.stoodInHeld 11 = false := by kernel_rfl
theorem c11 : Try.prog.cellsOf 11 = 1 := by kernel_rfl
theorem b11 : Try.prog.bytesOf 11 = 16 := by kernel_rfl
theorem a11 : isAgg Try.prog 11 = some false := by kernel_rfl
theorem k11 : zok Try.prog 11 = true := by kernel_rfl
theorem z11 : zeroV Try.prog 11 = some (.s (.string ⟨#[]⟩)) := by kernel_rfl
theorem u12 : Try.prog.underlying 12 = some (.int .u64) := by kernel_rfl
theorem h12 : Try.prog.stoodInHeld 12 = false := by kernel_rfl
theorem c12 : Try.prog.cellsOf 12 = 1 := by kernel_rfl
theorem b12 : Try.prog.bytesOf 12 = 8 := by kernel_rfl
theorem a12 : isAgg Try.prog 12 = some false := by kernel_rfl
theorem k12 : zok Try.prog 12 = true := by kernel_rfl
theorem z12 : zeroV Try.prog 12 = some (.s (.int .u64 0)) := by kernel_rfl
theorem u13 : Try.prog.underlying 13 = some (.struct #[⟨ "msg", 9, 0, false, "", "runtime", 0⟩, ⟨ "addr", 12, 1, false, "", "runtime", 16⟩]) := by kernel_rfl
theorem h13 : Try.prog.stoodInHeld 13 = true := by kernel_rfl
theorem c13 : Try.prog.cellsOf 13 = 2 := by kernel_rfl
theorem b13 : Try.prog.bytesOf 13 = 24 := by kernel_rfl
theorem a13 : isAgg Try.prog 13 = some true := by kernel_rfl
theorem k13 : zok Try.prog 13 = true := by kernel_rfl
theorem z13 : zeroV Try.prog 13 = some (.agg [(.s (.string ⟨#[]⟩)), (.s (.int .u64 0))]) := by kernel_rfl
theorem u14 : Try.prog.underlying 14 = some (.struct #[⟨ "msg", 9, 0, false, "", "runtime", 0⟩, ⟨ "addr", 12, 1, false, "", "runtime", 16⟩]) := by kernel_rfl
theorem h14 : Try.prog.stoodInHeld 14 = true := by kernel_rfl
theorem c14 : Try.prog.cellsOf 14 = 2 := by kernel_rfl
theorem b14 : Try.prog.bytesOf 14 = 24 := by kernel_rfl
theorem a14 : isAgg Try.prog 14 = some true := by kernel_rfl
theorem k14 : zok Try.prog 14 = true := by kernel_rfl
theorem z14 : zeroV Try.prog 14 = some (.agg [(.s (.string ⟨#[]⟩)), (.s (.int .u64 0))]) := by kernel_rfl
theorem u15 : Try.prog.underlying 15 = some (.pointer 123) := by kernel_rfl
theorem h15 : Try.prog.stoodInHeld 15 = false := by kernel_rfl
theorem c15 : Try.prog.cellsOf 15 = 1 := by kernel_rfl
theorem b15 : Try.prog.bytesOf 15 = 8 := by kernel_rfl
theorem a15 : isAgg Try.prog 15 = some false := by kernel_rfl
theorem k15 : zok Try.prog 15 = true := by kernel_rfl
theorem z15 : zeroV Try.prog 15 = some (.s (.pointer none)) := by kernel_rfl
theorem u16 : Try.prog.underlying 16 = some (.pointer 126) := by kernel_rfl
theorem h16 : Try.prog.stoodInHeld 16 = false := by kernel_rfl
theorem c16 : Try.prog.cellsOf 16 = 1 := by kernel_rfl
theorem b16 : Try.prog.bytesOf 16 = 8 := by kernel_rfl
theorem a16 : isAgg Try.prog 16 = some false := by kernel_rfl
theorem k16 : zok Try.prog 16 = true := by kernel_rfl
theorem z16 : zeroV Try.prog 16 = some (.s (.pointer none)) := by kernel_rfl
theorem u17 : Try.prog.underlying 17 = some (.pointer 134) := by kernel_rfl
theorem h17 : Try.prog.stoodInHeld 17 = false := by kernel_rfl
theorem c17 : Try.prog.cellsOf 17 = 1 := by kernel_rfl
theorem b17 : Try.prog.bytesOf 17 = 8 := by kernel_rfl
theorem a17 : isAgg Try.prog 17 = some false := by kernel_rfl
theorem k17 : zok Try.prog 17 = true := by kernel_rfl
theorem z17 : zeroV Try.prog 17 = some (.s (.pointer none)) := by kernel_rfl
theorem u18 : Try.prog.underlying 18 = some (.struct #[⟨ "typ", 17, 0, false, "", "internal/runtime/maps", 0⟩]) := by kernel_rfl
theorem h18 : Try.prog.stoodInHeld 18 = true := by kernel_rfl
theorem c18 : Try.prog.cellsOf 18 = 1 := by kernel_rfl
theorem b18 : Try.prog.bytesOf 18 = 8 := by kernel_rfl
theorem a18 : isAgg Try.prog 18 = some true := by kernel_rfl
theorem k18 : zok Try.prog 18 = true := by kernel_rfl
theorem z18 : zeroV Try.prog 18 = some (.agg [(.s (.pointer none))]) := by kernel_rfl
theorem u19 : Try.prog.underlying 19 = some (.struct #[⟨ "typ", 17, 0, false, "", "internal/runtime/maps", 0⟩]) := by kernel_rfl
theorem h19 : Try.prog.stoodInHeld 19 = true := by kernel_rfl
theorem c19 : Try.prog.cellsOf 19 = 1 := by kernel_rfl
theorem b19 : Try.prog.bytesOf 19 = 8 := by kernel_rfl
theorem a19 : isAgg Try.prog 19 = some true := by kernel_rfl
theorem k19 : zok Try.prog 19 = true := by kernel_rfl
theorem z19 : zeroV Try.prog 19 = some (.agg [(.s (.pointer none))]) := by kernel_rfl
theorem h20 : Try.prog.stoodInHeld 20 = false := by kernel_rfl
theorem c20 : Try.prog.cellsOf 20 = 1 := by kernel_rfl
theorem b20 : Try.prog.bytesOf 20 = 16 := by kernel_rfl
theorem a20 : isAgg Try.prog 20 = some false := by kernel_rfl
theorem k20 : zok Try.prog 20 = true := by kernel_rfl
theorem z20 : zeroV Try.prog 20 = some (.s .nilIface) := by kernel_rfl
theorem u21 : Try.prog.underlying 21 = some (.int .i32) := by kernel_rfl
theorem h21 : Try.prog.stoodInHeld 21 = false := by kernel_rfl
theorem c21 : Try.prog.cellsOf 21 = 1 := by kernel_rfl
theorem b21 : Try.prog.bytesOf 21 = 4 := by kernel_rfl
theorem a21 : isAgg Try.prog 21 = some false := by kernel_rfl
theorem k21 : zok Try.prog 21 = true := by kernel_rfl
theorem z21 : zeroV Try.prog 21 = some (.s (.int .i32 0)) := by kernel_rfl
theorem u22 : Try.prog.underlying 22 = some (.slice 5) := by kernel_rfl
theorem h22 : Try.prog.stoodInHeld 22 = false := by kernel_rfl
theorem c22 : Try.prog.cellsOf 22 = 1 := by kernel_rfl
theorem b22 : Try.prog.bytesOf 22 = 24 := by kernel_rfl
theorem a22 : isAgg Try.prog 22 = some false := by kernel_rfl
theorem k22 : zok Try.prog 22 = true := by kernel_rfl
theorem z22 : zeroV Try.prog 22 = some (.s (.slice none 0 0)) := by kernel_rfl
theorem u23 : Try.prog.underlying 23 = some (.pointer 60) := by kernel_rfl
theorem h23 : Try.prog.stoodInHeld 23 = false := by kernel_rfl
theorem c23 : Try.prog.cellsOf 23 = 1 := by kernel_rfl
theorem b23 : Try.prog.bytesOf 23 = 8 := by kernel_rfl
theorem a23 : isAgg Try.prog 23 = some false := by kernel_rfl
theorem k23 : zok Try.prog 23 = true := by kernel_rfl
theorem z23 : zeroV Try.prog 23 = some (.s (.pointer none)) := by kernel_rfl
theorem u24 : Try.prog.underlying 24 = some (.int .i64) := by kernel_rfl
theorem h24 : Try.prog.stoodInHeld 24 = false := by kernel_rfl
theorem c24 : Try.prog.cellsOf 24 = 1 := by kernel_rfl
theorem b24 : Try.prog.bytesOf 24 = 8 := by kernel_rfl
theorem a24 : isAgg Try.prog 24 = some false := by kernel_rfl
theorem k24 : zok Try.prog 24 = true := by kernel_rfl
theorem z24 : zeroV Try.prog 24 = some (.s (.int .i64 0)) := by kernel_rfl
theorem u25 : Try.prog.underlying 25 = some (.tuple #[23, 24]) := by kernel_rfl
theorem u26 : Try.prog.underlying 26 = some (.func #[3, 3] #[23, 24] false) := by kernel_rfl
theorem u27 : Try.prog.underlying 27 = some (.func #[] #[4] false) := by kernel_rfl
theorem u28 : Try.prog.underlying 28 = some (.slice 3) := by kernel_rfl
theorem h28 : Try.prog.stoodInHeld 28 = false := by kernel_rfl
theorem c28 : Try.prog.cellsOf 28 = 1 := by kernel_rfl
theorem b28 : Try.prog.bytesOf 28 = 24 := by kernel_rfl
theorem a28 : isAgg Try.prog 28 = some false := by kernel_rfl
theorem k28 : zok Try.prog 28 = true := by kernel_rfl
theorem z28 : zeroV Try.prog 28 = some (.s (.slice none 0 0)) := by kernel_rfl
theorem u29 : Try.prog.underlying 29 = some (.func #[3, 31, 31, 3] #[24] false) := by kernel_rfl
theorem u30 : Try.prog.underlying 30 = some (.array 6 5) := by kernel_rfl
theorem h30 : Try.prog.stoodInHeld 30 = false := by kernel_rfl
theorem c30 : Try.prog.cellsOf 30 = 6 := by kernel_rfl
theorem b30 : Try.prog.bytesOf 30 = 6 := by kernel_rfl
theorem a30 : isAgg Try.prog 30 = some true := by kernel_rfl
theorem k30 : zok Try.prog 30 = true := by kernel_rfl
theorem z30 : zeroV Try.prog 30 = some (.agg [(.s (.int .u8 0)), (.s (.int .u8 0)), (.s (.int .u8 0)), (.s (.int .u8 0)), (.s (.int .u8 0)), (.s (.int .u8 0))]) := by kernel_rfl
theorem u31 : Try.prog.underlying 31 = some (.array 6 5) := by kernel_rfl
theorem h31 : Try.prog.stoodInHeld 31 = false := by kernel_rfl
theorem c31 : Try.prog.cellsOf 31 = 6 := by kernel_rfl
theorem b31 : Try.prog.bytesOf 31 = 6 := by kernel_rfl
theorem a31 : isAgg Try.prog 31 = some true := by kernel_rfl
theorem k31 : zok Try.prog 31 = true := by kernel_rfl
theorem z31 : zeroV Try.prog 31 = some (.agg [(.s (.int .u8 0)), (.s (.int .u8 0)), (.s (.int .u8 0)), (.s (.int .u8 0)), (.s (.int .u8 0)), (.s (.int .u8 0))]) := by kernel_rfl
theorem u32 : Try.prog.underlying 32 = some (.func #[3] #[31] false) := by kernel_rfl
theorem u33 : Try.prog.underlying 33 = some (.func #[] #[3] false) := by kernel_rfl
theorem u34 : Try.prog.underlying 34 = some (.tuple #[31, 4]) := by kernel_rfl
theorem u35 : Try.prog.underlying 35 = some (.func #[3, 31] #[31, 4] false) := by kernel_rfl
theorem u36 : Try.prog.underlying 36 = some (.func #[5, 22] #[4] false) := by kernel_rfl
theorem u37 : Try.prog.underlying 37 = some (.slice 40) := by kernel_rfl
theorem h37 : Try.prog.stoodInHeld 37 = false := by kernel_rfl
theorem c37 : Try.prog.cellsOf 37 = 1 := by kernel_rfl
theorem b37 : Try.prog.bytesOf 37 = 24 := by kernel_rfl
theorem a37 : isAgg Try.prog 37 = some false := by kernel_rfl
theorem k37 : zok Try.prog 37 = true := by kernel_rfl
theorem z37 : zeroV Try.prog 37 = some (.s (.slice none 0 0)) := by kernel_rfl
theorem u38 : Try.prog.underlying 38 = some (.slice 42) := by kernel_rfl
theorem h38 : Try.prog.stoodInHeld 38 = false := by kernel_rfl
theorem c38 : Try.prog.cellsOf 38 = 1 := by kernel_rfl
theorem b38 : Try.prog.bytesOf 38 = 24 := by kernel_rfl
theorem a38 : isAgg Try.prog 38 = some false := by kernel_rfl
theorem k38 : zok Try.prog 38 = true := by kernel_rfl
theorem z38 : zeroV Try.prog 38 = some (.s (.slice none 0 0)) := by kernel_rfl
theorem u39 : Try.prog.underlying 39 = some (.struct #[⟨ "Do", 5, 0, false, "", "", 0⟩, ⟨ "ISID", 3, 1, false, "", "", 8⟩, ⟨ "Other", 3, 2, false, "", "", 16⟩, ⟨ "C", 31, 3, false, "", "", 24⟩, ⟨ "B", 31, 9, false, "", "", 30⟩, ⟨ "Tick", 3, 15, false, "", "", 40⟩]) := by kernel_rfl
theorem h39 : Try.prog.stoodInHeld 39 = false := by kernel_rfl
theorem c39 : Try.prog.cellsOf 39 = 16 := by kernel_rfl
theorem b39 : Try.prog.bytesOf 39 = 48 := by kernel_rfl
theorem a39 : isAgg Try.prog 39 = some true := by kernel_rfl
theorem k39 : zok Try.prog 39 = true := by kernel_rfl
theorem z39 : zeroV Try.prog 39 = some (.agg [(.s (.int .u8 0)), (.s (.int .i64 0)), (.s (.int .i64 0)), (.s (.int .u8 0)), (.s (.int .u8 0)), (.s (.int .u8 0)), (.s (.int .u8 0)), (.s (.int .u8 0)), (.s (.int .u8 0)), (.s (.int .u8 0)), (.s (.int .u8 0)), (.s (.int .u8 0)), (.s (.int .u8 0)), (.s (.int .u8 0)), (.s (.int .u8 0)), (.s (.int .i64 0))]) := by kernel_rfl
theorem u40 : Try.prog.underlying 40 = some (.struct #[⟨ "Do", 5, 0, false, "", "", 0⟩, ⟨ "ISID", 3, 1, false, "", "", 8⟩, ⟨ "Other", 3, 2, false, "", "", 16⟩, ⟨ "C", 31, 3, false, "", "", 24⟩, ⟨ "B", 31, 9, false, "", "", 30⟩, ⟨ "Tick", 3, 15, false, "", "", 40⟩]) := by kernel_rfl
theorem h40 : Try.prog.stoodInHeld 40 = false := by kernel_rfl
theorem c40 : Try.prog.cellsOf 40 = 16 := by kernel_rfl
theorem b40 : Try.prog.bytesOf 40 = 48 := by kernel_rfl
theorem a40 : isAgg Try.prog 40 = some true := by kernel_rfl
theorem k40 : zok Try.prog 40 = true := by kernel_rfl
theorem z40 : zeroV Try.prog 40 = some (.agg [(.s (.int .u8 0)), (.s (.int .i64 0)), (.s (.int .i64 0)), (.s (.int .u8 0)), (.s (.int .u8 0)), (.s (.int .u8 0)), (.s (.int .u8 0)), (.s (.int .u8 0)), (.s (.int .u8 0)), (.s (.int .u8 0)), (.s (.int .u8 0)), (.s (.int .u8 0)), (.s (.int .u8 0)), (.s (.int .u8 0)), (.s (.int .u8 0)), (.s (.int .i64 0))]) := by kernel_rfl
theorem u41 : Try.prog.underlying 41 = some (.struct #[⟨ "ISID", 3, 0, false, "", "", 0⟩, ⟨ "C", 31, 1, false, "", "", 8⟩, ⟨ "B", 31, 7, false, "", "", 14⟩, ⟨ "Seen", 3, 13, false, "", "", 24⟩]) := by kernel_rfl
theorem h41 : Try.prog.stoodInHeld 41 = false := by kernel_rfl
theorem c41 : Try.prog.cellsOf 41 = 14 := by kernel_rfl
theorem b41 : Try.prog.bytesOf 41 = 32 := by kernel_rfl
theorem a41 : isAgg Try.prog 41 = some true := by kernel_rfl
theorem k41 : zok Try.prog 41 = true := by kernel_rfl
theorem z41 : zeroV Try.prog 41 = some (.agg [(.s (.int .i64 0)), (.s (.int .u8 0)), (.s (.int .u8 0)), (.s (.int .u8 0)), (.s (.int .u8 0)), (.s (.int .u8 0)), (.s (.int .u8 0)), (.s (.int .u8 0)), (.s (.int .u8 0)), (.s (.int .u8 0)), (.s (.int .u8 0)), (.s (.int .u8 0)), (.s (.int .u8 0)), (.s (.int .i64 0))]) := by kernel_rfl
theorem u42 : Try.prog.underlying 42 = some (.struct #[⟨ "ISID", 3, 0, false, "", "", 0⟩, ⟨ "C", 31, 1, false, "", "", 8⟩, ⟨ "B", 31, 7, false, "", "", 14⟩, ⟨ "Seen", 3, 13, false, "", "", 24⟩]) := by kernel_rfl
theorem h42 : Try.prog.stoodInHeld 42 = false := by kernel_rfl
theorem c42 : Try.prog.cellsOf 42 = 14 := by kernel_rfl
theorem b42 : Try.prog.bytesOf 42 = 32 := by kernel_rfl
theorem a42 : isAgg Try.prog 42 = some true := by kernel_rfl
theorem k42 : zok Try.prog 42 = true := by kernel_rfl
theorem z42 : zeroV Try.prog 42 = some (.agg [(.s (.int .i64 0)), (.s (.int .u8 0)), (.s (.int .u8 0)), (.s (.int .u8 0)), (.s (.int .u8 0)), (.s (.int .u8 0)), (.s (.int .u8 0)), (.s (.int .u8 0)), (.s (.int .u8 0)), (.s (.int .u8 0)), (.s (.int .u8 0)), (.s (.int .u8 0)), (.s (.int .u8 0)), (.s (.int .i64 0))]) := by kernel_rfl
theorem u43 : Try.prog.underlying 43 = some (.func #[] #[38] false) := by kernel_rfl
theorem u44 : Try.prog.underlying 44 = some (.func #[37] #[4] false) := by kernel_rfl
theorem u45 : Try.prog.underlying 45 = some (.int .u64) := by kernel_rfl
theorem h45 : Try.prog.stoodInHeld 45 = false := by kernel_rfl
theorem c45 : Try.prog.cellsOf 45 = 1 := by kernel_rfl
theorem b45 : Try.prog.bytesOf 45 = 8 := by kernel_rfl
theorem a45 : isAgg Try.prog 45 = some false := by kernel_rfl
theorem k45 : zok Try.prog 45 = true := by kernel_rfl
theorem z45 : zeroV Try.prog 45 = some (.s (.int .u64 0)) := by kernel_rfl
theorem u46 : Try.prog.underlying 46 = some (.func #[28] #[3] true) := by kernel_rfl
theorem u47 : Try.prog.underlying 47 = some (.func #[38, 38] #[4] false) := by kernel_rfl
theorem u48 : Try.prog.underlying 48 = some (.func #[37, 5] #[4] false) := by kernel_rfl
theorem u49 : Try.prog.underlying 49 = some (.struct #[⟨ "Room", 3, 0, false, "", "", 0⟩, ⟨ "Life", 3, 1, false, "", "", 8⟩, ⟨ "L", 38, 2, false, "", "", 16⟩]) := by kernel_rfl
theorem h49 : Try.prog.stoodInHeld 49 = false := by kernel_rfl
theorem c49 : Try.prog.cellsOf 49 = 3 := by kernel_rfl
theorem b49 : Try.prog.bytesOf 49 = 40 := by kernel_rfl
theorem a49 : isAgg Try.prog 49 = some true := by kernel_rfl
theorem k49 : zok Try.prog 49 = true := by kernel_rfl
theorem z49 : zeroV Try.prog 49 = some (.agg [(.s (.int .i64 0)), (.s (.int .i64 0)), (.s (.slice none 0 0))]) := by kernel_rfl
theorem u50 : Try.prog.underlying 50 = some (.struct #[⟨ "Room", 3, 0, false, "", "", 0⟩, ⟨ "Life", 3, 1, false, "", "", 8⟩, ⟨ "L", 38, 2, false, "", "", 16⟩]) := by kernel_rfl
theorem h50 : Try.prog.stoodInHeld 50 = false := by kernel_rfl
theorem c50 : Try.prog.cellsOf 50 = 3 := by kernel_rfl
theorem b50 : Try.prog.bytesOf 50 = 40 := by kernel_rfl
theorem a50 : isAgg Try.prog 50 = some true := by kernel_rfl
theorem k50 : zok Try.prog 50 = true := by kernel_rfl
theorem z50 : zeroV Try.prog 50 = some (.agg [(.s (.int .i64 0)), (.s (.int .i64 0)), (.s (.slice none 0 0))]) := by kernel_rfl
theorem u51 : Try.prog.underlying 51 = some (.tuple #[50, 24]) := by kernel_rfl
theorem u52 : Try.prog.underlying 52 = some (.func #[3, 3] #[50, 24] false) := by kernel_rfl
theorem u53 : Try.prog.underlying 53 = some (.pointer 55) := by kernel_rfl
theorem h53 : Try.prog.stoodInHeld 53 = false := by kernel_rfl
theorem c53 : Try.prog.cellsOf 53 = 1 := by kernel_rfl
theorem b53 : Try.prog.bytesOf 53 = 8 := by kernel_rfl
theorem a53 : isAgg Try.prog 53 = some false := by kernel_rfl
theorem k53 : zok Try.prog 53 = true := by kernel_rfl
theorem z53 : zeroV Try.prog 53 = some (.s (.pointer none)) := by kernel_rfl
theorem u54 : Try.prog.underlying 54 = some (.struct #[⟨ "B", 23, 0, false, "", "", 0⟩, ⟨ "R", 50, 1, false, "", "", 8⟩]) := by kernel_rfl
theorem h54 : Try.prog.stoodInHeld 54 = false := by kernel_rfl
theorem c54 : Try.prog.cellsOf 54 = 4 := by kernel_rfl
theorem b54 : Try.prog.bytesOf 54 = 48 := by kernel_rfl
theorem a54 : isAgg Try.prog 54 = some true := by kernel_rfl
theorem k54 : zok Try.prog 54 = true := by kernel_rfl
theorem z54 : zeroV Try.prog 54 = some (.agg [(.s (.pointer none)), (.s (.int .i64 0)), (.s (.int .i64 0)), (.s (.slice none 0 0))]) := by kernel_rfl
theorem u55 : Try.prog.underlying 55 = some (.struct #[⟨ "B", 23, 0, false, "", "", 0⟩, ⟨ "R", 50, 1, false, "", "", 8⟩]) := by kernel_rfl
theorem h55 : Try.prog.stoodInHeld 55 = false := by kernel_rfl
theorem c55 : Try.prog.cellsOf 55 = 4 := by kernel_rfl
theorem b55 : Try.prog.bytesOf 55 = 48 := by kernel_rfl
theorem a55 : isAgg Try.prog 55 = some true := by kernel_rfl
theorem k55 : zok Try.prog 55 = true := by kernel_rfl
theorem z55 : zeroV Try.prog 55 = some (.agg [(.s (.pointer none)), (.s (.int .i64 0)), (.s (.int .i64 0)), (.s (.slice none 0 0))]) := by kernel_rfl
theorem u56 : Try.prog.underlying 56 = some (.func #[40] #[4] false) := by kernel_rfl
theorem u57 : Try.prog.underlying 57 = some (.func #[3, 3, 37] #[4] false) := by kernel_rfl
theorem u58 : Try.prog.underlying 58 = some (.map 69 42) := by kernel_rfl
theorem h58 : Try.prog.stoodInHeld 58 = false := by kernel_rfl
theorem c58 : Try.prog.cellsOf 58 = 1 := by kernel_rfl
theorem b58 : Try.prog.bytesOf 58 = 8 := by kernel_rfl
theorem a58 : isAgg Try.prog 58 = some false := by kernel_rfl
theorem k58 : zok Try.prog 58 = true := by kernel_rfl
theorem z58 : zeroV Try.prog 58 = some (.s (.map none)) := by kernel_rfl
theorem u59 : Try.prog.underlying 59 = some (.struct #[⟨ "room", 3, 0, false, "", "pontage/cfdb", 0⟩, ⟨ "age", 3, 1, false, "", "pontage/cfdb", 8⟩, ⟨ "m", 58, 2, false, "", "pontage/cfdb", 16⟩]) := by kernel_rfl
theorem h59 : Try.prog.stoodInHeld 59 = false := by kernel_rfl
theorem c59 : Try.prog.cellsOf 59 = 3 := by kernel_rfl
theorem b59 : Try.prog.bytesOf 59 = 24 := by kernel_rfl
theorem a59 : isAgg Try.prog 59 = some true := by kernel_rfl
theorem k59 : zok Try.prog 59 = true := by kernel_rfl
theorem z59 : zeroV Try.prog 59 = some (.agg [(.s (.int .i64 0)), (.s (.int .i64 0)), (.s (.map none))]) := by kernel_rfl
theorem u60 : Try.prog.underlying 60 = some (.struct #[⟨ "room", 3, 0, false, "", "pontage/cfdb", 0⟩, ⟨ "age", 3, 1, false, "", "pontage/cfdb", 8⟩, ⟨ "m", 58, 2, false, "", "pontage/cfdb", 16⟩]) := by kernel_rfl
theorem h60 : Try.prog.stoodInHeld 60 = false := by kernel_rfl
theorem c60 : Try.prog.cellsOf 60 = 3 := by kernel_rfl
theorem b60 : Try.prog.bytesOf 60 = 24 := by kernel_rfl
theorem a60 : isAgg Try.prog 60 = some true := by kernel_rfl
theorem k60 : zok Try.prog 60 = true := by kernel_rfl
theorem z60 : zeroV Try.prog 60 = some (.agg [(.s (.int .i64 0)), (.s (.int .i64 0)), (.s (.map none))]) := by kernel_rfl
theorem u61 : Try.prog.underlying 61 = some (.slice 23) := by kernel_rfl
theorem h61 : Try.prog.stoodInHeld 61 = false := by kernel_rfl
theorem c61 : Try.prog.cellsOf 61 = 1 := by kernel_rfl
theorem b61 : Try.prog.bytesOf 61 = 24 := by kernel_rfl
theorem a61 : isAgg Try.prog 61 = some false := by kernel_rfl
theorem k61 : zok Try.prog 61 = true := by kernel_rfl
theorem z61 : zeroV Try.prog 61 = some (.s (.slice none 0 0)) := by kernel_rfl
theorem u62 : Try.prog.underlying 62 = some (.func #[3] #[3] false) := by kernel_rfl
theorem u63 : Try.prog.underlying 63 = some (.func #[31] #[3] false) := by kernel_rfl
theorem u64 : Try.prog.underlying 64 = some (.func #[] #[23] false) := by kernel_rfl
theorem u65 : Try.prog.underlying 65 = some (.func #[3, 3, 3] #[4] false) := by kernel_rfl
theorem u66 : Try.prog.underlying 66 = some (.int .i64) := by kernel_rfl
theorem h66 : Try.prog.stoodInHeld 66 = false := by kernel_rfl
theorem c66 : Try.prog.cellsOf 66 = 1 := by kernel_rfl
theorem b66 : Try.prog.bytesOf 66 = 8 := by kernel_rfl
theorem a66 : isAgg Try.prog 66 = some false := by kernel_rfl
theorem k66 : zok Try.prog 66 = true := by kernel_rfl
theorem z66 : zeroV Try.prog 66 = some (.s (.int .i64 0)) := by kernel_rfl
theorem u67 : Try.prog.underlying 67 = some (.func #[31] #[66] false) := by kernel_rfl
theorem u68 : Try.prog.underlying 68 = some (.struct #[⟨ "isid", 3, 0, false, "", "pontage/cfdb", 0⟩, ⟨ "c", 31, 1, false, "", "pontage/cfdb", 8⟩]) := by kernel_rfl
theorem h68 : Try.prog.stoodInHeld 68 = false := by kernel_rfl
theorem c68 : Try.prog.cellsOf 68 = 7 := by kernel_rfl
theorem b68 : Try.prog.bytesOf 68 = 16 := by kernel_rfl
theorem a68 : isAgg Try.prog 68 = some true := by kernel_rfl
theorem k68 : zok Try.prog 68 = true := by kernel_rfl
theorem z68 : zeroV Try.prog 68 = some (.agg [(.s (.int .i64 0)), (.s (.int .u8 0)), (.s (.int .u8 0)), (.s (.int .u8 0)), (.s (.int .u8 0)), (.s (.int .u8 0)), (.s (.int .u8 0))]) := by kernel_rfl
theorem u69 : Try.prog.underlying 69 = some (.struct #[⟨ "isid", 3, 0, false, "", "pontage/cfdb", 0⟩, ⟨ "c", 31, 1, false, "", "pontage/cfdb", 8⟩]) := by kernel_rfl
theorem h69 : Try.prog.stoodInHeld 69 = false := by kernel_rfl
theorem c69 : Try.prog.cellsOf 69 = 7 := by kernel_rfl
theorem b69 : Try.prog.bytesOf 69 = 16 := by kernel_rfl
theorem a69 : isAgg Try.prog 69 = some true := by kernel_rfl
theorem k69 : zok Try.prog 69 = true := by kernel_rfl
theorem z69 : zeroV Try.prog 69 = some (.agg [(.s (.int .i64 0)), (.s (.int .u8 0)), (.s (.int .u8 0)), (.s (.int .u8 0)), (.s (.int .u8 0)), (.s (.int .u8 0)), (.s (.int .u8 0))]) := by kernel_rfl
theorem u70 : Try.prog.underlying 70 = some (.tuple #[42, 4]) := by kernel_rfl
theorem u71 : Try.prog.underlying 71 = some (.func #[38, 73] #[] false) := by kernel_rfl
theorem u72 : Try.prog.underlying 72 = some (.func #[69] #[3] false) := by kernel_rfl
theorem u73 : Try.prog.underlying 73 = some (.func #[42, 42] #[3] false) := by kernel_rfl
theorem u74 : Try.prog.underlying 74 = some (.func #[76] #[3] false) := by kernel_rfl
theorem u75 : Try.prog.underlying 75 = some (.func #[28, 3] #[4] false) := by kernel_rfl
theorem u76 : Try.prog.underlying 76 = some (.func #[42] #[4] false) := by kernel_rfl
theorem u77 : Try.prog.underlying 77 = some (.tuple #[50, 3]) := by kernel_rfl
theorem u78 : Try.prog.underlying 78 = some (.func #[50, 3] #[50, 3] false) := by kernel_rfl
theorem u79 : Try.prog.underlying 79 = some (.func #[50, 28] #[50, 3] false) := by kernel_rfl
theorem u80 : Try.prog.underlying 80 = some (.func #[50, 31] #[50, 3] false) := by kernel_rfl
theorem u81 : Try.prog.underlying 81 = some (.func #[50, 3, 31, 31, 3] #[50, 24] false) := by kernel_rfl
theorem u82 : Try.prog.underlying 82 = some (.func #[50, 3, 31] #[31, 4] false) := by kernel_rfl
theorem u83 : Try.prog.underlying 83 = some (.func #[50, 31] #[3] false) := by kernel_rfl
theorem u84 : Try.prog.underlying 84 = some (.array 5 5) := by kernel_rfl
theorem h84 : Try.prog.stoodInHeld 84 = false := by kernel_rfl
theorem c84 : Try.prog.cellsOf 84 = 5 := by kernel_rfl
theorem b84 : Try.prog.bytesOf 84 = 5 := by kernel_rfl
theorem a84 : isAgg Try.prog 84 = some true := by kernel_rfl
theorem k84 : zok Try.prog 84 = true := by kernel_rfl
theorem z84 : zeroV Try.prog 84 = some (.agg [(.s (.int .u8 0)), (.s (.int .u8 0)), (.s (.int .u8 0)), (.s (.int .u8 0)), (.s (.int .u8 0))]) := by kernel_rfl
theorem u85 : Try.prog.underlying 85 = some (.array 3 5) := by kernel_rfl
theorem h85 : Try.prog.stoodInHeld 85 = false := by kernel_rfl
theorem c85 : Try.prog.cellsOf 85 = 3 := by kernel_rfl
theorem b85 : Try.prog.bytesOf 85 = 3 := by kernel_rfl
theorem a85 : isAgg Try.prog 85 = some true := by kernel_rfl
theorem k85 : zok Try.prog 85 = true := by kernel_rfl
theorem z85 : zeroV Try.prog 85 = some (.agg [(.s (.int .u8 0)), (.s (.int .u8 0)), (.s (.int .u8 0))]) := by kernel_rfl
theorem u86 : Try.prog.underlying 86 = some (.func #[31] #[4] false) := by kernel_rfl
theorem u87 : Try.prog.underlying 87 = some (.func #[3, 3] #[3] false) := by kernel_rfl
theorem u88 : Try.prog.underlying 88 = some (.func #[38, 3, 3, 3, 73] #[] false) := by kernel_rfl
theorem u89 : Try.prog.underlying 89 = some (.func #[45] #[3] false) := by kernel_rfl
theorem u90 : Try.prog.underlying 90 = some (.func #[91, 91] #[3] false) := by kernel_rfl
theorem u91 : Try.prog.underlying 91 = some (.int .u64) := by kernel_rfl
theorem h91 : Try.prog.stoodInHeld 91 = false := by kernel_rfl
theorem c91 : Try.prog.cellsOf 91 = 1 := by kernel_rfl
theorem b91 : Try.prog.bytesOf 91 = 8 := by kernel_rfl
theorem a91 : isAgg Try.prog 91 = some false := by kernel_rfl
theorem k91 : zok Try.prog 91 = true := by kernel_rfl
theorem z91 : zeroV Try.prog 91 = some (.s (.int .u64 0)) := by kernel_rfl
theorem u92 : Try.prog.underlying 92 = some (.func #[31] #[91] false) := by kernel_rfl
theorem u93 : Try.prog.underlying 93 = some (.func #[28, 3] #[3] false) := by kernel_rfl
theorem u94 : Try.prog.underlying 94 = some (.func #[50, 3, 31] #[3] false) := by kernel_rfl
theorem u95 : Try.prog.underlying 95 = some (.func #[38, 3] #[38] false) := by kernel_rfl
theorem u96 : Try.prog.underlying 96 = some (.func #[38, 42] #[38] false) := by kernel_rfl
theorem u97 : Try.prog.underlying 97 = some (.func #[3] #[4] false) := by kernel_rfl
theorem u98 : Try.prog.underlying 98 = some (.func #[38, 3, 3, 73] #[] false) := by kernel_rfl
theorem u99 : Try.prog.underlying 99 = some (.int .i64) := by kernel_rfl
theorem h99 : Try.prog.stoodInHeld 99 = false := by kernel_rfl
theorem c99 : Try.prog.cellsOf 99 = 1 := by kernel_rfl
theorem b99 : Try.prog.bytesOf 99 = 8 := by kernel_rfl
theorem a99 : isAgg Try.prog 99 = some false := by kernel_rfl
theorem k99 : zok Try.prog 99 = true := by kernel_rfl
theorem z99 : zeroV Try.prog 99 = some (.s (.int .i64 0)) := by kernel_rfl
theorem u100 : Try.prog.underlying 100 = some (.tuple #[3, 99]) := by kernel_rfl
theorem u101 : Try.prog.underlying 101 = some (.func #[38, 3, 3, 73] #[3, 99] false) := by kernel_rfl
theorem u102 : Try.prog.underlying 102 = some (.func #[38, 3, 3, 73] #[4] false) := by kernel_rfl
theorem u103 : Try.prog.underlying 103 = some (.func #[38, 3, 3, 3, 73] #[3] false) := by kernel_rfl
theorem u104 : Try.prog.underlying 104 = some (.tuple #[3, 4]) := by kernel_rfl
theorem u105 : Try.prog.underlying 105 = some (.func #[38, 3, 3, 3, 73] #[3, 4] false) := by kernel_rfl
theorem u106 : Try.prog.underlying 106 = some (.func #[107] #[3] false) := by kernel_rfl
theorem u107 : Try.prog.underlying 107 = some (.int .u32) := by kernel_rfl
theorem h107 : Try.prog.stoodInHeld 107 = false := by kernel_rfl
theorem c107 : Try.prog.cellsOf 107 = 1 := by kernel_rfl
theorem b107 : Try.prog.bytesOf 107 = 4 := by kernel_rfl
theorem a107 : isAgg Try.prog 107 = some false := by kernel_rfl
theorem k107 : zok Try.prog 107 = true := by kernel_rfl
theorem z107 : zeroV Try.prog 107 = some (.s (.int .u32 0)) := by kernel_rfl
theorem u108 : Try.prog.underlying 108 = some (.func #[91] #[3] false) := by kernel_rfl
theorem u109 : Try.prog.underlying 109 = some (.func #[91] #[4] false) := by kernel_rfl
theorem u110 : Try.prog.underlying 110 = some (.func #[31, 5] #[4] false) := by kernel_rfl
theorem u111 : Try.prog.underlying 111 = some (.func #[42, 42] #[4] false) := by kernel_rfl
theorem u112 : Try.prog.underlying 112 = some (.int .u64) := by kernel_rfl
theorem h112 : Try.prog.stoodInHeld 112 = false := by kernel_rfl
theorem c112 : Try.prog.cellsOf 112 = 1 := by kernel_rfl
theorem b112 : Try.prog.bytesOf 112 = 8 := by kernel_rfl
theorem a112 : isAgg Try.prog 112 = some false := by kernel_rfl
theorem k112 : zok Try.prog 112 = true := by kernel_rfl
theorem z112 : zeroV Try.prog 112 = some (.s (.int .u64 0)) := by kernel_rfl
theorem u113 : Try.prog.underlying 113 = some (.func #[3] #[45] false) := by kernel_rfl
theorem u114 : Try.prog.underlying 114 = some (.func #[] #[91] false) := by kernel_rfl
theorem u115 : Try.prog.underlying 115 = some (.func #[38, 3, 116, 73] #[3] false) := by kernel_rfl
theorem u116 : Try.prog.underlying 116 = some (.pointer 3) := by kernel_rfl
theorem h116 : Try.prog.stoodInHeld 116 = false := by kernel_rfl
theorem c116 : Try.prog.cellsOf 116 = 1 := by kernel_rfl
theorem b116 : Try.prog.bytesOf 116 = 8 := by kernel_rfl
theorem a116 : isAgg Try.prog 116 = some false := by kernel_rfl
theorem k116 : zok Try.prog 116 = true := by kernel_rfl
theorem z116 : zeroV Try.prog 116 = some (.s (.pointer none)) := by kernel_rfl
theorem u117 : Try.prog.underlying 117 = some (.func #[38, 3, 3, 3, 116, 73] #[3] false) := by kernel_rfl
theorem u118 : Try.prog.underlying 118 = some (.pointer 112) := by kernel_rfl
theorem h118 : Try.prog.stoodInHeld 118 = false := by kernel_rfl
theorem c118 : Try.prog.cellsOf 118 = 1 := by kernel_rfl
theorem b118 : Try.prog.bytesOf 118 = 8 := by kernel_rfl
theorem a118 : isAgg Try.prog 118 = some false := by kernel_rfl
theorem k118 : zok Try.prog 118 = true := by kernel_rfl
theorem z118 : zeroV Try.prog 118 = some (.s (.pointer none)) := by kernel_rfl
theorem u119 : Try.prog.underlying 119 = some (.tuple #[3, 3]) := by kernel_rfl
theorem u120 : Try.prog.underlying 120 = some (.func #[38, 3, 3, 116, 73] #[3, 3] false) := by kernel_rfl
theorem u121 : Try.prog.underlying 121 = some (.func #[] #[9] false) := by kernel_rfl
theorem u122 : Try.prog.underlying 122 = some (.struct #[⟨ "_interface", 17, 0, false, "", "runtime", 0⟩, ⟨ "concrete", 17, 1, false, "", "runtime", 8⟩, ⟨ "asserted", 17, 2, false, "", "runtime", 16⟩, ⟨ "missingMethod", 9, 3, false, "", "runtime", 24⟩]) := by kernel_rfl
theorem h122 : Try.prog.stoodInHeld 122 = true := by kernel_rfl
theorem c122 : Try.prog.cellsOf 122 = 4 := by kernel_rfl
theorem b122 : Try.prog.bytesOf 122 = 40 := by kernel_rfl
theorem a122 : isAgg Try.prog 122 = some true := by kernel_rfl
theorem k122 : zok Try.prog 122 = true := by kernel_rfl
theorem z122 : zeroV Try.prog 122 = some (.agg [(.s (.pointer none)), (.s (.pointer none)), (.s (.pointer none)), (.s (.string ⟨#[]⟩))]) := by kernel_rfl
theorem u123 : Try.prog.underlying 123 = some (.struct #[⟨ "_interface", 17, 0, false, "", "runtime", 0⟩, ⟨ "concrete", 17, 1, false, "", "runtime", 8⟩, ⟨ "asserted", 17, 2, false, "", "runtime", 16⟩, ⟨ "missingMethod", 9, 3, false, "", "runtime", 24⟩]) := by kernel_rfl
theorem h123 : Try.prog.stoodInHeld 123 = true := by kernel_rfl
theorem c123 : Try.prog.cellsOf 123 = 4 := by kernel_rfl
theorem b123 : Try.prog.bytesOf 123 = 40 := by kernel_rfl
theorem a123 : isAgg Try.prog 123 = some true := by kernel_rfl
theorem k123 : zok Try.prog 123 = true := by kernel_rfl
theorem z123 : zeroV Try.prog 123 = some (.agg [(.s (.pointer none)), (.s (.pointer none)), (.s (.pointer none)), (.s (.string ⟨#[]⟩))]) := by kernel_rfl
theorem u124 : Try.prog.underlying 124 = some (.array 0 16) := by kernel_rfl
theorem h124 : Try.prog.stoodInHeld 124 = false := by kernel_rfl
theorem c124 : Try.prog.cellsOf 124 = 0 := by kernel_rfl
theorem b124 : Try.prog.bytesOf 124 = 0 := by kernel_rfl
theorem a124 : isAgg Try.prog 124 = some true := by kernel_rfl
theorem k124 : zok Try.prog 124 = true := by kernel_rfl
theorem z124 : zeroV Try.prog 124 = some (.agg []) := by kernel_rfl
theorem u125 : Try.prog.underlying 125 = some (.struct #[⟨ "_", 124, 0, false, "", "runtime", 0⟩]) := by kernel_rfl
theorem h125 : Try.prog.stoodInHeld 125 = true := by kernel_rfl
theorem c125 : Try.prog.cellsOf 125 = 0 := by kernel_rfl
theorem b125 : Try.prog.bytesOf 125 = 0 := by kernel_rfl
theorem a125 : isAgg Try.prog 125 = some true := by kernel_rfl
theorem k125 : zok Try.prog 125 = true := by kernel_rfl
theorem z125 : zeroV Try.prog 125 = some (.agg []) := by kernel_rfl
theorem u126 : Try.prog.underlying 126 = some (.struct #[⟨ "_", 124, 0, false, "", "runtime", 0⟩]) := by kernel_rfl
theorem h126 : Try.prog.stoodInHeld 126 = true := by kernel_rfl
theorem c126 : Try.prog.cellsOf 126 = 0 := by kernel_rfl
theorem b126 : Try.prog.bytesOf 126 = 0 := by kernel_rfl
theorem a126 : isAgg Try.prog 126 = some true := by kernel_rfl
theorem k126 : zok Try.prog 126 = true := by kernel_rfl
theorem z126 : zeroV Try.prog 126 = some (.agg []) := by kernel_rfl
theorem u127 : Try.prog.underlying 127 = some (.int .u8) := by kernel_rfl
theorem h127 : Try.prog.stoodInHeld 127 = false := by kernel_rfl
theorem c127 : Try.prog.cellsOf 127 = 1 := by kernel_rfl
theorem b127 : Try.prog.bytesOf 127 = 1 := by kernel_rfl
theorem a127 : isAgg Try.prog 127 = some false := by kernel_rfl
theorem k127 : zok Try.prog 127 = true := by kernel_rfl
theorem z127 : zeroV Try.prog 127 = some (.s (.int .u8 0)) := by kernel_rfl
theorem u128 : Try.prog.underlying 128 = some (.int .u8) := by kernel_rfl
theorem h128 : Try.prog.stoodInHeld 128 = false := by kernel_rfl
theorem c128 : Try.prog.cellsOf 128 = 1 := by kernel_rfl
theorem b128 : Try.prog.bytesOf 128 = 1 := by kernel_rfl
theorem a128 : isAgg Try.prog 128 = some false := by kernel_rfl
theorem k128 : zok Try.prog 128 = true := by kernel_rfl
theorem z128 : zeroV Try.prog 128 = some (.s (.int .u8 0)) := by kernel_rfl
theorem u129 : Try.prog.underlying 129 = some (.func #[135, 135] #[4] false) := by kernel_rfl
theorem u130 : Try.prog.underlying 130 = some (.pointer 5) := by kernel_rfl
theorem h130 : Try.prog.stoodInHeld 130 = false := by kernel_rfl
theorem c130 : Try.prog.cellsOf 130 = 1 := by kernel_rfl
theorem b130 : Try.prog.bytesOf 130 = 8 := by kernel_rfl
theorem a130 : isAgg Try.prog 130 = some false := by kernel_rfl
theorem k130 : zok Try.prog 130 = true := by kernel_rfl
theorem z130 : zeroV Try.prog 130 = some (.s (.pointer none)) := by kernel_rfl
theorem u131 : Try.prog.underlying 131 = some (.int .i32) := by kernel_rfl
theorem h131 : Try.prog.stoodInHeld 131 = false := by kernel_rfl
theorem c131 : Try.prog.cellsOf 131 = 1 := by kernel_rfl
theorem b131 : Try.prog.bytesOf 131 = 4 := by kernel_rfl
theorem a131 : isAgg Try.prog 131 = some false := by kernel_rfl
theorem k131 : zok Try.prog 131 = true := by kernel_rfl
theorem z131 : zeroV Try.prog 131 = some (.s (.int .i32 0)) := by kernel_rfl
theorem u132 : Try.prog.underlying 132 = some (.int .i32) := by kernel_rfl
theorem h132 : Try.prog.stoodInHeld 132 = false := by kernel_rfl
theorem c132 : Try.prog.cellsOf 132 = 1 := by kernel_rfl
theorem b132 : Try.prog.bytesOf 132 = 4 := by kernel_rfl
theorem a132 : isAgg Try.prog 132 = some false := by kernel_rfl
theorem k132 : zok Try.prog 132 = true := by kernel_rfl
theorem z132 : zeroV Try.prog 132 = some (.s (.int .i32 0)) := by kernel_rfl
theorem u133 : Try.prog.underlying 133 = some (.struct #[⟨ "Size_", 12, 0, false, "", "", 0⟩, ⟨ "PtrBytes", 12, 1, false, "", "", 8⟩, ⟨ "Hash", 107, 2, false, "", "", 16⟩, ⟨ "TFlag", 127, 3, false, "", "", 20⟩, ⟨ "Align_", 5, 4, false, "", "", 21⟩, ⟨ "FieldAlign_", 5, 5, false, "", "", 22⟩, ⟨ "Kind_", 128, 6, false, "", "", 23⟩, ⟨ "Equal", 129, 7, false, "", "", 24⟩, ⟨ "GCData", 130, 8, false, "", "", 32⟩, ⟨ "Str", 131, 9, false, "", "", 40⟩, ⟨ "PtrToThis", 132, 10, false, "", "", 44⟩]) := by kernel_rfl
theorem h133 : Try.prog.stoodInHeld 133 = true := by kernel_rfl
theorem c133 : Try.prog.cellsOf 133 = 11 := by kernel_rfl
theorem b133 : Try.prog.bytesOf 133 = 48 := by kernel_rfl
theorem a133 : isAgg Try.prog 133 = some true := by kernel_rfl
theorem k133 : zok Try.prog 133 = true := by kernel_rfl
theorem z133 : zeroV Try.prog 133 = some (.agg [(.s (.int .u64 0)), (.s (.int .u64 0)), (.s (.int .u32 0)), (.s (.int .u8 0)), (.s (.int .u8 0)), (.s (.int .u8 0)), (.s (.int .u8 0)), (.s .nilFunc), (.s (.pointer none)), (.s (.int .i32 0)), (.s (.int .i32 0))]) := by kernel_rfl
theorem u134 : Try.prog.underlying 134 = some (.struct #[⟨ "Size_", 12, 0, false, "", "", 0⟩, ⟨ "PtrBytes", 12, 1, false, "", "", 8⟩, ⟨ "Hash", 107, 2, false, "", "", 16⟩, ⟨ "TFlag", 127, 3, false, "", "", 20⟩, ⟨ "Align_", 5, 4, false, "", "", 21⟩, ⟨ "FieldAlign_", 5, 5, false, "", "", 22⟩, ⟨ "Kind_", 128, 6, false, "", "", 23⟩, ⟨ "Equal", 129, 7, false, "", "", 24⟩, ⟨ "GCData", 130, 8, false, "", "", 32⟩, ⟨ "Str", 131, 9, false, "", "", 40⟩, ⟨ "PtrToThis", 132, 10, false, "", "", 44⟩]) := by kernel_rfl
theorem h134 : Try.prog.stoodInHeld 134 = true := by kernel_rfl
theorem c134 : Try.prog.cellsOf 134 = 11 := by kernel_rfl
theorem b134 : Try.prog.bytesOf 134 = 48 := by kernel_rfl
theorem a134 : isAgg Try.prog 134 = some true := by kernel_rfl
theorem k134 : zok Try.prog 134 = true := by kernel_rfl
theorem z134 : zeroV Try.prog 134 = some (.agg [(.s (.int .u64 0)), (.s (.int .u64 0)), (.s (.int .u32 0)), (.s (.int .u8 0)), (.s (.int .u8 0)), (.s (.int .u8 0)), (.s (.int .u8 0)), (.s .nilFunc), (.s (.pointer none)), (.s (.int .i32 0)), (.s (.int .i32 0))]) := by kernel_rfl
theorem h135 : Try.prog.stoodInHeld 135 = false := by kernel_rfl
theorem c135 : Try.prog.cellsOf 135 = 1 := by kernel_rfl
theorem b135 : Try.prog.bytesOf 135 = 8 := by kernel_rfl
theorem a135 : isAgg Try.prog 135 = some false := by kernel_rfl
theorem k135 : zok Try.prog 135 = true := by kernel_rfl
theorem z135 : zeroV Try.prog 135 = some (.s (.pointer none)) := by kernel_rfl
theorem l7 : leafK Try.prog 20 7 = some [.i, .i, .b, .i] := by simp [leafK, leafKs, tiles, List.replicate, u7, c7, h7, u2, c2, h2, u3, c3, h3, u4, c4, h4, u6, c6, h6]
theorem l8 : leafK Try.prog 20 8 = some [.i, .i, .b, .i] := by simp [leafK, leafKs, tiles, List.replicate, u8, c8, h8, u2, c2, h2, u3, c3, h3, u4, c4, h4, u6, c6, h6]
theorem l30 : leafK Try.prog 20 30 = some [.i, .i, .i, .i, .i, .i] := by simp [leafK, leafKs, tiles, List.replicate, u30, c30, h30, u5, c5, h5]
theorem l31 : leafK Try.prog 20 31 = some [.i, .i, .i, .i, .i, .i] := by simp [leafK, leafKs, tiles, List.replicate, u31, c31, h31, u5, c5, h5]
theorem l39 : leafK Try.prog 20 39 = some [.i, .i, .i, .i, .i, .i, .i, .i, .i, .i, .i, .i, .i, .i, .i, .i] := by simp [leafK, leafKs, tiles, List.replicate, u39, c39, h39, u5, c5, h5, u3, c3, h3, u31, c31, h31]
theorem l40 : leafK Try.prog 20 40 = some [.i, .i, .i, .i, .i, .i, .i, .i, .i, .i, .i, .i, .i, .i, .i, .i] := by simp [leafK, leafKs, tiles, List.replicate, u40, c40, h40, u5, c5, h5, u3, c3, h3, u31, c31, h31]
theorem l41 : leafK Try.prog 20 41 = some [.i, .i, .i, .i, .i, .i, .i, .i, .i, .i, .i, .i, .i, .i] := by simp [leafK, leafKs, tiles, List.replicate, u41, c41, h41, u3, c3, h3, u31, c31, h31, u5, c5, h5]
theorem l42 : leafK Try.prog 20 42 = some [.i, .i, .i, .i, .i, .i, .i, .i, .i, .i, .i, .i, .i, .i] := by simp [leafK, leafKs, tiles, List.replicate, u42, c42, h42, u3, c3, h3, u31, c31, h31, u5, c5, h5]
theorem l68 : leafK Try.prog 20 68 = some [.i, .i, .i, .i, .i, .i, .i] := by simp [leafK, leafKs, tiles, List.replicate, u68, c68, h68, u3, c3, h3, u31, c31, h31, u5, c5, h5]
theorem l69 : leafK Try.prog 20 69 = some [.i, .i, .i, .i, .i, .i, .i] := by simp [leafK, leafKs, tiles, List.replicate, u69, c69, h69, u3, c3, h3, u31, c31, h31, u5, c5, h5]
theorem l84 : leafK Try.prog 20 84 = some [.i, .i, .i, .i, .i] := by simp [leafK, leafKs, tiles, List.replicate, u84, c84, h84, u5, c5, h5]
theorem l85 : leafK Try.prog 20 85 = some [.i, .i, .i] := by simp [leafK, leafKs, tiles, List.replicate, u85, c85, h85, u5, c5, h5]

end Go.Ai
