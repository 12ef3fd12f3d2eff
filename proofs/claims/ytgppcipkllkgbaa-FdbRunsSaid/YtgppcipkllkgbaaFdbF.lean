/- Closed facts on the types of the loaded program, each by reckoning; no condition. -/
import Derived.Test.YtgppcipkllkgbaaChecked
import Derived.Test.YtgppcipkllkgbaaAiK
set_option maxRecDepth 100000
set_option linter.unusedSimpArgs false
namespace Go.Ai
open Go.Proofs

theorem orders : Try.prog.follows .mixedOrders = true := by kernel_rfl
theorem u0 : Try.prog.underlying 0 = some (.tuple #[]) := by kernel_rfl
theorem u1 : Try.prog.underlying 1 = some (.func #[] #[] false) := by kernel_rfl
theorem u2 : Try.prog.underlying 2 = some (.int .i64) := by kernel_rfl
theorem h2 : Try.prog.stoodInHeld 2 = false := by kernel_rfl
theorem c2 : Try.prog.cellsOf 2 = 1 := by kernel_rfl
theorem b2 : Try.prog.bytesOf 2 = 8 := by kernel_rfl
theorem a2 : isAgg Try.prog 2 = some false := by kernel_rfl
theorem k2 : zok Try.prog 2 = true := by kernel_rfl
theorem z2 : zeroV Try.prog 2 = some (.s (.int .i64 0)) := by kernel_rfl
theorem u3 : Try.prog.underlying 3 = some (.int .i64) := by kernel_rfl
theorem h3 : Try.prog.stoodInHeld 3 = false := by kernel_rfl
theorem c3 : Try.prog.cellsOf 3 = 1 := by kernel_rfl
theorem b3 : Try.prog.bytesOf 3 = 8 := by kernel_rfl
theorem a3 : isAgg Try.prog 3 = some false := by kernel_rfl
theorem k3 : zok Try.prog 3 = true := by kernel_rfl
theorem z3 : zeroV Try.prog 3 = some (.s (.int .i64 0)) := by kernel_rfl
theorem u4 : Try.prog.underlying 4 = some .bool := by kernel_rfl
theorem h4 : Try.prog.stoodInHeld 4 = false := by kernel_rfl
theorem c4 : Try.prog.cellsOf 4 = 1 := by kernel_rfl
theorem b4 : Try.prog.bytesOf 4 = 1 := by kernel_rfl
theorem a4 : isAgg Try.prog 4 = some false := by kernel_rfl
theorem k4 : zok Try.prog 4 = true := by kernel_rfl
theorem z4 : zeroV Try.prog 4 = some (.s (.bool false)) := by kernel_rfl
theorem u5 : Try.prog.underlying 5 = some (.int .u8) := by kernel_rfl
theorem h5 : Try.prog.stoodInHeld 5 = false := by kernel_rfl
theorem c5 : Try.prog.cellsOf 5 = 1 := by kernel_rfl
theorem b5 : Try.prog.bytesOf 5 = 1 := by kernel_rfl
theorem a5 : isAgg Try.prog 5 = some false := by kernel_rfl
theorem k5 : zok Try.prog 5 = true := by kernel_rfl
theorem z5 : zeroV Try.prog 5 = some (.s (.int .u8 0)) := by kernel_rfl
theorem u6 : Try.prog.underlying 6 = some (.int .u8) := by kernel_rfl
theorem h6 : Try.prog.stoodInHeld 6 = false := by kernel_rfl
theorem c6 : Try.prog.cellsOf 6 = 1 := by kernel_rfl
theorem b6 : Try.prog.bytesOf 6 = 1 := by kernel_rfl
theorem a6 : isAgg Try.prog 6 = some false := by kernel_rfl
theorem k6 : zok Try.prog 6 = true := by kernel_rfl
theorem z6 : zeroV Try.prog 6 = some (.s (.int .u8 0)) := by kernel_rfl
theorem u7 : Try.prog.underlying 7 = some (.struct #[⟨ "x", 2, 0, false, "", "runtime", 0⟩, ⟨ "y", 3, 1, false, "", "runtime", 8⟩, ⟨ "signed", 4, 2, false, "", "runtime", 16⟩, ⟨ "code", 6, 3, false, "", "runtime", 17⟩]) := by kernel_rfl
theorem h7 : Try.prog.stoodInHeld 7 = false := by kernel_rfl
theorem c7 : Try.prog.cellsOf 7 = 4 := by kernel_rfl
theorem b7 : Try.prog.bytesOf 7 = 24 := by kernel_rfl
theorem a7 : isAgg Try.prog 7 = some true := by kernel_rfl
theorem k7 : zok Try.prog 7 = true := by kernel_rfl
theorem z7 : zeroV Try.prog 7 = some (.agg [(.s (.int .i64 0)), (.s (.int .i64 0)), (.s (.bool false)), (.s (.int .u8 0))]) := by kernel_rfl
theorem u8 : Try.prog.underlying 8 = some (.struct #[⟨ "x", 2, 0, false, "", "runtime", 0⟩, ⟨ "y", 3, 1, false, "", "runtime", 8⟩, ⟨ "signed", 4, 2, false, "", "runtime", 16⟩, ⟨ "code", 6, 3, false, "", "runtime", 17⟩]) := by kernel_rfl
theorem h8 : Try.prog.stoodInHeld 8 = false := by kernel_rfl
theorem c8 : Try.prog.cellsOf 8 = 4 := by kernel_rfl
theorem b8 : Try.prog.bytesOf 8 = 24 := by kernel_rfl
theorem a8 : isAgg Try.prog 8 = some true := by kernel_rfl
theorem k8 : zok Try.prog 8 = true := by kernel_rfl
theorem z8 : zeroV Try.prog 8 = some (.agg [(.s (.int .i64 0)), (.s (.int .i64 0)), (.s (.bool false)), (.s (.int .u8 0))]) := by kernel_rfl
theorem u9 : Try.prog.underlying 9 = some .string := by kernel_rfl
theorem h9 : Try.prog.stoodInHeld 9 = false := by kernel_rfl
theorem c9 : Try.prog.cellsOf 9 = 1 := by kernel_rfl
theorem b9 : Try.prog.bytesOf 9 = 16 := by kernel_rfl
theorem a9 : isAgg Try.prog 9 = some false := by kernel_rfl
theorem k9 : zok Try.prog 9 = true := by kernel_rfl
theorem z9 : zeroV Try.prog 9 = some (.s (.string ⟨#[]⟩)) := by kernel_rfl
theorem u10 : Try.prog.underlying 10 = some .string := by kernel_rfl
theorem h10 : Try.prog.stoodInHeld 10 = false := by kernel_rfl
theorem c10 : Try.prog.cellsOf 10 = 1 := by kernel_rfl
theorem b10 : Try.prog.bytesOf 10 = 16 := by kernel_rfl
theorem a10 : isAgg Try.prog 10 = some false := by kernel_rfl
theorem k10 : zok Try.prog 10 = true := by kernel_rfl
theorem z10 : zeroV Try.prog 10 = some (.s (.string ⟨#[]⟩)) := by kernel_rfl
theorem u11 : Try.prog.underlying 11 = some .string := by kernel_rfl
theorem h11 : Try.prog.stoodInHeld 11 = false := by kernel_rfl
theorem c11 : Try.prog.cellsOf 11 = 1 := by kernel_rfl
theorem b11 : Try.prog.bytesOf 11 = 16 := by kernel_rfl
theorem a11 : isAgg Try.prog 11 = some false := by kernel_rfl
theorem k11 : zok Try.prog 11 = true := by kernel_rfl
theorem z11 : zeroV Try.prog 11 = some (.s (.string ⟨#[]⟩)) := by kernel_rfl
theorem u12 : Try.prog.underlying 12 = some (.int .u64) := by kernel_rfl
theorem h12 : Try.prog.stoodInHeld 12 = false := by kernel_rfl
theorem c12 : Try.prog.cellsOf 12 = 1 := by kernel_rfl
theorem b12 : Try.prog.bytesOf 12 = 8 := by kernel_rfl
theorem a12 : isAgg Try.prog 12 = some false := by kernel_rfl
theorem k12 : zok Try.prog 12 = true := by kernel_rfl
theorem z12 : zeroV Try.prog 12 = some (.s (.int .u64 0)) := by kernel_rfl
theorem u13 : Try.prog.underlying 13 = some (.struct #[⟨ "msg", 9, 0, false, "", "runtime", 0⟩, ⟨ "addr", 12, 1, false, "", "runtime", 16⟩]) := by kernel_rfl
theorem h13 : Try.prog.stoodInHeld 13 = true := by kernel_rfl
theorem c13 : Try.prog.cellsOf 13 = 2 := by kernel_rfl
theorem b13 : Try.prog.bytesOf 13 = 24 := by kernel_rfl
theorem a13 : isAgg Try.prog 13 = some true := by kernel_rfl
theorem k13 : zok Try.prog 13 = true := by kernel_rfl
theorem z13 : zeroV Try.prog 13 = some (.agg [(.s (.string ⟨#[]⟩)), (.s (.int .u64 0))]) := by kernel_rfl
theorem u14 : Try.prog.underlying 14 = some (.struct #[⟨ "msg", 9, 0, false, "", "runtime", 0⟩, ⟨ "addr", 12, 1, false, "", "runtime", 16⟩]) := by kernel_rfl
theorem h14 : Try.prog.stoodInHeld 14 = true := by kernel_rfl
theorem c14 : Try.prog.cellsOf 14 = 2 := by kernel_rfl
theorem b14 : Try.prog.bytesOf 14 = 24 := by kernel_rfl
theorem a14 : isAgg Try.prog 14 = some true := by kernel_rfl
theorem k14 : zok Try.prog 14 = true := by kernel_rfl
theorem z14 : zeroV Try.prog 14 = some (.agg [(.s (.string ⟨#[]⟩)), (.s (.int .u64 0))]) := by kernel_rfl
theorem u15 : Try.prog.underlying 15 = some (.pointer 120) := by kernel_rfl
theorem h15 : Try.prog.stoodInHeld 15 = false := by kernel_rfl
theorem c15 : Try.prog.cellsOf 15 = 1 := by kernel_rfl
theorem b15 : Try.prog.bytesOf 15 = 8 := by kernel_rfl
theorem a15 : isAgg Try.prog 15 = some false := by kernel_rfl
theorem k15 : zok Try.prog 15 = true := by kernel_rfl
theorem z15 : zeroV Try.prog 15 = some (.s (.pointer none)) := by kernel_rfl
theorem u16 : Try.prog.underlying 16 = some (.pointer 123) := by kernel_rfl
theorem h16 : Try.prog.stoodInHeld 16 = false := by kernel_rfl
theorem c16 : Try.prog.cellsOf 16 = 1 := by kernel_rfl
theorem b16 : Try.prog.bytesOf 16 = 8 := by kernel_rfl
theorem a16 : isAgg Try.prog 16 = some false := by kernel_rfl
theorem k16 : zok Try.prog 16 = true := by kernel_rfl
theorem z16 : zeroV Try.prog 16 = some (.s (.pointer none)) := by kernel_rfl
theorem u17 : Try.prog.underlying 17 = some (.pointer 131) := by kernel_rfl
theorem h17 : Try.prog.stoodInHeld 17 = false := by kernel_rfl
theorem c17 : Try.prog.cellsOf 17 = 1 := by kernel_rfl
theorem b17 : Try.prog.bytesOf 17 = 8 := by kernel_rfl
theorem a17 : isAgg Try.prog 17 = some false := by kernel_rfl
theorem k17 : zok Try.prog 17 = true := by kernel_rfl
theorem z17 : zeroV Try.prog 17 = some (.s (.pointer none)) := by kernel_rfl
theorem u18 : Try.prog.underlying 18 = some (.struct #[⟨ "typ", 17, 0, false, "", "internal/runtime/maps", 0⟩]) := by kernel_rfl
theorem h18 : Try.prog.stoodInHeld 18 = true := by kernel_rfl
theorem c18 : Try.prog.cellsOf 18 = 1 := by kernel_rfl
theorem b18 : Try.prog.bytesOf 18 = 8 := by kernel_rfl
theorem a18 : isAgg Try.prog 18 = some true := by kernel_rfl
theorem k18 : zok Try.prog 18 = true := by kernel_rfl
theorem z18 : zeroV Try.prog 18 = some (.agg [(.s (.pointer none))]) := by kernel_rfl
theorem u19 : Try.prog.underlying 19 = some (.struct #[⟨ "typ", 17, 0, false, "", "internal/runtime/maps", 0⟩]) := by kernel_rfl
theorem h19 : Try.prog.stoodInHeld 19 = true := by kernel_rfl
theorem c19 : Try.prog.cellsOf 19 = 1 := by kernel_rfl
theorem b19 : Try.prog.bytesOf 19 = 8 := by kernel_rfl
theorem a19 : isAgg Try.prog 19 = some true := by kernel_rfl
theorem k19 : zok Try.prog 19 = true := by kernel_rfl
theorem z19 : zeroV Try.prog 19 = some (.agg [(.s (.pointer none))]) := by kernel_rfl
theorem h20 : Try.prog.stoodInHeld 20 = false := by kernel_rfl
theorem c20 : Try.prog.cellsOf 20 = 1 := by kernel_rfl
theorem b20 : Try.prog.bytesOf 20 = 16 := by kernel_rfl
theorem a20 : isAgg Try.prog 20 = some false := by kernel_rfl
theorem k20 : zok Try.prog 20 = true := by kernel_rfl
theorem z20 : zeroV Try.prog 20 = some (.s .nilIface) := by kernel_rfl
theorem u21 : Try.prog.underlying 21 = some (.int .i32) := by kernel_rfl
theorem h21 : Try.prog.stoodInHeld 21 = false := by kernel_rfl
theorem c21 : Try.prog.cellsOf 21 = 1 := by kernel_rfl
theorem b21 : Try.prog.bytesOf 21 = 4 := by kernel_rfl
theorem a21 : isAgg Try.prog 21 = some false := by kernel_rfl
theorem k21 : zok Try.prog 21 = true := by kernel_rfl
theorem z21 : zeroV Try.prog 21 = some (.s (.int .i32 0)) := by kernel_rfl
theorem u22 : Try.prog.underlying 22 = some (.array 6 5) := by kernel_rfl
theorem h22 : Try.prog.stoodInHeld 22 = false := by kernel_rfl
theorem c22 : Try.prog.cellsOf 22 = 6 := by kernel_rfl
theorem b22 : Try.prog.bytesOf 22 = 6 := by kernel_rfl
theorem a22 : isAgg Try.prog 22 = some true := by kernel_rfl
theorem k22 : zok Try.prog 22 = true := by kernel_rfl
theorem z22 : zeroV Try.prog 22 = some (.agg [(.s (.int .u8 0)), (.s (.int .u8 0)), (.s (.int .u8 0)), (.s (.int .u8 0)), (.s (.int .u8 0)), (.s (.int .u8 0))]) := by kernel_rfl
theorem u23 : Try.prog.underlying 23 = some (.array 6 5) := by kernel_rfl
theorem h23 : Try.prog.stoodInHeld 23 = false := by kernel_rfl
theorem c23 : Try.prog.cellsOf 23 = 6 := by kernel_rfl
theorem b23 : Try.prog.bytesOf 23 = 6 := by kernel_rfl
theorem a23 : isAgg Try.prog 23 = some true := by kernel_rfl
theorem k23 : zok Try.prog 23 = true := by kernel_rfl
theorem z23 : zeroV Try.prog 23 = some (.agg [(.s (.int .u8 0)), (.s (.int .u8 0)), (.s (.int .u8 0)), (.s (.int .u8 0)), (.s (.int .u8 0)), (.s (.int .u8 0))]) := by kernel_rfl
theorem u24 : Try.prog.underlying 24 = some (.slice 35) := by kernel_rfl
theorem h24 : Try.prog.stoodInHeld 24 = false := by kernel_rfl
theorem c24 : Try.prog.cellsOf 24 = 1 := by kernel_rfl
theorem b24 : Try.prog.bytesOf 24 = 24 := by kernel_rfl
theorem a24 : isAgg Try.prog 24 = some false := by kernel_rfl
theorem k24 : zok Try.prog 24 = true := by kernel_rfl
theorem z24 : zeroV Try.prog 24 = some (.s (.slice none 0 0)) := by kernel_rfl
theorem u25 : Try.prog.underlying 25 = some (.pointer 62) := by kernel_rfl
theorem h25 : Try.prog.stoodInHeld 25 = false := by kernel_rfl
theorem c25 : Try.prog.cellsOf 25 = 1 := by kernel_rfl
theorem b25 : Try.prog.bytesOf 25 = 8 := by kernel_rfl
theorem a25 : isAgg Try.prog 25 = some false := by kernel_rfl
theorem k25 : zok Try.prog 25 = true := by kernel_rfl
theorem z25 : zeroV Try.prog 25 = some (.s (.pointer none)) := by kernel_rfl
theorem u26 : Try.prog.underlying 26 = some (.int .i64) := by kernel_rfl
theorem h26 : Try.prog.stoodInHeld 26 = false := by kernel_rfl
theorem c26 : Try.prog.cellsOf 26 = 1 := by kernel_rfl
theorem b26 : Try.prog.bytesOf 26 = 8 := by kernel_rfl
theorem a26 : isAgg Try.prog 26 = some false := by kernel_rfl
theorem k26 : zok Try.prog 26 = true := by kernel_rfl
theorem z26 : zeroV Try.prog 26 = some (.s (.int .i64 0)) := by kernel_rfl
theorem u27 : Try.prog.underlying 27 = some (.tuple #[25, 26]) := by kernel_rfl
theorem u28 : Try.prog.underlying 28 = some (.func #[3, 3, 3] #[25, 26] false) := by kernel_rfl
theorem u29 : Try.prog.underlying 29 = some (.func #[] #[4] false) := by kernel_rfl
theorem u30 : Try.prog.underlying 30 = some (.func #[3, 23, 3, 3] #[26] false) := by kernel_rfl
theorem u31 : Try.prog.underlying 31 = some (.tuple #[3, 4]) := by kernel_rfl
theorem u32 : Try.prog.underlying 32 = some (.func #[3, 23] #[3, 4] false) := by kernel_rfl
theorem u33 : Try.prog.underlying 33 = some (.func #[] #[3] false) := by kernel_rfl
theorem u34 : Try.prog.underlying 34 = some (.struct #[⟨ "Kind", 3, 0, false, "", "", 0⟩, ⟨ "VID", 3, 1, false, "", "", 8⟩, ⟨ "M", 23, 2, false, "", "", 16⟩, ⟨ "Port", 3, 8, false, "", "", 24⟩, ⟨ "Tick", 3, 9, false, "", "", 32⟩]) := by kernel_rfl
theorem h34 : Try.prog.stoodInHeld 34 = false := by kernel_rfl
theorem c34 : Try.prog.cellsOf 34 = 10 := by kernel_rfl
theorem b34 : Try.prog.bytesOf 34 = 40 := by kernel_rfl
theorem a34 : isAgg Try.prog 34 = some true := by kernel_rfl
theorem k34 : zok Try.prog 34 = true := by kernel_rfl
theorem z34 : zeroV Try.prog 34 = some (.agg [(.s (.int .i64 0)), (.s (.int .i64 0)), (.s (.int .u8 0)), (.s (.int .u8 0)), (.s (.int .u8 0)), (.s (.int .u8 0)), (.s (.int .u8 0)), (.s (.int .u8 0)), (.s (.int .i64 0)), (.s (.int .i64 0))]) := by kernel_rfl
theorem u35 : Try.prog.underlying 35 = some (.struct #[⟨ "Kind", 3, 0, false, "", "", 0⟩, ⟨ "VID", 3, 1, false, "", "", 8⟩, ⟨ "M", 23, 2, false, "", "", 16⟩, ⟨ "Port", 3, 8, false, "", "", 24⟩, ⟨ "Tick", 3, 9, false, "", "", 32⟩]) := by kernel_rfl
theorem h35 : Try.prog.stoodInHeld 35 = false := by kernel_rfl
theorem c35 : Try.prog.cellsOf 35 = 10 := by kernel_rfl
theorem b35 : Try.prog.bytesOf 35 = 40 := by kernel_rfl
theorem a35 : isAgg Try.prog 35 = some true := by kernel_rfl
theorem k35 : zok Try.prog 35 = true := by kernel_rfl
theorem z35 : zeroV Try.prog 35 = some (.agg [(.s (.int .i64 0)), (.s (.int .i64 0)), (.s (.int .u8 0)), (.s (.int .u8 0)), (.s (.int .u8 0)), (.s (.int .u8 0)), (.s (.int .u8 0)), (.s (.int .u8 0)), (.s (.int .i64 0)), (.s (.int .i64 0))]) := by kernel_rfl
theorem u36 : Try.prog.underlying 36 = some (.func #[3] #[3] false) := by kernel_rfl
theorem u37 : Try.prog.underlying 37 = some (.func #[3, 23, 3, 3, 24, 5] #[4] false) := by kernel_rfl
theorem u38 : Try.prog.underlying 38 = some (.slice 42) := by kernel_rfl
theorem h38 : Try.prog.stoodInHeld 38 = false := by kernel_rfl
theorem c38 : Try.prog.cellsOf 38 = 1 := by kernel_rfl
theorem b38 : Try.prog.bytesOf 38 = 24 := by kernel_rfl
theorem a38 : isAgg Try.prog 38 = some false := by kernel_rfl
theorem k38 : zok Try.prog 38 = true := by kernel_rfl
theorem z38 : zeroV Try.prog 38 = some (.s (.slice none 0 0)) := by kernel_rfl
theorem u39 : Try.prog.underlying 39 = some (.func #[] #[38] false) := by kernel_rfl
theorem u40 : Try.prog.underlying 40 = some (.func #[25, 35] #[] false) := by kernel_rfl
theorem u41 : Try.prog.underlying 41 = some (.struct #[⟨ "VID", 3, 0, false, "", "", 0⟩, ⟨ "M", 23, 1, false, "", "", 8⟩, ⟨ "Port", 3, 7, false, "", "", 16⟩, ⟨ "Static", 4, 8, false, "", "", 24⟩, ⟨ "Seen", 3, 9, false, "", "", 32⟩]) := by kernel_rfl
theorem h41 : Try.prog.stoodInHeld 41 = false := by kernel_rfl
theorem c41 : Try.prog.cellsOf 41 = 10 := by kernel_rfl
theorem b41 : Try.prog.bytesOf 41 = 40 := by kernel_rfl
theorem a41 : isAgg Try.prog 41 = some true := by kernel_rfl
theorem k41 : zok Try.prog 41 = true := by kernel_rfl
theorem z41 : zeroV Try.prog 41 = some (.agg [(.s (.int .i64 0)), (.s (.int .u8 0)), (.s (.int .u8 0)), (.s (.int .u8 0)), (.s (.int .u8 0)), (.s (.int .u8 0)), (.s (.int .u8 0)), (.s (.int .i64 0)), (.s (.bool false)), (.s (.int .i64 0))]) := by kernel_rfl
theorem u42 : Try.prog.underlying 42 = some (.struct #[⟨ "VID", 3, 0, false, "", "", 0⟩, ⟨ "M", 23, 1, false, "", "", 8⟩, ⟨ "Port", 3, 7, false, "", "", 16⟩, ⟨ "Static", 4, 8, false, "", "", 24⟩, ⟨ "Seen", 3, 9, false, "", "", 32⟩]) := by kernel_rfl
theorem h42 : Try.prog.stoodInHeld 42 = false := by kernel_rfl
theorem c42 : Try.prog.cellsOf 42 = 10 := by kernel_rfl
theorem b42 : Try.prog.bytesOf 42 = 40 := by kernel_rfl
theorem a42 : isAgg Try.prog 42 = some true := by kernel_rfl
theorem k42 : zok Try.prog 42 = true := by kernel_rfl
theorem z42 : zeroV Try.prog 42 = some (.agg [(.s (.int .i64 0)), (.s (.int .u8 0)), (.s (.int .u8 0)), (.s (.int .u8 0)), (.s (.int .u8 0)), (.s (.int .u8 0)), (.s (.int .u8 0)), (.s (.int .i64 0)), (.s (.bool false)), (.s (.int .i64 0))]) := by kernel_rfl
theorem u43 : Try.prog.underlying 43 = some (.slice 5) := by kernel_rfl
theorem h43 : Try.prog.stoodInHeld 43 = false := by kernel_rfl
theorem c43 : Try.prog.cellsOf 43 = 1 := by kernel_rfl
theorem b43 : Try.prog.bytesOf 43 = 24 := by kernel_rfl
theorem a43 : isAgg Try.prog 43 = some false := by kernel_rfl
theorem k43 : zok Try.prog 43 = true := by kernel_rfl
theorem z43 : zeroV Try.prog 43 = some (.s (.slice none 0 0)) := by kernel_rfl
theorem u44 : Try.prog.underlying 44 = some (.func #[5, 24] #[4] false) := by kernel_rfl
theorem u45 : Try.prog.underlying 45 = some (.func #[3, 23, 3] #[26] false) := by kernel_rfl
theorem u46 : Try.prog.underlying 46 = some (.func #[3, 23] #[26] false) := by kernel_rfl
theorem u47 : Try.prog.underlying 47 = some (.func #[38, 38] #[4] false) := by kernel_rfl
theorem u48 : Try.prog.underlying 48 = some (.func #[24, 35] #[4] false) := by kernel_rfl
theorem u49 : Try.prog.underlying 49 = some (.struct #[⟨ "Ports", 3, 0, false, "", "", 0⟩, ⟨ "Room", 3, 1, false, "", "", 8⟩, ⟨ "Life", 3, 2, false, "", "", 16⟩, ⟨ "L", 38, 3, false, "", "", 24⟩]) := by kernel_rfl
theorem h49 : Try.prog.stoodInHeld 49 = false := by kernel_rfl
theorem c49 : Try.prog.cellsOf 49 = 4 := by kernel_rfl
theorem b49 : Try.prog.bytesOf 49 = 48 := by kernel_rfl
theorem a49 : isAgg Try.prog 49 = some true := by kernel_rfl
theorem k49 : zok Try.prog 49 = true := by kernel_rfl
theorem z49 : zeroV Try.prog 49 = some (.agg [(.s (.int .i64 0)), (.s (.int .i64 0)), (.s (.int .i64 0)), (.s (.slice none 0 0))]) := by kernel_rfl
theorem u50 : Try.prog.underlying 50 = some (.struct #[⟨ "Ports", 3, 0, false, "", "", 0⟩, ⟨ "Room", 3, 1, false, "", "", 8⟩, ⟨ "Life", 3, 2, false, "", "", 16⟩, ⟨ "L", 38, 3, false, "", "", 24⟩]) := by kernel_rfl
theorem h50 : Try.prog.stoodInHeld 50 = false := by kernel_rfl
theorem c50 : Try.prog.cellsOf 50 = 4 := by kernel_rfl
theorem b50 : Try.prog.bytesOf 50 = 48 := by kernel_rfl
theorem a50 : isAgg Try.prog 50 = some true := by kernel_rfl
theorem k50 : zok Try.prog 50 = true := by kernel_rfl
theorem z50 : zeroV Try.prog 50 = some (.agg [(.s (.int .i64 0)), (.s (.int .i64 0)), (.s (.int .i64 0)), (.s (.slice none 0 0))]) := by kernel_rfl
theorem u51 : Try.prog.underlying 51 = some (.tuple #[50, 3]) := by kernel_rfl
theorem u52 : Try.prog.underlying 52 = some (.func #[3, 3, 3] #[50, 3] false) := by kernel_rfl
theorem u53 : Try.prog.underlying 53 = some (.func #[50, 3, 23, 3, 3] #[50, 3] false) := by kernel_rfl
theorem u54 : Try.prog.underlying 54 = some (.func #[50, 3, 23, 3] #[50, 3] false) := by kernel_rfl
theorem u55 : Try.prog.underlying 55 = some (.func #[50, 3, 23] #[50, 3] false) := by kernel_rfl
theorem u56 : Try.prog.underlying 56 = some (.func #[50, 3, 23] #[3, 4] false) := by kernel_rfl
theorem u57 : Try.prog.underlying 57 = some (.func #[50, 3] #[50, 3] false) := by kernel_rfl
theorem u58 : Try.prog.underlying 58 = some (.func #[] #[25] false) := by kernel_rfl
theorem u59 : Try.prog.underlying 59 = some (.func #[3, 3, 3, 24] #[4] false) := by kernel_rfl
theorem u60 : Try.prog.underlying 60 = some (.map 68 70) := by kernel_rfl
theorem h60 : Try.prog.stoodInHeld 60 = false := by kernel_rfl
theorem c60 : Try.prog.cellsOf 60 = 1 := by kernel_rfl
theorem b60 : Try.prog.bytesOf 60 = 8 := by kernel_rfl
theorem a60 : isAgg Try.prog 60 = some false := by kernel_rfl
theorem k60 : zok Try.prog 60 = true := by kernel_rfl
theorem z60 : zeroV Try.prog 60 = some (.s (.map none)) := by kernel_rfl
theorem u61 : Try.prog.underlying 61 = some (.struct #[⟨ "ports", 3, 0, false, "", "pontage/fdb", 0⟩, ⟨ "room", 3, 1, false, "", "pontage/fdb", 8⟩, ⟨ "age", 3, 2, false, "", "pontage/fdb", 16⟩, ⟨ "l", 60, 3, false, "", "pontage/fdb", 24⟩]) := by kernel_rfl
theorem h61 : Try.prog.stoodInHeld 61 = false := by kernel_rfl
theorem c61 : Try.prog.cellsOf 61 = 4 := by kernel_rfl
theorem b61 : Try.prog.bytesOf 61 = 32 := by kernel_rfl
theorem a61 : isAgg Try.prog 61 = some true := by kernel_rfl
theorem k61 : zok Try.prog 61 = true := by kernel_rfl
theorem z61 : zeroV Try.prog 61 = some (.agg [(.s (.int .i64 0)), (.s (.int .i64 0)), (.s (.int .i64 0)), (.s (.map none))]) := by kernel_rfl
theorem u62 : Try.prog.underlying 62 = some (.struct #[⟨ "ports", 3, 0, false, "", "pontage/fdb", 0⟩, ⟨ "room", 3, 1, false, "", "pontage/fdb", 8⟩, ⟨ "age", 3, 2, false, "", "pontage/fdb", 16⟩, ⟨ "l", 60, 3, false, "", "pontage/fdb", 24⟩]) := by kernel_rfl
theorem h62 : Try.prog.stoodInHeld 62 = false := by kernel_rfl
theorem c62 : Try.prog.cellsOf 62 = 4 := by kernel_rfl
theorem b62 : Try.prog.bytesOf 62 = 32 := by kernel_rfl
theorem a62 : isAgg Try.prog 62 = some true := by kernel_rfl
theorem k62 : zok Try.prog 62 = true := by kernel_rfl
theorem z62 : zeroV Try.prog 62 = some (.agg [(.s (.int .i64 0)), (.s (.int .i64 0)), (.s (.int .i64 0)), (.s (.map none))]) := by kernel_rfl
theorem u63 : Try.prog.underlying 63 = some (.slice 25) := by kernel_rfl
theorem h63 : Try.prog.stoodInHeld 63 = false := by kernel_rfl
theorem c63 : Try.prog.cellsOf 63 = 1 := by kernel_rfl
theorem b63 : Try.prog.bytesOf 63 = 24 := by kernel_rfl
theorem a63 : isAgg Try.prog 63 = some false := by kernel_rfl
theorem k63 : zok Try.prog 63 = true := by kernel_rfl
theorem z63 : zeroV Try.prog 63 = some (.s (.slice none 0 0)) := by kernel_rfl
theorem u64 : Try.prog.underlying 64 = some (.func #[35] #[4] false) := by kernel_rfl
theorem u65 : Try.prog.underlying 65 = some (.func #[3] #[23] false) := by kernel_rfl
theorem u66 : Try.prog.underlying 66 = some (.func #[3, 23, 3] #[4] false) := by kernel_rfl
theorem u67 : Try.prog.underlying 67 = some (.struct #[⟨ "vid", 3, 0, false, "", "pontage/fdb", 0⟩, ⟨ "m", 23, 1, false, "", "pontage/fdb", 8⟩]) := by kernel_rfl
theorem h67 : Try.prog.stoodInHeld 67 = false := by kernel_rfl
theorem c67 : Try.prog.cellsOf 67 = 7 := by kernel_rfl
theorem b67 : Try.prog.bytesOf 67 = 16 := by kernel_rfl
theorem a67 : isAgg Try.prog 67 = some true := by kernel_rfl
theorem k67 : zok Try.prog 67 = true := by kernel_rfl
theorem z67 : zeroV Try.prog 67 = some (.agg [(.s (.int .i64 0)), (.s (.int .u8 0)), (.s (.int .u8 0)), (.s (.int .u8 0)), (.s (.int .u8 0)), (.s (.int .u8 0)), (.s (.int .u8 0))]) := by kernel_rfl
theorem u68 : Try.prog.underlying 68 = some (.struct #[⟨ "vid", 3, 0, false, "", "pontage/fdb", 0⟩, ⟨ "m", 23, 1, false, "", "pontage/fdb", 8⟩]) := by kernel_rfl
theorem h68 : Try.prog.stoodInHeld 68 = false := by kernel_rfl
theorem c68 : Try.prog.cellsOf 68 = 7 := by kernel_rfl
theorem b68 : Try.prog.bytesOf 68 = 16 := by kernel_rfl
theorem a68 : isAgg Try.prog 68 = some true := by kernel_rfl
theorem k68 : zok Try.prog 68 = true := by kernel_rfl
theorem z68 : zeroV Try.prog 68 = some (.agg [(.s (.int .i64 0)), (.s (.int .u8 0)), (.s (.int .u8 0)), (.s (.int .u8 0)), (.s (.int .u8 0)), (.s (.int .u8 0)), (.s (.int .u8 0))]) := by kernel_rfl
theorem u69 : Try.prog.underlying 69 = some (.struct #[⟨ "port", 3, 0, false, "", "pontage/fdb", 0⟩, ⟨ "static", 4, 1, false, "", "pontage/fdb", 8⟩, ⟨ "seen", 3, 2, false, "", "pontage/fdb", 16⟩]) := by kernel_rfl
theorem h69 : Try.prog.stoodInHeld 69 = false := by kernel_rfl
theorem c69 : Try.prog.cellsOf 69 = 3 := by kernel_rfl
theorem b69 : Try.prog.bytesOf 69 = 24 := by kernel_rfl
theorem a69 : isAgg Try.prog 69 = some true := by kernel_rfl
theorem k69 : zok Try.prog 69 = true := by kernel_rfl
theorem z69 : zeroV Try.prog 69 = some (.agg [(.s (.int .i64 0)), (.s (.bool false)), (.s (.int .i64 0))]) := by kernel_rfl
theorem u70 : Try.prog.underlying 70 = some (.struct #[⟨ "port", 3, 0, false, "", "pontage/fdb", 0⟩, ⟨ "static", 4, 1, false, "", "pontage/fdb", 8⟩, ⟨ "seen", 3, 2, false, "", "pontage/fdb", 16⟩]) := by kernel_rfl
theorem h70 : Try.prog.stoodInHeld 70 = false := by kernel_rfl
theorem c70 : Try.prog.cellsOf 70 = 3 := by kernel_rfl
theorem b70 : Try.prog.bytesOf 70 = 24 := by kernel_rfl
theorem a70 : isAgg Try.prog 70 = some true := by kernel_rfl
theorem k70 : zok Try.prog 70 = true := by kernel_rfl
theorem z70 : zeroV Try.prog 70 = some (.agg [(.s (.int .i64 0)), (.s (.bool false)), (.s (.int .i64 0))]) := by kernel_rfl
theorem u71 : Try.prog.underlying 71 = some (.tuple #[70, 4]) := by kernel_rfl
theorem u72 : Try.prog.underlying 72 = some (.func #[73] #[3] false) := by kernel_rfl
theorem u73 : Try.prog.underlying 73 = some (.func #[68, 70] #[4] false) := by kernel_rfl
theorem u74 : Try.prog.underlying 74 = some (.func #[38, 76] #[] false) := by kernel_rfl
theorem u75 : Try.prog.underlying 75 = some (.func #[68, 68] #[4] false) := by kernel_rfl
theorem u76 : Try.prog.underlying 76 = some (.func #[42, 42] #[3] false) := by kernel_rfl
theorem u77 : Try.prog.underlying 77 = some (.func #[50, 3, 23, 3] #[4] false) := by kernel_rfl
theorem u78 : Try.prog.underlying 78 = some (.func #[50, 3, 23] #[3] false) := by kernel_rfl
theorem u79 : Try.prog.underlying 79 = some (.func #[50, 42] #[50, 3] false) := by kernel_rfl
theorem u80 : Try.prog.underlying 80 = some (.func #[50, 3] #[50] false) := by kernel_rfl
theorem u81 : Try.prog.underlying 81 = some (.int .i64) := by kernel_rfl
theorem h81 : Try.prog.stoodInHeld 81 = false := by kernel_rfl
theorem c81 : Try.prog.cellsOf 81 = 1 := by kernel_rfl
theorem b81 : Try.prog.bytesOf 81 = 8 := by kernel_rfl
theorem a81 : isAgg Try.prog 81 = some false := by kernel_rfl
theorem k81 : zok Try.prog 81 = true := by kernel_rfl
theorem z81 : zeroV Try.prog 81 = some (.s (.int .i64 0)) := by kernel_rfl
theorem u82 : Try.prog.underlying 82 = some (.func #[23] #[81] false) := by kernel_rfl
theorem u83 : Try.prog.underlying 83 = some (.func #[38, 3, 3, 3, 76] #[] false) := by kernel_rfl
theorem u84 : Try.prog.underlying 84 = some (.func #[85] #[3] false) := by kernel_rfl
theorem u85 : Try.prog.underlying 85 = some (.int .u64) := by kernel_rfl
theorem h85 : Try.prog.stoodInHeld 85 = false := by kernel_rfl
theorem c85 : Try.prog.cellsOf 85 = 1 := by kernel_rfl
theorem b85 : Try.prog.bytesOf 85 = 8 := by kernel_rfl
theorem a85 : isAgg Try.prog 85 = some false := by kernel_rfl
theorem k85 : zok Try.prog 85 = true := by kernel_rfl
theorem z85 : zeroV Try.prog 85 = some (.s (.int .u64 0)) := by kernel_rfl
theorem u86 : Try.prog.underlying 86 = some (.func #[23, 23] #[4] false) := by kernel_rfl
theorem u87 : Try.prog.underlying 87 = some (.func #[50, 42] #[50] false) := by kernel_rfl
theorem u88 : Try.prog.underlying 88 = some (.tuple #[50, 4]) := by kernel_rfl
theorem u89 : Try.prog.underlying 89 = some (.func #[50] #[50, 4] false) := by kernel_rfl
theorem u90 : Try.prog.underlying 90 = some (.array 5 5) := by kernel_rfl
theorem h90 : Try.prog.stoodInHeld 90 = false := by kernel_rfl
theorem c90 : Try.prog.cellsOf 90 = 5 := by kernel_rfl
theorem b90 : Try.prog.bytesOf 90 = 5 := by kernel_rfl
theorem a90 : isAgg Try.prog 90 = some true := by kernel_rfl
theorem k90 : zok Try.prog 90 = true := by kernel_rfl
theorem z90 : zeroV Try.prog 90 = some (.agg [(.s (.int .u8 0)), (.s (.int .u8 0)), (.s (.int .u8 0)), (.s (.int .u8 0)), (.s (.int .u8 0))]) := by kernel_rfl
theorem u91 : Try.prog.underlying 91 = some (.array 3 5) := by kernel_rfl
theorem h91 : Try.prog.stoodInHeld 91 = false := by kernel_rfl
theorem c91 : Try.prog.cellsOf 91 = 3 := by kernel_rfl
theorem b91 : Try.prog.bytesOf 91 = 3 := by kernel_rfl
theorem a91 : isAgg Try.prog 91 = some true := by kernel_rfl
theorem k91 : zok Try.prog 91 = true := by kernel_rfl
theorem z91 : zeroV Try.prog 91 = some (.agg [(.s (.int .u8 0)), (.s (.int .u8 0)), (.s (.int .u8 0))]) := by kernel_rfl
theorem u92 : Try.prog.underlying 92 = some (.func #[23] #[4] false) := by kernel_rfl
theorem u93 : Try.prog.underlying 93 = some (.func #[38, 3, 3, 76] #[] false) := by kernel_rfl
theorem u94 : Try.prog.underlying 94 = some (.int .i64) := by kernel_rfl
theorem h94 : Try.prog.stoodInHeld 94 = false := by kernel_rfl
theorem c94 : Try.prog.cellsOf 94 = 1 := by kernel_rfl
theorem b94 : Try.prog.bytesOf 94 = 8 := by kernel_rfl
theorem a94 : isAgg Try.prog 94 = some false := by kernel_rfl
theorem k94 : zok Try.prog 94 = true := by kernel_rfl
theorem z94 : zeroV Try.prog 94 = some (.s (.int .i64 0)) := by kernel_rfl
theorem u95 : Try.prog.underlying 95 = some (.tuple #[3, 94]) := by kernel_rfl
theorem u96 : Try.prog.underlying 96 = some (.func #[38, 3, 3, 76] #[3, 94] false) := by kernel_rfl
theorem u97 : Try.prog.underlying 97 = some (.func #[38, 3, 3, 76] #[4] false) := by kernel_rfl
theorem u98 : Try.prog.underlying 98 = some (.func #[38, 3, 3, 3, 76] #[3] false) := by kernel_rfl
theorem u99 : Try.prog.underlying 99 = some (.func #[38, 3, 3, 3, 76] #[3, 4] false) := by kernel_rfl
theorem u100 : Try.prog.underlying 100 = some (.func #[101] #[3] false) := by kernel_rfl
theorem u101 : Try.prog.underlying 101 = some (.int .u32) := by kernel_rfl
theorem h101 : Try.prog.stoodInHeld 101 = false := by kernel_rfl
theorem c101 : Try.prog.cellsOf 101 = 1 := by kernel_rfl
theorem b101 : Try.prog.bytesOf 101 = 4 := by kernel_rfl
theorem a101 : isAgg Try.prog 101 = some false := by kernel_rfl
theorem k101 : zok Try.prog 101 = true := by kernel_rfl
theorem z101 : zeroV Try.prog 101 = some (.s (.int .u32 0)) := by kernel_rfl
theorem u102 : Try.prog.underlying 102 = some (.func #[103] #[3] false) := by kernel_rfl
theorem u103 : Try.prog.underlying 103 = some (.int .u64) := by kernel_rfl
theorem h103 : Try.prog.stoodInHeld 103 = false := by kernel_rfl
theorem c103 : Try.prog.cellsOf 103 = 1 := by kernel_rfl
theorem b103 : Try.prog.bytesOf 103 = 8 := by kernel_rfl
theorem a103 : isAgg Try.prog 103 = some false := by kernel_rfl
theorem k103 : zok Try.prog 103 = true := by kernel_rfl
theorem z103 : zeroV Try.prog 103 = some (.s (.int .u64 0)) := by kernel_rfl
theorem u104 : Try.prog.underlying 104 = some (.func #[43, 43] #[3] false) := by kernel_rfl
theorem u105 : Try.prog.underlying 105 = some (.func #[23, 5] #[4] false) := by kernel_rfl
theorem u106 : Try.prog.underlying 106 = some (.func #[23] #[103] false) := by kernel_rfl
theorem u107 : Try.prog.underlying 107 = some (.int .u64) := by kernel_rfl
theorem h107 : Try.prog.stoodInHeld 107 = false := by kernel_rfl
theorem c107 : Try.prog.cellsOf 107 = 1 := by kernel_rfl
theorem b107 : Try.prog.bytesOf 107 = 8 := by kernel_rfl
theorem a107 : isAgg Try.prog 107 = some false := by kernel_rfl
theorem k107 : zok Try.prog 107 = true := by kernel_rfl
theorem z107 : zeroV Try.prog 107 = some (.s (.int .u64 0)) := by kernel_rfl
theorem u108 : Try.prog.underlying 108 = some (.func #[3] #[85] false) := by kernel_rfl
theorem u109 : Try.prog.underlying 109 = some (.func #[] #[103] false) := by kernel_rfl
theorem u110 : Try.prog.underlying 110 = some (.func #[38, 3, 111, 76] #[3] false) := by kernel_rfl
theorem u111 : Try.prog.underlying 111 = some (.pointer 3) := by kernel_rfl
theorem h111 : Try.prog.stoodInHeld 111 = false := by kernel_rfl
theorem c111 : Try.prog.cellsOf 111 = 1 := by kernel_rfl
theorem b111 : Try.prog.bytesOf 111 = 8 := by kernel_rfl
theorem a111 : isAgg Try.prog 111 = some false := by kernel_rfl
theorem k111 : zok Try.prog 111 = true := by kernel_rfl
theorem z111 : zeroV Try.prog 111 = some (.s (.pointer none)) := by kernel_rfl
theorem u112 : Try.prog.underlying 112 = some (.func #[38, 3, 3, 3, 111, 76] #[3] false) := by kernel_rfl
theorem u113 : Try.prog.underlying 113 = some (.func #[5, 5] #[3] false) := by kernel_rfl
theorem u114 : Try.prog.underlying 114 = some (.pointer 107) := by kernel_rfl
theorem h114 : Try.prog.stoodInHeld 114 = false := by kernel_rfl
theorem c114 : Try.prog.cellsOf 114 = 1 := by kernel_rfl
theorem b114 : Try.prog.bytesOf 114 = 8 := by kernel_rfl
theorem a114 : isAgg Try.prog 114 = some false := by kernel_rfl
theorem k114 : zok Try.prog 114 = true := by kernel_rfl
theorem z114 : zeroV Try.prog 114 = some (.s (.pointer none)) := by kernel_rfl
theorem u115 : Try.prog.underlying 115 = some (.tuple #[3, 3]) := by kernel_rfl
theorem u116 : Try.prog.underlying 116 = some (.func #[38, 3, 3, 111, 76] #[3, 3] false) := by kernel_rfl
theorem u117 : Try.prog.underlying 117 = some (.func #[5] #[4] false) := by kernel_rfl
theorem u118 : Try.prog.underlying 118 = some (.func #[] #[9] false) := by kernel_rfl
theorem u119 : Try.prog.underlying 119 = some (.struct #[⟨ "_interface", 17, 0, false, "", "runtime", 0⟩, ⟨ "concrete", 17, 1, false, "", "runtime", 8⟩, ⟨ "asserted", 17, 2, false, "", "runtime", 16⟩, ⟨ "missingMethod", 9, 3, false, "", "runtime", 24⟩]) := by kernel_rfl
theorem h119 : Try.prog.stoodInHeld 119 = true := by kernel_rfl
theorem c119 : Try.prog.cellsOf 119 = 4 := by kernel_rfl
theorem b119 : Try.prog.bytesOf 119 = 40 := by kernel_rfl
theorem a119 : isAgg Try.prog 119 = some true := by kernel_rfl
theorem k119 : zok Try.prog 119 = true := by kernel_rfl
theorem z119 : zeroV Try.prog 119 = some (.agg [(.s (.pointer none)), (.s (.pointer none)), (.s (.pointer none)), (.s (.string ⟨#[]⟩))]) := by kernel_rfl
theorem u120 : Try.prog.underlying 120 = some (.struct #[⟨ "_interface", 17, 0, false, "", "runtime", 0⟩, ⟨ "concrete", 17, 1, false, "", "runtime", 8⟩, ⟨ "asserted", 17, 2, false, "", "runtime", 16⟩, ⟨ "missingMethod", 9, 3, false, "", "runtime", 24⟩]) := by kernel_rfl
theorem h120 : Try.prog.stoodInHeld 120 = true := by kernel_rfl
theorem c120 : Try.prog.cellsOf 120 = 4 := by kernel_rfl
theorem b120 : Try.prog.bytesOf 120 = 40 := by kernel_rfl
theorem a120 : isAgg Try.prog 120 = some true := by kernel_rfl
theorem k120 : zok Try.prog 120 = true := by kernel_rfl
theorem z120 : zeroV Try.prog 120 = some (.agg [(.s (.pointer none)), (.s (.pointer none)), (.s (.pointer none)), (.s (.string ⟨#[]⟩))]) := by kernel_rfl
theorem u121 : Try.prog.underlying 121 = some (.array 0 16) := by kernel_rfl
theorem h121 : Try.prog.stoodInHeld 121 = false := by kernel_rfl
theorem c121 : Try.prog.cellsOf 121 = 0 := by kernel_rfl
theorem b121 : Try.prog.bytesOf 121 = 0 := by kernel_rfl
theorem a121 : isAgg Try.prog 121 = some true := by kernel_rfl
theorem k121 : zok Try.prog 121 = true := by kernel_rfl
theorem z121 : zeroV Try.prog 121 = some (.agg []) := by kernel_rfl
theorem u122 : Try.prog.underlying 122 = some (.struct #[⟨ "_", 121, 0, false, "", "runtime", 0⟩]) := by kernel_rfl
theorem h122 : Try.prog.stoodInHeld 122 = true := by kernel_rfl
theorem c122 : Try.prog.cellsOf 122 = 0 := by kernel_rfl
theorem b122 : Try.prog.bytesOf 122 = 0 := by kernel_rfl
theorem a122 : isAgg Try.prog 122 = some true := by kernel_rfl
theorem k122 : zok Try.prog 122 = true := by kernel_rfl
theorem z122 : zeroV Try.prog 122 = some (.agg []) := by kernel_rfl
theorem u123 : Try.prog.underlying 123 = some (.struct #[⟨ "_", 121, 0, false, "", "runtime", 0⟩]) := by kernel_rfl
theorem h123 : Try.prog.stoodInHeld 123 = true := by kernel_rfl
theorem c123 : Try.prog.cellsOf 123 = 0 := by kernel_rfl
theorem b123 : Try.prog.bytesOf 123 = 0 := by kernel_rfl
theorem a123 : isAgg Try.prog 123 = some true := by kernel_rfl
theorem k123 : zok Try.prog 123 = true := by kernel_rfl
theorem z123 : zeroV Try.prog 123 = some (.agg []) := by kernel_rfl
theorem u124 : Try.prog.underlying 124 = some (.int .u8) := by kernel_rfl
theorem h124 : Try.prog.stoodInHeld 124 = false := by kernel_rfl
theorem c124 : Try.prog.cellsOf 124 = 1 := by kernel_rfl
theorem b124 : Try.prog.bytesOf 124 = 1 := by kernel_rfl
theorem a124 : isAgg Try.prog 124 = some false := by kernel_rfl
theorem k124 : zok Try.prog 124 = true := by kernel_rfl
theorem z124 : zeroV Try.prog 124 = some (.s (.int .u8 0)) := by kernel_rfl
theorem u125 : Try.prog.underlying 125 = some (.int .u8) := by kernel_rfl
theorem h125 : Try.prog.stoodInHeld 125 = false := by kernel_rfl
theorem c125 : Try.prog.cellsOf 125 = 1 := by kernel_rfl
theorem b125 : Try.prog.bytesOf 125 = 1 := by kernel_rfl
theorem a125 : isAgg Try.prog 125 = some false := by kernel_rfl
theorem k125 : zok Try.prog 125 = true := by kernel_rfl
theorem z125 : zeroV Try.prog 125 = some (.s (.int .u8 0)) := by kernel_rfl
theorem u126 : Try.prog.underlying 126 = some (.func #[132, 132] #[4] false) := by kernel_rfl
theorem u127 : Try.prog.underlying 127 = some (.pointer 5) := by kernel_rfl
theorem h127 : Try.prog.stoodInHeld 127 = false := by kernel_rfl
theorem c127 : Try.prog.cellsOf 127 = 1 := by kernel_rfl
theorem b127 : Try.prog.bytesOf 127 = 8 := by kernel_rfl
theorem a127 : isAgg Try.prog 127 = some false := by kernel_rfl
theorem k127 : zok Try.prog 127 = true := by kernel_rfl
theorem z127 : zeroV Try.prog 127 = some (.s (.pointer none)) := by kernel_rfl
theorem u128 : Try.prog.underlying 128 = some (.int .i32) := by kernel_rfl
theorem h128 : Try.prog.stoodInHeld 128 = false := by kernel_rfl
theorem c128 : Try.prog.cellsOf 128 = 1 := by kernel_rfl
theorem b128 : Try.prog.bytesOf 128 = 4 := by kernel_rfl
theorem a128 : isAgg Try.prog 128 = some false := by kernel_rfl
theorem k128 : zok Try.prog 128 = true := by kernel_rfl
theorem z128 : zeroV Try.prog 128 = some (.s (.int .i32 0)) := by kernel_rfl
theorem u129 : Try.prog.underlying 129 = some (.int .i32) := by kernel_rfl
theorem h129 : Try.prog.stoodInHeld 129 = false := by kernel_rfl
theorem c129 : Try.prog.cellsOf 129 = 1 := by kernel_rfl
theorem b129 : Try.prog.bytesOf 129 = 4 := by kernel_rfl
theorem a129 : isAgg Try.prog 129 = some false := by kernel_rfl
theorem k129 : zok Try.prog 129 = true := by kernel_rfl
theorem z129 : zeroV Try.prog 129 = some (.s (.int .i32 0)) := by kernel_rfl
theorem u130 : Try.prog.underlying 130 = some (.struct #[⟨ "Size_", 12, 0, false, "", "", 0⟩, ⟨ "PtrBytes", 12, 1, false, "", "", 8⟩, ⟨ "Hash", 101, 2, false, "", "", 16⟩, ⟨ "TFlag", 124, 3, false, "", "", 20⟩, ⟨ "Align_", 5, 4, false, "", "", 21⟩, ⟨ "FieldAlign_", 5, 5, false, "", "", 22⟩, ⟨ "Kind_", 125, 6, false, "", "", 23⟩, ⟨ "Equal", 126, 7, false, "", "", 24⟩, ⟨ "GCData", 127, 8, false, "", "", 32⟩, ⟨ "Str", 128, 9, false, "", "", 40⟩, ⟨ "PtrToThis", 129, 10, false, "", "", 44⟩]) := by kernel_rfl
theorem h130 : Try.prog.stoodInHeld 130 = true := by kernel_rfl
theorem c130 : Try.prog.cellsOf 130 = 11 := by kernel_rfl
theorem b130 : Try.prog.bytesOf 130 = 48 := by kernel_rfl
theorem a130 : isAgg Try.prog 130 = some true := by kernel_rfl
theorem k130 : zok Try.prog 130 = true := by kernel_rfl
theorem z130 : zeroV Try.prog 130 = some (.agg [(.s (.int .u64 0)), (.s (.int .u64 0)), (.s (.int .u32 0)), (.s (.int .u8 0)), (.s (.int .u8 0)), (.s (.int .u8 0)), (.s (.int .u8 0)), (.s .nilFunc), (.s (.pointer none)), (.s (.int .i32 0)), (.s (.int .i32 0))]) := by kernel_rfl
theorem u131 : Try.prog.underlying 131 = some (.struct #[⟨ "Size_", 12, 0, false, "", "", 0⟩, ⟨ "PtrBytes", 12, 1, false, "", "", 8⟩, ⟨ "Hash", 101, 2, false, "", "", 16⟩, ⟨ "TFlag", 124, 3, false, "", "", 20⟩, ⟨ "Align_", 5, 4, false, "", "", 21⟩, ⟨ "FieldAlign_", 5, 5, false, "", "", 22⟩, ⟨ "Kind_", 125, 6, false, "", "", 23⟩, ⟨ "Equal", 126, 7, false, "", "", 24⟩, ⟨ "GCData", 127, 8, false, "", "", 32⟩, ⟨ "Str", 128, 9, false, "", "", 40⟩, ⟨ "PtrToThis", 129, 10, false, "", "", 44⟩]) := by kernel_rfl
theorem h131 : Try.prog.stoodInHeld 131 = true := by kernel_rfl
theorem c131 : Try.prog.cellsOf 131 = 11 := by kernel_rfl
theorem b131 : Try.prog.bytesOf 131 = 48 := by kernel_rfl
theorem a131 : isAgg Try.prog 131 = some true := by kernel_rfl
theorem k131 : zok Try.prog 131 = true := by kernel_rfl
theorem z131 : zeroV Try.prog 131 = some (.agg [(.s (.int .u64 0)), (.s (.int .u64 0)), (.s (.int .u32 0)), (.s (.int .u8 0)), (.s (.int .u8 0)), (.s (.int .u8 0)), (.s (.int .u8 0)), (.s .nilFunc), (.s (.pointer none)), (.s (.int .i32 0)), (.s (.int .i32 0))]) := by kernel_rfl
theorem h132 : Try.prog.stoodInHeld 132 = false := by kernel_rfl
theorem c132 : Try.prog.cellsOf 132 = 1 := by kernel_rfl
theorem b132 : Try.prog.bytesOf 132 = 8 := by kernel_rfl
theorem a132 : isAgg Try.prog 132 = some false := by kernel_rfl
theorem k132 : zok Try.prog 132 = true := by kernel_rfl
theorem z132 : zeroV Try.prog 132 = some (.s (.pointer none)) := by kernel_rfl
theorem l7 : leafK Try.prog 20 7 = some [.i, .i, .b, .i] := by simp [leafK, leafKs, tiles, List.replicate, u7, c7, h7, u2, c2, h2, u3, c3, h3, u4, c4, h4, u6, c6, h6]
theorem l8 : leafK Try.prog 20 8 = some [.i, .i, .b, .i] := by simp [leafK, leafKs, tiles, List.replicate, u8, c8, h8, u2, c2, h2, u3, c3, h3, u4, c4, h4, u6, c6, h6]
theorem l22 : leafK Try.prog 20 22 = some [.i, .i, .i, .i, .i, .i] := by simp [leafK, leafKs, tiles, List.replicate, u22, c22, h22, u5, c5, h5]
theorem l23 : leafK Try.prog 20 23 = some [.i, .i, .i, .i, .i, .i] := by simp [leafK, leafKs, tiles, List.replicate, u23, c23, h23, u5, c5, h5]
theorem l34 : leafK Try.prog 20 34 = some [.i, .i, .i, .i, .i, .i, .i, .i, .i, .i] := by simp [leafK, leafKs, tiles, List.replicate, u34, c34, h34, u3, c3, h3, u23, c23, h23, u5, c5, h5]
theorem l35 : leafK Try.prog 20 35 = some [.i, .i, .i, .i, .i, .i, .i, .i, .i, .i] := by simp [leafK, leafKs, tiles, List.replicate, u35, c35, h35, u3, c3, h3, u23, c23, h23, u5, c5, h5]
theorem l41 : leafK Try.prog 20 41 = some [.i, .i, .i, .i, .i, .i, .i, .i, .b, .i] := by simp [leafK, leafKs, tiles, List.replicate, u41, c41, h41, u3, c3, h3, u23, c23, h23, u5, c5, h5, u4, c4, h4]
theorem l42 : leafK Try.prog 20 42 = some [.i, .i, .i, .i, .i, .i, .i, .i, .b, .i] := by simp [leafK, leafKs, tiles, List.replicate, u42, c42, h42, u3, c3, h3, u23, c23, h23, u5, c5, h5, u4, c4, h4]
theorem l67 : leafK Try.prog 20 67 = some [.i, .i, .i, .i, .i, .i, .i] := by simp [leafK, leafKs, tiles, List.replicate, u67, c67, h67, u3, c3, h3, u23, c23, h23, u5, c5, h5]
theorem l68 : leafK Try.prog 20 68 = some [.i, .i, .i, .i, .i, .i, .i] := by simp [leafK, leafKs, tiles, List.replicate, u68, c68, h68, u3, c3, h3, u23, c23, h23, u5, c5, h5]
theorem l69 : leafK Try.prog 20 69 = some [.i, .b, .i] := by simp [leafK, leafKs, tiles, List.replicate, u69, c69, h69, u3, c3, h3, u4, c4, h4]
theorem l70 : leafK Try.prog 20 70 = some [.i, .b, .i] := by simp [leafK, leafKs, tiles, List.replicate, u70, c70, h70, u3, c3, h3, u4, c4, h4]
theorem l90 : leafK Try.prog 20 90 = some [.i, .i, .i, .i, .i] := by simp [leafK, leafKs, tiles, List.replicate, u90, c90, h90, u5, c5, h5]
theorem l91 : leafK Try.prog 20 91 = some [.i, .i, .i] := by simp [leafK, leafKs, tiles, List.replicate, u91, c91, h91, u5, c5, h5]

end Go.Ai
