/- Closed facts on the types of the loaded program, each by reckoning; no condition. -/
import Derived.Test.YtbiolkmddpkheaaGreatChecked
import Derived.Test.YtbiolkmddpkheaaGreatAiK
set_option maxRecDepth 100000
set_option linter.unusedSimpArgs false
namespace Go.Ai
open Go.Proofs

theorem orders : Tryz.prog.follows .mixedOrders = true := by kernel_rfl
theorem u0 : Tryz.prog.underlying 0 = some (.tuple #[]) := by kernel_rfl
theorem u1 : Tryz.prog.underlying 1 = some (.func #[] #[] false) := by kernel_rfl
theorem u2 : Tryz.prog.underlying 2 = some (.int .i64) := by kernel_rfl
theorem h2 : Tryz.prog.stoodInHeld 2 = false := by kernel_rfl
theorem c2 : Tryz.prog.cellsOf 2 = 1 := by kernel_rfl
theorem b2 : Tryz.prog.bytesOf 2 = 8 := by kernel_rfl
theorem a2 : isAgg Tryz.prog 2 = some false := by kernel_rfl
theorem k2 : zok Tryz.prog 2 = true := by kernel_rfl
theorem z2 : zeroV Tryz.prog 2 = some (.s (.int .i64 0)) := by kernel_rfl
theorem u3 : Tryz.prog.underlying 3 = some (.int .i64) := by kernel_rfl
theorem h3 : Tryz.prog.stoodInHeld 3 = false := by kernel_rfl
theorem c3 : Tryz.prog.cellsOf 3 = 1 := by kernel_rfl
theorem b3 : Tryz.prog.bytesOf 3 = 8 := by kernel_rfl
theorem a3 : isAgg Tryz.prog 3 = some false := by kernel_rfl
theorem k3 : zok Tryz.prog 3 = true := by kernel_rfl
theorem z3 : zeroV Tryz.prog 3 = some (.s (.int .i64 0)) := by kernel_rfl
theorem u4 : Tryz.prog.underlying 4 = some .bool := by kernel_rfl
theorem h4 : Tryz.prog.stoodInHeld 4 = false := by kernel_rfl
theorem c4 : Tryz.prog.cellsOf 4 = 1 := by kernel_rfl
theorem b4 : Tryz.prog.bytesOf 4 = 1 := by kernel_rfl
theorem a4 : isAgg Tryz.prog 4 = some false := by kernel_rfl
theorem k4 : zok Tryz.prog 4 = true := by kernel_rfl
theorem z4 : zeroV Tryz.prog 4 = some (.s (.bool false)) := by kernel_rfl
theorem u5 : Tryz.prog.underlying 5 = some (.int .u8) := by kernel_rfl
theorem h5 : Tryz.prog.stoodInHeld 5 = false := by kernel_rfl
theorem c5 : Tryz.prog.cellsOf 5 = 1 := by kernel_rfl
theorem b5 : Tryz.prog.bytesOf 5 = 1 := by kernel_rfl
theorem a5 : isAgg Tryz.prog 5 = some false := by kernel_rfl
theorem k5 : zok Tryz.prog 5 = true := by kernel_rfl
theorem z5 : zeroV Tryz.prog 5 = some (.s (.int .u8 0)) := by kernel_rfl
theorem u6 : Tryz.prog.underlying 6 = some (.int .u8) := by kernel_rfl
theorem h6 : Tryz.prog.stoodInHeld 6 = false := by kernel_rfl
theorem c6 : Tryz.prog.cellsOf 6 = 1 := by kernel_rfl
theorem b6 : Tryz.prog.bytesOf 6 = 1 := by kernel_rfl
theorem a6 : isAgg Tryz.prog 6 = some false := by kernel_rfl
theorem k6 : zok Tryz.prog 6 = true := by kernel_rfl
theorem z6 : zeroV Tryz.prog 6 = some (.s (.int .u8 0)) := by kernel_rfl
theorem u7 : Tryz.prog.underlying 7 = some (.struct #[⟨ "x", 2, 0, false, "", "runtime", 0⟩, ⟨ "y", 3, 1, false, "", "runtime", 8⟩, ⟨ "signed", 4, 2, false, "", "runtime", 16⟩, ⟨ "code", 6, 3, false, "", "runtime", 17⟩]) := by kernel_rfl
theorem h7 : Tryz.prog.stoodInHeld 7 = false := by kernel_rfl
theorem c7 : Tryz.prog.cellsOf 7 = 4 := by kernel_rfl
theorem b7 : Tryz.prog.bytesOf 7 = 24 := by kernel_rfl
theorem a7 : isAgg Tryz.prog 7 = some true := by kernel_rfl
theorem k7 : zok Tryz.prog 7 = true := by kernel_rfl
theorem z7 : zeroV Tryz.prog 7 = some (.agg [(.s (.int .i64 0)), (.s (.int .i64 0)), (.s (.bool false)), (.s (.int .u8 0))]) := by kernel_rfl
theorem u8 : Tryz.prog.underlying 8 = some (.struct #[⟨ "x", 2, 0, false, "", "runtime", 0⟩, ⟨ "y", 3, 1, false, "", "runtime", 8⟩, ⟨ "signed", 4, 2, false, "", "runtime", 16⟩, ⟨ "code", 6, 3, false, "", "runtime", 17⟩]) := by kernel_rfl
theorem h8 : Tryz.prog.stoodInHeld 8 = false := by kernel_rfl
theorem c8 : Tryz.prog.cellsOf 8 = 4 := by kernel_rfl
theorem b8 : Tryz.prog.bytesOf 8 = 24 := by kernel_rfl
theorem a8 : isAgg Tryz.prog 8 = some true := by kernel_rfl
theorem k8 : zok Tryz.prog 8 = true := by kernel_rfl
theorem z8 : zeroV Tryz.prog 8 = some (.agg [(.s (.int .i64 0)), (.s (.int .i64 0)), (.s (.bool false)), (.s (.int .u8 0))]) := by kernel_rfl
theorem u9 : Tryz.prog.underlying 9 = some .string := by kernel_rfl
theorem h9 : Tryz.prog.stoodInHeld 9 = false := by kernel_rfl
theorem c9 : Tryz.prog.cellsOf 9 = 1 := by kernel_rfl
theorem b9 : Tryz.prog.bytesOf 9 = 16 := by kernel_rfl
theorem a9 : isAgg Tryz.prog 9 = some false := by kernel_rfl
theorem k9 : zok Tryz.prog 9 = true := by kernel_rfl
theorem z9 : zeroV Tryz.prog 9 = some (.s (.string ⟨#[]⟩)) := by kernel_rfl
theorem u10 : Tryz.prog.underlying 10 = some .string := by kernel_rfl
theorem h10 : Tryz.prog.stoodInHeld 10 = false := by kernel_rfl
theorem c10 : Tryz.prog.cellsOf 10 = 1 := by kernel_rfl
theorem b10 : Tryz.prog.bytesOf 10 = 16 := by kernel_rfl
theorem a10 : isAgg Tryz.prog 10 = some false := by kernel_rfl
theorem k10 : zok Tryz.prog 10 = true := by kernel_rfl
theorem z10 : zeroV Tryz.prog 10 = some (.s (.string ⟨#[]⟩)) := by kernel_rfl
theorem u11 : Tryz.prog.underlying 11 = some .string := by kernel_rfl
theorem h11 : Tryz.prog.stoodInHeld 11 = false := by kernel_rfl
theorem c11 : Tryz.prog.cellsOf 11 = 1 := by kernel_rfl
theorem b11 : Tryz.prog.bytesOf 11 = 16 := by kernel_rfl
theorem a11 : isAgg Tryz.prog 11 = some false := by kernel_rfl
theorem k11 : zok Tryz.prog 11 = true := by kernel_rfl
theorem z11 : zeroV Tryz.prog 11 = some (.s (.string ⟨#[]⟩)) := by kernel_rfl
theorem u12 : Tryz.prog.underlying 12 = some (.int .u64) := by kernel_rfl
theorem h12 : Tryz.prog.stoodInHeld 12 = false := by kernel_rfl
theorem c12 : Tryz.prog.cellsOf 12 = 1 := by kernel_rfl
theorem b12 : Tryz.prog.bytesOf 12 = 8 := by kernel_rfl
theorem a12 : isAgg Tryz.prog 12 = some false := by kernel_rfl
theorem k12 : zok Tryz.prog 12 = true := by kernel_rfl
theorem z12 : zeroV Tryz.prog 12 = some (.s (.int .u64 0)) := by kernel_rfl
theorem u13 : Tryz.prog.underlying 13 = some (.struct #[⟨ "msg", 9, 0, false, "", "runtime", 0⟩, ⟨ "addr", 12, 1, false, "", "runtime", 16⟩]) := by kernel_rfl
theorem h13 : Tryz.prog.stoodInHeld 13 = true := by kernel_rfl
theorem c13 : Tryz.prog.cellsOf 13 = 2 := by kernel_rfl
theorem b13 : Tryz.prog.bytesOf 13 = 24 := by kernel_rfl
theorem a13 : isAgg Tryz.prog 13 = some true := by kernel_rfl
theorem k13 : zok Tryz.prog 13 = true := by kernel_rfl
theorem z13 : zeroV Tryz.prog 13 = some (.agg [(.s (.string ⟨#[]⟩)), (.s (.int .u64 0))]) := by kernel_rfl
theorem u14 : Tryz.prog.underlying 14 = some (.struct #[⟨ "msg", 9, 0, false, "", "runtime", 0⟩, ⟨ "addr", 12, 1, false, "", "runtime", 16⟩]) := by kernel_rfl
theorem h14 : Tryz.prog.stoodInHeld 14 = true := by kernel_rfl
theorem c14 : Tryz.prog.cellsOf 14 = 2 := by kernel_rfl
theorem b14 : Tryz.prog.bytesOf 14 = 24 := by kernel_rfl
theorem a14 : isAgg Tryz.prog 14 = some true := by kernel_rfl
theorem k14 : zok Tryz.prog 14 = true := by kernel_rfl
theorem z14 : zeroV Tryz.prog 14 = some (.agg [(.s (.string ⟨#[]⟩)), (.s (.int .u64 0))]) := by kernel_rfl
theorem u15 : Tryz.prog.underlying 15 = some (.pointer 155) := by kernel_rfl
theorem h15 : Tryz.prog.stoodInHeld 15 = false := by kernel_rfl
theorem c15 : Tryz.prog.cellsOf 15 = 1 := by kernel_rfl
theorem b15 : Tryz.prog.bytesOf 15 = 8 := by kernel_rfl
theorem a15 : isAgg Tryz.prog 15 = some false := by kernel_rfl
theorem k15 : zok Tryz.prog 15 = true := by kernel_rfl
theorem z15 : zeroV Tryz.prog 15 = some (.s (.pointer none)) := by kernel_rfl
theorem u16 : Tryz.prog.underlying 16 = some (.pointer 158) := by kernel_rfl
theorem h16 : Tryz.prog.stoodInHeld 16 = false := by kernel_rfl
theorem c16 : Tryz.prog.cellsOf 16 = 1 := by kernel_rfl
theorem b16 : Tryz.prog.bytesOf 16 = 8 := by kernel_rfl
theorem a16 : isAgg Tryz.prog 16 = some false := by kernel_rfl
theorem k16 : zok Tryz.prog 16 = true := by kernel_rfl
theorem z16 : zeroV Tryz.prog 16 = some (.s (.pointer none)) := by kernel_rfl
theorem u17 : Tryz.prog.underlying 17 = some (.pointer 167) := by kernel_rfl
theorem h17 : Tryz.prog.stoodInHeld 17 = false := by kernel_rfl
theorem c17 : Tryz.prog.cellsOf 17 = 1 := by kernel_rfl
theorem b17 : Tryz.prog.bytesOf 17 = 8 := by kernel_rfl
theorem a17 : isAgg Tryz.prog 17 = some false := by kernel_rfl
theorem k17 : zok Tryz.prog 17 = true := by kernel_rfl
theorem z17 : zeroV Tryz.prog 17 = some (.s (.pointer none)) := by kernel_rfl
theorem u18 : Tryz.prog.underlying 18 = some (.struct #[⟨ "typ", 17, 0, false, "", "internal/runtime/maps", 0⟩]) := by kernel_rfl
theorem h18 : Tryz.prog.stoodInHeld 18 = true := by kernel_rfl
theorem c18 : Tryz.prog.cellsOf 18 = 1 := by kernel_rfl
theorem b18 : Tryz.prog.bytesOf 18 = 8 := by kernel_rfl
theorem a18 : isAgg Tryz.prog 18 = some true := by kernel_rfl
theorem k18 : zok Tryz.prog 18 = true := by kernel_rfl
theorem z18 : zeroV Tryz.prog 18 = some (.agg [(.s (.pointer none))]) := by kernel_rfl
theorem u19 : Tryz.prog.underlying 19 = some (.struct #[⟨ "typ", 17, 0, false, "", "internal/runtime/maps", 0⟩]) := by kernel_rfl
theorem h19 : Tryz.prog.stoodInHeld 19 = true := by kernel_rfl
theorem c19 : Tryz.prog.cellsOf 19 = 1 := by kernel_rfl
theorem b19 : Tryz.prog.bytesOf 19 = 8 := by kernel_rfl
theorem a19 : isAgg Tryz.prog 19 = some true := by kernel_rfl
theorem k19 : zok Tryz.prog 19 = true := by kernel_rfl
theorem z19 : zeroV Tryz.prog 19 = some (.agg [(.s (.pointer none))]) := by kernel_rfl
theorem h20 : Tryz.prog.stoodInHeld 20 = false := by kernel_rfl
theorem c20 : Tryz.prog.cellsOf 20 = 1 := by kernel_rfl
theorem b20 : Tryz.prog.bytesOf 20 = 16 := by kernel_rfl
theorem a20 : isAgg Tryz.prog 20 = some false := by kernel_rfl
theorem k20 : zok Tryz.prog 20 = true := by kernel_rfl
theorem z20 : zeroV Tryz.prog 20 = some (.s .nilIface) := by kernel_rfl
theorem u21 : Tryz.prog.underlying 21 = some (.int .i32) := by kernel_rfl
theorem h21 : Tryz.prog.stoodInHeld 21 = false := by kernel_rfl
theorem c21 : Tryz.prog.cellsOf 21 = 1 := by kernel_rfl
theorem b21 : Tryz.prog.bytesOf 21 = 4 := by kernel_rfl
theorem a21 : isAgg Tryz.prog 21 = some false := by kernel_rfl
theorem k21 : zok Tryz.prog 21 = true := by kernel_rfl
theorem z21 : zeroV Tryz.prog 21 = some (.s (.int .i32 0)) := by kernel_rfl
theorem u22 : Tryz.prog.underlying 22 = some (.array 6 5) := by kernel_rfl
theorem h22 : Tryz.prog.stoodInHeld 22 = false := by kernel_rfl
theorem c22 : Tryz.prog.cellsOf 22 = 6 := by kernel_rfl
theorem b22 : Tryz.prog.bytesOf 22 = 6 := by kernel_rfl
theorem a22 : isAgg Tryz.prog 22 = some true := by kernel_rfl
theorem k22 : zok Tryz.prog 22 = true := by kernel_rfl
theorem z22 : zeroV Tryz.prog 22 = some (.agg [(.s (.int .u8 0)), (.s (.int .u8 0)), (.s (.int .u8 0)), (.s (.int .u8 0)), (.s (.int .u8 0)), (.s (.int .u8 0))]) := by kernel_rfl
theorem u23 : Tryz.prog.underlying 23 = some (.array 6 5) := by kernel_rfl
theorem h23 : Tryz.prog.stoodInHeld 23 = false := by kernel_rfl
theorem c23 : Tryz.prog.cellsOf 23 = 6 := by kernel_rfl
theorem b23 : Tryz.prog.bytesOf 23 = 6 := by kernel_rfl
theorem a23 : isAgg Tryz.prog 23 = some true := by kernel_rfl
theorem k23 : zok Tryz.prog 23 = true := by kernel_rfl
theorem z23 : zeroV Tryz.prog 23 = some (.agg [(.s (.int .u8 0)), (.s (.int .u8 0)), (.s (.int .u8 0)), (.s (.int .u8 0)), (.s (.int .u8 0)), (.s (.int .u8 0))]) := by kernel_rfl
theorem u24 : Tryz.prog.underlying 24 = some (.slice 59) := by kernel_rfl
theorem h24 : Tryz.prog.stoodInHeld 24 = false := by kernel_rfl
theorem c24 : Tryz.prog.cellsOf 24 = 1 := by kernel_rfl
theorem b24 : Tryz.prog.bytesOf 24 = 24 := by kernel_rfl
theorem a24 : isAgg Tryz.prog 24 = some false := by kernel_rfl
theorem k24 : zok Tryz.prog 24 = true := by kernel_rfl
theorem z24 : zeroV Tryz.prog 24 = some (.s (.slice none 0 0)) := by kernel_rfl
theorem u25 : Tryz.prog.underlying 25 = some (.slice 32) := by kernel_rfl
theorem h25 : Tryz.prog.stoodInHeld 25 = false := by kernel_rfl
theorem c25 : Tryz.prog.cellsOf 25 = 1 := by kernel_rfl
theorem b25 : Tryz.prog.bytesOf 25 = 24 := by kernel_rfl
theorem a25 : isAgg Tryz.prog 25 = some false := by kernel_rfl
theorem k25 : zok Tryz.prog 25 = true := by kernel_rfl
theorem z25 : zeroV Tryz.prog 25 = some (.s (.slice none 0 0)) := by kernel_rfl
theorem u26 : Tryz.prog.underlying 26 = some (.slice 34) := by kernel_rfl
theorem h26 : Tryz.prog.stoodInHeld 26 = false := by kernel_rfl
theorem c26 : Tryz.prog.cellsOf 26 = 1 := by kernel_rfl
theorem b26 : Tryz.prog.bytesOf 26 = 24 := by kernel_rfl
theorem a26 : isAgg Tryz.prog 26 = some false := by kernel_rfl
theorem k26 : zok Tryz.prog 26 = true := by kernel_rfl
theorem z26 : zeroV Tryz.prog 26 = some (.s (.slice none 0 0)) := by kernel_rfl
theorem u27 : Tryz.prog.underlying 27 = some (.slice 37) := by kernel_rfl
theorem h27 : Tryz.prog.stoodInHeld 27 = false := by kernel_rfl
theorem c27 : Tryz.prog.cellsOf 27 = 1 := by kernel_rfl
theorem b27 : Tryz.prog.bytesOf 27 = 24 := by kernel_rfl
theorem a27 : isAgg Tryz.prog 27 = some false := by kernel_rfl
theorem k27 : zok Tryz.prog 27 = true := by kernel_rfl
theorem z27 : zeroV Tryz.prog 27 = some (.s (.slice none 0 0)) := by kernel_rfl
theorem u28 : Tryz.prog.underlying 28 = some (.struct #[⟨ "Own", 23, 0, false, "", "", 0⟩, ⟨ "Kinds", 24, 6, false, "", "", 8⟩, ⟨ "Maps", 25, 7, false, "", "", 32⟩, ⟨ "Carries", 26, 8, false, "", "", 56⟩, ⟨ "Members", 27, 9, false, "", "", 80⟩]) := by kernel_rfl
theorem h28 : Tryz.prog.stoodInHeld 28 = false := by kernel_rfl
theorem c28 : Tryz.prog.cellsOf 28 = 10 := by kernel_rfl
theorem b28 : Tryz.prog.bytesOf 28 = 104 := by kernel_rfl
theorem a28 : isAgg Tryz.prog 28 = some true := by kernel_rfl
theorem k28 : zok Tryz.prog 28 = true := by kernel_rfl
theorem z28 : zeroV Tryz.prog 28 = some (.agg [(.s (.int .u8 0)), (.s (.int .u8 0)), (.s (.int .u8 0)), (.s (.int .u8 0)), (.s (.int .u8 0)), (.s (.int .u8 0)), (.s (.slice none 0 0)), (.s (.slice none 0 0)), (.s (.slice none 0 0)), (.s (.slice none 0 0))]) := by kernel_rfl
theorem u29 : Tryz.prog.underlying 29 = some (.struct #[⟨ "Own", 23, 0, false, "", "", 0⟩, ⟨ "Kinds", 24, 6, false, "", "", 8⟩, ⟨ "Maps", 25, 7, false, "", "", 32⟩, ⟨ "Carries", 26, 8, false, "", "", 56⟩, ⟨ "Members", 27, 9, false, "", "", 80⟩]) := by kernel_rfl
theorem h29 : Tryz.prog.stoodInHeld 29 = false := by kernel_rfl
theorem c29 : Tryz.prog.cellsOf 29 = 10 := by kernel_rfl
theorem b29 : Tryz.prog.bytesOf 29 = 104 := by kernel_rfl
theorem a29 : isAgg Tryz.prog 29 = some true := by kernel_rfl
theorem k29 : zok Tryz.prog 29 = true := by kernel_rfl
theorem z29 : zeroV Tryz.prog 29 = some (.agg [(.s (.int .u8 0)), (.s (.int .u8 0)), (.s (.int .u8 0)), (.s (.int .u8 0)), (.s (.int .u8 0)), (.s (.int .u8 0)), (.s (.slice none 0 0)), (.s (.slice none 0 0)), (.s (.slice none 0 0)), (.s (.slice none 0 0))]) := by kernel_rfl
theorem u30 : Tryz.prog.underlying 30 = some (.int .i64) := by kernel_rfl
theorem h30 : Tryz.prog.stoodInHeld 30 = false := by kernel_rfl
theorem c30 : Tryz.prog.cellsOf 30 = 1 := by kernel_rfl
theorem b30 : Tryz.prog.bytesOf 30 = 8 := by kernel_rfl
theorem a30 : isAgg Tryz.prog 30 = some false := by kernel_rfl
theorem k30 : zok Tryz.prog 30 = true := by kernel_rfl
theorem z30 : zeroV Tryz.prog 30 = some (.s (.int .i64 0)) := by kernel_rfl
theorem u31 : Tryz.prog.underlying 31 = some (.struct #[⟨ "Port", 3, 0, false, "", "", 0⟩, ⟨ "VID", 3, 1, false, "", "", 8⟩, ⟨ "ISID", 3, 2, false, "", "", 16⟩]) := by kernel_rfl
theorem h31 : Tryz.prog.stoodInHeld 31 = false := by kernel_rfl
theorem c31 : Tryz.prog.cellsOf 31 = 3 := by kernel_rfl
theorem b31 : Tryz.prog.bytesOf 31 = 24 := by kernel_rfl
theorem a31 : isAgg Tryz.prog 31 = some true := by kernel_rfl
theorem k31 : zok Tryz.prog 31 = true := by kernel_rfl
theorem z31 : zeroV Tryz.prog 31 = some (.agg [(.s (.int .i64 0)), (.s (.int .i64 0)), (.s (.int .i64 0))]) := by kernel_rfl
theorem u32 : Tryz.prog.underlying 32 = some (.struct #[⟨ "Port", 3, 0, false, "", "", 0⟩, ⟨ "VID", 3, 1, false, "", "", 8⟩, ⟨ "ISID", 3, 2, false, "", "", 16⟩]) := by kernel_rfl
theorem h32 : Tryz.prog.stoodInHeld 32 = false := by kernel_rfl
theorem c32 : Tryz.prog.cellsOf 32 = 3 := by kernel_rfl
theorem b32 : Tryz.prog.bytesOf 32 = 24 := by kernel_rfl
theorem a32 : isAgg Tryz.prog 32 = some true := by kernel_rfl
theorem k32 : zok Tryz.prog 32 = true := by kernel_rfl
theorem z32 : zeroV Tryz.prog 32 = some (.agg [(.s (.int .i64 0)), (.s (.int .i64 0)), (.s (.int .i64 0))]) := by kernel_rfl
theorem u33 : Tryz.prog.underlying 33 = some (.struct #[⟨ "ISID", 3, 0, false, "", "", 0⟩, ⟨ "VID", 3, 1, false, "", "", 8⟩]) := by kernel_rfl
theorem h33 : Tryz.prog.stoodInHeld 33 = false := by kernel_rfl
theorem c33 : Tryz.prog.cellsOf 33 = 2 := by kernel_rfl
theorem b33 : Tryz.prog.bytesOf 33 = 16 := by kernel_rfl
theorem a33 : isAgg Tryz.prog 33 = some true := by kernel_rfl
theorem k33 : zok Tryz.prog 33 = true := by kernel_rfl
theorem z33 : zeroV Tryz.prog 33 = some (.agg [(.s (.int .i64 0)), (.s (.int .i64 0))]) := by kernel_rfl
theorem u34 : Tryz.prog.underlying 34 = some (.struct #[⟨ "ISID", 3, 0, false, "", "", 0⟩, ⟨ "VID", 3, 1, false, "", "", 8⟩]) := by kernel_rfl
theorem h34 : Tryz.prog.stoodInHeld 34 = false := by kernel_rfl
theorem c34 : Tryz.prog.cellsOf 34 = 2 := by kernel_rfl
theorem b34 : Tryz.prog.bytesOf 34 = 16 := by kernel_rfl
theorem a34 : isAgg Tryz.prog 34 = some true := by kernel_rfl
theorem k34 : zok Tryz.prog 34 = true := by kernel_rfl
theorem z34 : zeroV Tryz.prog 34 = some (.agg [(.s (.int .i64 0)), (.s (.int .i64 0))]) := by kernel_rfl
theorem u35 : Tryz.prog.underlying 35 = some (.slice 3) := by kernel_rfl
theorem h35 : Tryz.prog.stoodInHeld 35 = false := by kernel_rfl
theorem c35 : Tryz.prog.cellsOf 35 = 1 := by kernel_rfl
theorem b35 : Tryz.prog.bytesOf 35 = 24 := by kernel_rfl
theorem a35 : isAgg Tryz.prog 35 = some false := by kernel_rfl
theorem k35 : zok Tryz.prog 35 = true := by kernel_rfl
theorem z35 : zeroV Tryz.prog 35 = some (.s (.slice none 0 0)) := by kernel_rfl
theorem u36 : Tryz.prog.underlying 36 = some (.struct #[⟨ "VID", 3, 0, false, "", "", 0⟩, ⟨ "Ports", 35, 1, false, "", "", 8⟩]) := by kernel_rfl
theorem h36 : Tryz.prog.stoodInHeld 36 = false := by kernel_rfl
theorem c36 : Tryz.prog.cellsOf 36 = 2 := by kernel_rfl
theorem b36 : Tryz.prog.bytesOf 36 = 32 := by kernel_rfl
theorem a36 : isAgg Tryz.prog 36 = some true := by kernel_rfl
theorem k36 : zok Tryz.prog 36 = true := by kernel_rfl
theorem z36 : zeroV Tryz.prog 36 = some (.agg [(.s (.int .i64 0)), (.s (.slice none 0 0))]) := by kernel_rfl
theorem u37 : Tryz.prog.underlying 37 = some (.struct #[⟨ "VID", 3, 0, false, "", "", 0⟩, ⟨ "Ports", 35, 1, false, "", "", 8⟩]) := by kernel_rfl
theorem h37 : Tryz.prog.stoodInHeld 37 = false := by kernel_rfl
theorem c37 : Tryz.prog.cellsOf 37 = 2 := by kernel_rfl
theorem b37 : Tryz.prog.bytesOf 37 = 32 := by kernel_rfl
theorem a37 : isAgg Tryz.prog 37 = some true := by kernel_rfl
theorem k37 : zok Tryz.prog 37 = true := by kernel_rfl
theorem z37 : zeroV Tryz.prog 37 = some (.agg [(.s (.int .i64 0)), (.s (.slice none 0 0))]) := by kernel_rfl
theorem u38 : Tryz.prog.underlying 38 = some (.struct #[⟨ "VID", 3, 0, false, "", "", 0⟩, ⟨ "M", 23, 1, false, "", "", 8⟩, ⟨ "Port", 3, 7, false, "", "", 16⟩, ⟨ "Static", 4, 8, false, "", "", 24⟩, ⟨ "Seen", 3, 9, false, "", "", 32⟩]) := by kernel_rfl
theorem h38 : Tryz.prog.stoodInHeld 38 = false := by kernel_rfl
theorem c38 : Tryz.prog.cellsOf 38 = 10 := by kernel_rfl
theorem b38 : Tryz.prog.bytesOf 38 = 40 := by kernel_rfl
theorem a38 : isAgg Tryz.prog 38 = some true := by kernel_rfl
theorem k38 : zok Tryz.prog 38 = true := by kernel_rfl
theorem z38 : zeroV Tryz.prog 38 = some (.agg [(.s (.int .i64 0)), (.s (.int .u8 0)), (.s (.int .u8 0)), (.s (.int .u8 0)), (.s (.int .u8 0)), (.s (.int .u8 0)), (.s (.int .u8 0)), (.s (.int .i64 0)), (.s (.bool false)), (.s (.int .i64 0))]) := by kernel_rfl
theorem u39 : Tryz.prog.underlying 39 = some (.struct #[⟨ "VID", 3, 0, false, "", "", 0⟩, ⟨ "M", 23, 1, false, "", "", 8⟩, ⟨ "Port", 3, 7, false, "", "", 16⟩, ⟨ "Static", 4, 8, false, "", "", 24⟩, ⟨ "Seen", 3, 9, false, "", "", 32⟩]) := by kernel_rfl
theorem h39 : Tryz.prog.stoodInHeld 39 = false := by kernel_rfl
theorem c39 : Tryz.prog.cellsOf 39 = 10 := by kernel_rfl
theorem b39 : Tryz.prog.bytesOf 39 = 40 := by kernel_rfl
theorem a39 : isAgg Tryz.prog 39 = some true := by kernel_rfl
theorem k39 : zok Tryz.prog 39 = true := by kernel_rfl
theorem z39 : zeroV Tryz.prog 39 = some (.agg [(.s (.int .i64 0)), (.s (.int .u8 0)), (.s (.int .u8 0)), (.s (.int .u8 0)), (.s (.int .u8 0)), (.s (.int .u8 0)), (.s (.int .u8 0)), (.s (.int .i64 0)), (.s (.bool false)), (.s (.int .i64 0))]) := by kernel_rfl
theorem u40 : Tryz.prog.underlying 40 = some (.int .u64) := by kernel_rfl
theorem h40 : Tryz.prog.stoodInHeld 40 = false := by kernel_rfl
theorem c40 : Tryz.prog.cellsOf 40 = 1 := by kernel_rfl
theorem b40 : Tryz.prog.bytesOf 40 = 8 := by kernel_rfl
theorem a40 : isAgg Tryz.prog 40 = some false := by kernel_rfl
theorem k40 : zok Tryz.prog 40 = true := by kernel_rfl
theorem z40 : zeroV Tryz.prog 40 = some (.s (.int .u64 0)) := by kernel_rfl
theorem u41 : Tryz.prog.underlying 41 = some (.int .u32) := by kernel_rfl
theorem h41 : Tryz.prog.stoodInHeld 41 = false := by kernel_rfl
theorem c41 : Tryz.prog.cellsOf 41 = 1 := by kernel_rfl
theorem b41 : Tryz.prog.bytesOf 41 = 4 := by kernel_rfl
theorem a41 : isAgg Tryz.prog 41 = some false := by kernel_rfl
theorem k41 : zok Tryz.prog 41 = true := by kernel_rfl
theorem z41 : zeroV Tryz.prog 41 = some (.s (.int .u32 0)) := by kernel_rfl
theorem u42 : Tryz.prog.underlying 42 = some (.struct #[⟨ "Kind", 30, 0, false, "", "", 0⟩, ⟨ "Map", 32, 1, false, "", "", 8⟩, ⟨ "Carry", 34, 4, false, "", "", 32⟩, ⟨ "Member", 37, 6, false, "", "", 48⟩, ⟨ "Entry", 39, 8, false, "", "", 80⟩, ⟨ "ID", 40, 18, false, "", "", 120⟩, ⟨ "Port", 3, 19, false, "", "", 128⟩, ⟨ "Cost", 41, 20, false, "", "", 136⟩]) := by kernel_rfl
theorem h42 : Tryz.prog.stoodInHeld 42 = false := by kernel_rfl
theorem c42 : Tryz.prog.cellsOf 42 = 21 := by kernel_rfl
theorem b42 : Tryz.prog.bytesOf 42 = 144 := by kernel_rfl
theorem a42 : isAgg Tryz.prog 42 = some true := by kernel_rfl
theorem k42 : zok Tryz.prog 42 = true := by kernel_rfl
theorem z42 : zeroV Tryz.prog 42 = some (.agg [(.s (.int .i64 0)), (.s (.int .i64 0)), (.s (.int .i64 0)), (.s (.int .i64 0)), (.s (.int .i64 0)), (.s (.int .i64 0)), (.s (.int .i64 0)), (.s (.slice none 0 0)), (.s (.int .i64 0)), (.s (.int .u8 0)), (.s (.int .u8 0)), (.s (.int .u8 0)), (.s (.int .u8 0)), (.s (.int .u8 0)), (.s (.int .u8 0)), (.s (.int .i64 0)), (.s (.bool false)), (.s (.int .i64 0)), (.s (.int .u64 0)), (.s (.int .i64 0)), (.s (.int .u32 0))]) := by kernel_rfl
theorem u43 : Tryz.prog.underlying 43 = some (.struct #[⟨ "Kind", 30, 0, false, "", "", 0⟩, ⟨ "Map", 32, 1, false, "", "", 8⟩, ⟨ "Carry", 34, 4, false, "", "", 32⟩, ⟨ "Member", 37, 6, false, "", "", 48⟩, ⟨ "Entry", 39, 8, false, "", "", 80⟩, ⟨ "ID", 40, 18, false, "", "", 120⟩, ⟨ "Port", 3, 19, false, "", "", 128⟩, ⟨ "Cost", 41, 20, false, "", "", 136⟩]) := by kernel_rfl
theorem h43 : Tryz.prog.stoodInHeld 43 = false := by kernel_rfl
theorem c43 : Tryz.prog.cellsOf 43 = 21 := by kernel_rfl
theorem b43 : Tryz.prog.bytesOf 43 = 144 := by kernel_rfl
theorem a43 : isAgg Tryz.prog 43 = some true := by kernel_rfl
theorem k43 : zok Tryz.prog 43 = true := by kernel_rfl
theorem z43 : zeroV Tryz.prog 43 = some (.agg [(.s (.int .i64 0)), (.s (.int .i64 0)), (.s (.int .i64 0)), (.s (.int .i64 0)), (.s (.int .i64 0)), (.s (.int .i64 0)), (.s (.int .i64 0)), (.s (.slice none 0 0)), (.s (.int .i64 0)), (.s (.int .u8 0)), (.s (.int .u8 0)), (.s (.int .u8 0)), (.s (.int .u8 0)), (.s (.int .u8 0)), (.s (.int .u8 0)), (.s (.int .i64 0)), (.s (.bool false)), (.s (.int .i64 0)), (.s (.int .u64 0)), (.s (.int .i64 0)), (.s (.int .u32 0))]) := by kernel_rfl
theorem u44 : Tryz.prog.underlying 44 = some (.func #[29] #[29] false) := by kernel_rfl
theorem u45 : Tryz.prog.underlying 45 = some (.func #[37] #[37] false) := by kernel_rfl
theorem u46 : Tryz.prog.underlying 46 = some (.int .i64) := by kernel_rfl
theorem h46 : Tryz.prog.stoodInHeld 46 = false := by kernel_rfl
theorem c46 : Tryz.prog.cellsOf 46 = 1 := by kernel_rfl
theorem b46 : Tryz.prog.bytesOf 46 = 8 := by kernel_rfl
theorem a46 : isAgg Tryz.prog 46 = some false := by kernel_rfl
theorem k46 : zok Tryz.prog 46 = true := by kernel_rfl
theorem z46 : zeroV Tryz.prog 46 = some (.s (.int .i64 0)) := by kernel_rfl
theorem u47 : Tryz.prog.underlying 47 = some (.tuple #[29, 46]) := by kernel_rfl
theorem u48 : Tryz.prog.underlying 48 = some (.func #[29, 43] #[29, 46] false) := by kernel_rfl
theorem u49 : Tryz.prog.underlying 49 = some (.func #[29, 29] #[4] false) := by kernel_rfl
theorem u50 : Tryz.prog.underlying 50 = some (.func #[] #[4] false) := by kernel_rfl
theorem u51 : Tryz.prog.underlying 51 = some (.func #[29, 43] #[4] false) := by kernel_rfl
theorem u52 : Tryz.prog.underlying 52 = some (.slice 43) := by kernel_rfl
theorem h52 : Tryz.prog.stoodInHeld 52 = false := by kernel_rfl
theorem c52 : Tryz.prog.cellsOf 52 = 1 := by kernel_rfl
theorem b52 : Tryz.prog.bytesOf 52 = 24 := by kernel_rfl
theorem a52 : isAgg Tryz.prog 52 = some false := by kernel_rfl
theorem k52 : zok Tryz.prog 52 = true := by kernel_rfl
theorem z52 : zeroV Tryz.prog 52 = some (.s (.slice none 0 0)) := by kernel_rfl
theorem u53 : Tryz.prog.underlying 53 = some (.func #[5, 5, 52] #[29] false) := by kernel_rfl
theorem u54 : Tryz.prog.underlying 54 = some (.func #[29] #[46] false) := by kernel_rfl
theorem u55 : Tryz.prog.underlying 55 = some (.func #[5, 5, 52] #[4] false) := by kernel_rfl
theorem u56 : Tryz.prog.underlying 56 = some (.tuple #[35, 4]) := by kernel_rfl
theorem u57 : Tryz.prog.underlying 57 = some (.func #[29, 3] #[35, 4] false) := by kernel_rfl
theorem u58 : Tryz.prog.underlying 58 = some (.func #[5, 5, 52, 32, 34, 37] #[4] false) := by kernel_rfl
theorem u59 : Tryz.prog.underlying 59 = some (.int .i64) := by kernel_rfl
theorem h59 : Tryz.prog.stoodInHeld 59 = false := by kernel_rfl
theorem c59 : Tryz.prog.cellsOf 59 = 1 := by kernel_rfl
theorem b59 : Tryz.prog.bytesOf 59 = 8 := by kernel_rfl
theorem a59 : isAgg Tryz.prog 59 = some false := by kernel_rfl
theorem k59 : zok Tryz.prog 59 = true := by kernel_rfl
theorem z59 : zeroV Tryz.prog 59 = some (.s (.int .i64 0)) := by kernel_rfl
theorem u60 : Tryz.prog.underlying 60 = some (.func #[5, 5, 52, 43] #[4] false) := by kernel_rfl
theorem u61 : Tryz.prog.underlying 61 = some (.tuple #[3, 4]) := by kernel_rfl
theorem u62 : Tryz.prog.underlying 62 = some (.func #[29, 3, 3] #[3, 4] false) := by kernel_rfl
theorem u63 : Tryz.prog.underlying 63 = some (.func #[29, 3] #[3, 4] false) := by kernel_rfl
theorem u64 : Tryz.prog.underlying 64 = some (.func #[35, 35] #[4] false) := by kernel_rfl
theorem u65 : Tryz.prog.underlying 65 = some (.func #[29, 3] #[35] false) := by kernel_rfl
theorem u66 : Tryz.prog.underlying 66 = some (.func #[29, 3, 3, 3] #[4] false) := by kernel_rfl
theorem u67 : Tryz.prog.underlying 67 = some (.func #[29, 32] #[46] false) := by kernel_rfl
theorem u68 : Tryz.prog.underlying 68 = some (.func #[25, 32, 69] #[25] false) := by kernel_rfl
theorem u69 : Tryz.prog.underlying 69 = some (.func #[32, 32] #[3] false) := by kernel_rfl
theorem u70 : Tryz.prog.underlying 70 = some (.func #[25, 32] #[4] false) := by kernel_rfl
theorem u71 : Tryz.prog.underlying 71 = some (.func #[29, 34] #[46] false) := by kernel_rfl
theorem u72 : Tryz.prog.underlying 72 = some (.func #[26, 34, 73] #[26] false) := by kernel_rfl
theorem u73 : Tryz.prog.underlying 73 = some (.func #[34, 34] #[3] false) := by kernel_rfl
theorem u74 : Tryz.prog.underlying 74 = some (.func #[26, 34] #[4] false) := by kernel_rfl
theorem u75 : Tryz.prog.underlying 75 = some (.func #[29, 37] #[46] false) := by kernel_rfl
theorem u76 : Tryz.prog.underlying 76 = some (.func #[27, 37, 78] #[27] false) := by kernel_rfl
theorem u77 : Tryz.prog.underlying 77 = some (.func #[35] #[35] false) := by kernel_rfl
theorem u78 : Tryz.prog.underlying 78 = some (.func #[37, 37] #[3] false) := by kernel_rfl
theorem u79 : Tryz.prog.underlying 79 = some (.func #[29, 3] #[4] false) := by kernel_rfl
theorem u80 : Tryz.prog.underlying 80 = some (.func #[29, 32] #[29, 46] false) := by kernel_rfl
theorem u81 : Tryz.prog.underlying 81 = some (.func #[29, 34] #[29, 46] false) := by kernel_rfl
theorem u82 : Tryz.prog.underlying 82 = some (.func #[29, 37] #[29, 46] false) := by kernel_rfl
theorem u83 : Tryz.prog.underlying 83 = some (.func #[29, 3] #[29, 46] false) := by kernel_rfl
theorem u84 : Tryz.prog.underlying 84 = some (.func #[24] #[29] true) := by kernel_rfl
theorem u85 : Tryz.prog.underlying 85 = some (.int .u64) := by kernel_rfl
theorem h85 : Tryz.prog.stoodInHeld 85 = false := by kernel_rfl
theorem c85 : Tryz.prog.cellsOf 85 = 1 := by kernel_rfl
theorem b85 : Tryz.prog.bytesOf 85 = 8 := by kernel_rfl
theorem a85 : isAgg Tryz.prog 85 = some false := by kernel_rfl
theorem k85 : zok Tryz.prog 85 = true := by kernel_rfl
theorem z85 : zeroV Tryz.prog 85 = some (.s (.int .u64 0)) := by kernel_rfl
theorem u86 : Tryz.prog.underlying 86 = some (.int .i64) := by kernel_rfl
theorem h86 : Tryz.prog.stoodInHeld 86 = false := by kernel_rfl
theorem c86 : Tryz.prog.cellsOf 86 = 1 := by kernel_rfl
theorem b86 : Tryz.prog.bytesOf 86 = 8 := by kernel_rfl
theorem a86 : isAgg Tryz.prog 86 = some false := by kernel_rfl
theorem k86 : zok Tryz.prog 86 = true := by kernel_rfl
theorem z86 : zeroV Tryz.prog 86 = some (.s (.int .i64 0)) := by kernel_rfl
theorem u87 : Tryz.prog.underlying 87 = some (.func #[23] #[86] false) := by kernel_rfl
theorem u88 : Tryz.prog.underlying 88 = some (.func #[3, 3, 3] #[4] false) := by kernel_rfl
theorem u89 : Tryz.prog.underlying 89 = some (.func #[27, 78] #[4] false) := by kernel_rfl
theorem u90 : Tryz.prog.underlying 90 = some (.func #[26, 73] #[4] false) := by kernel_rfl
theorem u91 : Tryz.prog.underlying 91 = some (.func #[25, 69] #[4] false) := by kernel_rfl
theorem u92 : Tryz.prog.underlying 92 = some (.func #[24, 93] #[4] false) := by kernel_rfl
theorem u93 : Tryz.prog.underlying 93 = some (.func #[59] #[4] false) := by kernel_rfl
theorem u94 : Tryz.prog.underlying 94 = some (.func #[27, 97] #[4] false) := by kernel_rfl
theorem u95 : Tryz.prog.underlying 95 = some (.func #[3] #[4] false) := by kernel_rfl
theorem u96 : Tryz.prog.underlying 96 = some (.func #[29, 35] #[46] false) := by kernel_rfl
theorem u97 : Tryz.prog.underlying 97 = some (.func #[37] #[4] false) := by kernel_rfl
theorem u98 : Tryz.prog.underlying 98 = some (.func #[26, 99] #[4] false) := by kernel_rfl
theorem u99 : Tryz.prog.underlying 99 = some (.func #[34] #[4] false) := by kernel_rfl
theorem u100 : Tryz.prog.underlying 100 = some (.func #[25, 101] #[4] false) := by kernel_rfl
theorem u101 : Tryz.prog.underlying 101 = some (.func #[32] #[4] false) := by kernel_rfl
theorem u102 : Tryz.prog.underlying 102 = some (.func #[29, 3] #[59] false) := by kernel_rfl
theorem u103 : Tryz.prog.underlying 103 = some (.tuple #[37, 4]) := by kernel_rfl
theorem u104 : Tryz.prog.underlying 104 = some (.func #[27, 97] #[37, 4] false) := by kernel_rfl
theorem u105 : Tryz.prog.underlying 105 = some (.tuple #[32, 4]) := by kernel_rfl
theorem u106 : Tryz.prog.underlying 106 = some (.func #[25, 101] #[32, 4] false) := by kernel_rfl
theorem u107 : Tryz.prog.underlying 107 = some (.tuple #[34, 4]) := by kernel_rfl
theorem u108 : Tryz.prog.underlying 108 = some (.func #[26, 99] #[34, 4] false) := by kernel_rfl
theorem u109 : Tryz.prog.underlying 109 = some (.func #[29] #[4] false) := by kernel_rfl
theorem u110 : Tryz.prog.underlying 110 = some (.func #[24, 24] #[4] false) := by kernel_rfl
theorem u111 : Tryz.prog.underlying 111 = some (.func #[25, 25] #[4] false) := by kernel_rfl
theorem u112 : Tryz.prog.underlying 112 = some (.func #[26, 26] #[4] false) := by kernel_rfl
theorem u113 : Tryz.prog.underlying 113 = some (.func #[27, 27, 114] #[4] false) := by kernel_rfl
theorem u114 : Tryz.prog.underlying 114 = some (.func #[37, 37] #[4] false) := by kernel_rfl
theorem u115 : Tryz.prog.underlying 115 = some (.func #[24] #[24] false) := by kernel_rfl
theorem u116 : Tryz.prog.underlying 116 = some (.func #[25] #[25] false) := by kernel_rfl
theorem u117 : Tryz.prog.underlying 117 = some (.func #[26] #[26] false) := by kernel_rfl
theorem u118 : Tryz.prog.underlying 118 = some (.func #[27] #[27] false) := by kernel_rfl
theorem u119 : Tryz.prog.underlying 119 = some (.func #[3] #[46] false) := by kernel_rfl
theorem u120 : Tryz.prog.underlying 120 = some (.func #[25, 32, 69] #[3, 4] false) := by kernel_rfl
theorem u121 : Tryz.prog.underlying 121 = some (.func #[25, 3, 25] #[25] true) := by kernel_rfl
theorem u122 : Tryz.prog.underlying 122 = some (.func #[35] #[3] true) := by kernel_rfl
theorem u123 : Tryz.prog.underlying 123 = some (.func #[3, 3] #[3] false) := by kernel_rfl
theorem u124 : Tryz.prog.underlying 124 = some (.func #[25, 32] #[3] false) := by kernel_rfl
theorem u125 : Tryz.prog.underlying 125 = some (.func #[25, 101] #[25] false) := by kernel_rfl
theorem u126 : Tryz.prog.underlying 126 = some (.func #[26, 34, 73] #[3, 4] false) := by kernel_rfl
theorem u127 : Tryz.prog.underlying 127 = some (.func #[26, 3, 26] #[26] true) := by kernel_rfl
theorem u128 : Tryz.prog.underlying 128 = some (.func #[26, 34] #[3] false) := by kernel_rfl
theorem u129 : Tryz.prog.underlying 129 = some (.func #[26, 99] #[26] false) := by kernel_rfl
theorem u130 : Tryz.prog.underlying 130 = some (.func #[27, 37, 78] #[3, 4] false) := by kernel_rfl
theorem u131 : Tryz.prog.underlying 131 = some (.func #[27, 3, 27] #[27] true) := by kernel_rfl
theorem u132 : Tryz.prog.underlying 132 = some (.func #[27, 97] #[27] false) := by kernel_rfl
theorem u133 : Tryz.prog.underlying 133 = some (.func #[32, 32] #[4] false) := by kernel_rfl
theorem u134 : Tryz.prog.underlying 134 = some (.func #[35] #[4] false) := by kernel_rfl
theorem u135 : Tryz.prog.underlying 135 = some (.func #[29, 35, 59] #[4] false) := by kernel_rfl
theorem u136 : Tryz.prog.underlying 136 = some (.array 5 5) := by kernel_rfl
theorem h136 : Tryz.prog.stoodInHeld 136 = false := by kernel_rfl
theorem c136 : Tryz.prog.cellsOf 136 = 5 := by kernel_rfl
theorem b136 : Tryz.prog.bytesOf 136 = 5 := by kernel_rfl
theorem a136 : isAgg Tryz.prog 136 = some true := by kernel_rfl
theorem k136 : zok Tryz.prog 136 = true := by kernel_rfl
theorem z136 : zeroV Tryz.prog 136 = some (.agg [(.s (.int .u8 0)), (.s (.int .u8 0)), (.s (.int .u8 0)), (.s (.int .u8 0)), (.s (.int .u8 0))]) := by kernel_rfl
theorem u137 : Tryz.prog.underlying 137 = some (.slice 5) := by kernel_rfl
theorem h137 : Tryz.prog.stoodInHeld 137 = false := by kernel_rfl
theorem c137 : Tryz.prog.cellsOf 137 = 1 := by kernel_rfl
theorem b137 : Tryz.prog.bytesOf 137 = 24 := by kernel_rfl
theorem a137 : isAgg Tryz.prog 137 = some false := by kernel_rfl
theorem k137 : zok Tryz.prog 137 = true := by kernel_rfl
theorem z137 : zeroV Tryz.prog 137 = some (.s (.slice none 0 0)) := by kernel_rfl
theorem u138 : Tryz.prog.underlying 138 = some (.array 3 5) := by kernel_rfl
theorem h138 : Tryz.prog.stoodInHeld 138 = false := by kernel_rfl
theorem c138 : Tryz.prog.cellsOf 138 = 3 := by kernel_rfl
theorem b138 : Tryz.prog.bytesOf 138 = 3 := by kernel_rfl
theorem a138 : isAgg Tryz.prog 138 = some true := by kernel_rfl
theorem k138 : zok Tryz.prog 138 = true := by kernel_rfl
theorem z138 : zeroV Tryz.prog 138 = some (.agg [(.s (.int .u8 0)), (.s (.int .u8 0)), (.s (.int .u8 0))]) := by kernel_rfl
theorem u139 : Tryz.prog.underlying 139 = some (.func #[23] #[4] false) := by kernel_rfl
theorem u140 : Tryz.prog.underlying 140 = some (.func #[24, 93] #[3] false) := by kernel_rfl
theorem u141 : Tryz.prog.underlying 141 = some (.func #[27, 97] #[3] false) := by kernel_rfl
theorem u142 : Tryz.prog.underlying 142 = some (.func #[35, 123] #[4] false) := by kernel_rfl
theorem u143 : Tryz.prog.underlying 143 = some (.func #[26, 99] #[3] false) := by kernel_rfl
theorem u144 : Tryz.prog.underlying 144 = some (.func #[25, 101] #[3] false) := by kernel_rfl
theorem u145 : Tryz.prog.underlying 145 = some (.func #[23, 5] #[4] false) := by kernel_rfl
theorem u146 : Tryz.prog.underlying 146 = some (.func #[25, 3] #[] false) := by kernel_rfl
theorem u147 : Tryz.prog.underlying 147 = some (.func #[26, 3] #[] false) := by kernel_rfl
theorem u148 : Tryz.prog.underlying 148 = some (.func #[27, 27] #[4] false) := by kernel_rfl
theorem u149 : Tryz.prog.underlying 149 = some (.func #[27, 3] #[] false) := by kernel_rfl
theorem u150 : Tryz.prog.underlying 150 = some (.func #[25] #[] false) := by kernel_rfl
theorem u151 : Tryz.prog.underlying 151 = some (.func #[26] #[] false) := by kernel_rfl
theorem u152 : Tryz.prog.underlying 152 = some (.func #[27] #[] false) := by kernel_rfl
theorem u153 : Tryz.prog.underlying 153 = some (.func #[] #[9] false) := by kernel_rfl
theorem u154 : Tryz.prog.underlying 154 = some (.struct #[⟨ "_interface", 17, 0, false, "", "runtime", 0⟩, ⟨ "concrete", 17, 1, false, "", "runtime", 8⟩, ⟨ "asserted", 17, 2, false, "", "runtime", 16⟩, ⟨ "missingMethod", 9, 3, false, "", "runtime", 24⟩]) := by kernel_rfl
theorem h154 : Tryz.prog.stoodInHeld 154 = true := by kernel_rfl
theorem c154 : Tryz.prog.cellsOf 154 = 4 := by kernel_rfl
theorem b154 : Tryz.prog.bytesOf 154 = 40 := by kernel_rfl
theorem a154 : isAgg Tryz.prog 154 = some true := by kernel_rfl
theorem k154 : zok Tryz.prog 154 = true := by kernel_rfl
theorem z154 : zeroV Tryz.prog 154 = some (.agg [(.s (.pointer none)), (.s (.pointer none)), (.s (.pointer none)), (.s (.string ⟨#[]⟩))]) := by kernel_rfl
theorem u155 : Tryz.prog.underlying 155 = some (.struct #[⟨ "_interface", 17, 0, false, "", "runtime", 0⟩, ⟨ "concrete", 17, 1, false, "", "runtime", 8⟩, ⟨ "asserted", 17, 2, false, "", "runtime", 16⟩, ⟨ "missingMethod", 9, 3, false, "", "runtime", 24⟩]) := by kernel_rfl
theorem h155 : Tryz.prog.stoodInHeld 155 = true := by kernel_rfl
theorem c155 : Tryz.prog.cellsOf 155 = 4 := by kernel_rfl
theorem b155 : Tryz.prog.bytesOf 155 = 40 := by kernel_rfl
theorem a155 : isAgg Tryz.prog 155 = some true := by kernel_rfl
theorem k155 : zok Tryz.prog 155 = true := by kernel_rfl
theorem z155 : zeroV Tryz.prog 155 = some (.agg [(.s (.pointer none)), (.s (.pointer none)), (.s (.pointer none)), (.s (.string ⟨#[]⟩))]) := by kernel_rfl
theorem u156 : Tryz.prog.underlying 156 = some (.array 0 16) := by kernel_rfl
theorem h156 : Tryz.prog.stoodInHeld 156 = false := by kernel_rfl
theorem c156 : Tryz.prog.cellsOf 156 = 0 := by kernel_rfl
theorem b156 : Tryz.prog.bytesOf 156 = 0 := by kernel_rfl
theorem a156 : isAgg Tryz.prog 156 = some true := by kernel_rfl
theorem k156 : zok Tryz.prog 156 = true := by kernel_rfl
theorem z156 : zeroV Tryz.prog 156 = some (.agg []) := by kernel_rfl
theorem u157 : Tryz.prog.underlying 157 = some (.struct #[⟨ "_", 156, 0, false, "", "runtime", 0⟩]) := by kernel_rfl
theorem h157 : Tryz.prog.stoodInHeld 157 = true := by kernel_rfl
theorem c157 : Tryz.prog.cellsOf 157 = 0 := by kernel_rfl
theorem b157 : Tryz.prog.bytesOf 157 = 0 := by kernel_rfl
theorem a157 : isAgg Tryz.prog 157 = some true := by kernel_rfl
theorem k157 : zok Tryz.prog 157 = true := by kernel_rfl
theorem z157 : zeroV Tryz.prog 157 = some (.agg []) := by kernel_rfl
theorem u158 : Tryz.prog.underlying 158 = some (.struct #[⟨ "_", 156, 0, false, "", "runtime", 0⟩]) := by kernel_rfl
theorem h158 : Tryz.prog.stoodInHeld 158 = true := by kernel_rfl
theorem c158 : Tryz.prog.cellsOf 158 = 0 := by kernel_rfl
theorem b158 : Tryz.prog.bytesOf 158 = 0 := by kernel_rfl
theorem a158 : isAgg Tryz.prog 158 = some true := by kernel_rfl
theorem k158 : zok Tryz.prog 158 = true := by kernel_rfl
theorem z158 : zeroV Tryz.prog 158 = some (.agg []) := by kernel_rfl
theorem u159 : Tryz.prog.underlying 159 = some (.func #[] #[3] false) := by kernel_rfl
theorem u160 : Tryz.prog.underlying 160 = some (.int .u8) := by kernel_rfl
theorem h160 : Tryz.prog.stoodInHeld 160 = false := by kernel_rfl
theorem c160 : Tryz.prog.cellsOf 160 = 1 := by kernel_rfl
theorem b160 : Tryz.prog.bytesOf 160 = 1 := by kernel_rfl
theorem a160 : isAgg Tryz.prog 160 = some false := by kernel_rfl
theorem k160 : zok Tryz.prog 160 = true := by kernel_rfl
theorem z160 : zeroV Tryz.prog 160 = some (.s (.int .u8 0)) := by kernel_rfl
theorem u161 : Tryz.prog.underlying 161 = some (.int .u8) := by kernel_rfl
theorem h161 : Tryz.prog.stoodInHeld 161 = false := by kernel_rfl
theorem c161 : Tryz.prog.cellsOf 161 = 1 := by kernel_rfl
theorem b161 : Tryz.prog.bytesOf 161 = 1 := by kernel_rfl
theorem a161 : isAgg Tryz.prog 161 = some false := by kernel_rfl
theorem k161 : zok Tryz.prog 161 = true := by kernel_rfl
theorem z161 : zeroV Tryz.prog 161 = some (.s (.int .u8 0)) := by kernel_rfl
theorem u162 : Tryz.prog.underlying 162 = some (.func #[168, 168] #[4] false) := by kernel_rfl
theorem u163 : Tryz.prog.underlying 163 = some (.pointer 5) := by kernel_rfl
theorem h163 : Tryz.prog.stoodInHeld 163 = false := by kernel_rfl
theorem c163 : Tryz.prog.cellsOf 163 = 1 := by kernel_rfl
theorem b163 : Tryz.prog.bytesOf 163 = 8 := by kernel_rfl
theorem a163 : isAgg Tryz.prog 163 = some false := by kernel_rfl
theorem k163 : zok Tryz.prog 163 = true := by kernel_rfl
theorem z163 : zeroV Tryz.prog 163 = some (.s (.pointer none)) := by kernel_rfl
theorem u164 : Tryz.prog.underlying 164 = some (.int .i32) := by kernel_rfl
theorem h164 : Tryz.prog.stoodInHeld 164 = false := by kernel_rfl
theorem c164 : Tryz.prog.cellsOf 164 = 1 := by kernel_rfl
theorem b164 : Tryz.prog.bytesOf 164 = 4 := by kernel_rfl
theorem a164 : isAgg Tryz.prog 164 = some false := by kernel_rfl
theorem k164 : zok Tryz.prog 164 = true := by kernel_rfl
theorem z164 : zeroV Tryz.prog 164 = some (.s (.int .i32 0)) := by kernel_rfl
theorem u165 : Tryz.prog.underlying 165 = some (.int .i32) := by kernel_rfl
theorem h165 : Tryz.prog.stoodInHeld 165 = false := by kernel_rfl
theorem c165 : Tryz.prog.cellsOf 165 = 1 := by kernel_rfl
theorem b165 : Tryz.prog.bytesOf 165 = 4 := by kernel_rfl
theorem a165 : isAgg Tryz.prog 165 = some false := by kernel_rfl
theorem k165 : zok Tryz.prog 165 = true := by kernel_rfl
theorem z165 : zeroV Tryz.prog 165 = some (.s (.int .i32 0)) := by kernel_rfl
theorem u166 : Tryz.prog.underlying 166 = some (.struct #[⟨ "Size_", 12, 0, false, "", "", 0⟩, ⟨ "PtrBytes", 12, 1, false, "", "", 8⟩, ⟨ "Hash", 41, 2, false, "", "", 16⟩, ⟨ "TFlag", 160, 3, false, "", "", 20⟩, ⟨ "Align_", 5, 4, false, "", "", 21⟩, ⟨ "FieldAlign_", 5, 5, false, "", "", 22⟩, ⟨ "Kind_", 161, 6, false, "", "", 23⟩, ⟨ "Equal", 162, 7, false, "", "", 24⟩, ⟨ "GCData", 163, 8, false, "", "", 32⟩, ⟨ "Str", 164, 9, false, "", "", 40⟩, ⟨ "PtrToThis", 165, 10, false, "", "", 44⟩]) := by kernel_rfl
theorem h166 : Tryz.prog.stoodInHeld 166 = true := by kernel_rfl
theorem c166 : Tryz.prog.cellsOf 166 = 11 := by kernel_rfl
theorem b166 : Tryz.prog.bytesOf 166 = 48 := by kernel_rfl
theorem a166 : isAgg Tryz.prog 166 = some true := by kernel_rfl
theorem k166 : zok Tryz.prog 166 = true := by kernel_rfl
theorem z166 : zeroV Tryz.prog 166 = some (.agg [(.s (.int .u64 0)), (.s (.int .u64 0)), (.s (.int .u32 0)), (.s (.int .u8 0)), (.s (.int .u8 0)), (.s (.int .u8 0)), (.s (.int .u8 0)), (.s .nilFunc), (.s (.pointer none)), (.s (.int .i32 0)), (.s (.int .i32 0))]) := by kernel_rfl
theorem u167 : Tryz.prog.underlying 167 = some (.struct #[⟨ "Size_", 12, 0, false, "", "", 0⟩, ⟨ "PtrBytes", 12, 1, false, "", "", 8⟩, ⟨ "Hash", 41, 2, false, "", "", 16⟩, ⟨ "TFlag", 160, 3, false, "", "", 20⟩, ⟨ "Align_", 5, 4, false, "", "", 21⟩, ⟨ "FieldAlign_", 5, 5, false, "", "", 22⟩, ⟨ "Kind_", 161, 6, false, "", "", 23⟩, ⟨ "Equal", 162, 7, false, "", "", 24⟩, ⟨ "GCData", 163, 8, false, "", "", 32⟩, ⟨ "Str", 164, 9, false, "", "", 40⟩, ⟨ "PtrToThis", 165, 10, false, "", "", 44⟩]) := by kernel_rfl
theorem h167 : Tryz.prog.stoodInHeld 167 = true := by kernel_rfl
theorem c167 : Tryz.prog.cellsOf 167 = 11 := by kernel_rfl
theorem b167 : Tryz.prog.bytesOf 167 = 48 := by kernel_rfl
theorem a167 : isAgg Tryz.prog 167 = some true := by kernel_rfl
theorem k167 : zok Tryz.prog 167 = true := by kernel_rfl
theorem z167 : zeroV Tryz.prog 167 = some (.agg [(.s (.int .u64 0)), (.s (.int .u64 0)), (.s (.int .u32 0)), (.s (.int .u8 0)), (.s (.int .u8 0)), (.s (.int .u8 0)), (.s (.int .u8 0)), (.s .nilFunc), (.s (.pointer none)), (.s (.int .i32 0)), (.s (.int .i32 0))]) := by kernel_rfl
theorem h168 : Tryz.prog.stoodInHeld 168 = false := by kernel_rfl
theorem c168 : Tryz.prog.cellsOf 168 = 1 := by kernel_rfl
theorem b168 : Tryz.prog.bytesOf 168 = 8 := by kernel_rfl
theorem a168 : isAgg Tryz.prog 168 = some false := by kernel_rfl
theorem k168 : zok Tryz.prog 168 = true := by kernel_rfl
theorem z168 : zeroV Tryz.prog 168 = some (.s (.pointer none)) := by kernel_rfl
theorem l7 : leafK Tryz.prog 20 7 = some [.i, .i, .b, .i] := by simp [leafK, leafKs, tiles, List.replicate, u7, c7, h7, u2, c2, h2, u3, c3, h3, u4, c4, h4, u6, c6, h6]
theorem l8 : leafK Tryz.prog 20 8 = some [.i, .i, .b, .i] := by simp [leafK, leafKs, tiles, List.replicate, u8, c8, h8, u2, c2, h2, u3, c3, h3, u4, c4, h4, u6, c6, h6]
theorem l22 : leafK Tryz.prog 20 22 = some [.i, .i, .i, .i, .i, .i] := by simp [leafK, leafKs, tiles, List.replicate, u22, c22, h22, u5, c5, h5]
theorem l23 : leafK Tryz.prog 20 23 = some [.i, .i, .i, .i, .i, .i] := by simp [leafK, leafKs, tiles, List.replicate, u23, c23, h23, u5, c5, h5]
theorem l31 : leafK Tryz.prog 20 31 = some [.i, .i, .i] := by simp [leafK, leafKs, tiles, List.replicate, u31, c31, h31, u3, c3, h3]
theorem l32 : leafK Tryz.prog 20 32 = some [.i, .i, .i] := by simp [leafK, leafKs, tiles, List.replicate, u32, c32, h32, u3, c3, h3]
theorem l33 : leafK Tryz.prog 20 33 = some [.i, .i] := by simp [leafK, leafKs, tiles, List.replicate, u33, c33, h33, u3, c3, h3]
theorem l34 : leafK Tryz.prog 20 34 = some [.i, .i] := by simp [leafK, leafKs, tiles, List.replicate, u34, c34, h34, u3, c3, h3]
theorem l38 : leafK Tryz.prog 20 38 = some [.i, .i, .i, .i, .i, .i, .i, .i, .b, .i] := by simp [leafK, leafKs, tiles, List.replicate, u38, c38, h38, u3, c3, h3, u23, c23, h23, u5, c5, h5, u4, c4, h4]
theorem l39 : leafK Tryz.prog 20 39 = some [.i, .i, .i, .i, .i, .i, .i, .i, .b, .i] := by simp [leafK, leafKs, tiles, List.replicate, u39, c39, h39, u3, c3, h3, u23, c23, h23, u5, c5, h5, u4, c4, h4]
theorem l136 : leafK Tryz.prog 20 136 = some [.i, .i, .i, .i, .i] := by simp [leafK, leafKs, tiles, List.replicate, u136, c136, h136, u5, c5, h5]
theorem l138 : leafK Tryz.prog 20 138 = some [.i, .i, .i] := by simp [leafK, leafKs, tiles, List.replicate, u138, c138, h138, u5, c5, h5]

theorem FT0 : (type_of% @u0) := @u0
theorem FT1 : (type_of% @u1) := @u1
theorem FT2 : (type_of% @u2) ∧ (type_of% @c2) ∧ (type_of% @b2) ∧ (type_of% @a2) ∧ (type_of% @k2) ∧ (type_of% @z2) := ⟨@u2, @c2, @b2, @a2, @k2, @z2⟩
theorem FT3 : (type_of% @u3) ∧ (type_of% @c3) ∧ (type_of% @b3) ∧ (type_of% @a3) ∧ (type_of% @k3) ∧ (type_of% @z3) := ⟨@u3, @c3, @b3, @a3, @k3, @z3⟩
theorem FT4 : (type_of% @u4) ∧ (type_of% @c4) ∧ (type_of% @b4) ∧ (type_of% @a4) ∧ (type_of% @k4) ∧ (type_of% @z4) := ⟨@u4, @c4, @b4, @a4, @k4, @z4⟩
theorem FT5 : (type_of% @u5) ∧ (type_of% @c5) ∧ (type_of% @b5) ∧ (type_of% @a5) ∧ (type_of% @k5) ∧ (type_of% @z5) := ⟨@u5, @c5, @b5, @a5, @k5, @z5⟩
theorem FT6 : (type_of% @u6) ∧ (type_of% @c6) ∧ (type_of% @b6) ∧ (type_of% @a6) ∧ (type_of% @k6) ∧ (type_of% @z6) := ⟨@u6, @c6, @b6, @a6, @k6, @z6⟩
theorem FT7 : (type_of% @u7) ∧ (type_of% @c7) ∧ (type_of% @b7) ∧ (type_of% @a7) ∧ (type_of% @k7) ∧ (type_of% @z7) ∧ (type_of% @l7) := ⟨@u7, @c7, @b7, @a7, @k7, @z7, @l7⟩
theorem FT8 : (type_of% @u8) ∧ (type_of% @c8) ∧ (type_of% @b8) ∧ (type_of% @a8) ∧ (type_of% @k8) ∧ (type_of% @z8) ∧ (type_of% @l8) := ⟨@u8, @c8, @b8, @a8, @k8, @z8, @l8⟩
theorem FT9 : (type_of% @u9) ∧ (type_of% @c9) ∧ (type_of% @b9) ∧ (type_of% @a9) ∧ (type_of% @k9) ∧ (type_of% @z9) := ⟨@u9, @c9, @b9, @a9, @k9, @z9⟩
theorem FT10 : (type_of% @u10) ∧ (type_of% @c10) ∧ (type_of% @b10) ∧ (type_of% @a10) ∧ (type_of% @k10) ∧ (type_of% @z10) := ⟨@u10, @c10, @b10, @a10, @k10, @z10⟩
theorem FT11 : (type_of% @u11) ∧ (type_of% @c11) ∧ (type_of% @b11) ∧ (type_of% @a11) ∧ (type_of% @k11) ∧ (type_of% @z11) := ⟨@u11, @c11, @b11, @a11, @k11, @z11⟩
theorem FT12 : (type_of% @u12) ∧ (type_of% @c12) ∧ (type_of% @b12) ∧ (type_of% @a12) ∧ (type_of% @k12) ∧ (type_of% @z12) := ⟨@u12, @c12, @b12, @a12, @k12, @z12⟩
theorem FT13 : (type_of% @u13) ∧ (type_of% @c13) ∧ (type_of% @b13) ∧ (type_of% @a13) ∧ (type_of% @k13) ∧ (type_of% @z13) := ⟨@u13, @c13, @b13, @a13, @k13, @z13⟩
theorem FT14 : (type_of% @u14) ∧ (type_of% @c14) ∧ (type_of% @b14) ∧ (type_of% @a14) ∧ (type_of% @k14) ∧ (type_of% @z14) := ⟨@u14, @c14, @b14, @a14, @k14, @z14⟩
theorem FT15 : (type_of% @u15) ∧ (type_of% @c15) ∧ (type_of% @b15) ∧ (type_of% @a15) ∧ (type_of% @k15) ∧ (type_of% @z15) := ⟨@u15, @c15, @b15, @a15, @k15, @z15⟩
theorem FT16 : (type_of% @u16) ∧ (type_of% @c16) ∧ (type_of% @b16) ∧ (type_of% @a16) ∧ (type_of% @k16) ∧ (type_of% @z16) := ⟨@u16, @c16, @b16, @a16, @k16, @z16⟩
theorem FT17 : (type_of% @u17) ∧ (type_of% @c17) ∧ (type_of% @b17) ∧ (type_of% @a17) ∧ (type_of% @k17) ∧ (type_of% @z17) := ⟨@u17, @c17, @b17, @a17, @k17, @z17⟩
theorem FT18 : (type_of% @u18) ∧ (type_of% @c18) ∧ (type_of% @b18) ∧ (type_of% @a18) ∧ (type_of% @k18) ∧ (type_of% @z18) := ⟨@u18, @c18, @b18, @a18, @k18, @z18⟩
theorem FT19 : (type_of% @u19) ∧ (type_of% @c19) ∧ (type_of% @b19) ∧ (type_of% @a19) ∧ (type_of% @k19) ∧ (type_of% @z19) := ⟨@u19, @c19, @b19, @a19, @k19, @z19⟩
theorem FT20 : (type_of% @c20) ∧ (type_of% @b20) ∧ (type_of% @a20) ∧ (type_of% @k20) ∧ (type_of% @z20) := ⟨@c20, @b20, @a20, @k20, @z20⟩
theorem FT21 : (type_of% @u21) ∧ (type_of% @c21) ∧ (type_of% @b21) ∧ (type_of% @a21) ∧ (type_of% @k21) ∧ (type_of% @z21) := ⟨@u21, @c21, @b21, @a21, @k21, @z21⟩
theorem FT22 : (type_of% @u22) ∧ (type_of% @c22) ∧ (type_of% @b22) ∧ (type_of% @a22) ∧ (type_of% @k22) ∧ (type_of% @z22) ∧ (type_of% @l22) := ⟨@u22, @c22, @b22, @a22, @k22, @z22, @l22⟩
theorem FT23 : (type_of% @u23) ∧ (type_of% @c23) ∧ (type_of% @b23) ∧ (type_of% @a23) ∧ (type_of% @k23) ∧ (type_of% @z23) ∧ (type_of% @l23) := ⟨@u23, @c23, @b23, @a23, @k23, @z23, @l23⟩
theorem FT24 : (type_of% @u24) ∧ (type_of% @c24) ∧ (type_of% @b24) ∧ (type_of% @a24) ∧ (type_of% @k24) ∧ (type_of% @z24) := ⟨@u24, @c24, @b24, @a24, @k24, @z24⟩
theorem FT25 : (type_of% @u25) ∧ (type_of% @c25) ∧ (type_of% @b25) ∧ (type_of% @a25) ∧ (type_of% @k25) ∧ (type_of% @z25) := ⟨@u25, @c25, @b25, @a25, @k25, @z25⟩
theorem FT26 : (type_of% @u26) ∧ (type_of% @c26) ∧ (type_of% @b26) ∧ (type_of% @a26) ∧ (type_of% @k26) ∧ (type_of% @z26) := ⟨@u26, @c26, @b26, @a26, @k26, @z26⟩
theorem FT27 : (type_of% @u27) ∧ (type_of% @c27) ∧ (type_of% @b27) ∧ (type_of% @a27) ∧ (type_of% @k27) ∧ (type_of% @z27) := ⟨@u27, @c27, @b27, @a27, @k27, @z27⟩
theorem FT28 : (type_of% @u28) ∧ (type_of% @c28) ∧ (type_of% @b28) ∧ (type_of% @a28) ∧ (type_of% @k28) ∧ (type_of% @z28) := ⟨@u28, @c28, @b28, @a28, @k28, @z28⟩
theorem FT29 : (type_of% @u29) ∧ (type_of% @c29) ∧ (type_of% @b29) ∧ (type_of% @a29) ∧ (type_of% @k29) ∧ (type_of% @z29) := ⟨@u29, @c29, @b29, @a29, @k29, @z29⟩
theorem FT30 : (type_of% @u30) ∧ (type_of% @c30) ∧ (type_of% @b30) ∧ (type_of% @a30) ∧ (type_of% @k30) ∧ (type_of% @z30) := ⟨@u30, @c30, @b30, @a30, @k30, @z30⟩
theorem FT31 : (type_of% @u31) ∧ (type_of% @c31) ∧ (type_of% @b31) ∧ (type_of% @a31) ∧ (type_of% @k31) ∧ (type_of% @z31) ∧ (type_of% @l31) := ⟨@u31, @c31, @b31, @a31, @k31, @z31, @l31⟩
theorem FT32 : (type_of% @u32) ∧ (type_of% @c32) ∧ (type_of% @b32) ∧ (type_of% @a32) ∧ (type_of% @k32) ∧ (type_of% @z32) ∧ (type_of% @l32) := ⟨@u32, @c32, @b32, @a32, @k32, @z32, @l32⟩
theorem FT33 : (type_of% @u33) ∧ (type_of% @c33) ∧ (type_of% @b33) ∧ (type_of% @a33) ∧ (type_of% @k33) ∧ (type_of% @z33) ∧ (type_of% @l33) := ⟨@u33, @c33, @b33, @a33, @k33, @z33, @l33⟩
theorem FT34 : (type_of% @u34) ∧ (type_of% @c34) ∧ (type_of% @b34) ∧ (type_of% @a34) ∧ (type_of% @k34) ∧ (type_of% @z34) ∧ (type_of% @l34) := ⟨@u34, @c34, @b34, @a34, @k34, @z34, @l34⟩
theorem FT35 : (type_of% @u35) ∧ (type_of% @c35) ∧ (type_of% @b35) ∧ (type_of% @a35) ∧ (type_of% @k35) ∧ (type_of% @z35) := ⟨@u35, @c35, @b35, @a35, @k35, @z35⟩
theorem FT36 : (type_of% @u36) ∧ (type_of% @c36) ∧ (type_of% @b36) ∧ (type_of% @a36) ∧ (type_of% @k36) ∧ (type_of% @z36) := ⟨@u36, @c36, @b36, @a36, @k36, @z36⟩
theorem FT37 : (type_of% @u37) ∧ (type_of% @c37) ∧ (type_of% @b37) ∧ (type_of% @a37) ∧ (type_of% @k37) ∧ (type_of% @z37) := ⟨@u37, @c37, @b37, @a37, @k37, @z37⟩
theorem FT38 : (type_of% @u38) ∧ (type_of% @c38) ∧ (type_of% @b38) ∧ (type_of% @a38) ∧ (type_of% @k38) ∧ (type_of% @z38) ∧ (type_of% @l38) := ⟨@u38, @c38, @b38, @a38, @k38, @z38, @l38⟩
theorem FT39 : (type_of% @u39) ∧ (type_of% @c39) ∧ (type_of% @b39) ∧ (type_of% @a39) ∧ (type_of% @k39) ∧ (type_of% @z39) ∧ (type_of% @l39) := ⟨@u39, @c39, @b39, @a39, @k39, @z39, @l39⟩
theorem FT40 : (type_of% @u40) ∧ (type_of% @c40) ∧ (type_of% @b40) ∧ (type_of% @a40) ∧ (type_of% @k40) ∧ (type_of% @z40) := ⟨@u40, @c40, @b40, @a40, @k40, @z40⟩
theorem FT41 : (type_of% @u41) ∧ (type_of% @c41) ∧ (type_of% @b41) ∧ (type_of% @a41) ∧ (type_of% @k41) ∧ (type_of% @z41) := ⟨@u41, @c41, @b41, @a41, @k41, @z41⟩
theorem FT42 : (type_of% @u42) ∧ (type_of% @c42) ∧ (type_of% @b42) ∧ (type_of% @a42) ∧ (type_of% @k42) ∧ (type_of% @z42) := ⟨@u42, @c42, @b42, @a42, @k42, @z42⟩
theorem FT43 : (type_of% @u43) ∧ (type_of% @c43) ∧ (type_of% @b43) ∧ (type_of% @a43) ∧ (type_of% @k43) ∧ (type_of% @z43) := ⟨@u43, @c43, @b43, @a43, @k43, @z43⟩
theorem FT44 : (type_of% @u44) := @u44
theorem FT45 : (type_of% @u45) := @u45
theorem FT46 : (type_of% @u46) ∧ (type_of% @c46) ∧ (type_of% @b46) ∧ (type_of% @a46) ∧ (type_of% @k46) ∧ (type_of% @z46) := ⟨@u46, @c46, @b46, @a46, @k46, @z46⟩
theorem FT47 : (type_of% @u47) := @u47
theorem FT48 : (type_of% @u48) := @u48
theorem FT49 : (type_of% @u49) := @u49
theorem FT50 : (type_of% @u50) := @u50
theorem FT51 : (type_of% @u51) := @u51
theorem FT52 : (type_of% @u52) ∧ (type_of% @c52) ∧ (type_of% @b52) ∧ (type_of% @a52) ∧ (type_of% @k52) ∧ (type_of% @z52) := ⟨@u52, @c52, @b52, @a52, @k52, @z52⟩
theorem FT53 : (type_of% @u53) := @u53
theorem FT54 : (type_of% @u54) := @u54
theorem FT55 : (type_of% @u55) := @u55
theorem FT56 : (type_of% @u56) := @u56
theorem FT57 : (type_of% @u57) := @u57
theorem FT58 : (type_of% @u58) := @u58
theorem FT59 : (type_of% @u59) ∧ (type_of% @c59) ∧ (type_of% @b59) ∧ (type_of% @a59) ∧ (type_of% @k59) ∧ (type_of% @z59) := ⟨@u59, @c59, @b59, @a59, @k59, @z59⟩
theorem FT60 : (type_of% @u60) := @u60
theorem FT61 : (type_of% @u61) := @u61
theorem FT62 : (type_of% @u62) := @u62
theorem FT63 : (type_of% @u63) := @u63
theorem FT64 : (type_of% @u64) := @u64
theorem FT65 : (type_of% @u65) := @u65
theorem FT66 : (type_of% @u66) := @u66
theorem FT67 : (type_of% @u67) := @u67
theorem FT68 : (type_of% @u68) := @u68
theorem FT69 : (type_of% @u69) := @u69
theorem FT70 : (type_of% @u70) := @u70
theorem FT71 : (type_of% @u71) := @u71
theorem FT72 : (type_of% @u72) := @u72
theorem FT73 : (type_of% @u73) := @u73
theorem FT74 : (type_of% @u74) := @u74
theorem FT75 : (type_of% @u75) := @u75
theorem FT76 : (type_of% @u76) := @u76
theorem FT77 : (type_of% @u77) := @u77
theorem FT78 : (type_of% @u78) := @u78
theorem FT79 : (type_of% @u79) := @u79
theorem FT80 : (type_of% @u80) := @u80
theorem FT81 : (type_of% @u81) := @u81
theorem FT82 : (type_of% @u82) := @u82
theorem FT83 : (type_of% @u83) := @u83
theorem FT84 : (type_of% @u84) := @u84
theorem FT85 : (type_of% @u85) ∧ (type_of% @c85) ∧ (type_of% @b85) ∧ (type_of% @a85) ∧ (type_of% @k85) ∧ (type_of% @z85) := ⟨@u85, @c85, @b85, @a85, @k85, @z85⟩
theorem FT86 : (type_of% @u86) ∧ (type_of% @c86) ∧ (type_of% @b86) ∧ (type_of% @a86) ∧ (type_of% @k86) ∧ (type_of% @z86) := ⟨@u86, @c86, @b86, @a86, @k86, @z86⟩
theorem FT87 : (type_of% @u87) := @u87
theorem FT88 : (type_of% @u88) := @u88
theorem FT89 : (type_of% @u89) := @u89
theorem FT90 : (type_of% @u90) := @u90
theorem FT91 : (type_of% @u91) := @u91
theorem FT92 : (type_of% @u92) := @u92
theorem FT93 : (type_of% @u93) := @u93
theorem FT94 : (type_of% @u94) := @u94
theorem FT95 : (type_of% @u95) := @u95
theorem FT96 : (type_of% @u96) := @u96
theorem FT97 : (type_of% @u97) := @u97
theorem FT98 : (type_of% @u98) := @u98
theorem FT99 : (type_of% @u99) := @u99
theorem FT100 : (type_of% @u100) := @u100
theorem FT101 : (type_of% @u101) := @u101
theorem FT102 : (type_of% @u102) := @u102
theorem FT103 : (type_of% @u103) := @u103
theorem FT104 : (type_of% @u104) := @u104
theorem FT105 : (type_of% @u105) := @u105
theorem FT106 : (type_of% @u106) := @u106
theorem FT107 : (type_of% @u107) := @u107
theorem FT108 : (type_of% @u108) := @u108
theorem FT109 : (type_of% @u109) := @u109
theorem FT110 : (type_of% @u110) := @u110
theorem FT111 : (type_of% @u111) := @u111
theorem FT112 : (type_of% @u112) := @u112
theorem FT113 : (type_of% @u113) := @u113
theorem FT114 : (type_of% @u114) := @u114
theorem FT115 : (type_of% @u115) := @u115
theorem FT116 : (type_of% @u116) := @u116
theorem FT117 : (type_of% @u117) := @u117
theorem FT118 : (type_of% @u118) := @u118
theorem FT119 : (type_of% @u119) := @u119
theorem FT120 : (type_of% @u120) := @u120
theorem FT121 : (type_of% @u121) := @u121
theorem FT122 : (type_of% @u122) := @u122
theorem FT123 : (type_of% @u123) := @u123
theorem FT124 : (type_of% @u124) := @u124
theorem FT125 : (type_of% @u125) := @u125
theorem FT126 : (type_of% @u126) := @u126
theorem FT127 : (type_of% @u127) := @u127
theorem FT128 : (type_of% @u128) := @u128
theorem FT129 : (type_of% @u129) := @u129
theorem FT130 : (type_of% @u130) := @u130
theorem FT131 : (type_of% @u131) := @u131
theorem FT132 : (type_of% @u132) := @u132
theorem FT133 : (type_of% @u133) := @u133
theorem FT134 : (type_of% @u134) := @u134
theorem FT135 : (type_of% @u135) := @u135
theorem FT136 : (type_of% @u136) ∧ (type_of% @c136) ∧ (type_of% @b136) ∧ (type_of% @a136) ∧ (type_of% @k136) ∧ (type_of% @z136) ∧ (type_of% @l136) := ⟨@u136, @c136, @b136, @a136, @k136, @z136, @l136⟩
theorem FT137 : (type_of% @u137) ∧ (type_of% @c137) ∧ (type_of% @b137) ∧ (type_of% @a137) ∧ (type_of% @k137) ∧ (type_of% @z137) := ⟨@u137, @c137, @b137, @a137, @k137, @z137⟩
theorem FT138 : (type_of% @u138) ∧ (type_of% @c138) ∧ (type_of% @b138) ∧ (type_of% @a138) ∧ (type_of% @k138) ∧ (type_of% @z138) ∧ (type_of% @l138) := ⟨@u138, @c138, @b138, @a138, @k138, @z138, @l138⟩
theorem FT139 : (type_of% @u139) := @u139
theorem FT140 : (type_of% @u140) := @u140
theorem FT141 : (type_of% @u141) := @u141
theorem FT142 : (type_of% @u142) := @u142
theorem FT143 : (type_of% @u143) := @u143
theorem FT144 : (type_of% @u144) := @u144
theorem FT145 : (type_of% @u145) := @u145
theorem FT146 : (type_of% @u146) := @u146
theorem FT147 : (type_of% @u147) := @u147
theorem FT148 : (type_of% @u148) := @u148
theorem FT149 : (type_of% @u149) := @u149
theorem FT150 : (type_of% @u150) := @u150
theorem FT151 : (type_of% @u151) := @u151
theorem FT152 : (type_of% @u152) := @u152
theorem FT153 : (type_of% @u153) := @u153
theorem FT154 : (type_of% @u154) ∧ (type_of% @c154) ∧ (type_of% @b154) ∧ (type_of% @a154) ∧ (type_of% @k154) ∧ (type_of% @z154) := ⟨@u154, @c154, @b154, @a154, @k154, @z154⟩
theorem FT155 : (type_of% @u155) ∧ (type_of% @c155) ∧ (type_of% @b155) ∧ (type_of% @a155) ∧ (type_of% @k155) ∧ (type_of% @z155) := ⟨@u155, @c155, @b155, @a155, @k155, @z155⟩
theorem FT156 : (type_of% @u156) ∧ (type_of% @c156) ∧ (type_of% @b156) ∧ (type_of% @a156) ∧ (type_of% @k156) ∧ (type_of% @z156) := ⟨@u156, @c156, @b156, @a156, @k156, @z156⟩
theorem FT157 : (type_of% @u157) ∧ (type_of% @c157) ∧ (type_of% @b157) ∧ (type_of% @a157) ∧ (type_of% @k157) ∧ (type_of% @z157) := ⟨@u157, @c157, @b157, @a157, @k157, @z157⟩
theorem FT158 : (type_of% @u158) ∧ (type_of% @c158) ∧ (type_of% @b158) ∧ (type_of% @a158) ∧ (type_of% @k158) ∧ (type_of% @z158) := ⟨@u158, @c158, @b158, @a158, @k158, @z158⟩
theorem FT159 : (type_of% @u159) := @u159
theorem FT160 : (type_of% @u160) ∧ (type_of% @c160) ∧ (type_of% @b160) ∧ (type_of% @a160) ∧ (type_of% @k160) ∧ (type_of% @z160) := ⟨@u160, @c160, @b160, @a160, @k160, @z160⟩
theorem FT161 : (type_of% @u161) ∧ (type_of% @c161) ∧ (type_of% @b161) ∧ (type_of% @a161) ∧ (type_of% @k161) ∧ (type_of% @z161) := ⟨@u161, @c161, @b161, @a161, @k161, @z161⟩
theorem FT162 : (type_of% @u162) := @u162
theorem FT163 : (type_of% @u163) ∧ (type_of% @c163) ∧ (type_of% @b163) ∧ (type_of% @a163) ∧ (type_of% @k163) ∧ (type_of% @z163) := ⟨@u163, @c163, @b163, @a163, @k163, @z163⟩
theorem FT164 : (type_of% @u164) ∧ (type_of% @c164) ∧ (type_of% @b164) ∧ (type_of% @a164) ∧ (type_of% @k164) ∧ (type_of% @z164) := ⟨@u164, @c164, @b164, @a164, @k164, @z164⟩
theorem FT165 : (type_of% @u165) ∧ (type_of% @c165) ∧ (type_of% @b165) ∧ (type_of% @a165) ∧ (type_of% @k165) ∧ (type_of% @z165) := ⟨@u165, @c165, @b165, @a165, @k165, @z165⟩
theorem FT166 : (type_of% @u166) ∧ (type_of% @c166) ∧ (type_of% @b166) ∧ (type_of% @a166) ∧ (type_of% @k166) ∧ (type_of% @z166) := ⟨@u166, @c166, @b166, @a166, @k166, @z166⟩
theorem FT167 : (type_of% @u167) ∧ (type_of% @c167) ∧ (type_of% @b167) ∧ (type_of% @a167) ∧ (type_of% @k167) ∧ (type_of% @z167) := ⟨@u167, @c167, @b167, @a167, @k167, @z167⟩
theorem FT168 : (type_of% @c168) ∧ (type_of% @b168) ∧ (type_of% @a168) ∧ (type_of% @k168) ∧ (type_of% @z168) := ⟨@c168, @b168, @a168, @k168, @z168⟩
end Go.Ai
