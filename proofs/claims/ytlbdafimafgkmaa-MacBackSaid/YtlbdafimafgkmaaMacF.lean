/- Closed facts on the types of the loaded program, each by reckoning; no condition. -/
import Derived.Test.YtlbdafimafgkmaaChecked
import Derived.Test.YtlbdafimafgkmaaAiK
set_option maxRecDepth 100000
set_option linter.unusedSimpArgs false
namespace Go.Ai
open Go.Proofs

theorem orders : Try.prog.follows .mixedOrders = true := by kernel_rfl
theorem u0 : Try.prog.underlying 0 = some (.tuple #[]) := by kernel_rfl
theorem u1 : Try.prog.underlying 1 = some (.func #[] #[] false) := by kernel_rfl
theorem u2 : Try.prog.underlying 2 = some (.int .i64) := by kernel_rfl
theorem h2 : Try.prog.stoodInHeld 2 = false := by kernel_rfl
theorem c2 : Try.prog.cellsOf 2 = 1 := by kernel_rfl
theorem b2 : Try.prog.bytesOf 2 = 8 := by kernel_rfl
theorem a2 : isAgg Try.prog 2 = some false := by kernel_rfl
theorem k2 : zok Try.prog 2 = true := by kernel_rfl
theorem z2 : zeroV Try.prog 2 = some (.s (.int .i64 0)) := by kernel_rfl
theorem u3 : Try.prog.underlying 3 = some (.int .i64) := by kernel_rfl
theorem h3 : Try.prog.stoodInHeld 3 = false := by kernel_rfl
theorem c3 : Try.prog.cellsOf 3 = 1 := by kernel_rfl
theorem b3 : Try.prog.bytesOf 3 = 8 := by kernel_rfl
theorem a3 : isAgg Try.prog 3 = some false := by kernel_rfl
theorem k3 : zok Try.prog 3 = true := by kernel_rfl
theorem z3 : zeroV Try.prog 3 = some (.s (.int .i64 0)) := by kernel_rfl
theorem u4 : Try.prog.underlying 4 = some .bool := by kernel_rfl
theorem h4 : Try.prog.stoodInHeld 4 = false := by kernel_rfl
theorem c4 : Try.prog.cellsOf 4 = 1 := by kernel_rfl
theorem b4 : Try.prog.bytesOf 4 = 1 := by kernel_rfl
theorem a4 : isAgg Try.prog 4 = some false := by kernel_rfl
theorem k4 : zok Try.prog 4 = true := by kernel_rfl
theorem z4 : zeroV Try.prog 4 = some (.s (.bool false)) := by kernel_rfl
theorem u5 : Try.prog.underlying 5 = some (.int .u8) := by kernel_rfl
theorem h5 : Try.prog.stoodInHeld 5 = false := by kernel_rfl
theorem c5 : Try.prog.cellsOf 5 = 1 := by kernel_rfl
theorem b5 : Try.prog.bytesOf 5 = 1 := by kernel_rfl
theorem a5 : isAgg Try.prog 5 = some false := by kernel_rfl
theorem k5 : zok Try.prog 5 = true := by kernel_rfl
theorem z5 : zeroV Try.prog 5 = some (.s (.int .u8 0)) := by kernel_rfl
theorem u6 : Try.prog.underlying 6 = some (.int .u8) := by kernel_rfl
theorem h6 : Try.prog.stoodInHeld 6 = false := by kernel_rfl
theorem c6 : Try.prog.cellsOf 6 = 1 := by kernel_rfl
theorem b6 : Try.prog.bytesOf 6 = 1 := by kernel_rfl
theorem a6 : isAgg Try.prog 6 = some false := by kernel_rfl
theorem k6 : zok Try.prog 6 = true := by kernel_rfl
theorem z6 : zeroV Try.prog 6 = some (.s (.int .u8 0)) := by kernel_rfl
theorem u7 : Try.prog.underlying 7 = some (.struct #[⟨ "x", 2, 0, false, "", "runtime", 0⟩, ⟨ "y", 3, 1, false, "", "runtime", 8⟩, ⟨ "signed", 4, 2, false, "", "runtime", 16⟩, ⟨ "code", 6, 3, false, "", "runtime", 17⟩]) := by kernel_rfl
theorem h7 : Try.prog.stoodInHeld 7 = false := by kernel_rfl
theorem c7 : Try.prog.cellsOf 7 = 4 := by kernel_rfl
theorem b7 : Try.prog.bytesOf 7 = 24 := by kernel_rfl
theorem a7 : isAgg Try.prog 7 = some true := by kernel_rfl
theorem k7 : zok Try.prog 7 = true := by kernel_rfl
theorem z7 : zeroV Try.prog 7 = some (.agg [(.s (.int .i64 0)), (.s (.int .i64 0)), (.s (.bool false)), (.s (.int .u8 0))]) := by kernel_rfl
theorem u8 : Try.prog.underlying 8 = some (.struct #[⟨ "x", 2, 0, false, "", "runtime", 0⟩, ⟨ "y", 3, 1, false, "", "runtime", 8⟩, ⟨ "signed", 4, 2, false, "", "runtime", 16⟩, ⟨ "code", 6, 3, false, "", "runtime", 17⟩]) := by kernel_rfl
theorem h8 : Try.prog.stoodInHeld 8 = false := by kernel_rfl
theorem c8 : Try.prog.cellsOf 8 = 4 := by kernel_rfl
theorem b8 : Try.prog.bytesOf 8 = 24 := by kernel_rfl
theorem a8 : isAgg Try.prog 8 = some true := by kernel_rfl
theorem k8 : zok Try.prog 8 = true := by kernel_rfl
theorem z8 : zeroV Try.prog 8 = some (.agg [(.s (.int .i64 0)), (.s (.int .i64 0)), (.s (.bool false)), (.s (.int .u8 0))]) := by kernel_rfl
theorem u9 : Try.prog.underlying 9 = some .string := by kernel_rfl
theorem h9 : Try.prog.stoodInHeld 9 = false := by kernel_rfl
theorem c9 : Try.prog.cellsOf 9 = 1 := by kernel_rfl
theorem b9 : Try.prog.bytesOf 9 = 16 := by kernel_rfl
theorem a9 : isAgg Try.prog 9 = some false := by kernel_rfl
theorem k9 : zok Try.prog 9 = true := by kernel_rfl
theorem z9 : zeroV Try.prog 9 = some (.s (.string ⟨#[]⟩)) := by kernel_rfl
theorem u10 : Try.prog.underlying 10 = some .string := by kernel_rfl
theorem h10 : Try.prog.stoodInHeld 10 = false := by kernel_rfl
theorem c10 : Try.prog.cellsOf 10 = 1 := by kernel_rfl
theorem b10 : Try.prog.bytesOf 10 = 16 := by kernel_rfl
theorem a10 : isAgg Try.prog 10 = some false := by kernel_rfl
theorem k10 : zok Try.prog 10 = true := by kernel_rfl
theorem z10 : zeroV Try.prog 10 = some (.s (.string ⟨#[]⟩)) := by kernel_rfl
theorem u11 : Try.prog.underlying 11 = some .string := by kernel_rfl
theorem h11 : Try.prog.stoodInHeld 11 = false := by kernel_rfl
theorem c11 : Try.prog.cellsOf 11 = 1 := by kernel_rfl
theorem b11 : Try.prog.bytesOf 11 = 16 := by kernel_rfl
theorem a11 : isAgg Try.prog 11 = some false := by kernel_rfl
theorem k11 : zok Try.prog 11 = true := by kernel_rfl
theorem z11 : zeroV Try.prog 11 = some (.s (.string ⟨#[]⟩)) := by kernel_rfl
theorem u12 : Try.prog.underlying 12 = some (.int .u64) := by kernel_rfl
theorem h12 : Try.prog.stoodInHeld 12 = false := by kernel_rfl
theorem c12 : Try.prog.cellsOf 12 = 1 := by kernel_rfl
theorem b12 : Try.prog.bytesOf 12 = 8 := by kernel_rfl
theorem a12 : isAgg Try.prog 12 = some false := by kernel_rfl
theorem k12 : zok Try.prog 12 = true := by kernel_rfl
theorem z12 : zeroV Try.prog 12 = some (.s (.int .u64 0)) := by kernel_rfl
theorem u13 : Try.prog.underlying 13 = some (.struct #[⟨ "msg", 9, 0, false, "", "runtime", 0⟩, ⟨ "addr", 12, 1, false, "", "runtime", 16⟩]) := by kernel_rfl
theorem h13 : Try.prog.stoodInHeld 13 = true := by kernel_rfl
theorem c13 : Try.prog.cellsOf 13 = 2 := by kernel_rfl
theorem b13 : Try.prog.bytesOf 13 = 24 := by kernel_rfl
theorem a13 : isAgg Try.prog 13 = some true := by kernel_rfl
theorem k13 : zok Try.prog 13 = true := by kernel_rfl
theorem z13 : zeroV Try.prog 13 = some (.agg [(.s (.string ⟨#[]⟩)), (.s (.int .u64 0))]) := by kernel_rfl
theorem u14 : Try.prog.underlying 14 = some (.struct #[⟨ "msg", 9, 0, false, "", "runtime", 0⟩, ⟨ "addr", 12, 1, false, "", "runtime", 16⟩]) := by kernel_rfl
theorem h14 : Try.prog.stoodInHeld 14 = true := by kernel_rfl
theorem c14 : Try.prog.cellsOf 14 = 2 := by kernel_rfl
theorem b14 : Try.prog.bytesOf 14 = 24 := by kernel_rfl
theorem a14 : isAgg Try.prog 14 = some true := by kernel_rfl
theorem k14 : zok Try.prog 14 = true := by kernel_rfl
theorem z14 : zeroV Try.prog 14 = some (.agg [(.s (.string ⟨#[]⟩)), (.s (.int .u64 0))]) := by kernel_rfl
theorem u15 : Try.prog.underlying 15 = some (.pointer 58) := by kernel_rfl
theorem h15 : Try.prog.stoodInHeld 15 = false := by kernel_rfl
theorem c15 : Try.prog.cellsOf 15 = 1 := by kernel_rfl
theorem b15 : Try.prog.bytesOf 15 = 8 := by kernel_rfl
theorem a15 : isAgg Try.prog 15 = some false := by kernel_rfl
theorem k15 : zok Try.prog 15 = true := by kernel_rfl
theorem z15 : zeroV Try.prog 15 = some (.s (.pointer none)) := by kernel_rfl
theorem u16 : Try.prog.underlying 16 = some (.pointer 61) := by kernel_rfl
theorem h16 : Try.prog.stoodInHeld 16 = false := by kernel_rfl
theorem c16 : Try.prog.cellsOf 16 = 1 := by kernel_rfl
theorem b16 : Try.prog.bytesOf 16 = 8 := by kernel_rfl
theorem a16 : isAgg Try.prog 16 = some false := by kernel_rfl
theorem k16 : zok Try.prog 16 = true := by kernel_rfl
theorem z16 : zeroV Try.prog 16 = some (.s (.pointer none)) := by kernel_rfl
theorem u17 : Try.prog.underlying 17 = some (.pointer 71) := by kernel_rfl
theorem h17 : Try.prog.stoodInHeld 17 = false := by kernel_rfl
theorem c17 : Try.prog.cellsOf 17 = 1 := by kernel_rfl
theorem b17 : Try.prog.bytesOf 17 = 8 := by kernel_rfl
theorem a17 : isAgg Try.prog 17 = some false := by kernel_rfl
theorem k17 : zok Try.prog 17 = true := by kernel_rfl
theorem z17 : zeroV Try.prog 17 = some (.s (.pointer none)) := by kernel_rfl
theorem u18 : Try.prog.underlying 18 = some (.struct #[⟨ "typ", 17, 0, false, "", "internal/runtime/maps", 0⟩]) := by kernel_rfl
theorem h18 : Try.prog.stoodInHeld 18 = true := by kernel_rfl
theorem c18 : Try.prog.cellsOf 18 = 1 := by kernel_rfl
theorem b18 : Try.prog.bytesOf 18 = 8 := by kernel_rfl
theorem a18 : isAgg Try.prog 18 = some true := by kernel_rfl
theorem k18 : zok Try.prog 18 = true := by kernel_rfl
theorem z18 : zeroV Try.prog 18 = some (.agg [(.s (.pointer none))]) := by kernel_rfl
theorem u19 : Try.prog.underlying 19 = some (.struct #[⟨ "typ", 17, 0, false, "", "internal/runtime/maps", 0⟩]) := by kernel_rfl
theorem h19 : Try.prog.stoodInHeld 19 = true := by kernel_rfl
theorem c19 : Try.prog.cellsOf 19 = 1 := by kernel_rfl
theorem b19 : Try.prog.bytesOf 19 = 8 := by kernel_rfl
theorem a19 : isAgg Try.prog 19 = some true := by kernel_rfl
theorem k19 : zok Try.prog 19 = true := by kernel_rfl
theorem z19 : zeroV Try.prog 19 = some (.agg [(.s (.pointer none))]) := by kernel_rfl
theorem h20 : Try.prog.stoodInHeld 20 = false := by kernel_rfl
theorem c20 : Try.prog.cellsOf 20 = 1 := by kernel_rfl
theorem b20 : Try.prog.bytesOf 20 = 16 := by kernel_rfl
theorem a20 : isAgg Try.prog 20 = some false := by kernel_rfl
theorem k20 : zok Try.prog 20 = true := by kernel_rfl
theorem z20 : zeroV Try.prog 20 = some (.s .nilIface) := by kernel_rfl
theorem u21 : Try.prog.underlying 21 = some (.int .i32) := by kernel_rfl
theorem h21 : Try.prog.stoodInHeld 21 = false := by kernel_rfl
theorem c21 : Try.prog.cellsOf 21 = 1 := by kernel_rfl
theorem b21 : Try.prog.bytesOf 21 = 4 := by kernel_rfl
theorem a21 : isAgg Try.prog 21 = some false := by kernel_rfl
theorem k21 : zok Try.prog 21 = true := by kernel_rfl
theorem z21 : zeroV Try.prog 21 = some (.s (.int .i32 0)) := by kernel_rfl
theorem u22 : Try.prog.underlying 22 = some (.array 6 5) := by kernel_rfl
theorem h22 : Try.prog.stoodInHeld 22 = false := by kernel_rfl
theorem c22 : Try.prog.cellsOf 22 = 6 := by kernel_rfl
theorem b22 : Try.prog.bytesOf 22 = 6 := by kernel_rfl
theorem a22 : isAgg Try.prog 22 = some true := by kernel_rfl
theorem k22 : zok Try.prog 22 = true := by kernel_rfl
theorem z22 : zeroV Try.prog 22 = some (.agg [(.s (.int .u8 0)), (.s (.int .u8 0)), (.s (.int .u8 0)), (.s (.int .u8 0)), (.s (.int .u8 0)), (.s (.int .u8 0))]) := by kernel_rfl
theorem u23 : Try.prog.underlying 23 = some (.array 6 5) := by kernel_rfl
theorem h23 : Try.prog.stoodInHeld 23 = false := by kernel_rfl
theorem c23 : Try.prog.cellsOf 23 = 6 := by kernel_rfl
theorem b23 : Try.prog.bytesOf 23 = 6 := by kernel_rfl
theorem a23 : isAgg Try.prog 23 = some true := by kernel_rfl
theorem k23 : zok Try.prog 23 = true := by kernel_rfl
theorem z23 : zeroV Try.prog 23 = some (.agg [(.s (.int .u8 0)), (.s (.int .u8 0)), (.s (.int .u8 0)), (.s (.int .u8 0)), (.s (.int .u8 0)), (.s (.int .u8 0))]) := by kernel_rfl
theorem u24 : Try.prog.underlying 24 = some (.int .i64) := by kernel_rfl
theorem h24 : Try.prog.stoodInHeld 24 = false := by kernel_rfl
theorem c24 : Try.prog.cellsOf 24 = 1 := by kernel_rfl
theorem b24 : Try.prog.bytesOf 24 = 8 := by kernel_rfl
theorem a24 : isAgg Try.prog 24 = some false := by kernel_rfl
theorem k24 : zok Try.prog 24 = true := by kernel_rfl
theorem z24 : zeroV Try.prog 24 = some (.s (.int .i64 0)) := by kernel_rfl
theorem u25 : Try.prog.underlying 25 = some (.func #[23] #[24] false) := by kernel_rfl
theorem u26 : Try.prog.underlying 26 = some (.func #[23] #[4] false) := by kernel_rfl
theorem u27 : Try.prog.underlying 27 = some (.func #[] #[4] false) := by kernel_rfl
theorem u28 : Try.prog.underlying 28 = some (.int .i64) := by kernel_rfl
theorem h28 : Try.prog.stoodInHeld 28 = false := by kernel_rfl
theorem c28 : Try.prog.cellsOf 28 = 1 := by kernel_rfl
theorem b28 : Try.prog.bytesOf 28 = 8 := by kernel_rfl
theorem a28 : isAgg Try.prog 28 = some false := by kernel_rfl
theorem k28 : zok Try.prog 28 = true := by kernel_rfl
theorem z28 : zeroV Try.prog 28 = some (.s (.int .i64 0)) := by kernel_rfl
theorem u29 : Try.prog.underlying 29 = some (.tuple #[23, 28]) := by kernel_rfl
theorem u30 : Try.prog.underlying 30 = some (.func #[9] #[23, 28] false) := by kernel_rfl
theorem u31 : Try.prog.underlying 31 = some (.tuple #[23, 3]) := by kernel_rfl
theorem u32 : Try.prog.underlying 32 = some (.func #[9] #[23, 3] false) := by kernel_rfl
theorem u33 : Try.prog.underlying 33 = some (.func #[23] #[9] false) := by kernel_rfl
theorem u34 : Try.prog.underlying 34 = some (.func #[23, 9] #[4] false) := by kernel_rfl
theorem u35 : Try.prog.underlying 35 = some (.func #[3] #[23, 28] false) := by kernel_rfl
theorem u36 : Try.prog.underlying 36 = some (.func #[3] #[23, 3] false) := by kernel_rfl
theorem u37 : Try.prog.underlying 37 = some (.tuple #[3, 4]) := by kernel_rfl
theorem u38 : Try.prog.underlying 38 = some (.func #[23] #[3, 4] false) := by kernel_rfl
theorem u39 : Try.prog.underlying 39 = some (.func #[3, 23] #[4] false) := by kernel_rfl
theorem u40 : Try.prog.underlying 40 = some (.func #[41] #[23] false) := by kernel_rfl
theorem u41 : Try.prog.underlying 41 = some (.int .u64) := by kernel_rfl
theorem h41 : Try.prog.stoodInHeld 41 = false := by kernel_rfl
theorem c41 : Try.prog.cellsOf 41 = 1 := by kernel_rfl
theorem b41 : Try.prog.bytesOf 41 = 8 := by kernel_rfl
theorem a41 : isAgg Try.prog 41 = some false := by kernel_rfl
theorem k41 : zok Try.prog 41 = true := by kernel_rfl
theorem z41 : zeroV Try.prog 41 = some (.s (.int .u64 0)) := by kernel_rfl
theorem u42 : Try.prog.underlying 42 = some (.func #[23] #[41] false) := by kernel_rfl
theorem u43 : Try.prog.underlying 43 = some (.func #[23, 9, 3] #[4] false) := by kernel_rfl
theorem u44 : Try.prog.underlying 44 = some (.func #[23, 23] #[4] false) := by kernel_rfl
theorem u45 : Try.prog.underlying 45 = some (.func #[3, 3, 23, 23, 23] #[4] false) := by kernel_rfl
theorem u46 : Try.prog.underlying 46 = some (.func #[23, 23, 41] #[4] false) := by kernel_rfl
theorem u47 : Try.prog.underlying 47 = some (.array 5 5) := by kernel_rfl
theorem h47 : Try.prog.stoodInHeld 47 = false := by kernel_rfl
theorem c47 : Try.prog.cellsOf 47 = 5 := by kernel_rfl
theorem b47 : Try.prog.bytesOf 47 = 5 := by kernel_rfl
theorem a47 : isAgg Try.prog 47 = some true := by kernel_rfl
theorem k47 : zok Try.prog 47 = true := by kernel_rfl
theorem z47 : zeroV Try.prog 47 = some (.agg [(.s (.int .u8 0)), (.s (.int .u8 0)), (.s (.int .u8 0)), (.s (.int .u8 0)), (.s (.int .u8 0))]) := by kernel_rfl
theorem u48 : Try.prog.underlying 48 = some (.slice 5) := by kernel_rfl
theorem h48 : Try.prog.stoodInHeld 48 = false := by kernel_rfl
theorem c48 : Try.prog.cellsOf 48 = 1 := by kernel_rfl
theorem b48 : Try.prog.bytesOf 48 = 24 := by kernel_rfl
theorem a48 : isAgg Try.prog 48 = some false := by kernel_rfl
theorem k48 : zok Try.prog 48 = true := by kernel_rfl
theorem z48 : zeroV Try.prog 48 = some (.s (.slice none 0 0)) := by kernel_rfl
theorem u49 : Try.prog.underlying 49 = some (.array 3 5) := by kernel_rfl
theorem h49 : Try.prog.stoodInHeld 49 = false := by kernel_rfl
theorem c49 : Try.prog.cellsOf 49 = 3 := by kernel_rfl
theorem b49 : Try.prog.bytesOf 49 = 3 := by kernel_rfl
theorem a49 : isAgg Try.prog 49 = some true := by kernel_rfl
theorem k49 : zok Try.prog 49 = true := by kernel_rfl
theorem z49 : zeroV Try.prog 49 = some (.agg [(.s (.int .u8 0)), (.s (.int .u8 0)), (.s (.int .u8 0))]) := by kernel_rfl
theorem u50 : Try.prog.underlying 50 = some (.func #[23, 5] #[4] false) := by kernel_rfl
theorem u51 : Try.prog.underlying 51 = some (.func #[5] #[3] false) := by kernel_rfl
theorem u52 : Try.prog.underlying 52 = some (.int .u64) := by kernel_rfl
theorem h52 : Try.prog.stoodInHeld 52 = false := by kernel_rfl
theorem c52 : Try.prog.cellsOf 52 = 1 := by kernel_rfl
theorem b52 : Try.prog.bytesOf 52 = 8 := by kernel_rfl
theorem a52 : isAgg Try.prog 52 = some false := by kernel_rfl
theorem k52 : zok Try.prog 52 = true := by kernel_rfl
theorem z52 : zeroV Try.prog 52 = some (.s (.int .u64 0)) := by kernel_rfl
theorem u53 : Try.prog.underlying 53 = some (.func #[48, 48] #[3] false) := by kernel_rfl
theorem u54 : Try.prog.underlying 54 = some (.func #[5, 5] #[3] false) := by kernel_rfl
theorem u55 : Try.prog.underlying 55 = some (.func #[5] #[4] false) := by kernel_rfl
theorem u56 : Try.prog.underlying 56 = some (.func #[] #[9] false) := by kernel_rfl
theorem u57 : Try.prog.underlying 57 = some (.struct #[⟨ "_interface", 17, 0, false, "", "runtime", 0⟩, ⟨ "concrete", 17, 1, false, "", "runtime", 8⟩, ⟨ "asserted", 17, 2, false, "", "runtime", 16⟩, ⟨ "missingMethod", 9, 3, false, "", "runtime", 24⟩]) := by kernel_rfl
theorem h57 : Try.prog.stoodInHeld 57 = true := by kernel_rfl
theorem c57 : Try.prog.cellsOf 57 = 4 := by kernel_rfl
theorem b57 : Try.prog.bytesOf 57 = 40 := by kernel_rfl
theorem a57 : isAgg Try.prog 57 = some true := by kernel_rfl
theorem k57 : zok Try.prog 57 = true := by kernel_rfl
theorem z57 : zeroV Try.prog 57 = some (.agg [(.s (.pointer none)), (.s (.pointer none)), (.s (.pointer none)), (.s (.string ⟨#[]⟩))]) := by kernel_rfl
theorem u58 : Try.prog.underlying 58 = some (.struct #[⟨ "_interface", 17, 0, false, "", "runtime", 0⟩, ⟨ "concrete", 17, 1, false, "", "runtime", 8⟩, ⟨ "asserted", 17, 2, false, "", "runtime", 16⟩, ⟨ "missingMethod", 9, 3, false, "", "runtime", 24⟩]) := by kernel_rfl
theorem h58 : Try.prog.stoodInHeld 58 = true := by kernel_rfl
theorem c58 : Try.prog.cellsOf 58 = 4 := by kernel_rfl
theorem b58 : Try.prog.bytesOf 58 = 40 := by kernel_rfl
theorem a58 : isAgg Try.prog 58 = some true := by kernel_rfl
theorem k58 : zok Try.prog 58 = true := by kernel_rfl
theorem z58 : zeroV Try.prog 58 = some (.agg [(.s (.pointer none)), (.s (.pointer none)), (.s (.pointer none)), (.s (.string ⟨#[]⟩))]) := by kernel_rfl
theorem u59 : Try.prog.underlying 59 = some (.array 0 16) := by kernel_rfl
theorem h59 : Try.prog.stoodInHeld 59 = false := by kernel_rfl
theorem c59 : Try.prog.cellsOf 59 = 0 := by kernel_rfl
theorem b59 : Try.prog.bytesOf 59 = 0 := by kernel_rfl
theorem a59 : isAgg Try.prog 59 = some true := by kernel_rfl
theorem k59 : zok Try.prog 59 = true := by kernel_rfl
theorem z59 : zeroV Try.prog 59 = some (.agg []) := by kernel_rfl
theorem u60 : Try.prog.underlying 60 = some (.struct #[⟨ "_", 59, 0, false, "", "runtime", 0⟩]) := by kernel_rfl
theorem h60 : Try.prog.stoodInHeld 60 = true := by kernel_rfl
theorem c60 : Try.prog.cellsOf 60 = 0 := by kernel_rfl
theorem b60 : Try.prog.bytesOf 60 = 0 := by kernel_rfl
theorem a60 : isAgg Try.prog 60 = some true := by kernel_rfl
theorem k60 : zok Try.prog 60 = true := by kernel_rfl
theorem z60 : zeroV Try.prog 60 = some (.agg []) := by kernel_rfl
theorem u61 : Try.prog.underlying 61 = some (.struct #[⟨ "_", 59, 0, false, "", "runtime", 0⟩]) := by kernel_rfl
theorem h61 : Try.prog.stoodInHeld 61 = true := by kernel_rfl
theorem c61 : Try.prog.cellsOf 61 = 0 := by kernel_rfl
theorem b61 : Try.prog.bytesOf 61 = 0 := by kernel_rfl
theorem a61 : isAgg Try.prog 61 = some true := by kernel_rfl
theorem k61 : zok Try.prog 61 = true := by kernel_rfl
theorem z61 : zeroV Try.prog 61 = some (.agg []) := by kernel_rfl
theorem u62 : Try.prog.underlying 62 = some (.func #[] #[3] false) := by kernel_rfl
theorem u63 : Try.prog.underlying 63 = some (.int .u32) := by kernel_rfl
theorem h63 : Try.prog.stoodInHeld 63 = false := by kernel_rfl
theorem c63 : Try.prog.cellsOf 63 = 1 := by kernel_rfl
theorem b63 : Try.prog.bytesOf 63 = 4 := by kernel_rfl
theorem a63 : isAgg Try.prog 63 = some false := by kernel_rfl
theorem k63 : zok Try.prog 63 = true := by kernel_rfl
theorem z63 : zeroV Try.prog 63 = some (.s (.int .u32 0)) := by kernel_rfl
theorem u64 : Try.prog.underlying 64 = some (.int .u8) := by kernel_rfl
theorem h64 : Try.prog.stoodInHeld 64 = false := by kernel_rfl
theorem c64 : Try.prog.cellsOf 64 = 1 := by kernel_rfl
theorem b64 : Try.prog.bytesOf 64 = 1 := by kernel_rfl
theorem a64 : isAgg Try.prog 64 = some false := by kernel_rfl
theorem k64 : zok Try.prog 64 = true := by kernel_rfl
theorem z64 : zeroV Try.prog 64 = some (.s (.int .u8 0)) := by kernel_rfl
theorem u65 : Try.prog.underlying 65 = some (.int .u8) := by kernel_rfl
theorem h65 : Try.prog.stoodInHeld 65 = false := by kernel_rfl
theorem c65 : Try.prog.cellsOf 65 = 1 := by kernel_rfl
theorem b65 : Try.prog.bytesOf 65 = 1 := by kernel_rfl
theorem a65 : isAgg Try.prog 65 = some false := by kernel_rfl
theorem k65 : zok Try.prog 65 = true := by kernel_rfl
theorem z65 : zeroV Try.prog 65 = some (.s (.int .u8 0)) := by kernel_rfl
theorem u66 : Try.prog.underlying 66 = some (.func #[72, 72] #[4] false) := by kernel_rfl
theorem u67 : Try.prog.underlying 67 = some (.pointer 5) := by kernel_rfl
theorem h67 : Try.prog.stoodInHeld 67 = false := by kernel_rfl
theorem c67 : Try.prog.cellsOf 67 = 1 := by kernel_rfl
theorem b67 : Try.prog.bytesOf 67 = 8 := by kernel_rfl
theorem a67 : isAgg Try.prog 67 = some false := by kernel_rfl
theorem k67 : zok Try.prog 67 = true := by kernel_rfl
theorem z67 : zeroV Try.prog 67 = some (.s (.pointer none)) := by kernel_rfl
theorem u68 : Try.prog.underlying 68 = some (.int .i32) := by kernel_rfl
theorem h68 : Try.prog.stoodInHeld 68 = false := by kernel_rfl
theorem c68 : Try.prog.cellsOf 68 = 1 := by kernel_rfl
theorem b68 : Try.prog.bytesOf 68 = 4 := by kernel_rfl
theorem a68 : isAgg Try.prog 68 = some false := by kernel_rfl
theorem k68 : zok Try.prog 68 = true := by kernel_rfl
theorem z68 : zeroV Try.prog 68 = some (.s (.int .i32 0)) := by kernel_rfl
theorem u69 : Try.prog.underlying 69 = some (.int .i32) := by kernel_rfl
theorem h69 : Try.prog.stoodInHeld 69 = false := by kernel_rfl
theorem c69 : Try.prog.cellsOf 69 = 1 := by kernel_rfl
theorem b69 : Try.prog.bytesOf 69 = 4 := by kernel_rfl
theorem a69 : isAgg Try.prog 69 = some false := by kernel_rfl
theorem k69 : zok Try.prog 69 = true := by kernel_rfl
theorem z69 : zeroV Try.prog 69 = some (.s (.int .i32 0)) := by kernel_rfl
theorem u70 : Try.prog.underlying 70 = some (.struct #[⟨ "Size_", 12, 0, false, "", "", 0⟩, ⟨ "PtrBytes", 12, 1, false, "", "", 8⟩, ⟨ "Hash", 63, 2, false, "", "", 16⟩, ⟨ "TFlag", 64, 3, false, "", "", 20⟩, ⟨ "Align_", 5, 4, false, "", "", 21⟩, ⟨ "FieldAlign_", 5, 5, false, "", "", 22⟩, ⟨ "Kind_", 65, 6, false, "", "", 23⟩, ⟨ "Equal", 66, 7, false, "", "", 24⟩, ⟨ "GCData", 67, 8, false, "", "", 32⟩, ⟨ "Str", 68, 9, false, "", "", 40⟩, ⟨ "PtrToThis", 69, 10, false, "", "", 44⟩]) := by kernel_rfl
theorem h70 : Try.prog.stoodInHeld 70 = true := by kernel_rfl
theorem c70 : Try.prog.cellsOf 70 = 11 := by kernel_rfl
theorem b70 : Try.prog.bytesOf 70 = 48 := by kernel_rfl
theorem a70 : isAgg Try.prog 70 = some true := by kernel_rfl
theorem k70 : zok Try.prog 70 = true := by kernel_rfl
theorem z70 : zeroV Try.prog 70 = some (.agg [(.s (.int .u64 0)), (.s (.int .u64 0)), (.s (.int .u32 0)), (.s (.int .u8 0)), (.s (.int .u8 0)), (.s (.int .u8 0)), (.s (.int .u8 0)), (.s .nilFunc), (.s (.pointer none)), (.s (.int .i32 0)), (.s (.int .i32 0))]) := by kernel_rfl
theorem u71 : Try.prog.underlying 71 = some (.struct #[⟨ "Size_", 12, 0, false, "", "", 0⟩, ⟨ "PtrBytes", 12, 1, false, "", "", 8⟩, ⟨ "Hash", 63, 2, false, "", "", 16⟩, ⟨ "TFlag", 64, 3, false, "", "", 20⟩, ⟨ "Align_", 5, 4, false, "", "", 21⟩, ⟨ "FieldAlign_", 5, 5, false, "", "", 22⟩, ⟨ "Kind_", 65, 6, false, "", "", 23⟩, ⟨ "Equal", 66, 7, false, "", "", 24⟩, ⟨ "GCData", 67, 8, false, "", "", 32⟩, ⟨ "Str", 68, 9, false, "", "", 40⟩, ⟨ "PtrToThis", 69, 10, false, "", "", 44⟩]) := by kernel_rfl
theorem h71 : Try.prog.stoodInHeld 71 = true := by kernel_rfl
theorem c71 : Try.prog.cellsOf 71 = 11 := by kernel_rfl
theorem b71 : Try.prog.bytesOf 71 = 48 := by kernel_rfl
theorem a71 : isAgg Try.prog 71 = some true := by kernel_rfl
theorem k71 : zok Try.prog 71 = true := by kernel_rfl
theorem z71 : zeroV Try.prog 71 = some (.agg [(.s (.int .u64 0)), (.s (.int .u64 0)), (.s (.int .u32 0)), (.s (.int .u8 0)), (.s (.int .u8 0)), (.s (.int .u8 0)), (.s (.int .u8 0)), (.s .nilFunc), (.s (.pointer none)), (.s (.int .i32 0)), (.s (.int .i32 0))]) := by kernel_rfl
theorem h72 : Try.prog.stoodInHeld 72 = false := by kernel_rfl
theorem c72 : Try.prog.cellsOf 72 = 1 := by kernel_rfl
theorem b72 : Try.prog.bytesOf 72 = 8 := by kernel_rfl
theorem a72 : isAgg Try.prog 72 = some false := by kernel_rfl
theorem k72 : zok Try.prog 72 = true := by kernel_rfl
theorem z72 : zeroV Try.prog 72 = some (.s (.pointer none)) := by kernel_rfl
theorem l7 : leafK Try.prog 20 7 = some [.i, .i, .b, .i] := by simp [leafK, leafKs, tiles, List.replicate, u7, c7, h7, u2, c2, h2, u3, c3, h3, u4, c4, h4, u6, c6, h6]
theorem l8 : leafK Try.prog 20 8 = some [.i, .i, .b, .i] := by simp [leafK, leafKs, tiles, List.replicate, u8, c8, h8, u2, c2, h2, u3, c3, h3, u4, c4, h4, u6, c6, h6]
theorem l22 : leafK Try.prog 20 22 = some [.i, .i, .i, .i, .i, .i] := by simp [leafK, leafKs, tiles, List.replicate, u22, c22, h22, u5, c5, h5]
theorem l23 : leafK Try.prog 20 23 = some [.i, .i, .i, .i, .i, .i] := by simp [leafK, leafKs, tiles, List.replicate, u23, c23, h23, u5, c5, h5]
theorem l47 : leafK Try.prog 20 47 = some [.i, .i, .i, .i, .i] := by simp [leafK, leafKs, tiles, List.replicate, u47, c47, h47, u5, c5, h5]
theorem l49 : leafK Try.prog 20 49 = some [.i, .i, .i] := by simp [leafK, leafKs, tiles, List.replicate, u49, c49, h49, u5, c5, h5]

end Go.Ai
