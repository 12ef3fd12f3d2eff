/- Contracts of functions of the loaded program: called with data in the ranges that each names, it returns this value and writes to no old memory. -/
import Derived.Test.YtgppcipkllkgbaaFdbF
import Derived.Test.YtgppcipkllkgbaaAiZ
set_option linter.unusedVariables false
namespace Go.Ai
open Go.Proofs
abbrev vI (n : Int) : V := .s (.int .i64 n)
abbrev vB (b : Bool) : V := .s (.bool b)
abbrev M6 (a b c d e f : Int) : V := .agg [.s (.int .u8 a), .s (.int .u8 b), .s (.int .u8 c), .s (.int .u8 d), .s (.int .u8 e), .s (.int .u8 f)]
abbrev nilB : V := .s (.pointer none)
abbrev hN : List Blk := [.box [vI 0, vI 0, vI 0, .s (.map none)] false]

end Go.Ai
