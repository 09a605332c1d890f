/- Runs of Apply, Rows, Same. -/
import Derived.Test.YtphdffebnjekdaaGreatW22
import Derived.Test.YtphdffebnjekdaaGreatSz
namespace Go.Xe
open Go Go.Proofs
set_option maxRecDepth 1000000
def cmdA (n0 n1 n2 n4 n5 n6 n7 n8 n11 n12 n13 n14 n15 n17 n18 n21 n22 n23 n24 n26 n28 n29 n30 n31 n32 : Int) (s3 s9 s10 s16 s19 s20 s25 s27 : ByteArray) : AV :=
  .agg [.int .u8 n0, .int .u64 n1, .int .u64 n2, .lit (.string s3), .int .u8 n4, .int .i64 n5, .int .i64 n6, .int .i64 n7, .int .i64 n8, .lit (.string s9), .lit (.string s10), .int .u8 n11, .int .i64 n12, .int .i64 n13, .int .i64 n14, .int .i64 n15, .lit (.string s16), .int .i64 n17, .int .i64 n18,
    .lit (.string s19), .lit (.string s20), .int .i64 n21, .int .i64 n22, .int .i64 n23, .int .i64 n24, .lit (.string s25), .int .i64 n26, .lit (.string s27), .int .i64 n28, .int .i64 n29, .int .i64 n30, .int .u8 n31, .int .i64 n32]
def rowsA : AV := .agg [.int .i64 0, .nils, .nils, .nils, .nils, .nils]
noncomputable def isA (u : AV) (v : AV) (_ : Heap) : Bool := beqA v u
theorem apply_run (n1 n2 n4 n5 n6 n7 n8 n11 n12 n13 n14 n15 n17 n18 n21 n22 n23 n24 n26 n28 n29 n30 n31 n32 : Int) (s3 s9 s10 s16 s19 s20 s25 s27 : ByteArray) :
    (List.range 256).all (fun i => lev Tryz.prog tb 5 false (.func (.mk .d0 .d0 .dc) [] []) [.nilp, cmdA (Int.ofNat i) n1 n2 n4 n5 n6 n7 n8 n11 n12 n13 n14 n15 n17 n18 n21 n22 n23 n24 n26 n28 n29 n30 n31 n32 s3 s9 s10 s16 s19 s20 s25 s27] heap0 (isA (.int .i64 1))) = true := by kernel_rfl
theorem rows_run : lev Tryz.prog tb 5 false (.func (.mk .d0 .d0 .dd) [] []) [.nilp] heap0 (isA rowsA) = true := by kernel_rfl
theorem same_run : lev Tryz.prog tb 9 false (.func (.mk .d0 .d1 .d1) [] []) [rowsA, rowsA] heap0 (isA (.bool true)) = true := by kernel_rfl
end Go.Xe
