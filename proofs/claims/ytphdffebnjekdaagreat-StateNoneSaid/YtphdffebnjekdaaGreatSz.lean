/- size() of package reevelaw22 returns some int. -/
import Derived.Test.YtphdffebnjekdaaGreatProg
import Derived.LoopTactic
import Derived.KernelRfl
import Derived.Outline
import Derived.OwnWalk
import Derived.Lib.Hide
import Derived.Below
import Derived.Laws.Externs
namespace Go.Proofs
open Go.RowKit
def cmd (n0 n1 n2 n4 n5 n6 n7 n8 n11 n12 n13 n14 n15 n17 n18 n21 n22 n23 n24 n26 n28 n29 n30 n31 n32 : Int) (s3 s9 s10 s16 s19 s20 s25 s27 : ByteArray) : Value :=
  .agg #[.int .u8 n0, .int .u64 n1, .int .u64 n2, .string s3, .int .u8 n4, .int .i64 n5, .int .i64 n6, .int .i64 n7, .int .i64 n8, .string s9, .string s10, .int .u8 n11, .int .i64 n12, .int .i64 n13, .int .i64 n14, .int .i64 n15, .string s16, .int .i64 n17, .int .i64 n18,
    .string s19, .string s20, .int .i64 n21, .int .i64 n22, .int .i64 n23, .int .i64 n24, .string s25, .int .i64 n26, .string s27, .int .i64 n28, .int .i64 n29, .int .i64 n30, .int .u8 n31, .int .i64 n32]
set_option maxHeartbeats 1000000 in
set_option maxRecDepth 100000 in
theorem size_calls {n0 n1 n2 n4 n5 n6 n7 n8 n11 n12 n13 n14 n15 n17 n18 n21 n22 n23 n24 n26 n28 n29 n30 n31 n32 : Int} {s3 s9 s10 s16 s19 s20 s25 s27 : ByteArray} :
    ∃ m, ∀ w, Calls Tryz.prog 16 #[cmd n0 n1 n2 n4 n5 n6 n7 n8 n11 n12 n13 n14 n15 n17 n18 n21 n22 n23 n24 n26 n28 n29 n30 n31 n32 s3 s9 s10 s16 s19 s20 s25 s27] w fun e w' => e = .returned (.int .i64 m) ∧ Below w.heap.size w w' := by
  refine ⟨?m, fun w => ?goal⟩
  case goal =>
  unfold cmd
  go_enter Tryz.func16, Tryz.ntmps16
  go_wp2_with fail
  refine bodyPost_ret (v := .int .i64 _) (by simp [results, go_sem]; rfl) rfl ⟨rfl, (Below.refl _ _).alloc (Nat.le_refl _) _⟩
end Go.Proofs
