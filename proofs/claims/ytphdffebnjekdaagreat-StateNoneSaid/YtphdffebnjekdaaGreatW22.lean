/- works() of package reevelaw22 returns true, from every world. -/
import Derived.Test.YtphdffebnjekdaaGreatTb22
namespace Go.Xe
open Go Go.Proofs
set_option maxRecDepth 1000000
theorem works_run : runB Tryz.prog tb 60 (.mk .d0 .d0 .da) = true := by kernel_rfl
theorem mixed : Tryz.prog.follows .mixedOrders = true := by kernel_rfl
theorem works_calls (ro : Option Nat) (w : World) : CallsIn (fz ro) 0 Tryz.prog 10 #[] w (fun e w' => e = .returned (.bool true) ∧ w'.os = w.os ∧ w'.tape = w.tape ∧ w'.output = w.output ∧ w.heap.size ≤ w'.heap.size ∧ ∀ k, k < w.heap.size → w'.heap[k]? = w.heap[k]?) :=
  runB_sound tabOK mixed works_run ro w
end Go.Xe
