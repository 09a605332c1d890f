/-
  No cell of these rows narrows 'for every input' (looked for: loops, veiled, ifaces, maps, wideKeys, modest, calm, conditions, laid).
  DERIVED. THE GIVEN ROWS OF THIS SEAT. 6 by the template 'for every input the law returns true; each argument reads behind the call as it read before'; 0 by the template 'total and deterministic' (their statements: YtphdffebnjekdaaGreatTotals.lean).
  GIVEN WITH THE SEED: the statements are not yours to turn. If you find one false, say at which input.
  Laid BY PROGRAM, IN A SANDBOX (cutbox-rows.mjs): the forced cells as the released guide's own fill.sh prints them over the translation 85c99126b136b658… (all of the seat's roots in one cut). By AI agents, Wed Nov 11 2026. No macro, syntax, notation, axiom, sorry.
-/
import Derived.Test.YtphdffebnjekdaaGreatChecked
import GoSem.Claim
import GoSem.ClaimJoined
import GoSem.ClaimMapViews
import Derived.JoinedTies
import Derived.KernelRfl
namespace Go.Proofs.YtphdffebnjekdaaGreat
/- THE CELL 'sum', in the pinned program and in every row, IS THE sha256 OF THE DUMP (.gsa) THAT YtphdffebnjekdaaGreatProg.lean LOADS. Nothing in Lean hashes anything: it is a label: what it is worth is what the hold of that sum in a sandbox is worth. -/
noncomputable def Tryz.pinned : Pinned := { name := "ytphdffebnjekdaagreat", sum := "85c99126b136b658591b9078f31a4ced9715472bbd23bb8966c7fba02362bee0", checked := Tryz.checked }
namespace Rows
def none {H : Type} : Left H := { results := [], args := [] }

/-- 'reevelaw22.StateBudget': WHATEVER THE INPUT: true; the input reads as it did. -/
def stateBudgetSpec : ChangeSpec := { name := "stateBudget", fn := fun _ => fun
  | [d] => { results := [.lit (.bool true)], args := [d] }
  | _ => none }
def stateBudgetRow : OpenClaim := { program := "ytphdffebnjekdaagreat", sum := "85c99126b136b658591b9078f31a4ced9715472bbd23bb8966c7fba02362bee0", func := "reeve/reevelaw22.StateBudget", spec := "stateBudget", inPlace := ["slices.overlaps[reeve/api.BoxRow]", "math/bits.Add64", "slices.overlaps[reeve/api.JobRow]", "math/bits.Sub64", "slices.overlaps[reeve/api.SetRow]", "slices.overlaps[reeve/api.CallRow]", "internal/abi.NoEscape"], unfollowed := true, recurses := true, plainKeys := false, apart := false }
def StateBudgetSaid : Prop := stateBudgetRow.holds Tryz.pinned (OpenSpec.ofChange stateBudgetSpec)

/-- ITS FALSE NEIGHBOUR: 'it returns false'. Refute it at one input. -/
def stateBudgetWrong : ChangeSpec := { name := "stateBudget", fn := fun _ => fun
  | [d] => { results := [.lit (.bool false)], args := [d] }
  | _ => none }
def StateBudgetWrongFalsely : Prop := stateBudgetRow.holds Tryz.pinned (OpenSpec.ofChange stateBudgetWrong)

/-- 'reevelaw22.StateNone': WHATEVER THE INPUT: true; the input reads as it did. -/
def stateNoneSpec : ChangeSpec := { name := "stateNone", fn := fun _ => fun
  | [d] => { results := [.lit (.bool true)], args := [d] }
  | _ => none }
def stateNoneRow : OpenClaim := { program := "ytphdffebnjekdaagreat", sum := "85c99126b136b658591b9078f31a4ced9715472bbd23bb8966c7fba02362bee0", func := "reeve/reevelaw22.StateNone", spec := "stateNone", inPlace := ["slices.overlaps[reeve/api.BoxRow]", "math/bits.Add64", "slices.overlaps[reeve/api.JobRow]", "math/bits.Sub64", "slices.overlaps[reeve/api.SetRow]", "slices.overlaps[reeve/api.CallRow]", "internal/abi.NoEscape"], unfollowed := true, recurses := true, plainKeys := false, apart := false }
def StateNoneSaid : Prop := stateNoneRow.holds Tryz.pinned (OpenSpec.ofChange stateNoneSpec)

/-- ITS FALSE NEIGHBOUR: 'it returns false'. Refute it at one input. -/
def stateNoneWrong : ChangeSpec := { name := "stateNone", fn := fun _ => fun
  | [d] => { results := [.lit (.bool false)], args := [d] }
  | _ => none }
def StateNoneWrongFalsely : Prop := stateNoneRow.holds Tryz.pinned (OpenSpec.ofChange stateNoneWrong)

/-- 'reevelaw22.StateBack': WHATEVER THE INPUT: true; the input reads as it did. -/
def stateBackSpec : ChangeSpec := { name := "stateBack", fn := fun _ => fun
  | [d1, d2, d3] => { results := [.lit (.bool true)], args := [d1, d2, d3] }
  | _ => none }
def stateBackRow : OpenClaim := { program := "ytphdffebnjekdaagreat", sum := "85c99126b136b658591b9078f31a4ced9715472bbd23bb8966c7fba02362bee0", func := "reeve/reevelaw22.StateBack", spec := "stateBack", inPlace := ["slices.overlaps[reeve/api.BoxRow]", "math/bits.Add64", "slices.overlaps[reeve/api.JobRow]", "math/bits.Sub64", "slices.overlaps[reeve/api.SetRow]", "slices.overlaps[reeve/api.CallRow]", "internal/abi.NoEscape"], unfollowed := true, recurses := true, plainKeys := false, apart := false }
def StateBackSaid : Prop := stateBackRow.holds Tryz.pinned (OpenSpec.ofChange stateBackSpec)

/-- ITS FALSE NEIGHBOUR: 'it returns false'. Refute it at one input. -/
def stateBackWrong : ChangeSpec := { name := "stateBack", fn := fun _ => fun
  | [d1, d2, d3] => { results := [.lit (.bool false)], args := [d1, d2, d3] }
  | _ => none }
def StateBackWrongFalsely : Prop := stateBackRow.holds Tryz.pinned (OpenSpec.ofChange stateBackWrong)

/-- 'reevelaw22.StatePlays': WHATEVER THE INPUT: true; the input reads as it did. -/
def statePlaysSpec : ChangeSpec := { name := "statePlays", fn := fun _ => fun
  | [d1, d2] => { results := [.lit (.bool true)], args := [d1, d2] }
  | _ => none }
def statePlaysRow : OpenClaim := { program := "ytphdffebnjekdaagreat", sum := "85c99126b136b658591b9078f31a4ced9715472bbd23bb8966c7fba02362bee0", func := "reeve/reevelaw22.StatePlays", spec := "statePlays", inPlace := ["slices.overlaps[reeve/api.BoxRow]", "math/bits.Add64", "slices.overlaps[reeve/api.JobRow]", "math/bits.Sub64", "slices.overlaps[reeve/api.SetRow]", "slices.overlaps[reeve/api.CallRow]", "internal/abi.NoEscape"], unfollowed := true, recurses := true, plainKeys := false, apart := false }
def StatePlaysSaid : Prop := statePlaysRow.holds Tryz.pinned (OpenSpec.ofChange statePlaysSpec)

/-- ITS FALSE NEIGHBOUR: 'it returns false'. Refute it at one input. -/
def statePlaysWrong : ChangeSpec := { name := "statePlays", fn := fun _ => fun
  | [d1, d2] => { results := [.lit (.bool false)], args := [d1, d2] }
  | _ => none }
def StatePlaysWrongFalsely : Prop := statePlaysRow.holds Tryz.pinned (OpenSpec.ofChange statePlaysWrong)

/-- 'reevelaw22.StateKeeps': WHATEVER THE INPUT: true; the input reads as it did. -/
def stateKeepsSpec : ChangeSpec := { name := "stateKeeps", fn := fun _ => fun
  | [d] => { results := [.lit (.bool true)], args := [d] }
  | _ => none }
def stateKeepsRow : OpenClaim := { program := "ytphdffebnjekdaagreat", sum := "85c99126b136b658591b9078f31a4ced9715472bbd23bb8966c7fba02362bee0", func := "reeve/reevelaw22.StateKeeps", spec := "stateKeeps", inPlace := ["slices.overlaps[reeve/api.BoxRow]", "math/bits.Add64", "slices.overlaps[reeve/api.JobRow]", "math/bits.Sub64", "slices.overlaps[reeve/api.SetRow]", "slices.overlaps[reeve/api.CallRow]", "internal/abi.NoEscape"], unfollowed := true, recurses := true, plainKeys := false, apart := false }
def StateKeepsSaid : Prop := stateKeepsRow.holds Tryz.pinned (OpenSpec.ofChange stateKeepsSpec)

/-- ITS FALSE NEIGHBOUR: 'it returns false'. Refute it at one input. -/
def stateKeepsWrong : ChangeSpec := { name := "stateKeeps", fn := fun _ => fun
  | [d] => { results := [.lit (.bool false)], args := [d] }
  | _ => none }
def StateKeepsWrongFalsely : Prop := stateKeepsRow.holds Tryz.pinned (OpenSpec.ofChange stateKeepsWrong)

/-- 'reevelaw22.StateMoves': WHATEVER THE INPUT: true; the input reads as it did. -/
def stateMovesSpec : ChangeSpec := { name := "stateMoves", fn := fun _ => fun
  | [d1, d2] => { results := [.lit (.bool true)], args := [d1, d2] }
  | _ => none }
def stateMovesRow : OpenClaim := { program := "ytphdffebnjekdaagreat", sum := "85c99126b136b658591b9078f31a4ced9715472bbd23bb8966c7fba02362bee0", func := "reeve/reevelaw22.StateMoves", spec := "stateMoves", inPlace := ["slices.overlaps[reeve/api.BoxRow]", "math/bits.Add64", "slices.overlaps[reeve/api.JobRow]", "math/bits.Sub64", "slices.overlaps[reeve/api.SetRow]", "slices.overlaps[reeve/api.CallRow]", "internal/abi.NoEscape"], unfollowed := true, recurses := true, plainKeys := false, apart := false }
def StateMovesSaid : Prop := stateMovesRow.holds Tryz.pinned (OpenSpec.ofChange stateMovesSpec)

/-- ITS FALSE NEIGHBOUR: 'it returns false'. Refute it at one input. -/
def stateMovesWrong : ChangeSpec := { name := "stateMoves", fn := fun _ => fun
  | [d1, d2] => { results := [.lit (.bool false)], args := [d1, d2] }
  | _ => none }
def StateMovesWrongFalsely : Prop := stateMovesRow.holds Tryz.pinned (OpenSpec.ofChange stateMovesWrong)

/- THE SECOND FORM. 'bulk': how many values and letters a reading holds, each counted each time it is reached (what is shared counts as often as it is met; a slice's spare places count too). A statement '..UptoSaid' is the law's where the arguments, and the package variables that the reading takes, are together of bulk at most 1048576: NARROWER than '..Said'. Prove '..Said' where nothing that the law and all that it calls make is longer than what came in: it says more and counts as full. Else prove '..UptoSaid'. A law counts once. -/
mutual
def uptoBulk {H : Type} : DataW H → Nat
  | .lit (.string bytes) => bytes.length + 1
  | .lit _ => 1
  | .nil => 1
  | .ptr d => uptoBulk d + 1
  | .slice elems spare => uptoBulkAll elems + uptoBulkAll spare + 1
  | .agg parts => uptoBulkAll parts + 1
  | .iface _ d => uptoBulk d + 1
  | .map entries => uptoBulkEntries entries + 1
  | .held _ => 1
def uptoBulkAll {H : Type} : List (DataW H) → Nat
  | [] => 0
  | d :: r => uptoBulk d + uptoBulkAll r
def uptoBulkEntries {H : Type} : List (Lit × DataW H) → Nat
  | [] => 0
  | x :: r => uptoBulkEntry x + uptoBulkEntries r
def uptoBulkEntry {H : Type} : Lit × DataW H → Nat
  | (.string bytes, d) => bytes.length + uptoBulk d + 1
  | (_, d) => uptoBulk d + 1
 end
def uptoSmall : (H : Type) → List (DataW H) → Bool := fun _ ds => decide (uptoBulkAll ds ≤ 1048576)
def OpenSpec.upto (s : _root_.Go.ChangeSpec) : _root_.Go.OpenSpec := { _root_.Go.OpenSpec.ofChange s with cond := some uptoSmall }

/-- 'reevelaw22.StateBudget', WHERE WHAT IT READS IS OF BULK AT MOST 1048576: true; the input reads as it did. -/
def stateBudgetUptoRow : OpenClaim := { program := "ytphdffebnjekdaagreat", sum := "85c99126b136b658591b9078f31a4ced9715472bbd23bb8966c7fba02362bee0", func := "reeve/reevelaw22.StateBudget", spec := "stateBudget", inPlace := ["slices.overlaps[reeve/api.BoxRow]", "math/bits.Add64", "slices.overlaps[reeve/api.JobRow]", "math/bits.Sub64", "slices.overlaps[reeve/api.SetRow]", "slices.overlaps[reeve/api.CallRow]", "internal/abi.NoEscape"], unfollowed := true, recurses := true, plainKeys := false, apart := false, narrowed := true }
def StateBudgetUptoSaid : Prop := stateBudgetUptoRow.holds Tryz.pinned (OpenSpec.upto stateBudgetSpec)

/-- 'reevelaw22.StateNone', WHERE WHAT IT READS IS OF BULK AT MOST 1048576: true; the input reads as it did. -/
def stateNoneUptoRow : OpenClaim := { program := "ytphdffebnjekdaagreat", sum := "85c99126b136b658591b9078f31a4ced9715472bbd23bb8966c7fba02362bee0", func := "reeve/reevelaw22.StateNone", spec := "stateNone", inPlace := ["slices.overlaps[reeve/api.BoxRow]", "math/bits.Add64", "slices.overlaps[reeve/api.JobRow]", "math/bits.Sub64", "slices.overlaps[reeve/api.SetRow]", "slices.overlaps[reeve/api.CallRow]", "internal/abi.NoEscape"], unfollowed := true, recurses := true, plainKeys := false, apart := false, narrowed := true }
def StateNoneUptoSaid : Prop := stateNoneUptoRow.holds Tryz.pinned (OpenSpec.upto stateNoneSpec)

/-- 'reevelaw22.StateBack', WHERE WHAT IT READS IS OF BULK AT MOST 1048576: true; the input reads as it did. -/
def stateBackUptoRow : OpenClaim := { program := "ytphdffebnjekdaagreat", sum := "85c99126b136b658591b9078f31a4ced9715472bbd23bb8966c7fba02362bee0", func := "reeve/reevelaw22.StateBack", spec := "stateBack", inPlace := ["slices.overlaps[reeve/api.BoxRow]", "math/bits.Add64", "slices.overlaps[reeve/api.JobRow]", "math/bits.Sub64", "slices.overlaps[reeve/api.SetRow]", "slices.overlaps[reeve/api.CallRow]", "internal/abi.NoEscape"], unfollowed := true, recurses := true, plainKeys := false, apart := false, narrowed := true }
def StateBackUptoSaid : Prop := stateBackUptoRow.holds Tryz.pinned (OpenSpec.upto stateBackSpec)

/-- 'reevelaw22.StatePlays', WHERE WHAT IT READS IS OF BULK AT MOST 1048576: true; the input reads as it did. -/
def statePlaysUptoRow : OpenClaim := { program := "ytphdffebnjekdaagreat", sum := "85c99126b136b658591b9078f31a4ced9715472bbd23bb8966c7fba02362bee0", func := "reeve/reevelaw22.StatePlays", spec := "statePlays", inPlace := ["slices.overlaps[reeve/api.BoxRow]", "math/bits.Add64", "slices.overlaps[reeve/api.JobRow]", "math/bits.Sub64", "slices.overlaps[reeve/api.SetRow]", "slices.overlaps[reeve/api.CallRow]", "internal/abi.NoEscape"], unfollowed := true, recurses := true, plainKeys := false, apart := false, narrowed := true }
def StatePlaysUptoSaid : Prop := statePlaysUptoRow.holds Tryz.pinned (OpenSpec.upto statePlaysSpec)

/-- 'reevelaw22.StateKeeps', WHERE WHAT IT READS IS OF BULK AT MOST 1048576: true; the input reads as it did. -/
def stateKeepsUptoRow : OpenClaim := { program := "ytphdffebnjekdaagreat", sum := "85c99126b136b658591b9078f31a4ced9715472bbd23bb8966c7fba02362bee0", func := "reeve/reevelaw22.StateKeeps", spec := "stateKeeps", inPlace := ["slices.overlaps[reeve/api.BoxRow]", "math/bits.Add64", "slices.overlaps[reeve/api.JobRow]", "math/bits.Sub64", "slices.overlaps[reeve/api.SetRow]", "slices.overlaps[reeve/api.CallRow]", "internal/abi.NoEscape"], unfollowed := true, recurses := true, plainKeys := false, apart := false, narrowed := true }
def StateKeepsUptoSaid : Prop := stateKeepsUptoRow.holds Tryz.pinned (OpenSpec.upto stateKeepsSpec)

/-- 'reevelaw22.StateMoves', WHERE WHAT IT READS IS OF BULK AT MOST 1048576: true; the input reads as it did. -/
def stateMovesUptoRow : OpenClaim := { program := "ytphdffebnjekdaagreat", sum := "85c99126b136b658591b9078f31a4ced9715472bbd23bb8966c7fba02362bee0", func := "reeve/reevelaw22.StateMoves", spec := "stateMoves", inPlace := ["slices.overlaps[reeve/api.BoxRow]", "math/bits.Add64", "slices.overlaps[reeve/api.JobRow]", "math/bits.Sub64", "slices.overlaps[reeve/api.SetRow]", "slices.overlaps[reeve/api.CallRow]", "internal/abi.NoEscape"], unfollowed := true, recurses := true, plainKeys := false, apart := false, narrowed := true }
def StateMovesUptoSaid : Prop := stateMovesUptoRow.holds Tryz.pinned (OpenSpec.upto stateMovesSpec)

end Rows
end Go.Proofs.YtphdffebnjekdaaGreat
