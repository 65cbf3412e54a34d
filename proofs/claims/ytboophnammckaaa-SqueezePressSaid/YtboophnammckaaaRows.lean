/-
  No cell of these rows narrows 'for every input' (looked for: loops, veiled, ifaces, maps, wideKeys, modest, calm, conditions, laid).
  DERIVED. THE GIVEN ROWS OF THIS SEAT. 4 by the template 'for every input the law returns true; each argument reads behind the call as it read before'; 0 by the template 'total and deterministic' (their statements: YtboophnammckaaaTotals.lean).
  GIVEN WITH THE SEED: the statements are not yours to turn. If you find one false, say at which input.
  Laid BY PROGRAM, IN A SANDBOX (cutbox-rows.mjs): the forced cells as the released guide's own fill.sh prints them over the translation 7491ed38da5f09fe… (all of the seat's roots in one cut). By AI agents, Wed Nov 11 2026. No macro, syntax, notation, axiom, sorry.
-/
import Derived.Test.YtboophnammckaaaChecked
import GoSem.Claim
import GoSem.ClaimJoined
import GoSem.ClaimMapViews
import Derived.JoinedTies
import Derived.KernelRfl
namespace Go.Proofs.Ytboophnammckaaa
/- THE CELL 'sum', in the pinned program and in every row, IS THE sha256 OF THE DUMP (.gsa) THAT YtboophnammckaaaProg.lean LOADS. Nothing in Lean hashes anything: it is a label: what it is worth is what the hold of that sum in a sandbox is worth. -/
noncomputable def Try.pinned : Pinned := { name := "ytboophnammckaaa", sum := "7491ed38da5f09fe070c41b2dcbfca1df958e7f58395223b1995b7ad060f2d63", checked := Try.checked }
namespace Rows
def none {H : Type} : Left H := { results := [], args := [] }

/-- 'diptychlaw08.SqueezeOpens': WHATEVER THE INPUT: true; the input reads as it did. -/
def squeezeOpensSpec : ChangeSpec := { name := "squeezeOpens", fn := fun _ => fun
  | [d1, d2] => { results := [.lit (.bool true)], args := [d1, d2] }
  | _ => none }
def squeezeOpensRow : OpenClaim := { program := "ytboophnammckaaa", sum := "7491ed38da5f09fe070c41b2dcbfca1df958e7f58395223b1995b7ad060f2d63", func := "diptych/diptychlaw08.SqueezeOpens", spec := "squeezeOpens", plainKeys := false, apart := false }
def SqueezeOpensSaid : Prop := squeezeOpensRow.holds Try.pinned (OpenSpec.ofChange squeezeOpensSpec)

/-- ITS FALSE NEIGHBOUR: 'it returns false'. Refute it at one input. -/
def squeezeOpensWrong : ChangeSpec := { name := "squeezeOpens", fn := fun _ => fun
  | [d1, d2] => { results := [.lit (.bool false)], args := [d1, d2] }
  | _ => none }
def SqueezeOpensWrongFalsely : Prop := squeezeOpensRow.holds Try.pinned (OpenSpec.ofChange squeezeOpensWrong)

/-- 'diptychlaw08.SqueezePress': WHATEVER THE INPUT: true; the input reads as it did. -/
def squeezePressSpec : ChangeSpec := { name := "squeezePress", fn := fun _ => fun
  | [d1, d2] => { results := [.lit (.bool true)], args := [d1, d2] }
  | _ => none }
def squeezePressRow : OpenClaim := { program := "ytboophnammckaaa", sum := "7491ed38da5f09fe070c41b2dcbfca1df958e7f58395223b1995b7ad060f2d63", func := "diptych/diptychlaw08.SqueezePress", spec := "squeezePress", plainKeys := false, apart := false }
def SqueezePressSaid : Prop := squeezePressRow.holds Try.pinned (OpenSpec.ofChange squeezePressSpec)

/-- ITS FALSE NEIGHBOUR: 'it returns false'. Refute it at one input. -/
def squeezePressWrong : ChangeSpec := { name := "squeezePress", fn := fun _ => fun
  | [d1, d2] => { results := [.lit (.bool false)], args := [d1, d2] }
  | _ => none }
def SqueezePressWrongFalsely : Prop := squeezePressRow.holds Try.pinned (OpenSpec.ofChange squeezePressWrong)

/-- 'diptychlaw08.SqueezePlain': WHATEVER THE INPUT: true; the input reads as it did. -/
def squeezePlainSpec : ChangeSpec := { name := "squeezePlain", fn := fun _ => fun
  | [d1, d2, d3] => { results := [.lit (.bool true)], args := [d1, d2, d3] }
  | _ => none }
def squeezePlainRow : OpenClaim := { program := "ytboophnammckaaa", sum := "7491ed38da5f09fe070c41b2dcbfca1df958e7f58395223b1995b7ad060f2d63", func := "diptych/diptychlaw08.SqueezePlain", spec := "squeezePlain", plainKeys := false, apart := false }
def SqueezePlainSaid : Prop := squeezePlainRow.holds Try.pinned (OpenSpec.ofChange squeezePlainSpec)

/-- ITS FALSE NEIGHBOUR: 'it returns false'. Refute it at one input. -/
def squeezePlainWrong : ChangeSpec := { name := "squeezePlain", fn := fun _ => fun
  | [d1, d2, d3] => { results := [.lit (.bool false)], args := [d1, d2, d3] }
  | _ => none }
def SqueezePlainWrongFalsely : Prop := squeezePlainRow.holds Try.pinned (OpenSpec.ofChange squeezePlainWrong)

/-- 'diptychlaw09.DeltaApplies': WHATEVER THE INPUT: true; the input reads as it did. -/
def deltaAppliesSpec : ChangeSpec := { name := "deltaApplies", fn := fun _ => fun
  | [d1, d2, d3] => { results := [.lit (.bool true)], args := [d1, d2, d3] }
  | _ => none }
def deltaAppliesRow : OpenClaim := { program := "ytboophnammckaaa", sum := "7491ed38da5f09fe070c41b2dcbfca1df958e7f58395223b1995b7ad060f2d63", func := "diptych/diptychlaw09.DeltaApplies", spec := "deltaApplies", plainKeys := false, apart := false }
def DeltaAppliesSaid : Prop := deltaAppliesRow.holds Try.pinned (OpenSpec.ofChange deltaAppliesSpec)

/-- ITS FALSE NEIGHBOUR: 'it returns false'. Refute it at one input. -/
def deltaAppliesWrong : ChangeSpec := { name := "deltaApplies", fn := fun _ => fun
  | [d1, d2, d3] => { results := [.lit (.bool false)], args := [d1, d2, d3] }
  | _ => none }
def DeltaAppliesWrongFalsely : Prop := deltaAppliesRow.holds Try.pinned (OpenSpec.ofChange deltaAppliesWrong)

/- THE SECOND FORM. 'bulk': how many values and letters a reading holds, each counted each time it is reached (what is shared counts as often as it is met; a slice's spare places count too). A statement '..UptoSaid' is the law's where the arguments, and the package variables that the reading takes, are together of bulk at most 1048576: NARROWER than '..Said'. Prove '..Said' where nothing that the law and all that it calls make is longer than what came in: it says more and counts as full. Else prove '..UptoSaid'. A law counts once. -/
mutual
def uptoBulk {H : Type} : DataW H → Nat
  | .lit (.string bytes) => bytes.length + 1
  | .lit _ => 1
  | .nil => 1
  | .ptr d => uptoBulk d + 1
  | .slice elems spare => uptoBulkAll elems + uptoBulkAll spare + 1
  | .agg parts => uptoBulkAll parts + 1
  | .iface _ d => uptoBulk d + 1
  | .map entries => uptoBulkEntries entries + 1
  | .held _ => 1
def uptoBulkAll {H : Type} : List (DataW H) → Nat
  | [] => 0
  | d :: r => uptoBulk d + uptoBulkAll r
def uptoBulkEntries {H : Type} : List (Lit × DataW H) → Nat
  | [] => 0
  | x :: r => uptoBulkEntry x + uptoBulkEntries r
def uptoBulkEntry {H : Type} : Lit × DataW H → Nat
  | (.string bytes, d) => bytes.length + uptoBulk d + 1
  | (_, d) => uptoBulk d + 1
 end
def uptoSmall : (H : Type) → List (DataW H) → Bool := fun _ ds => decide (uptoBulkAll ds ≤ 1048576)
def OpenSpec.upto (s : _root_.Go.ChangeSpec) : _root_.Go.OpenSpec := { _root_.Go.OpenSpec.ofChange s with cond := some uptoSmall }

/-- 'diptychlaw08.SqueezeOpens', WHERE WHAT IT READS IS OF BULK AT MOST 1048576: true; the input reads as it did. -/
def squeezeOpensUptoRow : OpenClaim := { program := "ytboophnammckaaa", sum := "7491ed38da5f09fe070c41b2dcbfca1df958e7f58395223b1995b7ad060f2d63", func := "diptych/diptychlaw08.SqueezeOpens", spec := "squeezeOpens", plainKeys := false, apart := false, narrowed := true }
def SqueezeOpensUptoSaid : Prop := squeezeOpensUptoRow.holds Try.pinned (OpenSpec.upto squeezeOpensSpec)

/-- 'diptychlaw08.SqueezePress', WHERE WHAT IT READS IS OF BULK AT MOST 1048576: true; the input reads as it did. -/
def squeezePressUptoRow : OpenClaim := { program := "ytboophnammckaaa", sum := "7491ed38da5f09fe070c41b2dcbfca1df958e7f58395223b1995b7ad060f2d63", func := "diptych/diptychlaw08.SqueezePress", spec := "squeezePress", plainKeys := false, apart := false, narrowed := true }
def SqueezePressUptoSaid : Prop := squeezePressUptoRow.holds Try.pinned (OpenSpec.upto squeezePressSpec)

/-- 'diptychlaw08.SqueezePlain', WHERE WHAT IT READS IS OF BULK AT MOST 1048576: true; the input reads as it did. -/
def squeezePlainUptoRow : OpenClaim := { program := "ytboophnammckaaa", sum := "7491ed38da5f09fe070c41b2dcbfca1df958e7f58395223b1995b7ad060f2d63", func := "diptych/diptychlaw08.SqueezePlain", spec := "squeezePlain", plainKeys := false, apart := false, narrowed := true }
def SqueezePlainUptoSaid : Prop := squeezePlainUptoRow.holds Try.pinned (OpenSpec.upto squeezePlainSpec)

/-- 'diptychlaw09.DeltaApplies', WHERE WHAT IT READS IS OF BULK AT MOST 1048576: true; the input reads as it did. -/
def deltaAppliesUptoRow : OpenClaim := { program := "ytboophnammckaaa", sum := "7491ed38da5f09fe070c41b2dcbfca1df958e7f58395223b1995b7ad060f2d63", func := "diptych/diptychlaw09.DeltaApplies", spec := "deltaApplies", plainKeys := false, apart := false, narrowed := true }
def DeltaAppliesUptoSaid : Prop := deltaAppliesUptoRow.holds Try.pinned (OpenSpec.upto deltaAppliesSpec)

end Rows
end Go.Proofs.Ytboophnammckaaa
