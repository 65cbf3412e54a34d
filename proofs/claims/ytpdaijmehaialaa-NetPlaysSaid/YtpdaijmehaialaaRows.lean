/-
  No cell of these rows narrows 'for every input' (looked for: loops, veiled, ifaces, maps, wideKeys, modest, calm, conditions, laid).
  DERIVED. THE GIVEN ROWS OF THIS SEAT. 4 by the template 'for every input the law returns true; each argument reads behind the call as it read before'; 0 by the template 'total and deterministic' (their statements: YtpdaijmehaialaaTotals.lean).
  GIVEN WITH THE SEED: the statements are not yours to turn. If you find one false, say at which input.
  Laid BY PROGRAM, IN A SANDBOX (cutbox-rows.mjs): the forced cells as the released guide's own fill.sh prints them over the translation 93e1f92eb5e61d04… (all of the seat's roots in one cut). By AI agents, Wed Nov 11 2026. No macro, syntax, notation, axiom, sorry.
-/
import Derived.Test.YtpdaijmehaialaaChecked
import GoSem.Claim
import GoSem.ClaimJoined
import GoSem.ClaimMapViews
import Derived.JoinedTies
import Derived.KernelRfl
namespace Go.Proofs.Ytpdaijmehaialaa
/- THE CELL 'sum', in the pinned program and in every row, IS THE sha256 OF THE DUMP (.gsa) THAT YtpdaijmehaialaaProg.lean LOADS. Nothing in Lean hashes anything: it is a label: what it is worth is what the hold of that sum in a sandbox is worth. -/
noncomputable def Try.pinned : Pinned := { name := "ytpdaijmehaialaa", sum := "93e1f92eb5e61d04e2d9560a09e288f80732cc4c8244b9cb2696aa682ebac975", checked := Try.checked }
namespace Rows
def none {H : Type} : Left H := { results := [], args := [] }

/-- 'diptychlaw29.NetBrings': WHATEVER THE INPUT: true; the input reads as it did. -/
def netBringsSpec : ChangeSpec := { name := "netBrings", fn := fun _ => fun
  | [d1, d2] => { results := [.lit (.bool true)], args := [d1, d2] }
  | _ => none }
def netBringsRow : OpenClaim := { program := "ytpdaijmehaialaa", sum := "93e1f92eb5e61d04e2d9560a09e288f80732cc4c8244b9cb2696aa682ebac975", func := "diptych/diptychlaw29.NetBrings", spec := "netBrings", unfollowed := true, recurses := true, plainKeys := false, apart := false }
def NetBringsSaid : Prop := netBringsRow.holds Try.pinned (OpenSpec.ofChange netBringsSpec)

/-- ITS FALSE NEIGHBOUR: 'it returns false'. Refute it at one input. -/
def netBringsWrong : ChangeSpec := { name := "netBrings", fn := fun _ => fun
  | [d1, d2] => { results := [.lit (.bool false)], args := [d1, d2] }
  | _ => none }
def NetBringsWrongFalsely : Prop := netBringsRow.holds Try.pinned (OpenSpec.ofChange netBringsWrong)

/-- 'diptychlaw29.NetOrder': WHATEVER THE INPUT: true; the input reads as it did. -/
def netOrderSpec : ChangeSpec := { name := "netOrder", fn := fun _ => fun
  | [d1, d2] => { results := [.lit (.bool true)], args := [d1, d2] }
  | _ => none }
def netOrderRow : OpenClaim := { program := "ytpdaijmehaialaa", sum := "93e1f92eb5e61d04e2d9560a09e288f80732cc4c8244b9cb2696aa682ebac975", func := "diptych/diptychlaw29.NetOrder", spec := "netOrder", unfollowed := true, recurses := true, plainKeys := false, apart := false }
def NetOrderSaid : Prop := netOrderRow.holds Try.pinned (OpenSpec.ofChange netOrderSpec)

/-- ITS FALSE NEIGHBOUR: 'it returns false'. Refute it at one input. -/
def netOrderWrong : ChangeSpec := { name := "netOrder", fn := fun _ => fun
  | [d1, d2] => { results := [.lit (.bool false)], args := [d1, d2] }
  | _ => none }
def NetOrderWrongFalsely : Prop := netOrderRow.holds Try.pinned (OpenSpec.ofChange netOrderWrong)

/-- 'diptychlaw29.NetPlays': WHATEVER THE INPUT: true; the input reads as it did. -/
def netPlaysSpec : ChangeSpec := { name := "netPlays", fn := fun _ => fun
  | [d1, d2] => { results := [.lit (.bool true)], args := [d1, d2] }
  | _ => none }
def netPlaysRow : OpenClaim := { program := "ytpdaijmehaialaa", sum := "93e1f92eb5e61d04e2d9560a09e288f80732cc4c8244b9cb2696aa682ebac975", func := "diptych/diptychlaw29.NetPlays", spec := "netPlays", unfollowed := true, recurses := true, plainKeys := false, apart := false }
def NetPlaysSaid : Prop := netPlaysRow.holds Try.pinned (OpenSpec.ofChange netPlaysSpec)

/-- ITS FALSE NEIGHBOUR: 'it returns false'. Refute it at one input. -/
def netPlaysWrong : ChangeSpec := { name := "netPlays", fn := fun _ => fun
  | [d1, d2] => { results := [.lit (.bool false)], args := [d1, d2] }
  | _ => none }
def NetPlaysWrongFalsely : Prop := netPlaysRow.holds Try.pinned (OpenSpec.ofChange netPlaysWrong)

/-- 'diptychlaw29.NetEmpties': WHATEVER THE INPUT: true; the input reads as it did. -/
def netEmptiesSpec : ChangeSpec := { name := "netEmpties", fn := fun _ => fun
  | [d1, d2] => { results := [.lit (.bool true)], args := [d1, d2] }
  | _ => none }
def netEmptiesRow : OpenClaim := { program := "ytpdaijmehaialaa", sum := "93e1f92eb5e61d04e2d9560a09e288f80732cc4c8244b9cb2696aa682ebac975", func := "diptych/diptychlaw29.NetEmpties", spec := "netEmpties", unfollowed := true, recurses := true, plainKeys := false, apart := false }
def NetEmptiesSaid : Prop := netEmptiesRow.holds Try.pinned (OpenSpec.ofChange netEmptiesSpec)

/-- ITS FALSE NEIGHBOUR: 'it returns false'. Refute it at one input. -/
def netEmptiesWrong : ChangeSpec := { name := "netEmpties", fn := fun _ => fun
  | [d1, d2] => { results := [.lit (.bool false)], args := [d1, d2] }
  | _ => none }
def NetEmptiesWrongFalsely : Prop := netEmptiesRow.holds Try.pinned (OpenSpec.ofChange netEmptiesWrong)

/- THE SECOND FORM. 'bulk': how many values and letters a reading holds, each counted each time it is reached (what is shared counts as often as it is met; a slice's spare places count too). A statement '..UptoSaid' is the law's where the arguments, and the package variables that the reading takes, are together of bulk at most 1048576: NARROWER than '..Said'. Prove '..Said' where nothing that the law and all that it calls make is longer than what came in: it says more and counts as full. Else prove '..UptoSaid'. A law counts once. -/
mutual
def uptoBulk {H : Type} : DataW H → Nat
  | .lit (.string bytes) => bytes.length + 1
  | .lit _ => 1
  | .nil => 1
  | .ptr d => uptoBulk d + 1
  | .slice elems spare => uptoBulkAll elems + uptoBulkAll spare + 1
  | .agg parts => uptoBulkAll parts + 1
  | .iface _ d => uptoBulk d + 1
  | .map entries => uptoBulkEntries entries + 1
  | .held _ => 1
def uptoBulkAll {H : Type} : List (DataW H) → Nat
  | [] => 0
  | d :: r => uptoBulk d + uptoBulkAll r
def uptoBulkEntries {H : Type} : List (Lit × DataW H) → Nat
  | [] => 0
  | x :: r => uptoBulkEntry x + uptoBulkEntries r
def uptoBulkEntry {H : Type} : Lit × DataW H → Nat
  | (.string bytes, d) => bytes.length + uptoBulk d + 1
  | (_, d) => uptoBulk d + 1
 end
def uptoSmall : (H : Type) → List (DataW H) → Bool := fun _ ds => decide (uptoBulkAll ds ≤ 1048576)
def OpenSpec.upto (s : _root_.Go.ChangeSpec) : _root_.Go.OpenSpec := { _root_.Go.OpenSpec.ofChange s with cond := some uptoSmall }

/-- 'diptychlaw29.NetBrings', WHERE WHAT IT READS IS OF BULK AT MOST 1048576: true; the input reads as it did. -/
def netBringsUptoRow : OpenClaim := { program := "ytpdaijmehaialaa", sum := "93e1f92eb5e61d04e2d9560a09e288f80732cc4c8244b9cb2696aa682ebac975", func := "diptych/diptychlaw29.NetBrings", spec := "netBrings", unfollowed := true, recurses := true, plainKeys := false, apart := false, narrowed := true }
def NetBringsUptoSaid : Prop := netBringsUptoRow.holds Try.pinned (OpenSpec.upto netBringsSpec)

/-- 'diptychlaw29.NetOrder', WHERE WHAT IT READS IS OF BULK AT MOST 1048576: true; the input reads as it did. -/
def netOrderUptoRow : OpenClaim := { program := "ytpdaijmehaialaa", sum := "93e1f92eb5e61d04e2d9560a09e288f80732cc4c8244b9cb2696aa682ebac975", func := "diptych/diptychlaw29.NetOrder", spec := "netOrder", unfollowed := true, recurses := true, plainKeys := false, apart := false, narrowed := true }
def NetOrderUptoSaid : Prop := netOrderUptoRow.holds Try.pinned (OpenSpec.upto netOrderSpec)

/-- 'diptychlaw29.NetPlays', WHERE WHAT IT READS IS OF BULK AT MOST 1048576: true; the input reads as it did. -/
def netPlaysUptoRow : OpenClaim := { program := "ytpdaijmehaialaa", sum := "93e1f92eb5e61d04e2d9560a09e288f80732cc4c8244b9cb2696aa682ebac975", func := "diptych/diptychlaw29.NetPlays", spec := "netPlays", unfollowed := true, recurses := true, plainKeys := false, apart := false, narrowed := true }
def NetPlaysUptoSaid : Prop := netPlaysUptoRow.holds Try.pinned (OpenSpec.upto netPlaysSpec)

/-- 'diptychlaw29.NetEmpties', WHERE WHAT IT READS IS OF BULK AT MOST 1048576: true; the input reads as it did. -/
def netEmptiesUptoRow : OpenClaim := { program := "ytpdaijmehaialaa", sum := "93e1f92eb5e61d04e2d9560a09e288f80732cc4c8244b9cb2696aa682ebac975", func := "diptych/diptychlaw29.NetEmpties", spec := "netEmpties", unfollowed := true, recurses := true, plainKeys := false, apart := false, narrowed := true }
def NetEmptiesUptoSaid : Prop := netEmptiesUptoRow.holds Try.pinned (OpenSpec.upto netEmptiesSpec)

end Rows
end Go.Proofs.Ytpdaijmehaialaa
