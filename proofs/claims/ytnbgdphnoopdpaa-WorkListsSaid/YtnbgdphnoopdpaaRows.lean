/-
  No cell of these rows narrows 'for every input' (looked for: loops, veiled, ifaces, maps, wideKeys, modest, calm, conditions, laid).
  DERIVED. THE GIVEN ROWS OF THIS SEAT. 5 by the template 'for every input the law returns true; each argument reads behind the call as it read before'; 0 by the template 'total and deterministic' (their statements: YtnbgdphnoopdpaaTotals.lean).
  GIVEN WITH THE SEED: the statements are not yours to turn. If you find one false, say at which input.
  Laid BY PROGRAM, IN A SANDBOX (cutbox-rows.mjs): the forced cells as the released guide's own fill.sh prints them over the translation 8be848341d19dd6f… (all of the seat's roots in one cut). By AI agents, Wed Nov 11 2026. No macro, syntax, notation, axiom, sorry.
-/
import Derived.Test.YtnbgdphnoopdpaaChecked
import GoSem.Claim
import GoSem.ClaimJoined
import GoSem.ClaimMapViews
import Derived.JoinedTies
import Derived.KernelRfl
namespace Go.Proofs.Ytnbgdphnoopdpaa
/- THE CELL 'sum', in the pinned program and in every row, IS THE sha256 OF THE DUMP (.gsa) THAT YtnbgdphnoopdpaaProg.lean LOADS. Nothing in Lean hashes anything: it is a label: what it is worth is what the hold of that sum in a sandbox is worth. -/
noncomputable def Try.pinned : Pinned := { name := "ytnbgdphnoopdpaa", sum := "8be848341d19dd6f76f249955bd0733c8f9c2fb94773488a37f7c3054c647f90", checked := Try.checked }
namespace Rows
def none {H : Type} : Left H := { results := [], args := [] }

/-- 'diptychlaw06.WorkWalks': WHATEVER THE INPUT: true; the input reads as it did. -/
def workWalksSpec : ChangeSpec := { name := "workWalks", fn := fun _ => fun
  | [d1, d2, d3, d4] => { results := [.lit (.bool true)], args := [d1, d2, d3, d4] }
  | _ => none }
def workWalksRow : OpenClaim := { program := "ytnbgdphnoopdpaa", sum := "8be848341d19dd6f76f249955bd0733c8f9c2fb94773488a37f7c3054c647f90", func := "diptych/diptychlaw06.WorkWalks", spec := "workWalks", unfollowed := true, recurses := true, apart := false }
def WorkWalksSaid : Prop := workWalksRow.holds Try.pinned (OpenSpec.ofChange workWalksSpec)

/-- ITS FALSE NEIGHBOUR: 'it returns false'. Refute it at one input. -/
def workWalksWrong : ChangeSpec := { name := "workWalks", fn := fun _ => fun
  | [d1, d2, d3, d4] => { results := [.lit (.bool false)], args := [d1, d2, d3, d4] }
  | _ => none }
def WorkWalksWrongFalsely : Prop := workWalksRow.holds Try.pinned (OpenSpec.ofChange workWalksWrong)

/-- 'diptychlaw06.WorkReaches': WHATEVER THE INPUT: true; the input reads as it did. -/
def workReachesSpec : ChangeSpec := { name := "workReaches", fn := fun _ => fun
  | [d1, d2] => { results := [.lit (.bool true)], args := [d1, d2] }
  | _ => none }
def workReachesRow : OpenClaim := { program := "ytnbgdphnoopdpaa", sum := "8be848341d19dd6f76f249955bd0733c8f9c2fb94773488a37f7c3054c647f90", func := "diptych/diptychlaw06.WorkReaches", spec := "workReaches", unfollowed := true, recurses := true, apart := false }
def WorkReachesSaid : Prop := workReachesRow.holds Try.pinned (OpenSpec.ofChange workReachesSpec)

/-- ITS FALSE NEIGHBOUR: 'it returns false'. Refute it at one input. -/
def workReachesWrong : ChangeSpec := { name := "workReaches", fn := fun _ => fun
  | [d1, d2] => { results := [.lit (.bool false)], args := [d1, d2] }
  | _ => none }
def WorkReachesWrongFalsely : Prop := workReachesRow.holds Try.pinned (OpenSpec.ofChange workReachesWrong)

/-- 'diptychlaw06.WorkOnce': WHATEVER THE INPUT: true; the input reads as it did. -/
def workOnceSpec : ChangeSpec := { name := "workOnce", fn := fun _ => fun
  | [d1, d2] => { results := [.lit (.bool true)], args := [d1, d2] }
  | _ => none }
def workOnceRow : OpenClaim := { program := "ytnbgdphnoopdpaa", sum := "8be848341d19dd6f76f249955bd0733c8f9c2fb94773488a37f7c3054c647f90", func := "diptych/diptychlaw06.WorkOnce", spec := "workOnce", unfollowed := true, recurses := true, apart := false }
def WorkOnceSaid : Prop := workOnceRow.holds Try.pinned (OpenSpec.ofChange workOnceSpec)

/-- ITS FALSE NEIGHBOUR: 'it returns false'. Refute it at one input. -/
def workOnceWrong : ChangeSpec := { name := "workOnce", fn := fun _ => fun
  | [d1, d2] => { results := [.lit (.bool false)], args := [d1, d2] }
  | _ => none }
def WorkOnceWrongFalsely : Prop := workOnceRow.holds Try.pinned (OpenSpec.ofChange workOnceWrong)

/-- 'diptychlaw06.WorkPipes': WHATEVER THE INPUT: true; the input reads as it did. -/
def workPipesSpec : ChangeSpec := { name := "workPipes", fn := fun _ => fun
  | [d1, d2] => { results := [.lit (.bool true)], args := [d1, d2] }
  | _ => none }
def workPipesRow : OpenClaim := { program := "ytnbgdphnoopdpaa", sum := "8be848341d19dd6f76f249955bd0733c8f9c2fb94773488a37f7c3054c647f90", func := "diptych/diptychlaw06.WorkPipes", spec := "workPipes", unfollowed := true, recurses := true, apart := false }
def WorkPipesSaid : Prop := workPipesRow.holds Try.pinned (OpenSpec.ofChange workPipesSpec)

/-- ITS FALSE NEIGHBOUR: 'it returns false'. Refute it at one input. -/
def workPipesWrong : ChangeSpec := { name := "workPipes", fn := fun _ => fun
  | [d1, d2] => { results := [.lit (.bool false)], args := [d1, d2] }
  | _ => none }
def WorkPipesWrongFalsely : Prop := workPipesRow.holds Try.pinned (OpenSpec.ofChange workPipesWrong)

/-- 'diptychlaw06.WorkLists': WHATEVER THE INPUT: true; the input reads as it did. -/
def workListsSpec : ChangeSpec := { name := "workLists", fn := fun _ => fun
  | [d] => { results := [.lit (.bool true)], args := [d] }
  | _ => none }
def workListsRow : OpenClaim := { program := "ytnbgdphnoopdpaa", sum := "8be848341d19dd6f76f249955bd0733c8f9c2fb94773488a37f7c3054c647f90", func := "diptych/diptychlaw06.WorkLists", spec := "workLists", unfollowed := true, recurses := true, apart := false }
def WorkListsSaid : Prop := workListsRow.holds Try.pinned (OpenSpec.ofChange workListsSpec)

/-- ITS FALSE NEIGHBOUR: 'it returns false'. Refute it at one input. -/
def workListsWrong : ChangeSpec := { name := "workLists", fn := fun _ => fun
  | [d] => { results := [.lit (.bool false)], args := [d] }
  | _ => none }
def WorkListsWrongFalsely : Prop := workListsRow.holds Try.pinned (OpenSpec.ofChange workListsWrong)

/- THE SECOND FORM. 'bulk': how many values and letters a reading holds, each counted each time it is reached (what is shared counts as often as it is met; a slice's spare places count too). A statement '..UptoSaid' is the law's where the arguments, and the package variables that the reading takes, are together of bulk at most 1048576: NARROWER than '..Said'. Prove '..Said' where nothing that the law and all that it calls make is longer than what came in: it says more and counts as full. Else prove '..UptoSaid'. A law counts once. -/
mutual
def uptoBulk {H : Type} : DataW H → Nat
  | .lit (.string bytes) => bytes.length + 1
  | .lit _ => 1
  | .nil => 1
  | .ptr d => uptoBulk d + 1
  | .slice elems spare => uptoBulkAll elems + uptoBulkAll spare + 1
  | .agg parts => uptoBulkAll parts + 1
  | .iface _ d => uptoBulk d + 1
  | .map entries => uptoBulkEntries entries + 1
  | .held _ => 1
def uptoBulkAll {H : Type} : List (DataW H) → Nat
  | [] => 0
  | d :: r => uptoBulk d + uptoBulkAll r
def uptoBulkEntries {H : Type} : List (Lit × DataW H) → Nat
  | [] => 0
  | x :: r => uptoBulkEntry x + uptoBulkEntries r
def uptoBulkEntry {H : Type} : Lit × DataW H → Nat
  | (.string bytes, d) => bytes.length + uptoBulk d + 1
  | (_, d) => uptoBulk d + 1
 end
def uptoSmall : (H : Type) → List (DataW H) → Bool := fun _ ds => decide (uptoBulkAll ds ≤ 1048576)
def OpenSpec.upto (s : _root_.Go.ChangeSpec) : _root_.Go.OpenSpec := { _root_.Go.OpenSpec.ofChange s with cond := some uptoSmall }

/-- 'diptychlaw06.WorkWalks', WHERE WHAT IT READS IS OF BULK AT MOST 1048576: true; the input reads as it did. -/
def workWalksUptoRow : OpenClaim := { program := "ytnbgdphnoopdpaa", sum := "8be848341d19dd6f76f249955bd0733c8f9c2fb94773488a37f7c3054c647f90", func := "diptych/diptychlaw06.WorkWalks", spec := "workWalks", unfollowed := true, recurses := true, apart := false, narrowed := true }
def WorkWalksUptoSaid : Prop := workWalksUptoRow.holds Try.pinned (OpenSpec.upto workWalksSpec)

/-- 'diptychlaw06.WorkReaches', WHERE WHAT IT READS IS OF BULK AT MOST 1048576: true; the input reads as it did. -/
def workReachesUptoRow : OpenClaim := { program := "ytnbgdphnoopdpaa", sum := "8be848341d19dd6f76f249955bd0733c8f9c2fb94773488a37f7c3054c647f90", func := "diptych/diptychlaw06.WorkReaches", spec := "workReaches", unfollowed := true, recurses := true, apart := false, narrowed := true }
def WorkReachesUptoSaid : Prop := workReachesUptoRow.holds Try.pinned (OpenSpec.upto workReachesSpec)

/-- 'diptychlaw06.WorkOnce', WHERE WHAT IT READS IS OF BULK AT MOST 1048576: true; the input reads as it did. -/
def workOnceUptoRow : OpenClaim := { program := "ytnbgdphnoopdpaa", sum := "8be848341d19dd6f76f249955bd0733c8f9c2fb94773488a37f7c3054c647f90", func := "diptych/diptychlaw06.WorkOnce", spec := "workOnce", unfollowed := true, recurses := true, apart := false, narrowed := true }
def WorkOnceUptoSaid : Prop := workOnceUptoRow.holds Try.pinned (OpenSpec.upto workOnceSpec)

/-- 'diptychlaw06.WorkPipes', WHERE WHAT IT READS IS OF BULK AT MOST 1048576: true; the input reads as it did. -/
def workPipesUptoRow : OpenClaim := { program := "ytnbgdphnoopdpaa", sum := "8be848341d19dd6f76f249955bd0733c8f9c2fb94773488a37f7c3054c647f90", func := "diptych/diptychlaw06.WorkPipes", spec := "workPipes", unfollowed := true, recurses := true, apart := false, narrowed := true }
def WorkPipesUptoSaid : Prop := workPipesUptoRow.holds Try.pinned (OpenSpec.upto workPipesSpec)

/-- 'diptychlaw06.WorkLists', WHERE WHAT IT READS IS OF BULK AT MOST 1048576: true; the input reads as it did. -/
def workListsUptoRow : OpenClaim := { program := "ytnbgdphnoopdpaa", sum := "8be848341d19dd6f76f249955bd0733c8f9c2fb94773488a37f7c3054c647f90", func := "diptych/diptychlaw06.WorkLists", spec := "workLists", unfollowed := true, recurses := true, apart := false, narrowed := true }
def WorkListsUptoSaid : Prop := workListsUptoRow.holds Try.pinned (OpenSpec.upto workListsSpec)

end Rows
end Go.Proofs.Ytnbgdphnoopdpaa
