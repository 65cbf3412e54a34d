/-
  No cell of these rows narrows 'for every input' (looked for: loops, veiled, ifaces, maps, wideKeys, modest, calm, conditions, laid).
  DERIVED. THE GIVEN ROWS OF THIS SEAT. 4 by the template 'for every input the law returns true; each argument reads behind the call as it read before'; 0 by the template 'total and deterministic' (their statements: YthkckmohhbddcaaTotals.lean).
  GIVEN WITH THE SEED: the statements are not yours to turn. If you find one false, say at which input.
  Laid BY PROGRAM, IN A SANDBOX (cutbox-rows.mjs): the forced cells as the released guide's own fill.sh prints them over the translation 2a5889fe1e5bbcde… (all of the seat's roots in one cut). By AI agents, Wed Nov 11 2026. No macro, syntax, notation, axiom, sorry.
-/
import Derived.Test.YthkckmohhbddcaaChecked
import GoSem.Claim
import GoSem.ClaimJoined
import GoSem.ClaimMapViews
import Derived.JoinedTies
import Derived.KernelRfl
namespace Go.Proofs.Ythkckmohhbddcaa
/- THE CELL 'sum', in the pinned program and in every row, IS THE sha256 OF THE DUMP (.gsa) THAT YthkckmohhbddcaaProg.lean LOADS. Nothing in Lean hashes anything: it is a label: what it is worth is what the hold of that sum in a sandbox is worth. -/
noncomputable def Try.pinned : Pinned := { name := "ythkckmohhbddcaa", sum := "2a5889fe1e5bbcdecafb1bf88217361e594ae8299ef381e4b7c93064494033f3", checked := Try.checked }
namespace Rows
def none {H : Type} : Left H := { results := [], args := [] }

/-- 'diptychlaw02.Sha1Sums': WHATEVER THE INPUT: true; the input reads as it did. -/
def sha1SumsSpec : ChangeSpec := { name := "sha1Sums", fn := fun _ => fun
  | [d] => { results := [.lit (.bool true)], args := [d] }
  | _ => none }
def sha1SumsRow : OpenClaim := { program := "ythkckmohhbddcaa", sum := "2a5889fe1e5bbcdecafb1bf88217361e594ae8299ef381e4b7c93064494033f3", func := "diptych/diptychlaw02.Sha1Sums", spec := "sha1Sums", apart := false }
def Sha1SumsSaid : Prop := sha1SumsRow.holds Try.pinned (OpenSpec.ofChange sha1SumsSpec)

/-- ITS FALSE NEIGHBOUR: 'it returns false'. Refute it at one input. -/
def sha1SumsWrong : ChangeSpec := { name := "sha1Sums", fn := fun _ => fun
  | [d] => { results := [.lit (.bool false)], args := [d] }
  | _ => none }
def Sha1SumsWrongFalsely : Prop := sha1SumsRow.holds Try.pinned (OpenSpec.ofChange sha1SumsWrong)

/-- 'diptychlaw02.Sha1Pieces': WHATEVER THE INPUT: true; the input reads as it did. -/
def sha1PiecesSpec : ChangeSpec := { name := "sha1Pieces", fn := fun _ => fun
  | [d1, d2] => { results := [.lit (.bool true)], args := [d1, d2] }
  | _ => none }
def sha1PiecesRow : OpenClaim := { program := "ythkckmohhbddcaa", sum := "2a5889fe1e5bbcdecafb1bf88217361e594ae8299ef381e4b7c93064494033f3", func := "diptych/diptychlaw02.Sha1Pieces", spec := "sha1Pieces", apart := false }
def Sha1PiecesSaid : Prop := sha1PiecesRow.holds Try.pinned (OpenSpec.ofChange sha1PiecesSpec)

/-- ITS FALSE NEIGHBOUR: 'it returns false'. Refute it at one input. -/
def sha1PiecesWrong : ChangeSpec := { name := "sha1Pieces", fn := fun _ => fun
  | [d1, d2] => { results := [.lit (.bool false)], args := [d1, d2] }
  | _ => none }
def Sha1PiecesWrongFalsely : Prop := sha1PiecesRow.holds Try.pinned (OpenSpec.ofChange sha1PiecesWrong)

/-- 'diptychlaw02.Sha1Blocks': WHATEVER THE INPUT: true; the input reads as it did. -/
def sha1BlocksSpec : ChangeSpec := { name := "sha1Blocks", fn := fun _ => fun
  | [d] => { results := [.lit (.bool true)], args := [d] }
  | _ => none }
def sha1BlocksRow : OpenClaim := { program := "ythkckmohhbddcaa", sum := "2a5889fe1e5bbcdecafb1bf88217361e594ae8299ef381e4b7c93064494033f3", func := "diptych/diptychlaw02.Sha1Blocks", spec := "sha1Blocks", apart := false }
def Sha1BlocksSaid : Prop := sha1BlocksRow.holds Try.pinned (OpenSpec.ofChange sha1BlocksSpec)

/-- ITS FALSE NEIGHBOUR: 'it returns false'. Refute it at one input. -/
def sha1BlocksWrong : ChangeSpec := { name := "sha1Blocks", fn := fun _ => fun
  | [d] => { results := [.lit (.bool false)], args := [d] }
  | _ => none }
def Sha1BlocksWrongFalsely : Prop := sha1BlocksRow.holds Try.pinned (OpenSpec.ofChange sha1BlocksWrong)

/-- 'diptychlaw02.Sha1Steps': WHATEVER THE INPUT: true; the input reads as it did. -/
def sha1StepsSpec : ChangeSpec := { name := "sha1Steps", fn := fun _ => fun
  | [d1, d2, d3, d4] => { results := [.lit (.bool true)], args := [d1, d2, d3, d4] }
  | _ => none }
def sha1StepsRow : OpenClaim := { program := "ythkckmohhbddcaa", sum := "2a5889fe1e5bbcdecafb1bf88217361e594ae8299ef381e4b7c93064494033f3", func := "diptych/diptychlaw02.Sha1Steps", spec := "sha1Steps", apart := false }
def Sha1StepsSaid : Prop := sha1StepsRow.holds Try.pinned (OpenSpec.ofChange sha1StepsSpec)

/-- ITS FALSE NEIGHBOUR: 'it returns false'. Refute it at one input. -/
def sha1StepsWrong : ChangeSpec := { name := "sha1Steps", fn := fun _ => fun
  | [d1, d2, d3, d4] => { results := [.lit (.bool false)], args := [d1, d2, d3, d4] }
  | _ => none }
def Sha1StepsWrongFalsely : Prop := sha1StepsRow.holds Try.pinned (OpenSpec.ofChange sha1StepsWrong)

/- THE SECOND FORM. 'bulk': how many values and letters a reading holds, each counted each time it is reached (what is shared counts as often as it is met; a slice's spare places count too). A statement '..UptoSaid' is the law's where the arguments, and the package variables that the reading takes, are together of bulk at most 1048576: NARROWER than '..Said'. Prove '..Said' where nothing that the law and all that it calls make is longer than what came in: it says more and counts as full. Else prove '..UptoSaid'. A law counts once. -/
mutual
def uptoBulk {H : Type} : DataW H → Nat
  | .lit (.string bytes) => bytes.length + 1
  | .lit _ => 1
  | .nil => 1
  | .ptr d => uptoBulk d + 1
  | .slice elems spare => uptoBulkAll elems + uptoBulkAll spare + 1
  | .agg parts => uptoBulkAll parts + 1
  | .iface _ d => uptoBulk d + 1
  | .map entries => uptoBulkEntries entries + 1
  | .held _ => 1
def uptoBulkAll {H : Type} : List (DataW H) → Nat
  | [] => 0
  | d :: r => uptoBulk d + uptoBulkAll r
def uptoBulkEntries {H : Type} : List (Lit × DataW H) → Nat
  | [] => 0
  | x :: r => uptoBulkEntry x + uptoBulkEntries r
def uptoBulkEntry {H : Type} : Lit × DataW H → Nat
  | (.string bytes, d) => bytes.length + uptoBulk d + 1
  | (_, d) => uptoBulk d + 1
 end
def uptoSmall : (H : Type) → List (DataW H) → Bool := fun _ ds => decide (uptoBulkAll ds ≤ 1048576)
def OpenSpec.upto (s : _root_.Go.ChangeSpec) : _root_.Go.OpenSpec := { _root_.Go.OpenSpec.ofChange s with cond := some uptoSmall }

/-- 'diptychlaw02.Sha1Sums', WHERE WHAT IT READS IS OF BULK AT MOST 1048576: true; the input reads as it did. -/
def sha1SumsUptoRow : OpenClaim := { program := "ythkckmohhbddcaa", sum := "2a5889fe1e5bbcdecafb1bf88217361e594ae8299ef381e4b7c93064494033f3", func := "diptych/diptychlaw02.Sha1Sums", spec := "sha1Sums", apart := false, narrowed := true }
def Sha1SumsUptoSaid : Prop := sha1SumsUptoRow.holds Try.pinned (OpenSpec.upto sha1SumsSpec)

/-- 'diptychlaw02.Sha1Pieces', WHERE WHAT IT READS IS OF BULK AT MOST 1048576: true; the input reads as it did. -/
def sha1PiecesUptoRow : OpenClaim := { program := "ythkckmohhbddcaa", sum := "2a5889fe1e5bbcdecafb1bf88217361e594ae8299ef381e4b7c93064494033f3", func := "diptych/diptychlaw02.Sha1Pieces", spec := "sha1Pieces", apart := false, narrowed := true }
def Sha1PiecesUptoSaid : Prop := sha1PiecesUptoRow.holds Try.pinned (OpenSpec.upto sha1PiecesSpec)

/-- 'diptychlaw02.Sha1Blocks', WHERE WHAT IT READS IS OF BULK AT MOST 1048576: true; the input reads as it did. -/
def sha1BlocksUptoRow : OpenClaim := { program := "ythkckmohhbddcaa", sum := "2a5889fe1e5bbcdecafb1bf88217361e594ae8299ef381e4b7c93064494033f3", func := "diptych/diptychlaw02.Sha1Blocks", spec := "sha1Blocks", apart := false, narrowed := true }
def Sha1BlocksUptoSaid : Prop := sha1BlocksUptoRow.holds Try.pinned (OpenSpec.upto sha1BlocksSpec)

/-- 'diptychlaw02.Sha1Steps', WHERE WHAT IT READS IS OF BULK AT MOST 1048576: true; the input reads as it did. -/
def sha1StepsUptoRow : OpenClaim := { program := "ythkckmohhbddcaa", sum := "2a5889fe1e5bbcdecafb1bf88217361e594ae8299ef381e4b7c93064494033f3", func := "diptych/diptychlaw02.Sha1Steps", spec := "sha1Steps", apart := false, narrowed := true }
def Sha1StepsUptoSaid : Prop := sha1StepsUptoRow.holds Try.pinned (OpenSpec.upto sha1StepsSpec)

end Rows
end Go.Proofs.Ythkckmohhbddcaa
