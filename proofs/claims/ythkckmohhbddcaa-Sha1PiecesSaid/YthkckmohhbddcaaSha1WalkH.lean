/- The walks of SHA-1's state: New. No condition. -/
import Derived.Test.YthkckmohhbddcaaSha1Hash
namespace Go.Proofs.Ythkckmohhbddcaa
open Go.RowKit
namespace Sha1

def stC (c : Ch) (v : Value) (n : Nat) : List Value := chW c ++ [v, .int .u64 (n : Int)]
def stZ : List Value := zW ++ [.slice none 0 0, .int .u64 0]
theorem infoS : (Try.prog.info? 50).map (fun i => (i.zero, i.size, i.bytes)) = some (some (.agg stZ.toArray), 7, 56) := by kernel_rfl
theorem infoB0 : (Try.prog.info? 5).map (fun i => (i.zero, i.size, i.bytes)) = some (some (.int .u8 0), 1, 1) := by kernel_rfl
theorem infoB : ∃ i, Try.prog.info? 5 = some i ∧ i.zero = some (.int .u8 0) ∧ i.size = 1 ∧ i.bytes = 1 := by
  obtain ⟨i, h, e⟩ := Option.map_eq_some_iff.1 infoB0
  simp only [Prod.mk.injEq] at e
  exact ⟨i, h, e.1, e.2.1, e.2.2⟩
/-- A state behind the pointer p, its bytes in a block of its own; all else is as in w0. -/
def NewIs (w : World) (e : Ending) (w' : World) : Prop := ∃ p, e = .returned (.pointer (some ⟨p, 0, none⟩)) ∧ w.heap.size ≤ p ∧ Ext w w' ∧ Blk w' p 50 (stC firstC (.slice none 0 0) 0)
set_option linter.unusedSimpArgs false
set_option linter.unusedVariables false
set_option maxRecDepth 100000 in
set_option maxHeartbeats 2000000 in
theorem new_any (w : World) : Calls Try.prog 10 #[] w (NewIs w) := by
  have hz := zero_run (P := Try.prog) infoS
  go_enter Try.func10, Try.ntmps10
  go_wp2_with fail
  refine (first_any _).mono ?_
  rintro e w1 ⟨rfl, h1⟩
  unfold chV
  go_wp2_with fail
  go_ret
  exact ⟨w1.heap.size, rfl, h1.size, h1.trans (Ext.alloc _ _), Blk.new _ _ _⟩
end Sha1
end Go.Proofs.Ythkckmohhbddcaa
