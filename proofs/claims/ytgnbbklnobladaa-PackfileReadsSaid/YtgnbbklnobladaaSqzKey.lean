/- Four bytes as a key of a map. No condition. -/
import Derived.Test.YtgnbbklnobladaaSqzWalkF
import Derived.DeepKeys4
import Derived.Maps.Own
import Derived.Maps.OwnOps
import Derived.Maps.OwnSet
namespace Go.Proofs.Ytgnbbklnobladaa
open Go.RowKit Go.Maps
namespace Sqz
theorem laid08 : laidOutB Try.prog = true := by kernel_rfl
theorem row46 : (82 : TypeId) < Try.prog.types.size := of_decide_eq_true (by kernel_rfl)
theorem wide46 : (match Try.prog.underlying 82 with | some (.array _ _) | some (.struct _) => true | _ => false) = true := by rw [Try.underlying82]
theorem law46 : Keyed Try.prog 82 := Keyed.of_law (deep_law_laid laid08 (m := 2) (by omega) row46 (by kernel_rfl) wide46)
theorem zero3 (w : World) : (zeroValue 3).run Try.prog w = .ok (.int .i64 0) w := by kernel_rfl
theorem cells46 : Try.prog.cellsOf 82 = 4 := by kernel_rfl
theorem cells5 : Try.prog.cellsOf 5 = 1 := by kernel_rfl
theorem kt46 : Try.prog.keyType 82 = true := by kernel_rfl
theorem wf8 (a : Int) (h : 0 ≤ a ∧ a < 256) : (Lit.int .u8 a).wf = true := by
  have h1 : IntKind.u8.min = 0 := by decide
  have h2 : IntKind.u8.max = 255 := by decide
  simp [Lit.wf, h1, h2]
  omega
theorem lits1 (n : Nat) (a : Int) (h : 0 ≤ a ∧ a < 256) : Try.prog.keyLits (n + 1) 5 [.int .u8 a] = some [.int .u8 a] := by
  unfold Program.keyLits
  simp [Try.underlying5, wf8 a h]
set_option maxRecDepth 100000 in
theorem key4 (a b c d : Int) (ha : 0 ≤ a ∧ a < 256) (hb : 0 ≤ b ∧ b < 256) (hc : 0 ≤ c ∧ c < 256) (hd : 0 ≤ d ∧ d < 256) :
    ∃ kl, keyOf Try.prog 82 (.agg #[.int .u8 a, .int .u8 b, .int .u8 c, .int .u8 d]) = some kl := by
  have hf : Value.formed Try.prog 82 (.agg #[.int .u8 a, .int .u8 b, .int .u8 c, .int .u8 d]) = true := by simp [Value.formed, Try.underlying82, cells46]
  have hl : ∀ n, Try.prog.keyLits (n + 3) 82 (Value.agg #[.int .u8 a, .int .u8 b, .int .u8 c, .int .u8 d]).cells.toList = some [.int .u8 a, .int .u8 b, .int .u8 c, .int .u8 d] := by
    intro n
    unfold Program.keyLits
    simp [Try.underlying82, cells46, cells5, Value.cells, List.range, List.range.loop, lits1 _ a ha, lits1 _ b hb, lits1 _ c hc, lits1 _ d hd]
  simp [keyOf, Try.underlying82, kt46, hf]
  exact ⟨_, _, hl _, rfl⟩
end Sqz
end Go.Proofs.Ytgnbbklnobladaa
