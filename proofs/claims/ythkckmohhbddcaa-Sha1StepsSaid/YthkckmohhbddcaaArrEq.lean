/- '==' of an array of whole numbers with itself. No condition. -/
import Derived.Test.YthkckmohhbddcaaArr
import Derived.ChangeKeysEq
import Derived.Laws.StructEq
namespace Go.Proofs.Ythkckmohhbddcaa
open Go.RowKit
theorem run_eqItems_self {P : Program} (w : World) (d : Nat) (e : TypeId) (k : IntKind) (hk : P.underlying e = some (.int k)) (xs : List Int) : ∀ is : List Nat, (∀ i ∈ is, i < xs.length) →
    (Op.eqItems (d + 1) e 1 (numsV k xs).toArray (numsV k xs).toArray is).run P w = .ok true w
  | [], _ => by simp [Op.eqItems]
  | i :: is, h => by
    have hi : i < xs.length := h i (by simp)
    have hx : (numsV k xs)[i]? = some (.int k (xs.getD i 0)) := numsV_at _ _ _ hi
    have hpart : (part e (numsV k xs).toArray i).run P w = .ok (.int k (xs.getD i 0)) w := by
      simp only [part, isAgg, Sem.run_bind, run_underlying hk, Result.andThen_ok, Sem.run_pure]
      simp [hx]
    have ih := run_eqItems_self w d e k hk xs is (fun j hj => h j (by simp [hj]))
    simp [Op.eqItems, hpart, run_equalIn_int w d e k k _ _ hk, ih]
theorem run_equal_nums {P : Program} (w : World) (d n : Nat) (t e : TypeId) (i : TypeInfo) (k : IntKind) (hu : P.underlying t = some (.array n e)) (hi : P.info? e = some i) (hk : P.underlying e = some (.int k)) (hc : P.cellsOf e = 1) (xs : List Int) (hl : xs.length = n) :
    (Op.equalIn (d + 2) t (.agg (numsV k xs).toArray) (.agg (numsV k xs).toArray)).run P w = .ok true w := by
  rw [run_equalIn_array w (d + 1) _ _ hu hi, hc]
  exact run_eqItems_self w d e k hk xs _ (fun j hj => by rw [hl]; simpa using hj)
end Go.Proofs.Ythkckmohhbddcaa
