/- Plain words on lists of whole numbers. No condition. -/
import Derived.Test.YtgnbbklnobladaaBufMore
namespace Go.Proofs.Ytgnbbklnobladaa
open Go.RowKit
namespace Work
abbrev ints (xs : List Int) : List Value := numsV .i64 xs
theorem ints_length (xs : List Int) : (ints xs).length = xs.length := by simp [numsV]
theorem ints_append (xs ys : List Int) : ints (xs ++ ys) = ints xs ++ ints ys := by simp [numsV]
theorem ints_at (xs : List Int) (i : Nat) (h : i < xs.length) : (ints xs)[i]? = some (.int .i64 (xs.getD i 0)) := numsV_at .i64 xs i h
theorem ints_one (xs : List Int) : ∀ u ∈ ints xs, u.oneCell' = true := by
  intro u hu
  obtain ⟨x, _, rfl⟩ := List.mem_map.1 hu
  rfl
theorem ints_drop (xs : List Int) (k : Nat) : ints (xs.drop k) = (ints xs).drop k := by simp [numsV, List.map_drop]
theorem ints_take (xs : List Int) (k : Nat) : ints (xs.take k) = (ints xs).take k := by simp [numsV, List.map_take]
theorem take_snoc (xs : List Int) (i : Nat) (h : i < xs.length) : xs.take (i + 1) = xs.take i ++ [xs.getD i 0] := by
  rw [List.take_succ_eq_append_getElem h, List.getD_eq_getElem?_getD, List.getElem?_eq_getElem h]; rfl
/-- An own row is a row. -/
theorem row_of_buf {w : World} {B : Nat} {e : TypeId} {A : Option Addr} {n cap : Nat} {xs : List Value} (h : Buf w B e (.slice A n cap) xs) : Row w A xs := by
  by_cases hne : xs = []
  · exact .inl hne
  · right
    cases xs with
    | nil => exact absurd rfl hne
    | cons x ys =>
      obtain ⟨b, off, rfl, -⟩ := h.cell (j := 0) (u := x) rfl
      refine ⟨b, off, rfl, fun j v hv => ?_⟩
      obtain ⟨b', off', e', hc⟩ := h.cell hv
      cases e'
      exact hc
theorem Row.front {w : World} {A : Option Addr} {xs : List Value} (h : Row w A xs) (k : Nat) : Row w A (xs.take k) := by
  rcases h with rfl | ⟨b, off, e, hc⟩
  · exact .inl (by simp)
  · refine .inr ⟨b, off, e, fun j v hv => hc j v ?_⟩
    rw [List.getElem?_take] at hv
    split at hv
    · exact hv
    · cases hv
end Work
end Go.Proofs.Ytgnbbklnobladaa
