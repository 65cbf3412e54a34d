/- Plain words on the reference's walk. No condition. -/
import Derived.Test.YtnbgdphnoopdpaaWorkD
namespace Go.Proofs.Ytnbgdphnoopdpaa
open Go.RowKit
namespace Work
set_option linter.unusedSimpArgs false
set_option linter.unusedVariables false
/-- One behind the other, till one says false. -/
def allF (step : List Int → Int → List Int × Bool) : List Int → List Int → List Int × Bool
  | out, [] => (out, true)
  | out, k :: l => if (step out k).2 then allF step (step out k).1 l else ((step out k).1, false)
/-- One is come to; f: how many may be new yet. -/
def comeF (es : List Edge) (bad : List Int) (most : Int) : Nat → List Int → Int → List Int × Bool
  | 0, out, k => if k ∈ out then (out, true) else if most ≤ (out.length : Int) then (out, false) else (out ++ [k], false)
  | f + 1, out, k => if k ∈ out then (out, true) else if most ≤ (out.length : Int) then (out, false) else if k ∈ bad then (out ++ [k], false) else allF (comeF es bad most f) (out ++ [k]) (nextL es k)
/-- How many of U are not in out. -/
def leftN (U out : List Int) : Nat := (U.filter (fun k => decide (k ∉ out))).length
theorem leftN_snoc {U out : List Int} {k : Int} (hk : k ∈ U) (hn : k ∉ out) : leftN U (out ++ [k]) < leftN U out := by
  unfold leftN
  induction U with
  | nil => cases hk
  | cons x U ih =>
    have hle : ∀ V : List Int, (V.filter (fun j => decide (j ∉ out ++ [k]))).length ≤ (V.filter (fun j => decide (j ∉ out))).length := by
      intro V
      induction V with
      | nil => simp
      | cons y V ih2 =>
        by_cases h1 : y ∈ out
        · simp [List.filter_cons, h1] at ih2 ⊢; exact ih2
        · by_cases h2 : y = k
          · subst h2; simp [List.filter_cons, h1] at ih2 ⊢; omega
          · simp [List.filter_cons, h1, h2] at ih2 ⊢; exact ih2
    by_cases hx : x = k
    · subst hx
      have := hle U
      simp [List.filter_cons, hn] at this ⊢
      omega
    · have hU : k ∈ U := by
        rcases List.mem_cons.1 hk with h | h
        · exact absurd h.symm hx
        · exact h
      have := ih hU
      by_cases h1 : x ∈ out
      · simp [List.filter_cons, h1] at this ⊢; exact this
      · simp [List.filter_cons, h1, hx] at this ⊢; exact this
end Work
end Go.Proofs.Ytnbgdphnoopdpaa
