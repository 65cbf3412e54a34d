/- Plain words on a walk with a stack: it is the recursion. No condition. -/
import Derived.Test.YtnbgdphnoopdpaaWorkE
namespace Go.Proofs.Ytnbgdphnoopdpaa
open Go.RowKit
namespace Work
set_option linter.unusedSimpArgs false
set_option linter.unusedVariables false
/-- One is come to; nx: what one tells; f: how many may be new yet. -/
def comeG (nx : Int → List Int × Bool) (most : Int) : Nat → List Int → Int → List Int × Bool
  | 0, out, k => if k ∈ out then (out, true) else if most ≤ (out.length : Int) then (out, false) else (out ++ [k], false)
  | f + 1, out, k => if k ∈ out then (out, true) else if most ≤ (out.length : Int) then (out, false) else if (nx k).2 = true then allF (comeG nx most f) (out ++ [k]) (nx k).1 else (out ++ [k], false)
theorem comeG_grow {U : List Int} {nx : Int → List Int × Bool} (hU : ∀ k ∈ U, ∀ j ∈ (nx k).1, j ∈ U) (most : Int) : ∀ (f : Nat) (out : List Int) (k : Int), k ∈ U → Grow U out (comeG nx most f out k).1
  | 0, out, k, hk => by
    unfold comeG
    split
    · exact Grow.refl _ _
    · rename_i h1
      split
      · exact Grow.refl _ _
      · exact Grow.snoc hk h1
  | f + 1, out, k, hk => by
    unfold comeG
    split
    · exact Grow.refl _ _
    · rename_i h1
      split
      · exact Grow.refl _ _
      · split
        · exact (Grow.snoc hk h1).trans (allF_grow (fun o j hj => comeG_grow hU most f o j hj) _ _ (hU k hk))
        · exact Grow.snoc hk h1
theorem allF_congr {U : List Int} {s1 s2 : List Int → Int → List Int × Bool} {f : Nat} (h : ∀ out k, leftN U out ≤ f → k ∈ U → s1 out k = s2 out k) (hs : ∀ out k, k ∈ U → Grow U out (s2 out k).1) : ∀ (l out : List Int), leftN U out ≤ f → (∀ k ∈ l, k ∈ U) → allF s1 out l = allF s2 out l
  | [], _, _, _ => rfl
  | k :: l, out, hl, hU => by
    have hk := hU k (by simp)
    simp only [allF]
    rw [h out k hl hk, allF_congr h hs l _ (Nat.le_trans (hs out k hk).1 hl) (fun j hj => hU j (by simp [hj]))]
theorem comeG_more {U : List Int} {nx : Int → List Int × Bool} (hU : ∀ k ∈ U, ∀ j ∈ (nx k).1, j ∈ U) (most : Int) : ∀ (f : Nat) (out : List Int) (k : Int), leftN U out ≤ f → k ∈ U → comeG nx most (f + 1) out k = comeG nx most f out k
  | 0, out, k, hl, hk => by
    have hin : k ∈ out := Classical.byContradiction fun hn => by have := leftN_snoc hk hn; omega
    unfold comeG
    rw [if_pos hin, if_pos hin]
  | f + 1, out, k, hl, hk => by
    rw [comeG, comeG]
    by_cases h1 : k ∈ out
    · rw [if_pos h1, if_pos h1]
    · rw [if_neg h1, if_neg h1]
      have h2 := leftN_snoc hk h1
      rw [allF_congr (fun o j ho hj => comeG_more hU most f o j ho hj) (fun o j hj => comeG_grow hU most f o j hj) _ _ (by omega) (hU k hk)]
theorem allF_app (step : List Int → Int → List Int × Bool) (l1 l2 out : List Int) : allF step out (l1 ++ l2) = if (allF step out l1).2 then allF step (allF step out l1).1 l2 else ((allF step out l1).1, false) := by
  cases h : (allF step out l1).2 with
  | true => rw [if_pos rfl]; exact allF_split step l1 l2 out h
  | false =>
    rw [if_neg (by simp), allF_stop step l1 l2 out h]
    exact Prod.ext rfl h
/-- What is left to go through, f large enough. -/
theorem stack_in {nx : Int → List Int × Bool} {most : Int} {f : Nat} {out : List Int} {k : Int} {s : List Int} (h : k ∈ out) : allF (comeG nx most f) out (k :: s) = allF (comeG nx most f) out s := by
  have : comeG nx most f out k = (out, true) := by cases f <;> (unfold comeG; rw [if_pos h])
  simp only [allF, this, if_true]
theorem stack_full {nx : Int → List Int × Bool} {most : Int} {f : Nat} {out : List Int} {k : Int} {s : List Int} (h : k ∉ out) (hm : most ≤ (out.length : Int)) : allF (comeG nx most f) out (k :: s) = (out, false) := by
  have : comeG nx most f out k = (out, false) := by cases f <;> (unfold comeG; rw [if_neg h, if_pos hm])
  simp only [allF, this]
  rfl
theorem stack_bad {nx : Int → List Int × Bool} {most : Int} {f : Nat} {out : List Int} {k : Int} {s : List Int} (h : k ∉ out) (hm : ¬ most ≤ (out.length : Int)) (hb : (nx k).2 = false) : allF (comeG nx most f) out (k :: s) = (out ++ [k], false) := by
  have : comeG nx most f out k = (out ++ [k], false) := by
    cases f with
    | zero => unfold comeG; rw [if_neg h, if_neg hm]
    | succ f => unfold comeG; rw [if_neg h, if_neg hm, if_neg (by simp [hb])]
  simp only [allF, this]
  rfl
theorem stack_on {U : List Int} {nx : Int → List Int × Bool} (hU : ∀ k ∈ U, ∀ j ∈ (nx k).1, j ∈ U) {most : Int} {f : Nat} {out : List Int} {k : Int} {s : List Int} (hf : leftN U out ≤ f) (hk : k ∈ U) (h : k ∉ out) (hm : ¬ most ≤ (out.length : Int)) (hb : (nx k).2 = true) :
    allF (comeG nx most f) out (k :: s) = allF (comeG nx most f) (out ++ [k]) ((nx k).1 ++ s) := by
  have h2 := leftN_snoc hk h
  obtain ⟨m, rfl⟩ : ∃ m, f = m + 1 := ⟨f - 1, by omega⟩
  have h3 : comeG nx most (m + 1) out k = allF (comeG nx most m) (out ++ [k]) (nx k).1 := by
    rw [comeG, if_neg h, if_neg hm, if_pos hb]
  rw [allF_app, allF_congr (U := U) (f := m) (fun o j ho hj => comeG_more hU most m o j ho hj) (fun o j hj => comeG_grow hU most m o j hj) _ _ (by omega) (hU k hk)]
  conv => lhs; unfold allF
  rw [h3]
/-- A walk. -/
def walkG (nx : Int → List Int × Bool) (U : List Int) (most : Int) (first : List Int) : List Int × Bool := allF (comeG nx most (leftN U [])) [] first
theorem comeG_F (es : List Edge) (bad : List Int) (most : Int) : ∀ f, comeG (fun k => (nextL es k, !decide (k ∈ bad))) most f = comeF es bad most f
  | 0 => by funext out k; rfl
  | f + 1 => by
    funext out k
    rw [comeG, comeF, comeG_F es bad most f]
    by_cases hb : k ∈ bad
    · simp [hb]
    · simp [hb]
theorem walkG_F (es : List Edge) (bad : List Int) (most : Int) (first : List Int) : walkG (fun k => (nextL es k, !decide (k ∈ bad))) (univ first es) most first = walkF first most es bad := by
  rw [walkG, walkF, comeG_F]
end Work
end Go.Proofs.Ytnbgdphnoopdpaa
