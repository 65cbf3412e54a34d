/- Words on texts: their order, and the walk's spellings of '<' and '=='. No condition. -/
import Derived.Test.YtjphmjegfpdbeaaRd
import Derived.Sort.Walk0
namespace Go.Proofs.Ytjphmjegfpdbeaa
open Go.RowKit
set_option linter.unusedSimpArgs false
set_option linter.unusedVariables false
namespace Str
abbrev S := List UInt8
theorem less_yes {a b : S} (h : a < b) : Op.bytesLess (strOf a).toList (strOf b).toList = true := by
  rw [ByteArray.toList_eq, ByteArray.toList_eq, strOf_list, strOf_list, bytesLess_eq]
  exact decide_eq_true h
theorem less_not {a b : S} (h : ¬ a < b) : Op.bytesLess (strOf a).toList (strOf b).toList = false := by
  rw [ByteArray.toList_eq, ByteArray.toList_eq, strOf_list, strOf_list, bytesLess_eq]
  exact decide_eq_false h
theorem str_ne {a b : S} (h : a ≠ b) : ((strOf a).toList == (strOf b).toList) = false := by
  rw [ByteArray.toList_eq, ByteArray.toList_eq, strOf_list, strOf_list]
  simpa using h
theorem str_neN {a b : S} (h : a ≠ b) : ((strOf a).toList != (strOf b).toList) = true := by
  simp [bne, str_ne h]
theorem str_same (a : S) : ((strOf a).toList == (strOf a).toList) = true := by simp
theorem str_sameN (a : S) : ((strOf a).toList != (strOf a).toList) = false := by simp
theorem lt_of_le_ne {a b : S} (h : a ≤ b) (hn : a ≠ b) : a < b := Decidable.byContradiction fun hc => hn (List.le_antisymm h hc)
theorem le_of_lt {a b : S} (h : a < b) : a ≤ b := fun hc => List.lt_irrefl a (List.lt_trans h hc)
/-- Two rising lists of the same are the same. -/
theorem rise_eq : ∀ (a b : List S), a.Pairwise (· < ·) → b.Pairwise (· < ·) → (∀ x, x ∈ a ↔ x ∈ b) → a = b
  | [], [], _, _, _ => rfl
  | [], y :: b, _, _, h => absurd ((h y).2 (by simp)) (by simp)
  | x :: a, [], _, _, h => absurd ((h x).1 (by simp)) (by simp)
  | x :: a, y :: b, ha, hb, h => by
    have ha1 := List.pairwise_cons.1 ha
    have hb1 := List.pairwise_cons.1 hb
    have hxy : x = y := by
      rcases List.mem_cons.1 ((h x).1 (by simp)) with h1 | h1
      · exact h1
      · rcases List.mem_cons.1 ((h y).2 (by simp)) with h2 | h2
        · exact h2.symm
        · exact absurd (List.lt_trans (ha1.1 y h2) (hb1.1 x h1)) (List.lt_irrefl x)
    subst hxy
    rw [rise_eq a b ha1.2 hb1.2 (fun z => ?_)]
    constructor
    · intro hz
      rcases List.mem_cons.1 ((h z).1 (by simp [hz])) with h1 | h1
      · subst h1; exact absurd (ha1.1 _ hz) (List.lt_irrefl _)
      · exact h1
    · intro hz
      rcases List.mem_cons.1 ((h z).2 (by simp [hz])) with h1 | h1
      · subst h1; exact absurd (hb1.1 _ hz) (List.lt_irrefl _)
      · exact h1
theorem size_strOf (s : S) : (strOf s).size = s.length := strOf_size s
end Str
end Go.Proofs.Ytjphmjegfpdbeaa
