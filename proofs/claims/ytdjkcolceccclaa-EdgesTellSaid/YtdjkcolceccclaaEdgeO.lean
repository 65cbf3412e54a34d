/- Names, each once, rising: plain. No condition. -/
import Derived.Test.YtdjkcolceccclaaEdgeG
namespace Go.Proofs.Ytdjkcolceccclaa
open Go.RowKit
namespace Edge
set_option linter.unusedSimpArgs false
set_option linter.unusedVariables false
theorem lt_of_le_ne {a b : S} (h : a ≤ b) (hn : a ≠ b) : a < b := Decidable.byContradiction fun hc => hn (List.le_antisymm h hc)
theorem le_of_lt {a b : S} (h : a < b) : a ≤ b := fun hc => List.lt_irrefl a (List.lt_trans h hc)
theorem sortP_sorted (l : List S) : (sortP l).Pairwise (· ≤ ·) := by
  have h := List.pairwise_mergeSort (le := fun (x y : S) => decide (x ≤ y)) (fun a b c h1 h2 => by simp only [decide_eq_true_eq] at *; exact List.le_trans h1 h2) (fun a b => by simp only [Bool.or_eq_true, decide_eq_true_eq]; exact List.le_total a b) l
  unfold sortP
  exact h.imp (fun h => by simpa using h)
theorem sortP_mem (l : List S) (x : S) : x ∈ sortP l ↔ x ∈ l := List.mem_mergeSort
theorem comp_step (d : Array S) (hs : ∀ i j, i < j → j < d.size → d[i]! ≤ d[j]!) : ∀ m, m ≤ d.size → (Lib.compactUpTo d m).Pairwise (· < ·) ∧ ∀ x, x ∈ Lib.compactUpTo d m ↔ ∃ i, i < m ∧ d[i]! = x
  | 0, _ => by simp [Lib.compactUpTo]
  | m + 1, hm => by
    obtain ⟨h1, h2⟩ := comp_step d hs m (by omega)
    rw [Lib.compactUpTo_succ]
    by_cases hk : Lib.keeps d m = true
    · rw [if_pos hk]
      refine ⟨List.pairwise_append.2 ⟨h1, by simp, fun x hx y hy => ?_⟩, fun x => ?_⟩
      · rw [List.mem_singleton] at hy
        subst hy
        obtain ⟨i, hi, rfl⟩ := (h2 x).1 hx
        have hm0 : m ≠ 0 := by omega
        have hne : d[m]! ≠ d[m - 1]! := by
          unfold Lib.keeps at hk
          simpa [hm0] using hk
        have hlt : d[m - 1]! < d[m]! := lt_of_le_ne (hs _ _ (by omega) (by omega)) (Ne.symm hne)
        by_cases him : i = m - 1
        · rw [him]; exact hlt
        · exact List.lt_of_le_of_lt (hs i (m - 1) (by omega) (by omega)) hlt
      · rw [List.mem_append, List.mem_singleton, h2]
        constructor
        · rintro (⟨i, hi, he⟩ | rfl)
          · exact ⟨i, by omega, he⟩
          · exact ⟨m, by omega, rfl⟩
        · rintro ⟨i, hi, he⟩
          by_cases him : i = m
          · subst him; exact .inr he.symm
          · exact .inl ⟨i, by omega, he⟩
    · rw [if_neg hk, List.append_nil]
      refine ⟨h1, fun x => ?_⟩
      rw [h2]
      constructor
      · rintro ⟨i, hi, he⟩
        exact ⟨i, by omega, he⟩
      · rintro ⟨i, hi, he⟩
        by_cases him : i = m
        · subst him
          have hm0 : i ≠ 0 := fun h0 => hk (by rw [h0]; exact Lib.keeps_lt_one d 0 (by omega))
          have hne : d[i]! = d[i - 1]! := by
            unfold Lib.keeps at hk
            simpa [hm0] using hk
          exact ⟨i - 1, by omega, by rw [← hne]; exact he⟩
        · exact ⟨i, by omega, he⟩
/-- Each once, rising. -/
def nP (ids : List S) : List S := compP (sortP ids)
theorem nP_both (ids : List S) : (nP ids).Pairwise (· < ·) ∧ ∀ x, x ∈ nP ids ↔ x ∈ ids := by
  have hs : ∀ i j, i < j → j < (sortP ids).toArray.size → (sortP ids).toArray[i]! ≤ (sortP ids).toArray[j]! := fun i j hij hj => by
    simp only [List.size_toArray] at hj
    have := List.pairwise_iff_getElem.1 (sortP_sorted ids) i j (by omega) hj hij
    rw [getElem!_pos _ i (by simp; omega), getElem!_pos _ j (by simpa using hj)]
    simpa using this
  obtain ⟨h1, h2⟩ := comp_step (sortP ids).toArray hs (sortP ids).toArray.size (Nat.le_refl _)
  refine ⟨h1, fun x => ?_⟩
  show x ∈ Lib.compactUpTo _ _ ↔ _
  rw [h2, ← sortP_mem ids x, List.mem_iff_getElem]
  simp only [List.size_toArray]
  constructor
  · rintro ⟨i, hi, he⟩
    exact ⟨i, hi, by rw [← he, getElem!_pos _ i (by simpa using hi)]; simp⟩
  · rintro ⟨i, hi, he⟩
    exact ⟨i, hi, by rw [← he, getElem!_pos _ i (by simpa using hi)]; simp⟩
theorem nP_rise (ids : List S) : (nP ids).Pairwise (· < ·) := (nP_both ids).1
theorem nP_mem (ids : List S) (x : S) : x ∈ nP ids ↔ x ∈ ids := (nP_both ids).2 x
theorem nP_len (ids : List S) : (nP ids).length ≤ ids.length := by
  have h1 := compP_len (sortP ids)
  rw [sortP_len] at h1
  exact h1
/-- Two rising lists of the same are the same. -/
theorem rise_eq : ∀ (a b : List S), a.Pairwise (· < ·) → b.Pairwise (· < ·) → (∀ x, x ∈ a ↔ x ∈ b) → a = b
  | [], [], _, _, _ => rfl
  | [], y :: b, _, _, h => absurd ((h y).2 (by simp)) (by simp)
  | x :: a, [], _, _, h => absurd ((h x).1 (by simp)) (by simp)
  | x :: a, y :: b, ha, hb, h => by
    have ha1 := List.pairwise_cons.1 ha
    have hb1 := List.pairwise_cons.1 hb
    have hxy : x = y := by
      rcases List.mem_cons.1 ((h x).1 (by simp)) with h1 | h1
      · exact h1
      · rcases List.mem_cons.1 ((h y).2 (by simp)) with h2 | h2
        · exact h2.symm
        · exact absurd (List.lt_trans (ha1.1 y h2) (hb1.1 x h1)) (List.lt_irrefl x)
    subst hxy
    rw [rise_eq a b ha1.2 hb1.2 (fun z => ?_)]
    constructor
    · intro hz
      rcases List.mem_cons.1 ((h z).1 (by simp [hz])) with h1 | h1
      · subst h1; exact absurd (ha1.1 _ hz) (List.lt_irrefl _)
      · exact h1
    · intro hz
      rcases List.mem_cons.1 ((h z).2 (by simp [hz])) with h1 | h1
      · subst h1; exact absurd (hb1.1 _ hz) (List.lt_irrefl _)
      · exact h1
/-- With a word ahead of each. -/
theorem nP_pre (s : S) (ids : List S) : nP (ids.map (s ++ ·)) = (nP ids).map (s ++ ·) := by
  refine rise_eq _ _ (nP_rise _) ?_ (fun x => ?_)
  · rw [List.pairwise_map]
    exact (nP_rise ids).imp (fun h => List.append_left_lt h)
  · rw [nP_mem, List.mem_map, List.mem_map]
    constructor
    · rintro ⟨y, hy, rfl⟩; exact ⟨y, (nP_mem _ _).2 hy, rfl⟩
    · rintro ⟨y, hy, rfl⟩; exact ⟨y, (nP_mem _ _).1 hy, rfl⟩
end Edge
end Go.Proofs.Ytdjkcolceccclaa
