/- The walk of the document's Rise. No condition. -/
import Derived.Test.YtdjkcolceccclaaEdgeO
import Derived.Test.YtdjkcolceccclaaBufReg
import Derived.Sort.Walk0
import Derived.BigQuiet
import Derived.IntWalk
import Derived.Deep.RegionHeldLaw
import Derived.Deep.DeepCutAuto
namespace Go.Proofs.Ytdjkcolceccclaa
open Go.RowKit
namespace Edge
set_option linter.unusedSimpArgs false
set_option linter.unusedVariables false
/-- How many of a rising list come ahead. -/
def posP (out : List S) (x : S) : Nat := (out.takeWhile fun y => decide (y < x)).length
def insP (out : List S) (x : S) : List S := if out[posP out x]? = some x then out else out.take (posP out x) ++ [x] ++ out.drop (posP out x)
def riseP (l : List S) : List S := l.foldl insP []
theorem posP_le (out : List S) (x : S) : posP out x ≤ out.length := (List.takeWhile_prefix _).length_le
theorem posP_lt {out : List S} {x : S} {k : Nat} (hk : k < posP out x) : ∃ y, out[k]? = some y ∧ y < x := by
  have h1 := posP_le out x
  have hm : (out.takeWhile fun y => decide (y < x))[k]'hk ∈ out.takeWhile fun y => decide (y < x) := List.getElem_mem _
  have h2 := List.all_eq_true.1 (List.all_takeWhile (p := fun y => decide (y < x)) (l := out)) _ hm
  refine ⟨_, ?_, of_decide_eq_true h2⟩
  have h3 := (List.takeWhile_prefix (fun y => decide (y < x)) (l := out)).getElem hk
  rw [List.getElem?_eq_getElem (by omega), h3]
theorem posP_at {out : List S} {x y : S} (h : out[posP out x]? = some y) : ¬ y < x := by
  have hk := (List.getElem?_eq_some_iff.1 h).1
  intro hc
  have h1 : out.dropWhile (fun y => decide (y < x)) = out.drop (posP out x) := by
    have := List.takeWhile_append_dropWhile (p := fun y => decide (y < x)) (l := out)
    have h2 : out.drop (posP out x) = (out.takeWhile (fun y => decide (y < x)) ++ out.dropWhile (fun y => decide (y < x))).drop (posP out x) := by rw [this]
    rw [h2]
    unfold posP
    rw [List.drop_left]
  have h3 : (out.drop (posP out x)).head? = some y := by rw [List.head?_drop]; exact h
  rw [← h1] at h3
  have h4 := List.head?_dropWhile_not (fun y => decide (y < x)) out
  rw [h3] at h4
  simp at h4
  exact h4 hc
theorem insP_mem (out : List S) (x y : S) : y ∈ insP out x ↔ y ∈ out ∨ y = x := by
  unfold insP
  split
  · rename_i h
    have := List.mem_of_getElem? h
    constructor
    · exact .inl
    · rintro (h1 | rfl)
      · exact h1
      · exact this
  · rw [List.mem_append, List.mem_append, List.mem_singleton]
    constructor
    · rintro ((h1 | h1) | h1)
      · exact .inl (List.mem_of_mem_take h1)
      · exact .inr h1
      · exact .inl (List.mem_of_mem_drop h1)
    · rintro (h1 | h1)
      · rw [← List.take_append_drop (posP out x) out, List.mem_append] at h1
        rcases h1 with h1 | h1
        · exact .inl (.inl h1)
        · exact .inr h1
      · exact .inl (.inr h1)
theorem insP_rise {out : List S} (h : out.Pairwise (· < ·)) (x : S) : (insP out x).Pairwise (· < ·) := by
  unfold insP
  split
  · exact h
  · rename_i hn
    have hx1 : ∀ y ∈ out.take (posP out x), y < x := fun y hy => by
      obtain ⟨i, hi, rfl⟩ := List.mem_iff_getElem.1 hy
      rw [List.length_take] at hi
      obtain ⟨z, hz, hzx⟩ := posP_lt (out := out) (x := x) (k := i) (by omega)
      rw [List.getElem_take]
      rw [List.getElem?_eq_getElem (by omega)] at hz
      injection hz with hz
      rw [hz]; exact hzx
    have hx2 : ∀ y ∈ out.drop (posP out x), x < y := fun y hy => by
      obtain ⟨i, hi, rfl⟩ := List.mem_iff_getElem.1 hy
      rw [List.length_drop] at hi
      rw [List.getElem_drop]
      have hp : posP out x < out.length := by omega
      have h0 := posP_at (out := out) (x := x) (y := out[posP out x]) (List.getElem?_eq_getElem hp)
      have hne : out[posP out x] ≠ x := fun e => hn (by rw [List.getElem?_eq_getElem hp, e])
      have h2 : x < out[posP out x] := lt_of_le_ne h0 (Ne.symm hne)
      by_cases hi0 : i = 0
      · subst hi0; exact h2
      · exact List.lt_trans h2 (List.pairwise_iff_getElem.1 h (posP out x) (posP out x + i) hp (by omega) (by omega))
    rw [List.pairwise_append, List.pairwise_append]
    refine ⟨⟨h.sublist (List.take_sublist _ _), by simp, fun a ha b hb => ?_⟩, h.sublist (List.drop_sublist _ _), fun a ha b hb => ?_⟩
    · rw [List.mem_singleton] at hb; subst hb; exact hx1 a ha
    · rw [List.mem_append, List.mem_singleton] at ha
      rcases ha with ha | rfl
      · exact List.lt_trans (hx1 a ha) (hx2 b hb)
      · exact hx2 b hb
theorem rise_fold : ∀ (l out : List S), out.Pairwise (· < ·) → (l.foldl insP out).Pairwise (· < ·) ∧ ∀ y, y ∈ l.foldl insP out ↔ y ∈ out ∨ y ∈ l
  | [], out, h => ⟨h, by simp⟩
  | x :: l, out, h => by
    obtain ⟨h1, h2⟩ := rise_fold l (insP out x) (insP_rise h x)
    refine ⟨h1, fun y => ?_⟩
    rw [List.foldl_cons, h2, insP_mem, List.mem_cons]
    constructor
    · rintro ((h | h) | h)
      · exact .inl h
      · exact .inr (.inl h)
      · exact .inr (.inr h)
    · rintro (h | h | h)
      · exact .inl (.inl h)
      · exact .inl (.inr h)
      · exact .inr h
/-- It is the library's sorted and compacted list. -/
theorem riseP_eq (l : List S) : riseP l = nP l := by
  obtain ⟨h1, h2⟩ := rise_fold l [] (by simp)
  refine rise_eq _ _ h1 (nP_rise l) (fun x => ?_)
  show x ∈ l.foldl insP [] ↔ _
  rw [h2, nP_mem]
  simp
theorem insP_len (out : List S) (x : S) : (insP out x).length ≤ out.length + 1 := by
  unfold insP
  split
  · omega
  · rw [List.length_append, List.length_append, List.length_take, List.length_drop, List.length_singleton]
    have := posP_le out x
    omega
theorem rise_take_len (l : List S) (i : Nat) : (riseP (l.take i)).length ≤ i := by
  have : ∀ (l out : List S), (l.foldl insP out).length ≤ out.length + l.length := by
    intro l
    induction l with
    | nil => intro out; simp
    | cons x l ih => intro out; rw [List.foldl_cons, List.length_cons]; have := ih (insP out x); have := insP_len out x; omega
  have h := this (l.take i) []
  rw [List.length_take] at h
  simp only [List.length_nil] at h
  unfold riseP
  omega
end Edge
end Go.Proofs.Ytdjkcolceccclaa
