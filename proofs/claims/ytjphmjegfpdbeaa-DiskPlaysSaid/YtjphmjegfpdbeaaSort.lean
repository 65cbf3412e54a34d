/- slices.Sort at a list of texts. No condition. -/
import Derived.Test.YtjphmjegfpdbeaaRowPut
import Derived.Test.YtjphmjegfpdbeaaBufMore
import Derived.Test.YtjphmjegfpdbeaaStr
import Derived.Test.YtjphmjegfpdbeaaLayB
namespace Go.Proofs.Ytjphmjegfpdbeaa
open Go.RowKit Go.Shelf
namespace Str
set_option linter.unusedSimpArgs false
set_option linter.unusedVariables false
theorem infoT : ∃ i : TypeInfo, Try.prog.info? 9 = some i ∧ i.zero = some (.string ByteArray.empty) ∧ i.size = 1 ∧ i.bytes = 16 := by
  have h : (Try.prog.info? 9).map (fun i => (i.zero, i.size, i.bytes)) = some (some (.string ByteArray.empty), 1, 16) := by kernel_rfl
  obtain ⟨i, hi, he⟩ := Option.map_eq_some_iff.1 h
  injection he with e1 e2
  injection e2 with e2 e3
  exact ⟨i, hi, e1, e2, e3⟩
def sortP (l : List S) : List S := l.mergeSort fun x y => decide (x ≤ y)
theorem sortP_len (l : List S) : (sortP l).length = l.length := List.length_mergeSort _
theorem sortP_sorted (l : List S) : (sortP l).Pairwise (· ≤ ·) := by
  have h := List.pairwise_mergeSort (le := fun (x y : S) => decide (x ≤ y)) (fun a b c h1 h2 => by simp only [decide_eq_true_eq] at *; exact List.le_trans h1 h2) (fun a b => by simp only [Bool.or_eq_true, decide_eq_true_eq]; exact List.le_total a b) l
  unfold sortP
  exact h.imp (fun h => by simpa using h)
theorem sortP_mem (l : List S) (x : S) : x ∈ sortP l ↔ x ∈ l := List.mem_mergeSort
theorem sortP_perm (l : List S) : (sortP l).Perm l := List.mergeSort_perm _ _
/-- Sorted, a list without doubles is the rising list of the same. -/
theorem sortP_eq {l L : List S} (hp : l.Perm L) (hL : L.Pairwise (· < ·)) : sortP l = L := by
  have hnd : (sortP l).Nodup := ((sortP_perm l).trans hp).nodup_iff.2 (by
    unfold List.Nodup
    exact List.Pairwise.imp (S := fun a b => a ≠ b) (fun {a b} h e => List.lt_irrefl b (by rw [e] at h; exact h)) hL)
  refine rise_eq _ _ ?_ hL (fun x => by rw [sortP_mem, hp.mem_iff])
  have h1 := sortP_sorted l
  have h2 := List.pairwise_and_iff.2 ⟨h1, hnd⟩
  exact h2.imp (fun ⟨a, b⟩ => lt_of_le_ne a b)
theorem sort_any (B : Nat) (v : Value) (l : List S) (hl : l.length ≤ 4000000 ) (w : World) (h : Buf w B 9 v (l.map tV)) :
    Calls Try.prog 34 #[v] w fun e w' => e = .returned (.tuple #[]) ∧ Buf w' B 9 v ((sortP l).map tV) ∧ Touch (own v) w w' := by
  obtain ⟨A, cap, rfl⟩ := h.form
  rw [List.length_map] at *
  by_cases h0 : l = []
  · subst h0
    refine (AnyM.slices_Sort_string_none Try.sortS A cap w).mono ?_
    rintro e w' ⟨rfl, rfl⟩
    exact ⟨rfl, by simpa [sortP] using h, Touch.refl _ _⟩
  · have hpos : 0 < l.length := List.length_pos_iff.2 h0
    have hA : ∃ b off, A = some ⟨b, off, none⟩ := by
      obtain ⟨A', cap', he, h1, h2, h3, h4⟩ := h
      injection he with e1 e2 e3
      subst e1 e3
      rcases h4 with h4 | ⟨b, off, cs, he, _⟩
      · rw [List.length_map] at h1; omega
      · exact ⟨b, off, he⟩
    obtain ⟨b, off, rfl⟩ := hA
    have hb := (h.owns b (by simp [own])).2
    refine (AnyM.slices_Sort_string Try.sortS b off cap l w (h.holds tV) hb (by omega)).mono ?_
    rintro e w' ⟨rfl, n, os, rfl⟩
    obtain ⟨h1, h2⟩ := (h.ext (ext_ahead w n)).putRow (by rw [List.length_map]; exact hpos) encStr (sortP l) (by rw [sortP_len, List.length_map])
    refine ⟨rfl, (h1.ext (ext_growA _ os)), ?_⟩
    exact ((Touch.of_ext (S := [b]) (ext_ahead w n)).trans h2 (fun j hj => .inl hj)).trans (Touch.of_ext (S := []) (ext_growA _ os)) (by simp)
end Str
end Go.Proofs.Ytjphmjegfpdbeaa
