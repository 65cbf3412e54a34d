/- What is seen takes no more than there is room for: plain. No condition. -/
import Derived.Test.YtjphmjegfpdbeaaDiskK
namespace Go.Proofs.Ytjphmjegfpdbeaa
open Go.RowKit
namespace Disk
open Str
set_option linter.unusedSimpArgs false
set_option linter.unusedVariables false
/-- A disk whose power never fails. -/
structure Jr (d : Dk) : Prop where
  cnt : d.cnt = 0
  up : d.down = false
  le : (takenP (seenP d) : Int) ≤ d.room
  ne : ∀ f ∈ seenP d, f.1 ≠ []
theorem call0 {d : Dk} (h : d.cnt = 0) : callP d = (d, false) := by unfold callP; rw [if_pos h]
theorem ne_done {l : List F} {e : Eff} (h : ∀ f ∈ l, f.1 ≠ []) (h0 : e.k = 0 → e.p ≠ []) (h1 : e.k = 1 → e.t ≠ []) : ∀ f ∈ doneP l e, f.1 ≠ [] := by
  intro f hf
  unfold doneP at hf
  split at hf
  · rename_i hk
    rcases mem_withP.1 hf with rfl | hf
    · exact h0 hk
    · exact h f hf.1
  · split at hf
    · rename_i hk
      split at hf
      · exact h f hf
      · rcases mem_withP.1 hf with rfl | hf
        · exact h1 hk
        · exact h f (mem_dropP.1 hf.1).1
    · split at hf
      · exact h f (mem_dropP.1 hf).1
      · exact h f hf
theorem wait0 {d : Dk} {e : Eff} (hc : d.cnt = 0) : waitP d e = if fullP d e then (7, d) else (0, addP d e) := by
  unfold waitP
  rw [call0 (show (addP d e).cnt = 0 from hc)]
  rfl
theorem taken_del {l : List F} (h : Up l) (p : S) : takenP (dropP l p) ≤ takenP l := by
  have := taken_drop h p
  omega
theorem wait_room {d : Dk} {e : Eff} (h : Jr d) (hu : Up (seenP d)) (hk : e.k = 0 ∨ e.k = 1 ∨ e.k = 2) (h0 : e.k = 0 → e.p ≠ []) (h1 : e.k = 1 → e.t ≠ []) :
    (waitP d e = (7, d) ∧ e.k ≠ 2) ∨ (waitP d e = (0, addP d e) ∧ Jr (addP d e)) := by
  rw [wait0 h.cnt]
  by_cases hf : fullP d e = true
  · rw [if_pos hf]
    refine .inl ⟨rfl, ?_⟩
    unfold fullP at hf
    exact (of_decide_eq_true hf).1
  · rw [if_neg hf]
    refine .inr ⟨rfl, h.cnt, h.up, ?_, ?_⟩
    · rw [seen_add]
      unfold fullP at hf
      have hf' := of_decide_eq_false (Bool.eq_false_iff.2 hf)
      show ((takenP (doneP (seenP d) e) : Nat) : Int) ≤ d.room
      by_cases h2 : e.k = 2
      · have h3 : doneP (seenP d) e = dropP (seenP d) e.p := by unfold doneP; rw [if_neg (by omega), if_neg (by omega), if_pos h2]
        rw [h3]
        have := taken_del hu e.p
        have := h.le
        omega
      · by_cases h4 : d.room < (takenP (doneP (seenP d) e) : Int)
        · exact absurd ⟨h2, .inr h4⟩ hf'
        · omega
    · rw [seen_add]
      exact ne_done h.ne h0 h1
theorem okP_ne {p : S} (h : ¬ okP p = false) : p ≠ [] := by
  unfold okP at h
  have := of_decide_eq_true (Bool.not_eq_false _ ▸ h : decide (p ≠ [] ∧ p.length ≤ 255) = true)
  exact this.1
theorem sync0 {d : Dk} (hc : d.cnt = 0) (hd : d.down = false) : syncP d = (0, { d with lies := seenP d, rows := [] }) := by
  unfold syncP
  rw [if_neg (by rw [hd]; decide), call0 hc]
  rfl
theorem room_step {d : Dk} (h : Jr d) (hu : Up (seenP d)) (a : Act) (h1 : 1 ≤ a.k) (h4 : a.k ≤ 4) :
    Jr (actP d a).2 ∧ (actP d a).2.room = d.room ∧ ((actP d a).1.2.2 = 7 → (actP d a).2 = d ∧ a.k ≤ 2) ∧ (a.k = 3 → (actP d a).1.2.2 = 0 → takenP (seenP (actP d a).2) < takenP (seenP d)) := by
  rcases (show a.k = 1 ∨ a.k = 2 ∨ a.k = 3 ∨ a.k = 4 by omega) with hk | hk | hk | hk
  · have e : actP d a = (([], [], (writeP d a.p a.t).1), (writeP d a.p a.t).2) := by unfold actP; rw [if_pos hk]
    rw [e]
    by_cases ho : okP a.p = false
    · have e2 : writeP d a.p a.t = (12, d) := by unfold writeP; rw [h.up, if_neg (by decide), if_pos ho]
      rw [e2]
      exact ⟨h, rfl, (fun h => by cases h), fun h => by omega⟩
    · have e2 : writeP d a.p a.t = waitP d ⟨0, a.p, a.t⟩ := by unfold writeP; rw [h.up, if_neg (by decide), if_neg ho]
      rw [e2]
      rcases wait_room (e := ⟨0, a.p, a.t⟩) h hu (.inl rfl) (fun _ => okP_ne ho) (fun h => by simp at h) with ⟨e3, -⟩ | ⟨e3, h3⟩
      · rw [e3]; exact ⟨h, rfl, fun _ => ⟨rfl, by omega⟩, fun h => by omega⟩
      · rw [e3]; exact ⟨h3, rfl, (fun h => by cases h), fun h => by omega⟩
  · have e : actP d a = (([], [], (renameP d a.p a.t).1), (renameP d a.p a.t).2) := by unfold actP; rw [if_neg (by omega), if_pos hk]
    rw [e]
    by_cases ho : okP a.t = false
    · have e2 : renameP d a.p a.t = (12, d) := by unfold renameP; rw [h.up, if_neg (by decide), if_pos ho]
      rw [e2]
      exact ⟨h, rfl, (fun h => by cases h), fun h => by omega⟩
    · by_cases hg : getK (seenP d) a.p = none
      · have e2 : renameP d a.p a.t = (5, d) := by unfold renameP; rw [h.up, if_neg (by decide), if_neg ho, if_pos hg]
        rw [e2]
        exact ⟨h, rfl, (fun h => by cases h), fun h => by omega⟩
      · have e2 : renameP d a.p a.t = waitP d ⟨1, a.p, a.t⟩ := by unfold renameP; rw [h.up, if_neg (by decide), if_neg ho, if_neg hg]
        rw [e2]
        rcases wait_room (e := ⟨1, a.p, a.t⟩) h hu (.inr (.inl rfl)) (fun h => by simp at h) (fun _ => okP_ne ho) with ⟨e3, -⟩ | ⟨e3, h3⟩
        · rw [e3]; exact ⟨h, rfl, fun _ => ⟨rfl, by omega⟩, fun h => by omega⟩
        · rw [e3]; exact ⟨h3, rfl, (fun h => by cases h), fun h => by omega⟩
  · have e : actP d a = (([], [], (removeP d a.p).1), (removeP d a.p).2) := by unfold actP; rw [if_neg (by omega), if_neg (by omega), if_pos hk]
    rw [e]
    cases hg : getK (seenP d) a.p with
    | none =>
      have e2 : removeP d a.p = (5, d) := by unfold removeP; rw [h.up, if_neg (by decide), if_pos hg]
      rw [e2]
      exact ⟨h, rfl, (fun h => by cases h), fun _ h => by cases h⟩
    | some t =>
      have e2 : removeP d a.p = waitP d ⟨2, a.p, []⟩ := by unfold removeP; rw [h.up, if_neg (by decide), if_neg (by rw [hg]; simp)]
      rw [e2]
      rcases wait_room (e := ⟨2, a.p, []⟩) h hu (.inr (.inr rfl)) (fun h => by simp at h) (fun h => by simp at h) with ⟨e3, h3⟩ | ⟨e3, h3⟩
      · exact absurd rfl h3
      · rw [e3]
        refine ⟨h3, rfl, (fun h => by cases h), fun _ _ => ?_⟩
        show takenP (seenP (addP d ⟨2, a.p, []⟩)) < _
        rw [seen_add, done_2]
        have h5 := taken_drop hu a.p
        rw [hg] at h5
        have h6 := h.ne _ (getK_mem hg)
        have h7 : 0 < a.p.length := List.length_pos_iff.2 h6
        simp only at h5
        omega
  · have e : actP d a = (([], [], (syncP d).1), (syncP d).2) := by unfold actP; rw [if_neg (by omega), if_neg (by omega), if_neg (by omega), if_pos hk]
    rw [e, sync0 h.cnt h.up]
    exact ⟨⟨h.cnt, h.up, h.le, h.ne⟩, rfl, (fun h => by cases h), fun h => by omega⟩
theorem room_new (room : Int) (h : 0 ≤ room) : Jr (newP room) := ⟨rfl, rfl, by simpa [newP, seenP, takenP] using h, by simp [newP, seenP]⟩
theorem room_none {d : Dk} (h : Jr d) (h0 : d.room ≤ 0) : listD d [] = [] := by
  have h1 : takenP (seenP d) = 0 := by have := h.le; omega
  cases hs : seenP d with
  | nil => simp [listD, listP, hs]
  | cons f r =>
    have h2 := h.ne f (by rw [hs]; simp)
    have h3 : 0 < f.1.length := List.length_pos_iff.2 h2
    rw [hs] at h1
    simp only [takenP, List.map_cons, List.sum_cons] at h1
    omega
end Disk
end Go.Proofs.Ytjphmjegfpdbeaa
