/- There and back: plain. No condition. -/
import Derived.Test.YtjphmjegfpdbeaaDiskLawA
namespace Go.Proofs.Ytjphmjegfpdbeaa
open Go.RowKit
namespace Disk
open Str
set_option linter.unusedSimpArgs false
set_option linter.unusedVariables false
/-- All paths are right. -/
def Jo (d : Dk) : Prop := ∀ f ∈ seenP d, okP f.1 = true
theorem ok_done {l : List F} {e : Eff} (h : ∀ f ∈ l, okP f.1 = true) (h0 : e.k = 0 → okP e.p = true) (h1 : e.k = 1 → okP e.t = true) : ∀ f ∈ doneP l e, okP f.1 = true := by
  intro f hf
  unfold doneP at hf
  split at hf
  · rename_i hk
    rcases mem_withP.1 hf with rfl | hf
    · exact h0 hk
    · exact h f hf.1
  · split at hf
    · rename_i hk
      split at hf
      · exact h f hf
      · rcases mem_withP.1 hf with rfl | hf
        · exact h1 hk
        · exact h f (mem_dropP.1 hf.1).1
    · split at hf
      · exact h f (mem_dropP.1 hf).1
      · exact h f hf
theorem wait_or {d : Dk} {e : Eff} (hc : d.cnt = 0) : (waitP d e = (7, d) ∧ fullP d e = true) ∨ (waitP d e = (0, addP d e) ∧ fullP d e = false) := by
  rw [wait0 hc]
  cases fullP d e
  · exact .inr ⟨rfl, rfl⟩
  · exact .inl ⟨rfl, rfl⟩
theorem write_or {d : Dk} (hc : d.cnt = 0) (hd : d.down = false) (p t : S) : (∃ c, c ≠ 0 ∧ writeP d p t = (c, d)) ∨ (writeP d p t = (0, addP d ⟨0, p, t⟩) ∧ okP p = true) := by
  unfold writeP
  rw [hd, if_neg (by decide)]
  cases ho : okP p with
  | false => exact .inl ⟨12, by decide, rfl⟩
  | true =>
    rw [if_neg (by decide)]
    rcases wait_or (e := ⟨0, p, t⟩) hc with ⟨h, _⟩ | ⟨h, _⟩
    · exact .inl ⟨7, by decide, h⟩
    · exact .inr ⟨h, rfl⟩
theorem rename_or {d : Dk} (hc : d.cnt = 0) (hd : d.down = false) (p t : S) : (∃ c, c ≠ 0 ∧ renameP d p t = (c, d)) ∨ (renameP d p t = (0, addP d ⟨1, p, t⟩) ∧ okP t = true) := by
  unfold renameP
  rw [hd, if_neg (by decide)]
  cases ho : okP t with
  | false => exact .inl ⟨12, by decide, rfl⟩
  | true =>
    rw [if_neg (by decide)]
    by_cases hg : getK (seenP d) p = none
    · rw [if_pos hg]; exact .inl ⟨5, by decide, rfl⟩
    · rw [if_neg hg]
      rcases wait_or (e := ⟨1, p, t⟩) hc with ⟨h, _⟩ | ⟨h, _⟩
      · exact .inl ⟨7, by decide, h⟩
      · exact .inr ⟨h, rfl⟩
theorem remove_or {d : Dk} (hc : d.cnt = 0) (hd : d.down = false) (p : S) : (getK (seenP d) p = none ∧ removeP d p = (5, d)) ∨ (getK (seenP d) p ≠ none ∧ removeP d p = (0, addP d ⟨2, p, []⟩)) := by
  unfold removeP
  rw [hd, if_neg (by decide)]
  by_cases hg : getK (seenP d) p = none
  · rw [if_pos hg]; exact .inl ⟨hg, rfl⟩
  · rw [if_neg hg]
    rcases wait_or (e := ⟨2, p, []⟩) hc with ⟨h, hf⟩ | ⟨h, _⟩
    · unfold fullP at hf
      exact absurd rfl (of_decide_eq_true hf).1
    · exact .inr ⟨hg, h⟩
theorem jo_step {d : Dk} (h : Jr d) (ho : Jo d) (a : Act) (h1 : 1 ≤ a.k) (h4 : a.k ≤ 4) : Jo (actP d a).2 := by
  rcases (show a.k = 1 ∨ a.k = 2 ∨ a.k = 3 ∨ a.k = 4 by omega) with hk | hk | hk | hk
  · have e : actP d a = (([], [], (writeP d a.p a.t).1), (writeP d a.p a.t).2) := by unfold actP; rw [if_pos hk]
    rw [e]
    rcases write_or h.cnt h.up a.p a.t with ⟨c, _, e2⟩ | ⟨e2, h2⟩
    · rw [e2]; exact ho
    · rw [e2]
      unfold Jo
      rw [seen_add]
      exact ok_done ho (fun _ => h2) (fun h => by simp at h)
  · have e : actP d a = (([], [], (renameP d a.p a.t).1), (renameP d a.p a.t).2) := by unfold actP; rw [if_neg (by omega), if_pos hk]
    rw [e]
    rcases rename_or h.cnt h.up a.p a.t with ⟨c, _, e2⟩ | ⟨e2, h2⟩
    · rw [e2]; exact ho
    · rw [e2]
      unfold Jo
      rw [seen_add]
      exact ok_done ho (fun h => by simp at h) (fun _ => h2)
  · have e : actP d a = (([], [], (removeP d a.p).1), (removeP d a.p).2) := by unfold actP; rw [if_neg (by omega), if_neg (by omega), if_pos hk]
    rw [e]
    rcases remove_or h.cnt h.up a.p with ⟨_, e2⟩ | ⟨_, e2⟩
    · rw [e2]; exact ho
    · rw [e2]
      unfold Jo
      rw [seen_add]
      exact ok_done ho (fun h => by simp at h) (fun h => by simp at h)
  · have e : actP d a = (([], [], (syncP d).1), (syncP d).2) := by unfold actP; rw [if_neg (by omega), if_neg (by omega), if_neg (by omega), if_pos hk]
    rw [e, sync0 h.cnt h.up]
    exact ho
/-- A rename, and back. -/
theorem there_back {d : Dk} (h : Jr d) (hu : Up (seenP d)) (ho : Jo d) (hl : (seenP d).length ≤ 4096) {a b old : S} (ha : getK (seenP d) a = some old) (hb : getK (seenP d) b = none) (h0 : renameP d a b = (0, addP d ⟨1, a, b⟩)) :
    readP (addP d ⟨1, a, b⟩) b = (old, 0) ∧ renameP (addP d ⟨1, a, b⟩) b a = (0, addP (addP d ⟨1, a, b⟩) ⟨1, b, a⟩) ∧ seenP (addP (addP d ⟨1, a, b⟩) ⟨1, b, a⟩) = seenP d := by
  have hs1 : seenP (addP d ⟨1, a, b⟩) = withP (dropP (seenP d) a) (b, old) := by rw [seen_add, done_1s _ ha]
  have hu1 : Up (seenP (addP d ⟨1, a, b⟩)) := by rw [hs1]; exact up_withP (up_dropP hu _) _
  have hg1 : getK (seenP (addP d ⟨1, a, b⟩)) b = some old := by rw [hs1, getK_withP (up_dropP hu _), if_pos rfl]
  have hne : a ≠ b := fun e => by rw [e, hb] at ha; cases ha
  have hs2 : doneP (seenP (addP d ⟨1, a, b⟩)) ⟨1, b, a⟩ = seenP d := by
    rw [done_1s _ hg1]
    refine up_eq_get (up_withP (up_dropP hu1 _) _) hu (fun p => ?_)
    rw [getK_withP (up_dropP hu1 _), getK_dropP hu1, hs1, getK_withP (up_dropP hu _), getK_dropP hu]
    by_cases h1 : p = a
    · rw [if_pos h1, h1, ha]
    · rw [if_neg h1]
      by_cases h2 : p = b
      · rw [if_pos h2, h2, hb]
      · rw [if_neg h2, if_neg h2, if_neg h1]
  refine ⟨?_, ?_, by rw [seen_add, hs2]⟩
  · unfold readP
    rw [if_neg (by rw [show (addP d ⟨1, a, b⟩).down = d.down from rfl, h.up]; decide), hg1]
  · have hok : okP a = true := ho _ (getK_mem ha)
    have hfull : fullP (addP d ⟨1, a, b⟩) ⟨1, b, a⟩ = false := by
      unfold fullP
      rw [hs2, decide_eq_false_iff_not]
      rintro ⟨_, h1 | h1⟩
      · omega
      · have := h.le
        have h2 : (addP d ⟨1, a, b⟩).room = d.room := rfl
        rw [h2] at h1
        omega
    unfold renameP
    rw [if_neg (by rw [show (addP d ⟨1, a, b⟩).down = d.down from rfl, h.up]; decide), if_neg (by rw [hok]; decide), if_neg (by rw [hg1]; simp), wait0 (show (addP d ⟨1, a, b⟩).cnt = 0 from h.cnt), hfull]
    rfl
/-- A write, and its removal. -/
theorem write_gone {d : Dk} (h : Jr d) (hu : Up (seenP d)) {a t : S} (ha : getK (seenP d) a = none) :
    readP (addP d ⟨0, a, t⟩) a = (t, 0) ∧ takenD (addP d ⟨0, a, t⟩) = takenD d + a.length + t.length ∧ removeP (addP d ⟨0, a, t⟩) a = (0, addP (addP d ⟨0, a, t⟩) ⟨2, a, []⟩) ∧ seenP (addP (addP d ⟨0, a, t⟩) ⟨2, a, []⟩) = seenP d := by
  have hs1 : seenP (addP d ⟨0, a, t⟩) = withP (seenP d) (a, t) := by rw [seen_add, done_0]
  have hu1 : Up (seenP (addP d ⟨0, a, t⟩)) := by rw [hs1]; exact up_withP hu _
  have hg1 : getK (seenP (addP d ⟨0, a, t⟩)) a = some t := by rw [hs1, getK_withP hu, if_pos rfl]
  have hd1 : (addP d ⟨0, a, t⟩).down = false := h.up
  have hdr : dropP (seenP d) a = seenP d := up_eq_get (up_dropP hu _) hu (fun p => by
    rw [getK_dropP hu]
    split
    · rename_i e; rw [e, ha]
    · rfl)
  refine ⟨?_, ?_, ?_, ?_⟩
  · unfold readP
    rw [if_neg (by rw [hd1]; decide), hg1]
  · unfold takenD
    rw [hd1, h.up, hs1, taken_with, hdr]
    simp
    omega
  · rcases remove_or (show (addP d ⟨0, a, t⟩).cnt = 0 from h.cnt) hd1 a with ⟨h1, _⟩ | ⟨_, h1⟩
    · rw [hg1] at h1; cases h1
    · exact h1
  · rw [seen_add, done_2, hs1]
    refine up_eq_get (up_dropP (up_withP hu _) _) hu (fun p => ?_)
    rw [getK_dropP (up_withP hu _), getK_withP hu]
    by_cases h1 : p = a
    · rw [if_pos h1, h1, ha]
    · rw [if_neg h1, if_neg h1]
/-- The same is seen: the same is answered. -/
theorem same_seen {d d' : Dk} (h : seenP d' = seenP d) (hd : d'.down = d.down) : (∀ p, readP d' p = readP d p) ∧ (∀ p, listD d' p = listD d p) ∧ takenD d' = takenD d := by
  refine ⟨fun p => ?_, fun p => ?_, ?_⟩
  · unfold readP; rw [h, hd]
  · unfold listD; rw [h, hd]
  · unfold takenD; rw [h, hd]
theorem read_some {d : Dk} (hd : d.down = false) {p : S} (h : (readP d p).2 = 0) : ∃ t, getK (seenP d) p = some t ∧ readP d p = (t, 0) := by
  unfold readP at h ⊢
  rw [hd] at h ⊢
  rw [if_neg (by decide)] at h ⊢
  cases hg : getK (seenP d) p with
  | none => rw [hg] at h; simp at h
  | some t => exact ⟨t, rfl, rfl⟩
theorem read_none {d : Dk} (hd : d.down = false) {p : S} (h : (readP d p).2 = 5) : getK (seenP d) p = none ∧ readP d p = ([], 5) := by
  unfold readP at h ⊢
  rw [hd] at h ⊢
  rw [if_neg (by decide)] at h ⊢
  cases hg : getK (seenP d) p with
  | none => exact ⟨rfl, rfl⟩
  | some t => rw [hg] at h; simp at h
theorem read_two {d : Dk} (hd : d.down = false) (p : S) : (readP d p).2 = 0 ∨ (readP d p).2 = 5 := by
  unfold readP
  rw [hd, if_neg (by decide)]
  cases getK (seenP d) p
  · exact .inr rfl
  · exact .inl rfl
end Disk
end Go.Proofs.Ytjphmjegfpdbeaa
