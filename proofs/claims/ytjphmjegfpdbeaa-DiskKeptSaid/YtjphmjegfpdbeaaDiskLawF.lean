/- What is left behind a failure: plain. No condition. -/
import Derived.Test.YtjphmjegfpdbeaaDiskLawE
namespace Go.Proofs.Ytjphmjegfpdbeaa
open Go.RowKit
namespace Disk
open Str
set_option linter.unusedSimpArgs false
set_option linter.unusedVariables false
/-- It is in the set. -/
def inP (l : List (S × Bool)) (x : S) : Prop := getK l x = some true
theorem inP_put (l : List (S × Bool)) (x y : S) (h : inP l y ∨ y = x) : inP (putK l x true) y := by
  unfold inP
  rw [getK_put]
  split
  · rfl
  · rename_i hn
    exact h.resolve_right hn
theorem inP_more {l : List (S × Bool)} (x : S) {y : S} (h : inP l y) : inP (putK l x true) y := inP_put l x y (.inl h)
/-- Only what was touched has turned; all texts are known. -/
structure Good (W T : List (S × Bool)) (L0 l : List F) : Prop where
  up : Up l
  t : ∀ f ∈ l, inP W f.2
  p : ∀ p, ¬ inP T p → getK l p = getK L0 p
def EffG (W T : List (S × Bool)) (e : Eff) : Prop := inP T e.p ∧ (e.k = 0 → inP W e.t) ∧ (e.k = 1 → inP T e.t)
theorem Good.done {W T : List (S × Bool)} {L0 l : List F} (h : Good W T L0 l) {e : Eff} (he : EffG W T e) : Good W T L0 (doneP l e) := by
  refine ⟨up_doneP h.up e, ?_, ?_⟩
  · intro f hf
    unfold doneP at hf
    split at hf
    · rename_i hk
      rcases mem_withP.1 hf with rfl | hf
      · exact he.2.1 hk
      · exact h.t f hf.1
    · split at hf
      · split at hf
        · exact h.t f hf
        · rename_i t ht
          rcases mem_withP.1 hf with rfl | hf
          · exact h.t (e.p, t) (getK_mem ht)
          · exact h.t f (mem_dropP.1 hf.1).1
      · split at hf
        · exact h.t f (mem_dropP.1 hf).1
        · exact h.t f hf
  · intro q hq
    have hp : q ≠ e.p := fun e' => hq (e' ▸ he.1)
    unfold doneP
    split
    · rw [getK_withP h.up, if_neg hp]; exact h.p q hq
    · split
      · rename_i hk
        split
        · exact h.p q hq
        · rw [getK_withP (up_dropP h.up _), if_neg (fun e' : q = e.t => hq (e' ▸ he.2.2 hk)), getK_dropP h.up, if_neg hp]
          exact h.p q hq
      · split
        · rw [getK_dropP h.up, if_neg hp]; exact h.p q hq
        · exact h.p q hq
theorem Good.keep {W T : List (S × Bool)} {L0 : List F} (b : Nat → Bool) : ∀ (rs : List Eff) (i : Nat) {l : List F}, Good W T L0 l → (∀ e ∈ rs, EffG W T e) → Good W T L0 (keepP b i rs l)
  | [], _, _, h, _ => h
  | e :: r, i, l, h, he => by
    unfold keepP
    refine Good.keep b r (i + 1) ?_ (fun x hx => he x (by simp [hx]))
    split
    · exact h.done (he e (by simp))
    · exact h
/-- Behind some acts behind the sync. -/
structure Jk (W T : List (S × Bool)) (L0 : List F) (d : Dk) : Prop where
  g : Good W T L0 d.lies
  r : ∀ e ∈ d.rows, EffG W T e
  n : d.down = true → d.rows = []
theorem Jk.fail {W T : List (S × Bool)} {L0 : List F} {d : Dk} (h : Jk W T L0 d) : Jk W T L0 (failP d) :=
  ⟨h.g.keep _ _ _ (fun e he => h.r e (List.mem_of_mem_take he)), by simp [failP], fun _ => rfl⟩
theorem Jk.call {W T : List (S × Bool)} {L0 : List F} {d : Dk} (h : Jk W T L0 d) : Jk W T L0 (callP d).1 := by
  unfold callP
  split
  · exact h
  · split
    · exact h.fail
    · exact ⟨h.g, h.r, h.n⟩
theorem Jk.wait {W T : List (S × Bool)} {L0 : List F} {d : Dk} (h : Jk W T L0 d) {e : Eff} (he : EffG W T e) (hd : d.down = false) : Jk W T L0 (waitP d e).2 := by
  have h2 : Jk W T L0 (addP d e) := ⟨h.g, fun x hx => by
    simp only [addP, List.mem_append, List.mem_singleton] at hx
    rcases hx with hx | rfl
    · exact h.r x hx
    · exact he, fun hc => by rw [show (addP d e).down = d.down from rfl, hd] at hc; cases hc⟩
  unfold waitP
  split
  · exact h
  · split <;> exact h2.call
theorem Good.more {W W' T T' : List (S × Bool)} {L0 l : List F} (h : Good W T L0 l) (hW : ∀ x, inP W x → inP W' x) (hT : ∀ x, inP T x → inP T' x) : Good W' T' L0 l :=
  ⟨h.up, fun f hf => hW _ (h.t f hf), fun p hp => h.p p (fun hh => hp (hT p hh))⟩
theorem Jk.more {W W' T T' : List (S × Bool)} {L0 : List F} {d : Dk} (h : Jk W T L0 d) (hW : ∀ x, inP W x → inP W' x) (hT : ∀ x, inP T x → inP T' x) : Jk W' T' L0 d :=
  ⟨h.g.more hW hT, fun e he => ⟨hT _ (h.r e he).1, fun hk => hW _ ((h.r e he).2.1 hk), fun hk => hT _ ((h.r e he).2.2 hk)⟩, h.n⟩
theorem jk_step {W T : List (S × Bool)} {L0 : List F} {d : Dk} (h : Jk W T L0 d) (hd : d.down = false) (a : Act) (h1 : 1 ≤ a.k) (h3 : a.k ≤ 3) (hp : inP T a.p) (hw : a.k = 1 → inP W a.t) (ht : a.k = 2 → inP T a.t) : Jk W T L0 (actP d a).2 := by
  rcases (show a.k = 1 ∨ a.k = 2 ∨ a.k = 3 by omega) with hk | hk | hk
  · have e : actP d a = (([], [], (writeP d a.p a.t).1), (writeP d a.p a.t).2) := by unfold actP; rw [if_pos hk]
    rw [e]
    unfold writeP
    rw [if_neg (by rw [hd]; decide)]
    split
    · exact h
    · exact h.wait ⟨hp, fun _ => hw hk, fun h => by simp at h⟩ hd
  · have e : actP d a = (([], [], (renameP d a.p a.t).1), (renameP d a.p a.t).2) := by unfold actP; rw [if_neg (by omega), if_pos hk]
    rw [e]
    unfold renameP
    rw [if_neg (by rw [hd]; decide)]
    split
    · exact h
    · split
      · exact h
      · exact h.wait ⟨hp, (fun h => by simp at h), fun _ => ht hk⟩ hd
  · have e : actP d a = (([], [], (removeP d a.p).1), (removeP d a.p).2) := by unfold actP; rw [if_neg (by omega), if_neg (by omega), if_pos hk]
    rw [e]
    unfold removeP
    rw [if_neg (by rw [hd]; decide)]
    split
    · exact h
    · exact h.wait ⟨hp, (fun h => by simp at h), (fun h => by simp at h)⟩ hd
theorem jk_arm {W T : List (S × Bool)} {L0 : List F} {d : Dk} (h : Jk W T L0 d) (n k : Int) : Jk W T L0 (armP d n k) := by
  unfold armP
  split <;> exact ⟨h.g, h.r, h.n⟩
theorem jk_cut {W T : List (S × Bool)} {L0 : List F} {d : Dk} (h : Jk W T L0 d) (hd : d.down = false) (k : Int) : (syncP (armP d 1 k)).1 = 8 ∧ Jk W T L0 (syncP (armP d 1 k)).2 ∧ (syncP (armP d 1 k)).2.down = true := by
  have e1 : armP d 1 k = { d with cnt := 1, keep := k } := rfl
  have e2 : callP (armP d 1 k) = (failP (armP d 1 k), true) := by rw [e1]; rfl
  have e3 : syncP (armP d 1 k) = (8, failP (armP d 1 k)) := by
    unfold syncP
    rw [if_neg (by rw [e1]; simp only; rw [hd]; decide), e2]
    rfl
  rw [e3]
  exact ⟨rfl, (jk_arm h 1 k).fail, rfl⟩
theorem jk_seen {W T : List (S × Bool)} {L0 : List F} {d : Dk} (h : Jk W T L0 d) (hd : d.down = true) : seenP (startP d) = d.lies ∧ (startP d).down = false ∧ (startP d).rows = [] := by
  refine ⟨?_, rfl, h.n hd⟩
  unfold seenP startP
  simp only
  rw [h.n hd]
  rfl
theorem put_snoc {l : List F} {f : F} (h : f.1 ∉ keysK l) : putK l f.1 f.2 = l ++ [f] := by
  induction l with
  | nil => rfl
  | cons q l ih =>
    simp only [keysK, List.map_cons, List.mem_cons, not_or] at h
    unfold putK
    rw [if_neg (Ne.symm h.1), ih h.2]
    rfl
theorem list_keys {d : Dk} (hd : d.down = false) : listD d [] = (seenP d).map (·.1) := by
  unfold listD listP
  rw [hd, if_neg (by decide)]
  exact List.filter_eq_self.2 (fun _ _ => rfl)
theorem read_at_i {d : Dk} (hd : d.down = false) (hu : Up (seenP d)) {i : Nat} (hi : i < (seenP d).length) : readP d ((seenP d)[i]).1 = (((seenP d)[i]).2, 0) := by
  unfold readP
  have hg : getK (seenP d) (seenP d)[i].1 = some (seenP d)[i].2 := getK_of_mem hu.nodup (List.getElem_mem hi)
  rw [hd, if_neg (by decide), hg]
theorem take_new {L : List F} (hu : Up L) {i : Nat} (hi : i < L.length) : (L[i]).1 ∉ keysK (L.take i) := by
  intro hm
  obtain ⟨x, hx, he⟩ := List.mem_map.1 hm
  obtain ⟨j, hj, rfl⟩ := List.mem_iff_getElem.1 hx
  rw [List.length_take] at hj
  have h1 := List.pairwise_iff_getElem.1 hu j i (by rw [List.length_map]; omega) (by rw [List.length_map]; exact hi) (by omega)
  rw [List.getElem_map, List.getElem_map] at h1
  rw [List.getElem_take] at he
  rw [he] at h1
  exact List.lt_irrefl _ h1
end Disk
end Go.Proofs.Ytjphmjegfpdbeaa
