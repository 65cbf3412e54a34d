/- The walk of Seen's All: the keys, rising. No condition. -/
import Derived.Test.YtnbgdphnoopdpaaLay
import Derived.Test.YtnbgdphnoopdpaaWorkC
namespace Go.Proofs.Ytnbgdphnoopdpaa
open Go.RowKit Go.Maps Go.Sort Go.Shelf
namespace Work
set_option linter.unusedSimpArgs false
set_option linter.unusedVariables false
theorem sortsA (m : Nat) : AnyZI.SortsIn Try.prog Try.sortedA_ren Fence.wide m :=
  ⟨fun blk off cap ss W hH hblk hsz => callsIn_wide.2 (AnyM.slices_Sort_int Try.sortA blk off cap ss W hH hblk hsz),
   fun p cap W => callsIn_wide.2 (AnyM.slices_Sort_int_none Try.sortA p cap W)⟩
theorem Keys.perm {w : World} {b n : Nat} {D : DataW Unit} {ks : List Int} (hown : w.ownsMap Try.prog 3 unitElem b n D) (h : Keys D ks) (hw : ∀ k ∈ ks, Wf k) (hnd : ks.Nodup) : ks.Perm (intKeys D) := by
  obtain ⟨es, hD, hpw, _⟩ := hown.entries lawI
  obtain ⟨es', hD', hko⟩ := hown.keysOf
  obtain rfl : es = es' := by rw [hD] at hD'; simpa using hD'
  subst hD
  have hint : ∀ p ∈ es, ∃ x, p.1 = .int .i64 x ∧ Wf x := fun p hp => by
    obtain ⟨v, hv⟩ := hko p hp
    obtain ⟨x, _, hx, hwx⟩ := Maps.keyOf_i64 Try.underlying3 hv
    exact ⟨x, hx, hwx⟩
  refine perm_intKeys hpw (fun p hp => by obtain ⟨x, hx, _⟩ := hint p hp; exact ⟨x, hx⟩) hnd (fun x => ?_)
  by_cases hx : Wf x
  · rw [h.has x hx]; simp
  · constructor
    · intro hm; exact absurd (hw x hm) hx
    · intro hm
      exfalso
      rw [has_eq, List.any_eq_true] at hm
      obtain ⟨p, hp, hs⟩ := hm
      obtain ⟨a, ha, hwa⟩ := hint p hp
      rw [ha] at hs
      have : a = x := by simpa [Lit.sameKey] using hs
      exact hx (this ▸ hwa)
theorem row_of_owns {w : World} {B : Nat} {e : TypeId} {v : Value} {n : Nat} {xs : List Value} (h : w.ownsRow B e 1 v n xs) : ∃ A c, v = .slice A n c ∧ xs.length = n ∧ n ≤ maxLen ∧ Row w A xs := by
  obtain ⟨h1, h2⟩ := h
  rcases h2 with ⟨rfl, rfl⟩ | ⟨g, cap, cur, rfl, h3, h4, h5, h6, h7, h8⟩
  · exact ⟨none, 0, rfl, by simpa using h1, by simp, .inl (List.eq_nil_of_length_eq_zero (by simpa using h1))⟩
  · refine ⟨_, cap, rfl, by omega, by omega, .inr ⟨g, 0, rfl, fun j v hv => ?_⟩⟩
    rw [cell_of_row w g (0 + j) cur e (0, 0) h4, Nat.zero_add]
    rw [← h8, List.getElem?_take] at hv
    split at hv
    · simpa using hv
    · cases hv
/-- What All answers. -/
def AllE (w : World) (ks : List Int) (e : Ending) (w' : World) : Prop :=
  ∃ A c zs, e = .returned (.slice A zs.length c) ∧ Row w' A (ints zs) ∧ zs.length ≤ 9223372036854775807 ∧ zs.Perm ks ∧ zs.Pairwise (· ≤ ·) ∧ Ext w w'
theorem sorted_le (ss : List Int) : (ss.mergeSort leI).Pairwise (· ≤ ·) := by
  have tr : ∀ a b c : Int, leI a b = true → leI b c = true → leI a c = true := fun a b c h1 h2 => by simp only [leI, decide_eq_true_eq] at *; exact Int.le_trans h1 h2
  have to : ∀ a b : Int, (leI a b || leI b a) = true := fun a b => by simp only [leI, Bool.or_eq_true, decide_eq_true_eq]; exact Int.le_total a b
  exact (List.pairwise_mergeSort tr to ss).imp fun h => by simpa [leI] using h
set_option maxRecDepth 100000 in
set_option maxHeartbeats 2000000 in
theorem sall_any (B g : Nat) (mb : Option Nat) (ks : List Int) (hks : ks.length ≤ 1000000) (w : World) (h : SeenAt w B g mb ks) :
    Calls Try.prog 28 #[.pointer (some ⟨g, 0, none⟩)] w (AllE w ks) := by
  have c0 := h.c0
  obtain ⟨h1, h2, h3, h4, h5⟩ := h
  have cK : ∀ mb W, CallsIn Fence.wide 5 Try.prog 38 #[.map mb] W fun e w' => e = .returned (.func (.func 43) #[] #[.pointer (some ⟨W.heap.size, 0, none⟩)]) ∧ w' = W.alloc (.cells #[.map mb] 36) := fun mb W => AnyZI.keys_in Try.keysA Fence.wide 5 trivial rfl mb W
  have hfK : Fence.wide.fn 38 := trivial
  have hfS : Fence.wide.fn 37 := trivial
  rcases h5 with ⟨rfl, rfl⟩ | ⟨b, D, rfl, h6, h7, h8, h9⟩
  · have hseq : SeqGives Fence.wide 2 Try.prog 43 #[.pointer (some ⟨w.heap.size, 0, none⟩)] encZ (fun ss : List Int => ss = []) 0 (w.alloc (.cells #[.map none] 36)) :=
      AnyZI.keys_gives_nil (ρ := Try.keysA_ren) { Try.keysA with } Fence.wide _ trivial rfl w.heap.size _ (by simp) (by simp)
    have cS := AnyZI.sorted_in Try.sortedA Fence.wide 5 trivial trivial trivial trivial rfl (by omega) (sortsA _) (enters_of Try.func42 (by kernel_rfl) rfl) 43 #[.pointer (some ⟨w.heap.size, 0, none⟩)] trivial (enters_of Try.func43 (by kernel_rfl) rfl) _ 0 (Nat.zero_le _) (by omega) _ hseq
    change CallsIn _ _ Try.prog 37 _ _ _ at cS
    refine (callsIn_wide (n := 6)).1 ?_
    refine callsIn_of_wp Try.func28 rfl trivial ?_ rfl
    simp only [Try.ntmps28, List.size_toArray, List.length_cons, List.length_nil, Nat.reduceAdd, Nat.reduceSub, Array.replicate_succ, Array.replicate_zero, List.push_toArray, List.append_toArray, List.nil_append, List.cons_append]
    gi_wp2_with (first
      | (gi_at_call 38; refine (cK _ _).mono ?_; rintro e w' ⟨rfl, rfl⟩)
      | (gi_at_call 37; refine cS.mono ?_; rintro e w' ⟨v, ss, rfl, rfl, hrow, hnil, hb⟩; obtain rfl : v = .slice none 0 0 := hnil.2 rfl))
    go_ret
    exact ⟨none, 0, [], rfl, .inl rfl, by simp, List.Perm.refl _, List.Pairwise.nil, ((Below.refl _ w).alloc (Nat.le_refl _) _).trans (hb.mono (by simp))⟩
  · have hbl := h8.lt
    have hp := Keys.perm h8 h9 h3 h4
    have hsz := h9.size
    have hseq : SeqGives Fence.wide 2 Try.prog 43 #[.pointer (some ⟨w.heap.size, 0, none⟩)] encZ (fun ss => ss.Perm (intKeys D)) (Maps.size D) (w.alloc (.cells #[.map (some b)] 36)) :=
      AnyZI.keys_gives (ρ := Try.keysA_ren) { Try.keysA with } Fence.wide _ trivial rfl (by omega) w.heap.size b ks.length D _ (by simp) (by simp) (by
        obtain ⟨es, clock, hb, Ft, hs, hD⟩ := h8
        exact ⟨es, clock, (Below.heap_alloc _ _ b hbl).trans hb, Ft, hs, hD⟩)
    have cS := AnyZI.sorted_in Try.sortedA Fence.wide 5 trivial trivial trivial trivial rfl (by omega) (sortsA _) (enters_of Try.func42 (by kernel_rfl) rfl) 43 #[.pointer (some ⟨w.heap.size, 0, none⟩)] trivial (enters_of Try.func43 (by kernel_rfl) rfl) _ _ (by rw [hsz]; simp only [maxLen]; omega) (by rw [hsz]; omega) _ hseq
    change CallsIn _ _ Try.prog 37 _ _ _ at cS
    clear hseq h8 h9 hsz
    refine (callsIn_wide (n := 6)).1 ?_
    refine callsIn_of_wp Try.func28 rfl trivial ?_ rfl
    simp only [Try.ntmps28, List.size_toArray, List.length_cons, List.length_nil, Nat.reduceAdd, Nat.reduceSub, Array.replicate_succ, Array.replicate_zero, List.push_toArray, List.append_toArray, List.nil_append, List.cons_append]
    gi_wp2_with (first
      | (gi_at_call 38; refine (cK _ _).mono ?_; rintro e w' ⟨rfl, rfl⟩)
      | (gi_at_call 37; refine cS.mono ?_; rintro e w' ⟨v, ss, rfl, hS, hrow, hnil, hb⟩))
    go_ret
    obtain ⟨A, c, rfl, hl, hm, hr⟩ := row_of_owns hrow
    have hpm := List.mergeSort_perm ss leI
    refine ⟨A, c, ss.mergeSort leI, by rw [hpm.length_eq]; rfl, hr, by rw [hpm.length_eq]; simp only [maxLen] at hm; omega, hpm.trans (hS.trans hp.symm), sorted_le ss, ((Below.refl _ w).alloc (Nat.le_refl _) _).trans (hb.mono (by simp))⟩
end Work
end Go.Proofs.Ytnbgdphnoopdpaa
