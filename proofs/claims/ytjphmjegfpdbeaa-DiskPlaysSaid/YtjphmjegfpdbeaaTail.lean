/- A region that draws its order, its last operations in one forced order: the head alone may be walked under a condition on the world that the last operations break. No condition. -/
import Derived.Test.YtjphmjegfpdbeaaCalm
import Derived.Deep.RegionHeldLaw
namespace Go.Proofs.Ytjphmjegfpdbeaa
open Go.RowKit

/-- What is asked behind the head: the tail. -/
def TailQ (P : Program) (ops : Array Oper) (Q : Exit → Act → World → Prop) (tl : List Oper) : Exit → Act → World → Prop
  | .normal, a, w => wpList P ops Q tl a w
  | e, a, w => Q e a w
theorem upon_tail {P : Program} {ops : Array Oper} {Q : Exit → Act → World → Prop} {tl : List Oper} {o : Oper} {a : Act} {K K' : Act → World → Prop} {r : Result Next} (h : ∀ a w, K a w → K' a w)
    (hh : o.upon P a K (TailQ P ops Q tl) r) : o.upon P a K' Q r := by
  cases r with
  | ok n w' =>
    cases n <;> simp only [Oper.upon] at hh ⊢ <;>
      first
        | exact h _ _ hh
        | exact Calls.mono hh (fun e w'' he => by cases e <;> first | exact h _ _ he | exact he)
        | exact Rows.mono hh (fun _ _ he => h _ _ he)
  | halt x w' => cases x <;> simp only [Oper.upon] at hh ⊢ <;> exact hh
def tailB (ops : Array Oper) (m : Nat) : Bool :=
  decide (m ≤ ops.size) && (decide (m = ops.size) || Region.sinkB .any ops m) && Region.chainB .any ops m && Region.seqB .any ops (ops.size - m) m (headListed ops m) &&
  (List.range m).all (fun i => match ops[i]? with
    | none => false
    | some o => o.guard.isNone && o.after.all (fun e => !Region.binds .any e || decide (e.on < i)))
theorem wp_region_tail {P : Program} {id : Nat} {l : List Oper} {Q : Exit → Act → World → Prop} {a : Act} {w : World} (m : Nat) (hm : P.follows .mixedOrders = true) (hB : tailB l.toArray m = true)
    (h : wpAny P .any (l.take m).toArray (TailQ P l.toArray Q (l.drop m)) m (Array.replicate m false) a w.drew) : (Code.region id l.toArray true).wp P Q a w := by
  unfold tailB at hB
  simp only [Bool.and_eq_true, Bool.or_eq_true, List.all_eq_true, List.mem_range, decide_eq_true_eq] at hB
  obtain ⟨⟨⟨⟨hle, hsink⟩, hchain⟩, hseq⟩, hall⟩ := hB
  have hop : ∀ i o, i < m → l.toArray[i]? = some o → o.guard = none ∧ ∀ e ∈ o.after, Region.binds .any e = true → e.on < i := by
    intro i o him hi
    have := hall i him
    rw [hi] at this
    simp only [Bool.and_eq_true, Option.isNone_iff_eq_none, Array.all_eq_true_iff_forall_mem] at this
    exact ⟨this.1, fun e he hb => by simpa [hb] using this.2 e he⟩
  have hhead : ∀ i o, i < m → (l.toArray[i]? = some o ↔ (l.take m).toArray[i]? = some o) := by
    intro i o him
    simp [him]
  have hlm : (l.take m).toArray.size = m := by simp at hle ⊢; omega
  refine wp_region_any hm ?_
  refine wpAny_inv (fun listed b w1 => HeadInv .any l.toArray m listed ∧ ∃ fuel lH, lH.size = m ∧ (∀ j, j < m → lH.getD j true = listed.getD j true) ∧ wpAny P .any (l.take m).toArray (TailQ P l.toArray Q (l.drop m)) fuel lH b w1) m ?_ ?_ ?_ _ _ _ _ ?_ ?_
  · rintro listed b w1 i j ⟨inv, -⟩ hi hj him
    refine Nat.lt_of_not_le fun hjm => ?_
    have hn : m < l.toArray.size := by
      obtain ⟨_, o, ho, _⟩ := mem_ready.1 hj
      have := (Array.getElem?_eq_some_iff.1 ho).1
      rcases Nat.lt_or_ge m l.toArray.size with h | h
      · exact h
      · omega
    exact tail_waits (hsink.resolve_left (by omega)) (List.all_eq_true.2 (fun x hx => by simpa using List.all_eq_true.1 hchain x hx)) hn inv _ i rfl him (mem_ready.1 hi).1 j hjm hj
  · rintro listed b w1 i ⟨inv, fuel, lH, hsz, hsame, hw⟩ hi him
    obtain ⟨hun, o, ho, hdeps⟩ := mem_ready.1 hi
    have hg := hop i o him ho
    have hiH : i ∈ Region.ready .any (l.take m).toArray lH := mem_ready.2 ⟨by rw [hsame i him]; exact hun, o, (hhead i o him).1 ho, fun e he hb => by
      have h1 := hdeps e he hb
      have h2 : e.on < m := Nat.lt_trans (hg.2 e he hb) him
      have h3 : listed.getD e.on true = true := by
        cases hc : listed.getD e.on true with
        | true => rfl
        | false => rw [getD_both hc] at h1; cases h1
      cases hc : lH.getD e.on false with
      | true => rfl
      | false => rw [← hsame e.on h2, getD_in (by omega) hc] at h3; cases h3⟩
    cases fuel with
    | zero => rw [hw.1] at hiH; cases hiH
    | succ fuel =>
      have h2 := hw.2 i hiH
      unfold wpOp at h2 ⊢
      simp only [ho, (hhead i o him).1 ho] at h2 ⊢
      rw [if_pos (by simp [Region.wanted, hg.1])] at h2 ⊢
      have next : ∀ a w, wpAny P .any (l.take m).toArray (TailQ P l.toArray Q (l.drop m)) fuel (lH.setIfInBounds i true) a w → HeadInv .any l.toArray m (listed.setIfInBounds i true) ∧ ∃ fuel lH, lH.size = m ∧ (∀ j, j < m → lH.getD j true = (listed.setIfInBounds i true).getD j true) ∧ wpAny P .any (l.take m).toArray (TailQ P l.toArray Q (l.drop m)) fuel lH a w := by
        intro a2 w2 h3
        refine ⟨inv.set hi him, fuel, lH.setIfInBounds i true, by simpa using hsz, fun j hj => ?_, h3⟩
        by_cases hij : i = j
        · subst hij
          simp [hsz, him]
        · rw [getD_set_ne true hij, getD_set_ne true hij]; exact hsame j hj
      rcases h2 with h2 | ⟨h2, h3⟩
      · exact .inl (upon_tail next h2)
      · exact .inr ⟨h2, h3⟩
  · rintro listed b w1 fuel ⟨inv, fuelH, lH, hsz, hsame, hw⟩ hno hfuel
    have hall2 : ∀ (n j : Nat), j < n → j < m → listed.getD j true = true := by
      intro n
      induction n with
      | zero => intro j hj; omega
      | succ n ih =>
        intro j hj hjm
        have hjs : j < l.toArray.size := Nat.lt_of_lt_of_le hjm hle
        have ho : l.toArray[j]? = some l.toArray[j] := Array.getElem?_eq_getElem hjs
        cases hb : listed.getD j true with
        | true => rfl
        | false =>
          have : j ∈ Region.ready .any l.toArray listed := mem_ready.2 ⟨hb, _, ho, fun e he hb' => by
            have hlt := (hop j _ hjm ho).2 e he hb'
            have h1 := ih e.on (by omega) (by omega)
            cases hc : listed.getD e.on false with
            | true => rfl
            | false => rw [getD_in (by rw [inv.size]; omega) hc] at h1; cases h1⟩
          exact absurd hjm (hno j this)
    have hlisted : ∀ j, j < m → listed.getD j true = true := fun j hj => hall2 (j + 1) j (by omega) hj
    have hrH : Region.ready .any (l.take m).toArray lH = [] := by
      refine List.eq_nil_iff_forall_not_mem.2 fun j hj => ?_
      obtain ⟨h1, o, ho, _⟩ := mem_ready.1 hj
      have hjm : j < m := by have := (Array.getElem?_eq_some_iff.1 ho).1; omega
      rw [hsame j hjm, hlisted j hjm] at h1
      cases h1
    have hlist0 : listed = headListed l.toArray m := by
      apply Array.ext
      · rw [inv.size]; simp [headListed]
      · intro j h1 h2
        have e1 : (headListed l.toArray m)[j] = decide (j < m) := by simp [headListed]
        rw [e1]
        by_cases hjm : j < m
        · have := hlisted j hjm
          simp [h1] at this
          rw [this]; simp [hjm]
        · have := inv.tail j (by omega) (by rw [← inv.size]; exact h1)
          simp [h1] at this
          rw [this]; simp [hjm]
    have hcount : (l.drop m).length ≤ left l.toArray listed := by
      have hsub : ((List.range l.toArray.size).drop m).length ≤ left l.toArray listed := by
        unfold left
        have : (List.range l.toArray.size).drop m = ((List.range l.toArray.size).drop m).filter fun j => listed.getD j true == false := by
          rw [List.filter_eq_self.2]
          intro j hj
          obtain ⟨k, hk, rfl⟩ := List.mem_iff_getElem.1 hj
          have hlt : m + k < l.toArray.size := by simp at hk ⊢; omega
          have hun := inv.tail (m + k) (by omega) hlt
          simpa using hun
        rw [this]
        conv => rhs; rw [← List.take_append_drop m (List.range l.toArray.size), List.filter_append, List.length_append]
        omega
      simpa using hsub
    have hQ : TailQ P l.toArray Q (l.drop m) .normal b w1 := by
      cases fuelH with
      | zero => exact hw.2
      | succ f => exact hw.1 hrH
    rw [hlist0]
    rw [hlist0] at hcount hfuel
    exact wpAny_seq (l.drop m) m fuel _ _ _ (Nat.le_trans hcount hfuel) (fun j => by simp) (by simpa using hseq) hQ
  · unfold left
    exact Nat.le_trans (List.length_filter_le _ _) (by simp)
  · refine ⟨⟨by simp, fun j oj _ hl => ?_, fun t _ ht => ?_⟩, m, Array.replicate m false, by simp, fun j hj => ?_, h⟩
    · rw [getD_replicate_false] at hl; cases hl
    · have ht' : t < l.length := by simpa using ht
      simp [ht']
    · have hj' : j < l.length := by simp at hle; omega
      simp [hj, hj']
end Go.Proofs.Ytjphmjegfpdbeaa
