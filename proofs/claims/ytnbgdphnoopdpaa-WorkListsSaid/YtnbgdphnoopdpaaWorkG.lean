/- A walk's push: a list goes onto the todo list, its last one first. No condition. -/
import Derived.Test.YtnbgdphnoopdpaaWorkF
namespace Go.Proofs.Ytnbgdphnoopdpaa
open Go.RowKit Go.Shelf
namespace Work
set_option linter.unusedSimpArgs false
set_option linter.unusedVariables false
attribute [local go_sem] Oper.semAt_some
theorem Buf.isCells {w : World} {B : Nat} {e : TypeId} {v : Value} {xs : List Value} (h : Buf w B e v xs) (hne : xs ≠ []) : ∀ j ∈ own v, ∃ o, w.heap[j]? = some o ∧ o.isCells = true := by
  obtain ⟨A, cap, rfl, h1, h2, h3, h4⟩ := h
  intro j hj
  have hl : 0 < xs.length := List.length_pos_iff.2 hne
  rcases h4 with h4 | ⟨b, off, cs, rfl, ⟨fz, hb, _⟩, h5, h6⟩
  · omega
  · simp [own] at hj; subst hj; exact ⟨_, hb, rfl⟩
theorem Buf.grown {w w' : World} {B : Nat} {e : TypeId} {v : Value} {xs : List Value} {row : Option Nat} (h : Buf w B e v xs) (hg : w.grownBy w' row) (hr : ∀ r, row = some r → ∃ o, w.heap[r]? = some o ∧ o.isCells = false) : Buf w' B e v xs := by
  obtain ⟨A, cap, rfl, h1, h2, h3, h4⟩ := h
  refine ⟨A, cap, rfl, h1, h2, fun j hj => ⟨(h3 j hj).1, Nat.lt_of_lt_of_le (h3 j hj).2 hg.size⟩, ?_⟩
  rcases h4 with h4 | ⟨b, off, cs, rfl, ⟨fz, hb, h7⟩, h5, h6⟩
  · exact .inl h4
  · refine .inr ⟨b, off, cs, rfl, ⟨fz, (hg.block b (Array.getElem?_eq_some_iff.1 hb).1 (fun e => ?_)).trans hb, h7⟩, h5, h6⟩
    obtain ⟨o, ho, hn⟩ := hr b e.symm
    rw [hb] at ho
    injection ho with ho
    subst ho
    cases hn
theorem Blk.grown {w w' : World} {g : Nat} {T : TypeId} {xs : List Value} {row : Option Nat} (h : Blk w g T xs) (hg : w.grownBy w' row) (hr : ∀ r, row = some r → ∃ o, w.heap[r]? = some o ∧ o.isCells = false) : Blk w' g T xs := by
  refine (hg.block g h.lt (fun e => ?_)).trans h
  obtain ⟨o, ho, hn⟩ := hr g e.symm
  rw [show w.heap[g]? = _ from h] at ho
  injection ho with ho
  subst ho
  cases hn
theorem TodoAt.grown {w w' : World} {B g : Nat} {v : Value} {l : List Int} {row : Option Nat} (h : TodoAt w B g v l) (hg : w.grownBy w' row) (hr : ∀ r, row = some r → ∃ o, w.heap[r]? = some o ∧ o.isCells = false) : TodoAt w' B g v l :=
  ⟨Blk.grown h.1 hg hr, Buf.grown h.2.1 hg hr, h.2.2.1, h.2.2.2⟩
theorem touch_row {w w' : World} {row : Option Nat} {m : Nat} (h : w.grownBy w' row) (hr : ∀ r, row = some r → m ≤ r) : ∀ {S : List Nat} {w0 : World}, w0.heap.size ≤ m → Touch S w0 w → Touch S w0 w' := by
  intro S w0 hm hT
  exact ⟨h.os.trans hT.os, h.tape.trans hT.tape, h.output.trans hT.output, Nat.le_trans hT.size h.size, fun k hk hn =>
    (h.block k (Nat.lt_of_lt_of_le hk hT.size) (fun e => by have := hr k e.symm; omega)).trans (hT.block k hk hn)⟩
theorem KpT.putObj {S : List Nat} {n : Nat} {W : World} {l : Nat} {o : Obj} (h : n ≤ l) : KpT S n W (W.putObj l o) := fun k hk _ => World.putObj_heap_other (by omega)
/-- The state of a push between two rounds. -/
def PushI (w : World) (B g : Nat) (v : Value) (st : List Int) (B0 : Nat) (pre : List (Nat × Int)) (W : World) : Prop :=
  ∃ v', TodoAt W B g v' (st ++ pre.map (·.2)) ∧ Touch (g :: own v) w W ∧ B0 ≤ W.heap.size ∧ ∀ j ∈ own v', j ∈ own v ∨ (B0 ≤ j ∧ ∃ o, W.heap[j]? = some o ∧ o.isCells = true)
theorem pushI_own {w : World} {B g : Nat} {v : Value} {st : List Int} {B0 : Nat} (hB : w.heap.size ≤ B0) : OwnFrom B0 (PushI w B g v st B0) := by
  intro s W W' row ⟨v', h1, h2, h4, h3⟩ hg hr
  refine ⟨v', h1.grown hg (fun r e => (hr r e).2), touch_row hg (fun r e => (hr r e).1) hB h2, Nat.le_trans h4 hg.size, fun j hj => ?_⟩
  rcases h3 j hj with h | ⟨h, o, ho, hc⟩
  · exact .inl h
  · refine .inr ⟨h, o, (hg.block j (Array.getElem?_eq_some_iff.1 ho).1 (fun e => ?_)).trans ho, hc⟩
    obtain ⟨o', ho', hn⟩ := (hr j e.symm).2
    rw [ho] at ho'
    injection ho' with ho'
    subst ho'
    rw [hc] at hn
    cases hn
set_option maxRecDepth 100000 in
set_option maxHeartbeats 2000000 in
theorem pushAll_any (B g : Nat) (v : Value) (st zs : List Int) (hz : zs.length ≤ 100000) (hst : st.length ≤ 800000) (A : Option Addr) (cap : Nat) (w : World) (h : TodoAt w B g v st) (hR : Row w A (ints zs)) (hA : ∀ j ∈ own (.slice A zs.length cap), j < w.heap.size ∧ j ∉ g :: own v) :
    Calls Try.prog 34 #[.slice A zs.length cap, .pointer (some ⟨g, 0, none⟩)] w (TodoE w B g v (st ++ zs.reverse) (.tuple #[])) := by
  have hos := h.owns
  refine (callsIn_wide (n := 5)).1 ?_
  refine callsIn_of_wp_marks Try.func34 rfl trivial ?_ rfl
  simp only [Try.ntmps34, List.size_toArray, List.length_cons, List.length_nil, Nat.reduceAdd, Nat.reduceSub, Array.replicate_succ, Array.replicate_zero, List.push_toArray, List.append_toArray, List.nil_append, List.cons_append]
  gi_wp2_with (refine ⟨trivial, ?_⟩; gi_at_call 35; refine (back_in Fence.wide (5 - 1) trivial rfl _ _ _ _).mono ?_; rintro e w' ⟨rfl, rfl⟩)
  have bN : (w.alloc (.cells #[.slice A zs.length cap] 22)).cell? ⟨w.heap.size, 0, none⟩ = some (.slice A zs.length cap) := by rw [World.cell?_alloc_at _ _ _ _ rfl]; rfl
  have hE := Ext.alloc w (.cells #[.slice A zs.length cap] 22)
  have hBs : w.heap.size ∉ g :: own v := fun hm => by have := (hos _ hm).2; omega
  have hA2 : ∀ j ∈ own (.slice A zs.length cap), j < w.heap.size + 1 ∧ j ∉ g :: own v := fun j hj => ⟨by have := (hA j hj).1; omega, (hA j hj).2⟩
  refine wpIn_rangeFunc_ownG rfl (show 1 ≤ 5 by omega) (gf := 39) (lb := #[.pointer (some ⟨w.heap.size, 0, none⟩)]) rfl trivial (enters_of Try.func39 (by kernel_rfl) rfl)
    (back_stops Fence.wide (5 - 1) trivial rfl (by omega) w.heap.size (w.heap.size + 1) (g :: own v) A cap zs (by omega) (by omega) hBs hA2 _ (by simp) bN (hR.ext hE)) KpT.trans (fun W l o o' hl _ _ _ => KpT.putObj (by simp at hl; omega)) (Below.refl _ _) (fun _ => rfl)
    (PushI w B g v st (w.alloc (.cells #[.slice A zs.length cap] 22)).heap.size)
    (fun _ _ _ => False)
    (pushI_own (by simp))
    (fun _ _ _ _ _ hs _ _ => hs)
    ⟨v, by simpa using h.ext hE, Touch.of_ext hE, Nat.le_refl _, fun j hj => .inl hj⟩
    (fun x => { tmps := #[.slice A zs.length cap, .pointer (some ⟨g, 0, none⟩), undef, undef, .int .i64 x.2, .slice A zs.length cap, .func (.func 39) #[] #[.pointer (some ⟨w.heap.size, 0, none⟩)], .int .i64 (x.1 : Int), .int .i64 x.2, undef, undef], defers := [] }) ?assign ?body ?done ?stop
  case assign =>
    intro l x W K hK
    gi_wp2
    exact hK
  case body =>
    rintro l pre x W ⟨v1, h1, h2, h4, h3⟩ hlen
    have KP := Kept.mk (push_any B g v1 (st ++ pre.map (·.2)) (by simp; omega) x.2 W h1)
    gi_wp2_with (refine ⟨trivial, ?_⟩; gi_at_call 23; refine (CallsIn.inRound l (callsIn_wide.2 KP.out)).mono ?_; rintro e w' ⟨rfl, v2, q1, q2, q3⟩)
    have hs0 : (w.alloc (.cells #[.slice A zs.length cap] 22)).heap.size = w.heap.size + 1 := by simp
    rw [hs0] at h3 h4 ⊢
    have hgw := (hos g (by simp)).2
    have hne : st ++ pre.map (·.2) ++ [x.2] ≠ [] := by simp
    refine ⟨⟨q2.size, fun k o hk ho hc => (q2.block k (Array.getElem?_eq_some_iff.1 ho).1 (fun hm => ?_)).trans ho⟩, fun k hk hn => q2.block k (by omega) (fun hm => ?_), v2, by simpa using q1, h2.trans q2 (fun j hj => ?_), Nat.le_trans h4 q2.size, fun j hj => ?_⟩
    · rcases List.mem_cons.1 hm with rfl | hm
      · omega
      · rcases h3 k hm with h5 | ⟨_, o', h5, h6⟩
        · have := (hos k (by simp [h5])).2; omega
        · rw [ho] at h5
          injection h5 with h5
          subst h5
          rw [hc] at h6
          cases h6
    · rcases List.mem_cons.1 hm with rfl | hm
      · exact hn (by simp)
      · rcases h3 k hm with h5 | ⟨h5, _⟩
        · exact hn (by simp [h5])
        · omega
    · rcases List.mem_cons.1 hj with rfl | hj
      · exact .inl (by simp)
      · rcases h3 j hj with h5 | ⟨h5, _⟩
        · exact .inl (by simp [h5])
        · exact .inr (by omega)
    · rcases q3 j hj with h5 | h5
      · rcases h3 j h5 with h6 | ⟨h6, _⟩
        · exact .inl h6
        · exact .inr ⟨h6, Buf.isCells q1.2.1 (by simp [numsV]) j hj⟩
      · exact .inr ⟨by omega, Buf.isCells q1.2.1 (by simp [numsV]) j hj⟩
  case done =>
    rintro D ys W hD rfl ⟨v1, h1, h2, h4, h3⟩ hK
    have hgb := grownBy_putObj' W D (.deferred none)
    have hnc : ∀ r, (some D) = some r → ∃ o, W.heap[r]? = some o ∧ o.isCells = false := fun r e => by cases e; exact ⟨_, hK, rfl⟩
    refine ⟨by simp, .inl ⟨_, _, rfl, run_takeDeferred hK, ?_⟩⟩
    rw [backL_snd] at h1
    have hgo : TodoE w B g v (st ++ zs.reverse) (.tuple #[]) (.returned (.tuple #[])) (W.putObj D (.deferred none)) := by
      refine ⟨rfl, v1, h1.grown hgb hnc, touch_row (m := w.heap.size) hgb (fun r e => by cases e; simp at hD; omega) (Nat.le_refl _) h2, fun j hj => ?_⟩
      rcases h3 j hj with h5 | ⟨h5, _⟩
      · exact .inl h5
      · exact .inr (by simp at h5; omega)
    exact ⟨_, results_none rfl _ _ _, hgo⟩
  case stop =>
    rintro D c pre W hD _ h _
    exact h.elim
end Work
end Go.Proofs.Ytnbgdphnoopdpaa
