/- The walk of packfile's read. No condition. -/
import Derived.Test.YtgnbbklnobladaaPackWalkC
import Derived.Test.YtgnbbklnobladaaSha2WalkE
namespace Go.Proofs.Ytgnbbklnobladaa
open Go.RowKit
namespace Pack
open Delta (wraps_i64 val4 val4_lt)
open Work (ints ints_length)
set_option linter.unusedSimpArgs false
set_option linter.unusedVariables false
set_option maxRecDepth 100000 in
set_option maxHeartbeats 2000000 in
theorem item_short (w0 w : World) (hE : Ext w0 w) (g : Nat) (iv cv : Value) (its : List It) (chs : List Int) (s : List UInt8) (h2 : s.length < 2) (h : RdAt w w0.heap.size g iv cv its chs s) :
    Calls Try.prog 28 #[.pointer (some ⟨g, 0, none⟩)] w (ItemE w0 w0.heap.size g (itemP its chs s)) := by
  have c0 : w.cell? ⟨g, 0, none⟩ = some (.string (strOf s)) := by rw [h.blk.cell]; rfl
  have hsz := strOf_size s
  have h2I : (s.length : Int) < 2 := by omega
  have Kit : Kept (itemP its chs s = bad 2) := Kept.mk (by unfold itemP; rw [if_pos h2])
  have KE := Kept.mk hE
  clear h hE h2
  go_enter Try.func28, Try.ntmps28
  go_wp2_with fail
  go_ret
  rw [Kit.out]
  exact ⟨rfl, KE.out, fun h => by cases h⟩
theorem item_any (w0 w : World) (hE : Ext w0 w) (g : Nat) (iv cv : Value) (its : List It) (chs : List Int) (hS : Small its chs) (s : List UInt8) (hs : s.length ≤ 900000) (h : RdAt w w0.heap.size g iv cv its chs s) :
    Calls Try.prog 28 #[.pointer (some ⟨g, 0, none⟩)] w (ItemE w0 w0.heap.size g (itemP its chs s)) := by
  by_cases h2 : s.length < 2
  · exact item_short w0 w hE g iv cv its chs s h2 h
  · by_cases hb : byt s 1 = 1
    · exact item_based w0 w hE g iv cv its chs hS s hs h2 hb h
    · exact item_other w0 w hE g iv cv its chs hS s hs h2 hb h
/-- What an item that is right adds. -/
theorem body_small {its : List It} {chs : List Int} (hS : Small its chs) (hn : its.length < 1000) (k b : Int) (base : Nat) (s : List UInt8) (h : (bodyP its chs k b base s).e = 0) :
    Small (bodyP its chs k b base s).its (bodyP its chs k b base s).chs ∧ (bodyP its chs k b base s).its.length = its.length + 1 ∧ (bodyP its chs k b base s).s.length ≤ s.length := by
  have key : ∀ (x : It) (c : Int) (t : List UInt8), x.c.length ≤ 65536 → 0 ≤ c ∧ c ≤ 4 → t.length ≤ s.length → Small (its ++ [x]) (chs ++ [c]) ∧ (its ++ [x]).length = its.length + 1 ∧ t.length ≤ s.length := by
    intro x c t h1 h2 h3
    refine ⟨⟨by simp; omega, by simp [hS.c], fun y hy => ?_, fun y hy => ?_⟩, by simp, h3⟩
    · rcases List.mem_append.1 hy with hy | hy
      · exact hS.i y hy
      · rw [List.mem_singleton] at hy; subst hy; exact h1
    · rcases List.mem_append.1 hy with hy | hy
      · exact hS.h y hy
      · rw [List.mem_singleton] at hy; subst hy; exact h2
  have hd : ((s.drop 4).drop (Delta.val4 s)).length ≤ s.length := by rw [List.length_drop, List.length_drop]; omega
  have hc0 : 0 ≤ chs.getD base 0 := by
    rw [List.getD_eq_getElem?_getD]
    rcases Nat.lt_or_ge base chs.length with hb | hb
    · rw [List.getElem?_eq_getElem hb]; exact (hS.h _ (List.getElem_mem hb)).1
    · rw [List.getElem?_eq_none hb]; exact Int.le_refl _
  generalize hOP : Sqz.openP ((s.drop 4).take (Delta.val4 s)) 1048576 = OP
  have hch : 0 ≤ (if b = 1 then chs.getD base 0 + 1 else 0) := by split <;> omega
  unfold bodyP at h ⊢
  rw [hOP] at h ⊢
  by_cases h0 : s.length < 4
  · rw [if_pos h0] at h; simp [bad] at h
  rw [if_neg h0] at h ⊢
  by_cases h1 : (s.drop 4).length < Delta.val4 s
  · rw [if_pos h1] at h; simp [bad] at h
  rw [if_neg h1] at h ⊢
  by_cases h2 : k < 1 ∨ 4 < k ∨ 1 < b ∨ (b = 1 ∧ its.length ≤ base)
  · rw [if_pos h2] at h; simp [bad] at h
  rw [if_neg h2] at h ⊢
  by_cases h3 : 4 < (if b = 1 then chs.getD base 0 + 1 else 0)
  · rw [if_pos h3] at h; simp [bad] at h
  rw [if_neg h3] at h ⊢
  by_cases h4 : OP.2 ≠ 0
  · rw [if_pos h4] at h; exact absurd h h4
  rw [if_neg h4] at h ⊢
  by_cases h5 : b = 1
  · rw [if_pos h5] at h h3 ⊢
    by_cases h6 : (Delta.applyP ((its.getD base ⟨0, []⟩).c) OP.1 65536).2 ≠ 0
    · rw [if_pos h6] at h; exact absurd h h6
    rw [if_neg h6] at h ⊢
    by_cases h7 : 65536 < (Delta.applyP ((its.getD base ⟨0, []⟩).c) OP.1 65536).1.length
    · rw [if_pos h7] at h; simp [bad] at h
    rw [if_neg h7] at h ⊢
    exact key _ _ _ (by simp only []; omega) (by omega) hd
  · rw [if_neg h5] at h ⊢
    by_cases h7 : 65536 < OP.1.length
    · rw [if_pos h7] at h; simp [bad] at h
    rw [if_neg h7] at h ⊢
    exact key _ _ _ (by simp only []; omega) (by omega) hd
theorem item_small {its : List It} {chs : List Int} (hS : Small its chs) (hn : its.length < 1000) (s : List UInt8) (h : (itemP its chs s).e = 0) :
    Small (itemP its chs s).its (itemP its chs s).chs ∧ (itemP its chs s).its.length = its.length + 1 ∧ (itemP its chs s).s.length ≤ s.length := by
  unfold itemP at h ⊢
  split
  · rename_i h0; rw [if_pos h0] at h; simp [bad] at h
  rename_i h0; rw [if_neg h0] at h
  split
  · rename_i h1; rw [if_pos h1] at h
    split
    · rename_i h2; rw [if_pos h2] at h; simp [bad] at h
    rename_i h2; rw [if_neg h2] at h
    obtain ⟨a, b, c⟩ := body_small hS hn _ _ _ _ h
    exact ⟨a, b, Nat.le_trans c (by simp only [List.length_drop]; omega)⟩
  · rename_i h1; rw [if_neg h1] at h
    obtain ⟨a, b, c⟩ := body_small hS hn _ _ _ _ h
    exact ⟨a, b, Nat.le_trans c (by simp only [List.length_drop]; omega)⟩
theorem Small.nil : Small [] [] := ⟨by simp, rfl, by simp, by simp⟩
/-- What read answers, and leaves. -/
def ReadE (w : World) (p : List UInt8) (e : Ending) (w' : World) : Prop :=
  ∃ q, e = .returned (.tuple #[.pointer q, .int .i64 (readP p).2.2]) ∧ Ext w w' ∧ ((readP p).2.2 = 0 → ∃ g iv cv, q = some ⟨g, 0, none⟩ ∧ RdAt w' w.heap.size g iv cv (readP p).1 (readP p).2.1 [])
end Pack
end Go.Proofs.Ytgnbbklnobladaa
