/- The walks of a todo list's Push, Pop, Len. No condition. -/
import Derived.Test.YtnbgdphnoopdpaaWorkA
namespace Go.Proofs.Ytnbgdphnoopdpaa
open Go.RowKit
namespace Work
set_option linter.unusedSimpArgs false
set_option linter.unusedVariables false
theorem infoI0 : (Try.prog.info? 3).map (fun i => (i.zero, i.size, i.bytes)) = some (some (.int .i64 0), 1, 8) := by kernel_rfl
theorem infoI : ∃ i, Try.prog.info? 3 = some i ∧ i.zero = some (.int .i64 0) ∧ i.size = 1 ∧ i.bytes = 8 := by
  obtain ⟨i, h, e⟩ := Option.map_eq_some_iff.1 infoI0
  simp only [Prod.mk.injEq] at e
  exact ⟨i, h, e.1, e.2.1, e.2.2⟩
theorem buf_len {w : World} {B : Nat} {e : TypeId} {A : Option Addr} {n cap : Nat} {xs : List Value} (h : Buf w B e (.slice A n cap) xs) : xs.length ≤ cap ∧ cap ≤ 9223372036854775807 := by
  obtain ⟨A', c', e1, h1, h2, _⟩ := h
  injection e1 with _ _ e3
  subst e3
  exact ⟨h1, h2⟩
/-- A todo list in memory. -/
def TodoAt (w : World) (B g : Nat) (v : Value) (l : List Int) : Prop := Blk w g 50 [v] ∧ Buf w B 3 v (ints l) ∧ B ≤ g ∧ g ∉ own v
theorem TodoAt.touch {w w' : World} {B g : Nat} {v : Value} {l : List Int} {S : List Nat} (h : TodoAt w B g v l) (k : Touch S w w') (hS : ∀ j ∈ g :: own v, j ∉ S) : TodoAt w' B g v l :=
  ⟨h.1.touch k (hS g (by simp)), h.2.1.touch k (fun j hj => hS j (by simp [hj])), h.2.2.1, h.2.2.2⟩
theorem TodoAt.ext {w w' : World} {B g : Nat} {v : Value} {l : List Int} (h : TodoAt w B g v l) (k : Ext w w') : TodoAt w' B g v l := h.touch (Touch.of_ext (S := []) k) (by simp)
theorem TodoAt.owns {w : World} {B g : Nat} {v : Value} {l : List Int} (h : TodoAt w B g v l) : ∀ j ∈ g :: own v, B ≤ j ∧ j < w.heap.size := by
  intro j hj
  rcases List.mem_cons.1 hj with rfl | hj
  · exact ⟨h.2.2.1, h.1.lt⟩
  · exact h.2.1.owns j hj
theorem TodoAt.c0 {w : World} {B g : Nat} {v : Value} {l : List Int} (h : TodoAt w B g v l) : w.cell? ⟨g, 0, none⟩ = some v := by rw [h.1.cell]; rfl
theorem TodoAt.free {w : World} {B g : Nat} {v : Value} {l : List Int} (h : TodoAt w B g v l) (j : Nat) : w.frozen? ⟨g, j, none⟩ = false := h.1.free j
/-- What a call on a todo list leaves. -/
def TodoE (w : World) (B g : Nat) (v : Value) (l : List Int) (r : Value) (e : Ending) (w' : World) : Prop :=
  e = .returned r ∧ ∃ v', TodoAt w' B g v' l ∧ Touch (g :: own v) w w' ∧ ∀ j ∈ own v', j ∈ own v ∨ w.heap.size ≤ j
theorem TodoAt.store {w w1 : World} {B g : Nat} {v v' : Value} {l l' : List Int} (h : TodoAt w B g v l) (hT : Touch (own v) w w1) (hV : Buf w1 B 3 v' (ints l')) (ho : ∀ j ∈ own v', j ∈ own v ∨ w.heap.size ≤ j) :
    TodoAt (w1.setCell ⟨g, 0, none⟩ v') B g v' l' ∧ Touch (g :: own v) w (w1.setCell ⟨g, 0, none⟩ v') ∧ ∀ j ∈ own v', j ∈ own v ∨ w.heap.size ≤ j := by
  have hg := (h.owns g (by simp)).2
  have hn : g ∉ own v' := fun hj => by
    rcases ho g hj with h1 | h1
    · exact h.2.2.2 h1
    · omega
  refine ⟨⟨(h.1.touch hT h.2.2.2).set 0 v', hV.touch (Touch.set w1 _ v') (fun j hj hm => ?_), h.2.2.1, hn⟩, ?_, ho⟩
  · rw [List.mem_singleton] at hm
    have hm' : j = g := hm
    exact hn (hm' ▸ hj)
  · exact (hT.more (fun j hj => by simp [hj])).trans (Touch.set w1 ⟨g, 0, none⟩ v') (fun j hj => by
      rw [List.mem_singleton] at hj
      have hj' : j = g := hj
      left; simp [hj'])
set_option maxRecDepth 100000 in
set_option maxHeartbeats 2000000 in
theorem push_any (B g : Nat) (v : Value) (l : List Int) (hl : l.length ≤ 1000000) (x : Int) (w : World) (h : TodoAt w B g v l) :
    Calls Try.prog 23 #[.pointer (some ⟨g, 0, none⟩), .int .i64 x] w (TodoE w B g v (l ++ [x]) (.tuple #[])) := by
  obtain ⟨iI, hiI, hzI, hsI, hbI⟩ := infoI
  obtain ⟨A, c, rfl⟩ := h.2.1.form
  have c0 := h.c0
  have KH := Kept.mk h
  have hB : B ≤ w.heap.size := by have := (h.owns g (by simp)); omega
  have hg : g < w.heap.size := (h.owns g (by simp)).2
  rw [ints_length] at *
  have Kfr := Kept.mk (h.free 0)
  clear h
  go_enter Try.func23, Try.ntmps23
  go_wp2_with (refine wpList_append_lit (P := Try.prog) w rfl (.tmp 8) (.tmp 10) 22 rfl 3 iI (.int .i64 0) Try.underlying22 hiI hzI hsI rfl B (.slice A l.length c) (ints l) rfl KH.out.2.1 [.int .i64 x] 1 rfl rfl (by simp [Value.oneCell']) hB (by rw [ints_length]; simp only [maxLen]; omega) (by rw [ints_length, hbI]; omega) ?_)
  intro v' w1 hV hT ho
  rw [show ints l ++ [.int .i64 x] = ints (l ++ [x]) by simp [numsV]] at hV
  have KF := Kept.mk (KH.out.store hT hV ho)
  have cg := hT.cell c0 KH.out.2.2.2
  have fg := (KH.out.1.touch hT KH.out.2.2.2).free 0
  generalize l ++ [x] = l2 at hV KF ⊢
  obtain ⟨A', c', rfl⟩ := hV.form
  rw [ints_length] at KF ⊢
  clear hV hT ho
  go_wp2_with fail
  go_end0
  exact ⟨rfl, _, KF.out⟩
set_option maxRecDepth 100000 in
set_option maxHeartbeats 2000000 in
theorem tlen_any (B g : Nat) (v : Value) (l : List Int) (w : World) (h : TodoAt w B g v l) :
    Calls Try.prog 26 #[.pointer (some ⟨g, 0, none⟩)] w fun e w' => e = .returned (.int .i64 (l.length : Int)) ∧ w = w' := by
  obtain ⟨A, c, rfl⟩ := h.2.1.form
  have c0 := h.c0
  rw [ints_length] at *
  clear h
  go_enter Try.func26, Try.ntmps26
  go_wp2_with fail
  go_ret
  exact ⟨rfl, rfl⟩
/-- The last one. -/
def popP (l : List Int) : List Int × Int × Bool := if l = [] then ([], 0, false) else (l.take (l.length - 1), l.getD (l.length - 1) 0, true)
set_option maxRecDepth 100000 in
set_option maxHeartbeats 2000000 in
theorem pop_any (B g : Nat) (v : Value) (l : List Int) (hl : l.length ≤ 1000000) (w : World) (h : TodoAt w B g v l) :
    Calls Try.prog 24 #[.pointer (some ⟨g, 0, none⟩)] w (TodoE w B g v (popP l).1 (.tuple #[.int .i64 (popP l).2.1, .bool (popP l).2.2])) := by
  obtain ⟨A, c, rfl⟩ := h.2.1.form
  have c0 := h.c0
  have KH := Kept.mk h
  rw [ints_length] at *
  have fg := h.free 0
  by_cases hz : l = []
  · subst hz
    have hp : popP [] = ([], 0, false) := rfl
    rw [hp]
    clear h
    simp only [List.length_nil] at *
    go_enter Try.func24, Try.ntmps24
    go_wp2_with fail
    exact bodyPost_ret (v := .tuple #[.int .i64 0, .bool false]) (by simp [results, Try.results24, go_sem]) rfl ⟨rfl, _, KH.out, Touch.refl _ _, fun j hj => .inl hj⟩
  · have hp : popP l = (l.take (l.length - 1), l.getD (l.length - 1) 0, true) := by unfold popP; rw [if_neg hz]
    rw [hp]
    obtain ⟨m, hm⟩ : ∃ m, l.length = m + 1 := ⟨l.length - 1, by have : l.length ≠ 0 := fun h => hz (List.length_eq_zero_iff.1 h); omega⟩
    have hm1 : l.length - 1 = m := by omega
    rw [hm1]
    obtain ⟨b, off, rfl, hc⟩ := h.2.1.cell (ints_at l m (by omega))
    have hfr := h.2.1.front m (by rw [ints_length]; omega)
    rw [← ints_take] at hfr
    have KF := Kept.mk (KH.out.store (Touch.refl _ w) hfr (fun j hj => .inl hj))
    obtain ⟨hcap, hmx⟩ := buf_len h.2.1
    rw [ints_length] at hcap
    rw [hm] at *
    clear h hz hp hm1 hfr
    have Kx := l.getD m 0
    generalize l.getD m 0 = x at hc ⊢
    have hsub : ((m + 1 : Nat) : Int) - 1 = (m : Int) := by omega
    go_enter Try.func24, Try.ntmps24
    go_wp2_with fail
    exact bodyPost_ret (v := .tuple #[.int .i64 x, .bool true]) (by simp [results, Try.results24, go_sem]) rfl ⟨rfl, _, KF.out⟩
end Work
end Go.Proofs.Ytnbgdphnoopdpaa
