/- The walks of spots. No condition. -/
import Derived.Test.YtdjkcolceccclaaEdgePlain
import Derived.Test.YtdjkcolceccclaaProg
namespace Go.Proofs.Ytdjkcolceccclaa
open Go.RowKit
namespace Edge
set_option linter.unusedSimpArgs false
set_option linter.unusedVariables false
theorem infoSp : ∃ i : TypeInfo, Try.prog.info? 54 = some i ∧ i.zero = some (.agg #[.pointer none, .int .i64 0]) ∧ i.size = 2 ∧ i.bytes = 16 := by
  have h : (Try.prog.info? 54).map (fun i => (i.zero, i.size, i.bytes)) = some (some (.agg #[.pointer none, .int .i64 0]), 2, 16) := by kernel_rfl
  obtain ⟨i, hi, he⟩ := Option.map_eq_some_iff.1 h
  injection he with e1 e2
  injection e2 with e2 e3
  exact ⟨i, hi, e1, e2, e3⟩
/-- The collected spots, in a box. -/
structure OutAt (w : World) (B ob : Nat) (l : List (Addr × Int)) : Prop where
  ex : ∃ v, Blk w ob 49 [v] ∧ BufS 2 w B 54 v (l.map spV) ∧ ob ∉ own v
  b : B ≤ ob
theorem OutAt.ext {w w' : World} {B ob : Nat} {l : List (Addr × Int)} (h : OutAt w B ob l) (k : Ext w w') : OutAt w' B ob l := by
  obtain ⟨v, h1, h2, h3⟩ := h.ex
  exact ⟨⟨v, h1.ext k, h2.ext k, h3⟩, h.b⟩
def AddE (w : World) (B ob : Nat) (l : List (Addr × Int)) (e : Ending) (w' : World) : Prop :=
  e = .returned (.tuple #[]) ∧ OutAt w' B ob l ∧ ∀ w0, w0.heap.size ≤ B → Ext w0 w → Ext w0 w'
set_option maxRecDepth 100000 in
set_option maxHeartbeats 1000000 in
theorem add_any (B ob : Nat) (l : List (Addr × Int)) (hl : l.length ≤ 100000) (a : Addr) (k : Int) (w : World) (h : OutAt w B ob l) :
    Calls Try.prog 29 #[.pointer (some a), .int .i64 k, .pointer (some ⟨ob, 0, none⟩)] w (AddE w B ob (l ++ [(a, k)])) := by
  obtain ⟨iS, hiS, hzS, hsS, hbS⟩ := infoSp
  obtain ⟨⟨v, h1, h2, h3⟩, h4⟩ := h
  have c0 := h1.cell 0
  simp only [List.getElem?_cons_zero] at c0
  have KB := Kept.mk h1
  have KV := Kept.mk h2
  have Kn := Kept.mk h3
  have hBo := h1.lt
  obtain ⟨A, cap, rfl⟩ := h2.form
  rw [List.length_map] at c0 KB KV Kn
  have hll : (l.map spV).length ≤ 100000 := by rw [List.length_map]; exact hl
  clear h1 h2 h3
  go_enter Try.func29, Try.ntmps29
  go_wp2_with (refine wpList_append_litS (P := Try.prog) w rfl (.tmp 5) (.tmp 9) 49 rfl 2 (by decide) 54 iS _ Try.underlying49 hiS hzS hsS rfl B (.slice A l.length cap) (l.map spV) rfl KV.out [.pointer (some a), .int .i64 k] rfl rfl (by simp [Value.oneCell']) (by omega) (by simp only [maxLen]; omega) (by rw [hbS]; omega) ?_)
  intro v' w' hv' ht' ho'
  have hno : ob ∉ own v' := fun hm => (ho' ob hm).elim Kn.out (fun h => by omega)
  have KB1 := KB.out.touch ht' Kn.out
  have c1 := KB1.cell 0
  simp only [List.getElem?_cons_zero] at c1
  have f1 := KB1.free 0
  have KF := Kept.mk (show OutAt (w'.setCell ⟨ob, 0, none⟩ v') B ob (l ++ [(a, k)]) from ⟨⟨v', KB1.set 0 v', by
    rw [List.map_append]
    exact hv'.touch (Touch.set w' ⟨ob, 0, none⟩ v') (fun j hj hm => by rw [List.mem_singleton] at hm; exact hno ((show j = ob from hm) ▸ hj)), hno⟩, h4⟩)
  have KE := Kept.mk (show ∀ w0 : World, w0.heap.size ≤ B → Ext w0 w → Ext w0 (w'.setCell ⟨ob, 0, none⟩ v') from fun w0 hb hE => Touch.below (Touch.below hE ht' (fun j hj => by have := (KV.out.owns j hj).1; omega) (by omega)) (Touch.set w' ⟨ob, 0, none⟩ v') (fun j hj => by rw [List.mem_singleton] at hj; have hj' : j = ob := hj; omega) (by have := ht'.size; omega))
  obtain ⟨A', n', c', h'⟩ := BufS.form3 hv'
  subst h'
  clear hv' ht' ho' hno KB1
  go_wp2_with fail
  go_end0
  exact ⟨rfl, KF.out, KE.out⟩
end Edge
end Go.Proofs.Ytdjkcolceccclaa
