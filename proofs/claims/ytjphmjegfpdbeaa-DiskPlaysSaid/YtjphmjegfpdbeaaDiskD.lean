/- New, Taken, Read. No condition. -/
import Derived.Test.YtjphmjegfpdbeaaDiskC
namespace Go.Proofs.Ytjphmjegfpdbeaa
open Go.RowKit
namespace Disk
open Str
set_option linter.unusedSimpArgs false
set_option linter.unusedVariables false
set_option maxRecDepth 100000 in
set_option maxHeartbeats 4000000 in
theorem new_bad (room : Int) (hr : room < 0 ∨ 16777216 < room) (w : World) : Calls Try.prog 10 #[.int .i64 room] w fun e w' => e = .returned (.tuple #[.pointer none, .int .i64 1]) ∧ w = w' := by
  by_cases h0 : room < 0
  · clear hr
    go_enter Try.func10, Try.ntmps10
    go_wp2_with fail
    go_ret2
    exact ⟨rfl, rfl⟩
  · have h1 : 16777216 < room := by omega
    clear hr
    go_enter Try.func10, Try.ntmps10
    go_wp2_with fail
    go_ret2
    exact ⟨rfl, rfl⟩
/-- A new disk. -/
def NewE (w : World) (room : Int) (e : Ending) (w' : World) : Prop := ∃ g D, e = .returned (.tuple #[.pointer (some ⟨g, 0, none⟩), .int .i64 0]) ∧ DkAt w' w.heap.size D g (newP room) ∧ Ext w w'
set_option maxRecDepth 100000 in
set_option maxHeartbeats 4000000 in
theorem new_any (room : Int) (h0 : 0 ≤ room) (h1 : room ≤ 16777216) (w : World) : Calls Try.prog 10 #[.int .i64 room] w (NewE w room) := by
  have h0' : ¬ room < 0 := by omega
  have h1' : ¬ (16777216 : Int) < room := by omega
  have KF : Kept (NewE w room (.returned (.tuple #[.pointer (some ⟨w.heap.size + 1 + 1, 0, none⟩), .int .i64 0])) (((w.alloc (.map #[] 0)).alloc (.map #[] 0)).alloc (.cells #[.int .i64 room, .map (some w.heap.size), .map (some (w.heap.size + 1)), .slice none 0 0, .bool false, .int .i64 0, .int .u64 0] 73))) := Kept.mk (by
    have hE1 := Ext.alloc w (.map #[] 0)
    have hE2 := Ext.alloc (w.alloc (.map #[] 0)) (.map #[] 0)
    have hE3 := Ext.alloc ((w.alloc (.map #[] 0)).alloc (.map #[] 0)) (.cells #[.int .i64 room, .map (some w.heap.size), .map (some (w.heap.size + 1)), .slice none 0 0, .bool false, .int .i64 0, .int .u64 0] 73)
    have hb := Blk.new ((w.alloc (.map #[] 0)).alloc (.map #[] 0)) 73 [.int .i64 room, .map (some w.heap.size), .map (some (w.heap.size + 1)), .slice none 0 0, .bool false, .int .i64 0, .int .u64 0]
    have hm := FMap.made (w.alloc (.map #[] 0))
    rw [World.size_alloc, World.size_alloc] at hb
    rw [World.size_alloc] at hm
    refine ⟨_, [w.heap.size, w.heap.size + 1, w.heap.size + 1 + 1], rfl, ⟨by simp, w.heap.size, w.heap.size + 1, .slice none 0 0, hb, ?_⟩, (hE1.trans hE2).trans hE3⟩
    exact ⟨(FMap.made w).ext (hE2.trans hE3), hm.ext hE3, BufS.nil 3 _ _ _, by simp, by simp, by simp [own], by omega, by
      intro j hj
      simp only [List.mem_cons, List.not_mem_nil, or_false] at hj
      simp only [World.size_alloc]
      omega⟩)
  clear h0
  have hmm := @run_makeMap Try.prog
  go_enter Try.func10, Try.ntmps10
  go_wp2_with fail
  go_ret2
  exact KF.out
set_option maxRecDepth 100000 in
set_option maxHeartbeats 4000000 in
theorem takenD_any (w : World) (B : Nat) (D : List Nat) (g : Nat) (d : Dk) (n : Nat) (h : DkAt w B D g d) (hb : DkB n d) (hn : n ≤ 1048576) : Calls Try.prog 13 #[.pointer (some ⟨g, 0, none⟩)] w fun e w' => e = .returned (.int .i64 (takenD d : Int)) ∧ Ext w w' := by
  have KS := Kept.mk hb.seen
  obtain ⟨hg, bl, bs, v, hb, hp⟩ := h
  have c2 := hb.cell 2
  have c4 := hb.cell 4
  simp only [dkV, List.getElem?_cons_zero, List.getElem?_cons_succ] at c2 c4
  have Kf := Kept.mk hp.fs
  have KT : Kept (takenD d = if d.down then 0 else takenP (seenP d)) := Kept.mk rfl
  generalize takenD d = tD at *
  cases hd : d.down with
  | true =>
    rw [hd] at c4 KT
    have K0 := Kept.mk (show tD = 0 from by rw [KT.out]; rfl)
    clear hd hb hp hg KT
    go_enter Try.func13, Try.ntmps13
    go_wp2_with fail
    go_ret
    exact ⟨by rw [K0.out]; rfl, Ext.refl _⟩
  | false =>
    rw [hd] at c4 KT
    have K0 := Kept.mk (show tD = takenP (seenP d) from by rw [KT.out]; rfl)
    have KC := Kept.mk (taken_any w bs (seenP d) n Kf.out KS.out hn)
    clear hd hb hp hg KT
    go_enter Try.func13, Try.ntmps13
    go_wp2_with fail
    refine KC.out.mono ?_
    rintro e w' ⟨rfl, hE⟩
    have KE := Kept.mk hE
    clear hE
    rw [← K0.out]
    go_wp2_with fail
    go_ret
    exact ⟨rfl, KE.out⟩
set_option maxRecDepth 100000 in
set_option maxHeartbeats 4000000 in
theorem read_any (w : World) (B : Nat) (D : List Nat) (g : Nat) (d : Dk) (p : S) (h : DkAt w B D g d) : Calls Try.prog 14 #[.pointer (some ⟨g, 0, none⟩), .string (strOf p)] w fun e w' => e = .returned (.tuple #[.string (strOf (readP d p).1), .int .i64 (readP d p).2]) ∧ w = w' := by
  obtain ⟨hg, bl, bs, v, hb, hp⟩ := h
  have c2 := hb.cell 2
  have c4 := hb.cell 4
  simp only [dkV, List.getElem?_cons_zero, List.getElem?_cons_succ] at c2 c4
  have hl := hp.fs.look p
  have KT : Kept (readP d p = if d.down then (([] : S), (8 : Int)) else match getK (seenP d) p with | none => (([] : S), (5 : Int)) | some t => (t, (0 : Int))) := Kept.mk rfl
  generalize readP d p = tD at *
  clear hb hp hg
  cases hd : d.down with
  | true =>
    rw [hd] at c4 KT
    have K0 := Kept.mk (show tD = ([], 8) from by rw [KT.out]; rfl)
    clear hd KT hl
    go_enter Try.func14, Try.ntmps14
    go_wp2_with fail
    go_ret2
    exact ⟨by rw [K0.out]; rfl, rfl⟩
  | false =>
    rw [hd] at c4 KT
    cases hg : getK (seenP d) p with
    | none =>
      rw [hg] at hl KT
      simp only [Option.getD_none, Option.isSome_none] at hl
      have K0 := Kept.mk (show tD = ([], 5) from by rw [KT.out]; rfl)
      clear hd KT hg
      go_enter Try.func14, Try.ntmps14
      go_wp2_with fail
      go_ret2
      exact ⟨by rw [K0.out]; rfl, rfl⟩
    | some t =>
      rw [hg] at hl KT
      simp only [Option.getD_some, Option.isSome_some] at hl
      have K0 := Kept.mk (show tD = (t, 0) from by rw [KT.out]; rfl)
      clear hd KT hg
      go_enter Try.func14, Try.ntmps14
      go_wp2_with fail
      go_ret2
      exact ⟨by rw [K0.out]; rfl, rfl⟩
end Disk
end Go.Proofs.Ytjphmjegfpdbeaa
