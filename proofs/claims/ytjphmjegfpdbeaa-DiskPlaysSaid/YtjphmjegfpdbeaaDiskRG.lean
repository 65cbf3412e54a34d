/- The document's New and Arm. No condition. -/
import Derived.Test.YtjphmjegfpdbeaaDiskRF
namespace Go.Proofs.Ytjphmjegfpdbeaa
open Go.RowKit
namespace Disk
open Str
set_option linter.unusedSimpArgs false
set_option linter.unusedVariables false
set_option maxRecDepth 100000 in
set_option maxHeartbeats 16000000 in
theorem newR_any (room : Int) (w : World) : Calls Try.prog 19 #[.int .i64 room] w fun e w' => e = .returned (.tuple #[.agg (rdV (newP room) (.slice none 0 0) (.slice none 0 0) 0 0).toArray, .bool (decide (0 ≤ room ∧ room ≤ 16777216))]) ∧ Ext w w' := by
  have hE := Ext.alloc w (.cells #[.int .i64 0, .slice none 0 0, .slice none 0 0, .bool false, .int .i64 0, .int .u64 0, .int .i64 0] 49)
  have KE := Kept.mk hE
  have Kr := Kept.mk (Blk.new w 49 [.int .i64 0, .slice none 0 0, .slice none 0 0, .bool false, .int .i64 0, .int .u64 0, .int .i64 0])
  clear hE
  by_cases h0 : 0 ≤ room
  · have Kd : Kept (decide (0 ≤ room ∧ room ≤ 16777216) = decide (room ≤ 16777216)) := Kept.mk (by simp [h0])
    rw [Kd.out]
    go_enter Try.func19, Try.ntmps19
    go_upto_region 1 with (fail)
    go_wp2_with (first | (refine wpList_store_blk (P := Try.prog) rfl 49 (.tmp 2) (.tmp 5) rfl rfl w.heap.size rfl 49 _ [.int .i64 room, .slice none 0 0, .slice none 0 0, .bool false, .int .i64 0, .int .u64 0, .int .i64 0] rfl Kr.out rfl infoRd rfl ?_))
    exact bodyPost_ret (v := _) (results_blk_slot rfl _ _ w.heap.size 49 _ _ _ rfl rfl (Kr.out.row [.int .i64 room, .slice none 0 0, .slice none 0 0, .bool false, .int .i64 0, .int .u64 0, .int .i64 0]) Try.underlying49 rfl infoRd) rfl ⟨rfl, store_ext KE.out (Nat.le_refl _) _⟩
  · have Kd : Kept (decide (0 ≤ room ∧ room ≤ 16777216) = false) := Kept.mk (by simp [h0])
    rw [Kd.out]
    go_enter Try.func19, Try.ntmps19
    go_upto_region 1 with (fail)
    go_wp2_with (first | (refine wpList_store_blk (P := Try.prog) rfl 49 (.tmp 2) (.tmp 5) rfl rfl w.heap.size rfl 49 _ [.int .i64 room, .slice none 0 0, .slice none 0 0, .bool false, .int .i64 0, .int .u64 0, .int .i64 0] rfl Kr.out rfl infoRd rfl ?_))
    exact bodyPost_ret (v := _) (results_blk_slot rfl _ _ w.heap.size 49 _ _ _ rfl rfl (Kr.out.row [.int .i64 room, .slice none 0 0, .slice none 0 0, .bool false, .int .i64 0, .int .u64 0, .int .i64 0]) Try.underlying49 rfl infoRd) rfl ⟨rfl, store_ext KE.out (Nat.le_refl _) _⟩
theorem results_blk {P : Program} {fn : Func} {p : Tmp} {ty : TypeId} (h : fn.results = #[.cell p ty]) (tmps : Array Value) (w : World) (g : Nat) (T : TypeId) (xs : List Value) (d : TypeDesc)
    (hp : tmps.getD p undef = .pointer (some ⟨g, 0, none⟩)) (hg : Blk w g T xs) (hu : P.underlying ty = some d) (hd : (match d with | .struct _ | .array _ _ => true | _ => false) = true) (hi : (P.info? ty).map (·.size) = some xs.length) :
    (results fn tmps).run P w = .ok (.agg xs.toArray) w := by
  have hp' : tmps[p]?.getD undef = .pointer (some ⟨g, 0, none⟩) := by simpa using hp
  simp [results, h, hp', asAddr, run_loadVar_row w g T ty xs.toArray (0, 0) d hg hu hd (by simpa using hi)]
theorem infoCut : (Try.prog.info? 31).map (·.size) = some 2 := by kernel_rfl
def ArmRE (w : World) (d : Dk) (n k : Int) (lv rv : Value) (e : Ending) (w' : World) : Prop := ∃ cn, e = .returned (.agg (rdV { d with cnt := cn } lv rv n k).toArray) ∧ cn = (if n < 1 then 0 else n) ∧ Ext w w'
set_option maxRecDepth 100000 in
set_option maxHeartbeats 16000000 in
theorem armR_any {G : Nat → Prop} (d : Dk) (lv rv : Value) (an ak n k : Int) (w : World) (h : RdIn G w d lv rv) : Calls Try.prog 22 #[.agg (rdV d lv rv an ak).toArray, .agg #[.int .i64 n, .int .u64 k]] w (ArmRE w d n k lv rv) := by
  obtain ⟨A, nn, c, rfl⟩ := h.l.form
  obtain ⟨B, cb, hrv⟩ := h.r.form
  obtain ⟨m, hmm⟩ : ∃ m, m = (d.rows.map effR).length := ⟨_, rfl⟩
  rw [← hmm] at hrv
  subst hrv
  unfold rdV ArmRE
  clear h hmm
  have hE1 := Ext.alloc w (.cells #[.int .i64 d.room, .slice A nn c, .slice B m cb, .bool d.down, .int .i64 an, .int .u64 ak, .int .i64 d.cnt] 49)
  have hE2 := Ext.alloc (w.alloc (.cells #[.int .i64 d.room, .slice A nn c, .slice B m cb, .bool d.down, .int .i64 an, .int .u64 ak, .int .i64 d.cnt] 49)) (.cells #[.int .i64 n, .int .u64 k] 31)
  have hE3 := Ext.alloc ((w.alloc (.cells #[.int .i64 d.room, .slice A nn c, .slice B m cb, .bool d.down, .int .i64 an, .int .u64 ak, .int .i64 d.cnt] 49)).alloc (.cells #[.int .i64 n, .int .u64 k] 31)) (.cells #[.int .i64 0, .slice none 0 0, .slice none 0 0, .bool false, .int .i64 0, .int .u64 0, .int .i64 0] 49)
  have hb1 := ((Blk.new w 49 [.int .i64 d.room, .slice A nn c, .slice B m cb, .bool d.down, .int .i64 an, .int .u64 ak, .int .i64 d.cnt]).ext hE2).ext hE3
  have hb2 := (Blk.new (w.alloc (.cells #[.int .i64 d.room, .slice A nn c, .slice B m cb, .bool d.down, .int .i64 an, .int .u64 ak, .int .i64 d.cnt] 49)) 31 [.int .i64 n, .int .u64 k]).ext hE3
  have hb3 := Blk.new ((w.alloc (.cells #[.int .i64 d.room, .slice A nn c, .slice B m cb, .bool d.down, .int .i64 an, .int .u64 ak, .int .i64 d.cnt] 49)).alloc (.cells #[.int .i64 n, .int .u64 k] 31)) 49 [.int .i64 0, .slice none 0 0, .slice none 0 0, .bool false, .int .i64 0, .int .u64 0, .int .i64 0]
  rw [World.size_alloc] at hb2
  rw [World.size_alloc, World.size_alloc] at hb3
  have KE := Kept.mk ((hE1.trans hE2).trans hE3)
  have Kx := Kept.mk hb1
  have Kc := Kept.mk hb2
  have Kr := Kept.mk hb3
  clear hE1 hE2 hE3 hb1 hb2 hb3
  go_enter Try.func22, Try.ntmps22
  go_upto_region 1 with (fail)
  have Kg := Kept.mk (show w.heap.size ≤ w.heap.size from Nat.le_refl _)
  generalize hxg : w.heap.size = xg at Kx Kr Kc Kg ⊢
  have Kxg := Kept.mk hxg
  clear hxg Kg
  generalize ((w.alloc (.cells #[.int .i64 d.room, .slice A nn c, .slice B m cb, .bool d.down, .int .i64 an, .int .u64 ak, .int .i64 d.cnt] 49)).alloc (.cells #[.int .i64 n, .int .u64 k] 31)).alloc (.cells #[.int .i64 0, .slice none 0 0, .slice none 0 0, .bool false, .int .i64 0, .int .u64 0, .int .i64 0] 49) = w1 at *
  have x4 := Kx.out.cell 4
  have x5 := Kx.out.cell 5
  have x6 := Kx.out.cell 6
  have f4 := Kx.out.free 4
  have f5 := Kx.out.free 5
  have f6 := Kx.out.free 6
  have c0 := Kc.out.cell 0
  have c1 := Kc.out.cell 1
  simp only [List.getElem?_cons_zero, List.getElem?_cons_succ] at x4 x5 x6 c0 c1
  go_upto_region 3 with (fail)
  have Kx3 := Kept.mk (((Kx.out.set 4 (.int .i64 n)).set 5 (.int .u64 k)).set 6 (.int .i64 n))
  simp only [List.set_cons_zero, List.set_cons_succ] at Kx3
  have Kr3 := Kept.mk (((Kr.out.set_other ⟨xg, 4, none⟩ (.int .i64 n) (by show _ ≠ xg; omega)).set_other ⟨xg, 5, none⟩ (.int .u64 k) (by show _ ≠ xg; omega)).set_other ⟨xg, 6, none⟩ (.int .i64 n) (by show _ ≠ xg; omega))
  have hle : w.heap.size ≤ xg := by rw [Kxg.out]; exact Nat.le_refl _
  have KE3 := Kept.mk (cell_ext (cell_ext (cell_ext KE.out hle 4 (.int .i64 n)) hle 5 (.int .u64 k)) hle 6 (.int .i64 n))
  have Kle := Kept.mk hle
  have Kc3 := Kept.mk (((Kc.out.set_other ⟨xg, 4, none⟩ (.int .i64 n) (by show _ ≠ xg; omega)).set_other ⟨xg, 5, none⟩ (.int .u64 k) (by show _ ≠ xg; omega)).set_other ⟨xg, 6, none⟩ (.int .i64 n) (by show _ ≠ xg; omega))
  clear x4 x5 x6 f4 f5 f6 c0 c1 Kx Kr Kc KE hle
  generalize ((w1.setCell ⟨xg, 4, none⟩ (.int .i64 n)).setCell ⟨xg, 5, none⟩ (.int .u64 k)).setCell ⟨xg, 6, none⟩ (.int .i64 n) = w3 at *
  have c0 := Kc3.out.cell 0
  have f6 := Kx3.out.free 6
  have x6 := Kx3.out.cell 6
  simp only [List.getElem?_cons_zero, List.getElem?_cons_succ] at c0 x6
  by_cases h1 : n < 1
  · have Kn := Kept.mk (show (if n < 1 then (0 : Int) else n) = 0 from if_pos h1)
    have Kx4 := Kept.mk (Kx3.out.set 6 (.int .i64 0))
    simp only [List.set_cons_zero, List.set_cons_succ] at Kx4
    have Kr4 := Kept.mk (Kr3.out.set_other ⟨xg, 6, none⟩ (.int .i64 0) (by show _ ≠ xg; omega))
    have KE4 := Kept.mk (cell_ext KE3.out Kle.out 6 (.int .i64 0))
    go_upto_region 5 with (fail)
    clear c0 x6 f6 Kx3 Kr3 KE3 Kc3
    generalize w3.setCell ⟨xg, 6, none⟩ (.int .i64 0) = w4 at *
    have Krow := Kept.mk (Kr4.out.row [.int .i64 d.room, .slice A nn c, .slice B m cb, .bool d.down, .int .i64 n, .int .u64 k, .int .i64 0])
    have KEf := Kept.mk (store_ext KE4.out (by have := Kle.out; omega) (g := xg + 1 + 1) [.int .i64 d.room, .slice A nn c, .slice B m cb, .bool d.down, .int .i64 n, .int .u64 k, .int .i64 0].toArray)
    go_wp2_with (first | (refine wpList_load_blk (P := Try.prog) rfl 49 (.tmp 2) rfl xg rfl 49 _ Kx4.out _ Try.underlying49 rfl infoRd ?_) | (refine wpList_store_blk (P := Try.prog) rfl 49 (.tmp 4) (.tmp 14) rfl rfl (xg + 1 + 1) rfl 49 _ [.int .i64 d.room, .slice A nn c, .slice B m cb, .bool d.down, .int .i64 n, .int .u64 k, .int .i64 0] rfl Kr4.out rfl infoRd rfl ?_))
    exact bodyPost_ret (v := _) (results_blk rfl _ _ (xg + 1 + 1) 49 _ _ rfl Krow.out Try.underlying49 rfl infoRd) rfl ⟨0, rfl, (by first | rfl | exact Kn.out.symm), KEf.out⟩
  · have Kn := Kept.mk (show (if n < 1 then (0 : Int) else n) = n from if_neg h1)
    have Krow := Kept.mk (Kr3.out.row [.int .i64 d.room, .slice A nn c, .slice B m cb, .bool d.down, .int .i64 n, .int .u64 k, .int .i64 n])
    have KEf := Kept.mk (store_ext KE3.out (by have := Kle.out; omega) (g := xg + 1 + 1) [.int .i64 d.room, .slice A nn c, .slice B m cb, .bool d.down, .int .i64 n, .int .u64 k, .int .i64 n].toArray)
    go_wp2_with (first | (refine wpList_load_blk (P := Try.prog) rfl 49 (.tmp 2) rfl xg rfl 49 _ Kx3.out _ Try.underlying49 rfl infoRd ?_) | (refine wpList_store_blk (P := Try.prog) rfl 49 (.tmp 4) (.tmp 14) rfl rfl (xg + 1 + 1) rfl 49 _ [.int .i64 d.room, .slice A nn c, .slice B m cb, .bool d.down, .int .i64 n, .int .u64 k, .int .i64 n] rfl Kr3.out rfl infoRd rfl ?_))
    exact bodyPost_ret (v := _) (results_blk rfl _ _ (xg + 1 + 1) 49 _ _ rfl Krow.out Try.underlying49 rfl infoRd) rfl ⟨n, rfl, (by first | rfl | exact Kn.out.symm), KEf.out⟩
end Disk
end Go.Proofs.Ytjphmjegfpdbeaa
