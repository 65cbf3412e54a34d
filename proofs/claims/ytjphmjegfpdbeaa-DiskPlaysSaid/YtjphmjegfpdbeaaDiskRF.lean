/- The document's Sync. No condition. -/
import Derived.Test.YtjphmjegfpdbeaaDiskRE
namespace Go.Proofs.Ytjphmjegfpdbeaa
open Go.RowKit
namespace Disk
open Str
set_option linter.unusedSimpArgs false
set_option linter.unusedVariables false
def SyncRE (G : Nat → Prop) (w : World) (d : Dk) (an ak : Int) (e : Ending) (w' : World) : Prop := ∃ lv rv, e = .returned (.tuple #[.agg (rdV (syncP d).2 lv rv an ak).toArray, .int .i64 (syncP d).1]) ∧ RdIn G w' (syncP d).2 lv rv ∧ Ext w w'
theorem store_ext {w w1 : World} {g : Nat} (h : Ext w w1) (hg : w.heap.size ≤ g) (cs : Array Value) : Ext w (w1.setRow g cs) := Touch.below h (Touch.row w1 g cs) (fun j hj => by rw [List.mem_singleton] at hj; omega) h.size
theorem cell_ext {w w1 : World} {g : Nat} (h : Ext w w1) (hg : w.heap.size ≤ g) (i : Nat) (v : Value) : Ext w (w1.setCell ⟨g, i, none⟩ v) := Touch.below h (Touch.set w1 ⟨g, i, none⟩ v) (fun j hj => by rw [List.mem_singleton] at hj; simp at hj; omega) h.size
theorem rdV_dry {d : Dk} {A B : Option Addr} {an ak : Int} {n c m cb : Nat} : ∀ x ∈ rdV d (.slice A n c) (.slice B m cb) an ak, ∀ s, x ≠ Value.string s := by
  intro x hx s
  simp only [rdV, List.mem_cons, List.not_mem_nil, or_false] at hx
  rcases hx with rfl | rfl | rfl | rfl | rfl | rfl | rfl <;> simp
theorem dry0 : ∀ x ∈ [.int .i64 0, .slice none 0 0, .slice none 0 0, .bool false, .int .i64 0, .int .u64 0, .int .i64 0], ∀ s, x ≠ Value.string s := by
  intro x hx s
  simp only [List.mem_cons, List.not_mem_nil, or_false] at hx
  rcases hx with rfl | rfl | rfl | rfl | rfl | rfl | rfl <;> simp
theorem RdIn.apart {G : Nat → Prop} {d : Dk} {lv rv : Value} {w w' : World} {g : Nat} {T : TypeId} {xs : List Value} (h : RdIn G w d lv rv) (k : Blk w g T xs) (hx : ∀ x ∈ xs, ∀ s, x ≠ Value.string s) (ht : Touch [g] w w') : RdIn G w' d lv rv := ⟨files_apart h.l k hx ht, rows_apart h.r k hx ht⟩
set_option maxRecDepth 100000 in
set_option maxHeartbeats 16000000 in
theorem syncR_any {G : Nat → Prop} (d : Dk) (n : Nat) (hb : DkB n d) (hn : n ≤ 1048575) (lv rv : Value) (an ak : Int) (hak : d.cnt ≠ 0 → ak = d.keep) (w : World) (hG : ∀ j, w.heap.size ≤ j → G j) (h : RdIn G w d lv rv) : Calls Try.prog 21 #[.agg (rdV d lv rv an ak).toArray] w (SyncRE G w d an ak) := by
  have hm : Try.prog.follows .mixedOrders = true := by kernel_rfl
  have hE1 := Ext.alloc w (.cells (rdV d lv rv an ak).toArray 49)
  have hE2 := Ext.alloc (w.alloc (.cells (rdV d lv rv an ak).toArray 49)) (.cells #[.int .i64 0, .slice none 0 0, .slice none 0 0, .bool false, .int .i64 0, .int .u64 0, .int .i64 0] 49)
  have hbx := Blk.new w 49 (rdV d lv rv an ak)
  have hbr := Blk.new (w.alloc (.cells (rdV d lv rv an ak).toArray 49)) 49 [.int .i64 0, .slice none 0 0, .slice none 0 0, .bool false, .int .i64 0, .int .u64 0, .int .i64 0]
  have hsz : ((w.alloc (.cells (rdV d lv rv an ak).toArray 49)).alloc (.cells #[.int .i64 0, .slice none 0 0, .slice none 0 0, .bool false, .int .i64 0, .int .u64 0, .int .i64 0] 49)).heap.size = w.heap.size + 2 := by rw [World.size_alloc, World.size_alloc]
  rw [World.size_alloc] at hbr
  have KE := Kept.mk (hE1.trans hE2)
  have Kx := Kept.mk (hbx.ext hE2)
  have Kr := Kept.mk hbr
  have KR := Kept.mk h
  have Ksz := Kept.mk hsz
  have KC := Kept.mk (fun w1 (hE : Ext w w1) => callR_any d n hb hn lv rv an ak hak w1 (good_ext hG hE) (h.ext hE))
  have KS := Kept.mk (fun w1 (hE : Ext w w1) => seen_any d n hb hn lv rv an ak w1 (good_ext hG hE) (h.ext hE))
  obtain ⟨A, nn, c, rfl⟩ := h.l.form
  obtain ⟨B, cb, hrv⟩ := h.r.form
  rw [List.length_map] at hrv
  subst hrv
  obtain ⟨m, hmm⟩ : ∃ m, m = d.rows.length := ⟨_, rfl⟩
  rw [← hmm] at KE Kx Kr KR KC KS Ksz ⊢
  obtain ⟨dn, hdn⟩ : ∃ dn, dn = d.down := ⟨_, rfl⟩
  have Kdn := Kept.mk hdn
  have KP : Kept (syncP d = if d.down then (8, d) else if (callP d).2 then (8, (callP d).1) else (0, { (callP d).1 with lies := seenP d, rows := [] })) := Kept.mk rfl
  unfold rdV at KE Kx Kr KC KS Ksz ⊢
  rw [← hdn] at KE Kx Kr KC KS Ksz ⊢
  clear h hE1 hE2 hbx hbr hb hak hmm hsz hn hdn
  unfold SyncRE
  go_enter Try.func21, Try.ntmps21
  go_upto_region 1 with (fail)
  have Kg := Kept.mk (show w.heap.size ≤ w.heap.size from Nat.le_refl _)
  generalize hxg : w.heap.size = xg at Kx Kr Kg Ksz ⊢
  have Kxg := Kept.mk hxg
  clear hxg Kg
  generalize (w.alloc (.cells #[.int .i64 d.room, .slice A nn c, .slice B m cb, .bool dn, .int .i64 an, .int .u64 ak, .int .i64 d.cnt] 49)).alloc (.cells #[.int .i64 0, .slice none 0 0, .slice none 0 0, .bool false, .int .i64 0, .int .u64 0, .int .i64 0] 49) = w1 at *
  have x3 := Kx.out.cell 3
  simp only [List.getElem?_cons_zero, List.getElem?_cons_succ] at x3
  cases dn with
  | true =>
    have KP0 := Kept.mk (show syncP d = (8, d) from by rw [KP.out, ← Kdn.out]; rfl)
    have Krow := Kept.mk (Kr.out.row [.int .i64 d.room, .slice A nn c, .slice B m cb, .bool true, .int .i64 an, .int .u64 ak, .int .i64 d.cnt])
    have KEf := Kept.mk (store_ext KE.out (by rw [Kxg.out]; omega) (g := xg + 1) [.int .i64 d.room, .slice A nn c, .slice B m cb, .bool true, .int .i64 an, .int .u64 ak, .int .i64 d.cnt].toArray)
    clear KP KC KS
    go_wp2_with (first | (refine wpList_load_blk (P := Try.prog) rfl 49 (.tmp 1) rfl xg rfl 49 _ Kx.out _ Try.underlying49 rfl infoRd ?_) | (refine wpList_store_blk (P := Try.prog) rfl 49 (.tmp 2) (.tmp 8) rfl rfl (xg + 1) rfl 49 _ [.int .i64 d.room, .slice A nn c, .slice B m cb, .bool true, .int .i64 an, .int .u64 ak, .int .i64 d.cnt] rfl Kr.out rfl infoRd rfl ?_))
    exact bodyPost_ret (v := _) (results_blk_slot rfl _ _ (xg + 1) 49 _ _ _ rfl rfl Krow.out Try.underlying49 rfl infoRd) rfl ⟨.slice A nn c, .slice B m cb, by rw [KP0.out]; show _ = Ending.returned (.tuple #[.agg (rdV d (.slice A nn c) (.slice B m cb) an ak).toArray, .int .i64 8]); unfold rdV; rw [← Kdn.out]; rfl, by rw [KP0.out]; exact KR.out.ext KEf.out, KEf.out⟩
  | false =>
    obtain ⟨d3, f3, hc3⟩ : ∃ d3 f3, callP d = (d3, f3) := ⟨_, _, rfl⟩
    have KP1 := Kept.mk (show syncP d = if f3 then (8, d3) else (0, { d3 with lies := seenP d, rows := [] }) from by rw [KP.out, ← Kdn.out, hc3]; rfl)
    have Khc := Kept.mk hc3
    clear hc3 KP
    go_wp2_with (first | (refine wpList_load_blk (P := Try.prog) rfl 49 (.tmp 1) rfl xg rfl 49 _ Kx.out _ Try.underlying49 rfl infoRd ?_))
    refine (KC.out w1 KE.out).mono ?_
    rintro e w3 h3
    simp only [CallRE, Khc.out] at h3
    obtain ⟨lv3, rv3, rfl, hr3, hE3⟩ := h3
    clear Khc
    obtain ⟨A3, n3, c3, rfl⟩ := hr3.l.form
    obtain ⟨B3, cb3, hrv3⟩ := hr3.r.form
    obtain ⟨m3, hm3⟩ : ∃ m3, m3 = (d3.rows.map effR).length := ⟨_, rfl⟩
    rw [← hm3] at hrv3
    subst hrv3
    unfold rdV
    have hs3 := hE3.size
    rw [Ksz.out] at hs3
    have hK1 := (Kx.out.ext hE3).ext (Ext.alloc w3 (.cells #[.int .i64 0, .slice none 0 0, .slice none 0 0, .bool false, .int .i64 0, .int .u64 0, .int .i64 0] 49))
    have hK2 := (Kr.out.ext hE3).ext (Ext.alloc w3 (.cells #[.int .i64 0, .slice none 0 0, .slice none 0 0, .bool false, .int .i64 0, .int .u64 0, .int .i64 0] 49))
    have hK3 := Blk.new w3 49 [.int .i64 0, .slice none 0 0, .slice none 0 0, .bool false, .int .i64 0, .int .u64 0, .int .i64 0]
    have hK4 := (KE.out.trans hE3).trans (Ext.alloc w3 (.cells #[.int .i64 0, .slice none 0 0, .slice none 0 0, .bool false, .int .i64 0, .int .u64 0, .int .i64 0] 49))
    have hKs := KE.out.size
    rw [Ksz.out] at hKs
    have Kx4 := Kept.mk (hK1.row_other (g := w3.heap.size) [.int .i64 d3.room, .slice A3 n3 c3, .slice B3 m3 cb3, .bool d3.down, .int .i64 an, .int .u64 ak, .int .i64 d3.cnt].toArray (by omega))
    have Kr4 := Kept.mk (hK2.row_other (g := w3.heap.size) [.int .i64 d3.room, .slice A3 n3 c3, .slice B3 m3 cb3, .bool d3.down, .int .i64 an, .int .u64 ak, .int .i64 d3.cnt].toArray (by omega))
    have Kh4 := Kept.mk (hK3.row [.int .i64 d3.room, .slice A3 n3 c3, .slice B3 m3 cb3, .bool d3.down, .int .i64 an, .int .u64 ak, .int .i64 d3.cnt])
    have KE4 := Kept.mk (store_ext hK4 (g := w3.heap.size) (by omega) [.int .i64 d3.room, .slice A3 n3 c3, .slice B3 m3 cb3, .bool d3.down, .int .i64 an, .int .u64 ak, .int .i64 d3.cnt].toArray)
    have KR4 := Kept.mk (hr3.ext (store_ext (Ext.alloc w3 (.cells #[.int .i64 0, .slice none 0 0, .slice none 0 0, .bool false, .int .i64 0, .int .u64 0, .int .i64 0] 49)) (g := w3.heap.size) (Nat.le_refl _) [.int .i64 d3.room, .slice A3 n3 c3, .slice B3 m3 cb3, .bool d3.down, .int .i64 an, .int .u64 ak, .int .i64 d3.cnt].toArray))
    have Khg := Kept.mk (show xg + 2 ≤ w3.heap.size ∧ w.heap.size ≤ xg ∧ w.heap.size ≤ w3.heap.size from ⟨hs3, by rw [Kxg.out]; exact Nat.le_refl _, by have := Kxg.out; omega⟩)
    have Kn3 := Kept.mk hK3
    clear hr3 hE3 hm3 hs3 hK1 hK2 hK4 hKs hK3 KC Kx Kr KE Ksz x3
    go_upto_region 4 with (first | (refine wpList_store_blk (P := Try.prog) rfl 49 (.tmp 4) (.tmp 12) rfl rfl w3.heap.size rfl 49 _ [.int .i64 d3.room, .slice A3 n3 c3, .slice B3 m3 cb3, .bool d3.down, .int .i64 an, .int .u64 ak, .int .i64 d3.cnt] rfl Kn3.out rfl infoRd rfl ?_))
    clear Kn3
    generalize (w3.alloc (.cells #[.int .i64 0, .slice none 0 0, .slice none 0 0, .bool false, .int .i64 0, .int .u64 0, .int .i64 0] 49)).setRow w3.heap.size #[.int .i64 d3.room, .slice A3 n3 c3, .slice B3 m3 cb3, .bool d3.down, .int .i64 an, .int .u64 ak, .int .i64 d3.cnt] = w4 at *
    generalize w3.heap.size = hg at *
    cases f3 with
    | true =>
      have KP0 := Kept.mk (show syncP d = (8, d3) from by rw [KP1.out]; rfl)
      have Krow := Kept.mk (Kr4.out.row [.int .i64 d3.room, .slice A3 n3 c3, .slice B3 m3 cb3, .bool d3.down, .int .i64 an, .int .u64 ak, .int .i64 d3.cnt])
      have KEf := Kept.mk (store_ext KE4.out (by have := Khg.out; omega) (g := xg + 1) [.int .i64 d3.room, .slice A3 n3 c3, .slice B3 m3 cb3, .bool d3.down, .int .i64 an, .int .u64 ak, .int .i64 d3.cnt].toArray)
      have KRf := Kept.mk (KR4.out.apart Kr4.out dry0 (Touch.row w4 (xg + 1) [.int .i64 d3.room, .slice A3 n3 c3, .slice B3 m3 cb3, .bool d3.down, .int .i64 an, .int .u64 ak, .int .i64 d3.cnt].toArray))
      clear KP1 KS
      go_wp2_with (first | (refine wpList_load_blk (P := Try.prog) rfl 49 (.tmp 4) rfl hg rfl 49 _ Kh4.out _ Try.underlying49 rfl infoRd ?_) | (refine wpList_store_blk (P := Try.prog) rfl 49 (.tmp 2) (.tmp 15) rfl rfl (xg + 1) rfl 49 _ [.int .i64 d3.room, .slice A3 n3 c3, .slice B3 m3 cb3, .bool d3.down, .int .i64 an, .int .u64 ak, .int .i64 d3.cnt] rfl Kr4.out rfl infoRd rfl ?_))
      exact bodyPost_ret (v := _) (results_blk_slot rfl _ _ (xg + 1) 49 _ _ _ rfl rfl Krow.out Try.underlying49 rfl infoRd) rfl ⟨_, _, by rw [KP0.out]; rfl, by rw [KP0.out]; exact KRf.out, KEf.out⟩
    | false =>
      have KP0 := Kept.mk (show syncP d = (0, { d3 with lies := seenP d, rows := [] }) from by rw [KP1.out]; rfl)
      clear KP1
      go_wp2_with (first | (refine wpList_load_blk (P := Try.prog) rfl 49 (.tmp 1) rfl xg rfl 49 _ Kx4.out _ Try.underlying49 rfl infoRd ?_))
      refine (KS.out w4 KE4.out).mono ?_
      rintro e w5 ⟨lv5, rfl, hf5, hE5⟩
      obtain ⟨A5, n5, c5, rfl⟩ := hf5.form
      have hh5 := Kh4.out.ext hE5
      have c1 := hh5.cell 1
      have c2 := hh5.cell 2
      have f1 := hh5.free 1
      have f2 := hh5.free 2
      simp only [List.getElem?_cons_zero, List.getElem?_cons_succ] at c1 c2
      have ht := (Touch.set w5 ⟨hg, 1, none⟩ (.slice A5 n5 c5)).trans (Touch.set (w5.setCell ⟨hg, 1, none⟩ (.slice A5 n5 c5)) ⟨hg, 2, none⟩ (.slice none 0 0)) (fun j hj => .inl hj)
      have Kh6 := Kept.mk ((hh5.set 1 (.slice A5 n5 c5)).set 2 (.slice none 0 0))
      simp only [List.set_cons_zero, List.set_cons_succ] at Kh6
      have Kr6 := Kept.mk (((Kr4.out.ext hE5).touch ht (by have := Khg.out; simp; omega)))
      have KE6 := Kept.mk (cell_ext (cell_ext (KE4.out.trans hE5) (g := hg) (by have := Khg.out; omega) 1 (.slice A5 n5 c5)) (g := hg) (by have := Khg.out; omega) 2 (.slice none 0 0))
      have KF6 := Kept.mk (files_apart hf5 hh5 (rdV_dry (d := d3)) ht)
      clear hh5 hf5 hE5 ht KS
      go_upto_region 8 with (fail)
      clear c1 c2 f1 f2
      generalize (w5.setCell ⟨hg, 1, none⟩ (.slice A5 n5 c5)).setCell ⟨hg, 2, none⟩ (.slice none 0 0) = w6 at *
      have Krow := Kept.mk (Kr6.out.row [.int .i64 d3.room, .slice A5 n5 c5, .slice none 0 0, .bool d3.down, .int .i64 an, .int .u64 ak, .int .i64 d3.cnt])
      have KEf := Kept.mk (store_ext KE6.out (by have := Khg.out; omega) (g := xg + 1) [.int .i64 d3.room, .slice A5 n5 c5, .slice none 0 0, .bool d3.down, .int .i64 an, .int .u64 ak, .int .i64 d3.cnt].toArray)
      have KRf := Kept.mk (files_apart KF6.out Kr6.out dry0 (Touch.row w6 (xg + 1) [.int .i64 d3.room, .slice A5 n5 c5, .slice none 0 0, .bool d3.down, .int .i64 an, .int .u64 ak, .int .i64 d3.cnt].toArray))
      go_wp2_with (first | (refine wpList_load_blk (P := Try.prog) rfl 49 (.tmp 4) rfl hg rfl 49 _ Kh6.out _ Try.underlying49 rfl infoRd ?_) | (refine wpList_store_blk (P := Try.prog) rfl 49 (.tmp 2) (.tmp 20) rfl rfl (xg + 1) rfl 49 _ [.int .i64 d3.room, .slice A5 n5 c5, .slice none 0 0, .bool d3.down, .int .i64 an, .int .u64 ak, .int .i64 d3.cnt] rfl Kr6.out rfl infoRd rfl ?_))
      exact bodyPost_ret (v := _) (results_blk_slot rfl _ _ (xg + 1) 49 _ _ _ rfl rfl Krow.out Try.underlying49 rfl infoRd) rfl ⟨_, _, by rw [KP0.out]; rfl, by rw [KP0.out]; exact ⟨KRf.out, RowsR.nil _ _⟩, KEf.out⟩
end Disk
end Go.Proofs.Ytjphmjegfpdbeaa
