/- The document's Seen, List, path, New, Arm. No condition. -/
import Derived.Test.YtjphmjegfpdbeaaDiskRC
namespace Go.Proofs.Ytjphmjegfpdbeaa
open Go.RowKit
namespace Disk
open Str
set_option linter.unusedSimpArgs false
set_option linter.unusedVariables false
/-- The document's disk, its cells. -/
def rdV (d : Dk) (lv rv : Value) (an ak : Int) : List Value := [.int .i64 d.room, lv, rv, .bool d.down, .int .i64 an, .int .u64 ak, .int .i64 d.cnt]
structure RdIn (G : Nat → Prop) (w : World) (d : Dk) (lv rv : Value) : Prop where
  l : FilesR G d.lies w lv
  r : RowsR G d.rows w rv
theorem RdIn.ext {G : Nat → Prop} {w w' : World} {d : Dk} {lv rv : Value} (h : RdIn G w d lv rv) (k : Ext w w') : RdIn G w' d lv rv := ⟨h.l.ext k, h.r.ext k⟩
set_option maxRecDepth 100000 in
set_option maxHeartbeats 8000000 in
theorem seen_any {G : Nat → Prop} (d : Dk) (n : Nat) (hb : DkB n d) (hn : n ≤ 1048575) (lv rv : Value) (an ak : Int) (w : World) (hG : ∀ j, w.heap.size ≤ j → G j) (h : RdIn G w d lv rv) : Calls Try.prog 24 #[.agg (rdV d lv rv an ak).toArray] w (DoneE G w (seenP d)) := by
  have KG := Kept.mk hG
  clear hG
  have hE := Ext.alloc w (.cells (rdV d lv rv an ak).toArray 49)
  have KE := Kept.mk hE
  have Kx := Kept.mk (Blk.new w 49 (rdV d lv rv an ak))
  have KR := Kept.mk (h.ext hE)
  have Kb := Kept.mk hb
  obtain ⟨A, nn, c, rfl⟩ := h.l.form
  obtain ⟨B, cb, hrv⟩ := h.r.form
  rw [List.length_map] at hrv
  subst hrv
  obtain ⟨m, hm⟩ : ∃ m, m = d.rows.length := ⟨_, rfl⟩
  have Km := Kept.mk hm
  have hmb : m ≤ 1048575 := by rw [hm]; exact Nat.le_trans hb.rows hn
  rw [← hm] at KE Kx KR ⊢
  unfold rdV at KE Kx KR ⊢
  unfold DoneE seenP
  clear h hE hb hm
  go_enter Try.func24, Try.ntmps24
  go_upto_region 1 with (fail)
  generalize w.alloc (.cells #[.int .i64 d.room, .slice A nn c, .slice B m cb, .bool d.down, .int .i64 an, .int .u64 ak, .int .i64 d.cnt] 49) = w1 at *
  generalize w.heap.size = xg at Kx ⊢
  have x1 := Kx.out.cell 1
  simp only [List.getElem?_cons_zero, List.getElem?_cons_succ] at x1
  go_wp2_with fail
  clear x1
  go_loopg [3, 4] m (fun q lv iv wi => ∃ i : Nat, i + q = m ∧ iv = .int .i64 (i : Int) ∧ Kept (FilesR G ((d.rows.take i).foldl doneP d.lies) wi lv ∧ Ext w1 wi))
  case atStart => exact ⟨0, by omega, rfl, Kept.mk ⟨by simpa using KR.out.l, Ext.refl _⟩⟩
  case round =>
    obtain ⟨i, hq, rfl, KK⟩ := hrel
    have Kq := Kept.mk hq
    have hil : i ≤ m := by omega
    clear hq
    obtain ⟨lA, ln, lc, hlv⟩ := KK.out.1.form
    subst hlv
    have x2 := (Kx.out.ext KK.out.2).cell 2
    simp only [List.getElem?_cons_zero, List.getElem?_cons_succ] at x2
    by_cases hlt : i < m
    · have hltI : (i : Int) < (m : Int) := by omega
      have hi2 : i < d.rows.length := by rw [← Km.out]; exact hlt
      obtain ⟨b, off, rfl, -, hc⟩ := KR.out.r.1.get (by decide) (i := i) hi2
      have s0 := KK.out.2.cell (hc 0 (.int .i64 (d.rows[i].k + 1)) rfl)
      have s1 := KK.out.2.cell (hc 1 (.string (strOf d.rows[i].p)) rfl)
      have s2 := KK.out.2.cell (hc 2 (.string (strOf d.rows[i].t)) rfl)
      rw [Nat.add_zero] at s0
      have Kst := Kept.mk (show (d.rows.take (i + 1)).foldl doneP d.lies = doneP ((d.rows.take i).foldl doneP d.lies) d.rows[i] from by
        rw [List.take_succ_eq_append_getElem hi2, List.foldl_append]; rfl)
      have Klen := Kept.mk (show ((d.rows.take i).foldl doneP d.lies).length ≤ 1048575 from by
        obtain ⟨k, h1, h2⟩ := Kb.out.lies
        have h3 := (Bd.seen (d.rows.take i) h1 (fun e he => Kb.out.each e (List.mem_of_mem_take he))).len
        rw [List.length_take] at h3
        omega)
      have Kek := Kept.mk ((Kb.out.each d.rows[i] (List.getElem_mem hi2)).2.2)
      generalize (d.rows.take i).foldl doneP d.lies = Li at *
      have KD := Kept.mk (done_any Li Klen.out _ d.rows[i] Kek.out _ rfl wr (good_ext KG.out (KE.out.trans KK.out.2)) KK.out.1)
      generalize d.rows[i] = x at *
      generalize hxk : x.k + 1 = xk at *
      clear hc hi2 hxk
      go_wp2_with fail
      refine KD.out.mono ?_
      rintro e w2 ⟨v2, rfl, hf2, hE2⟩
      obtain ⟨vA, vn, vc, hv2⟩ := hf2.form
      have Kn := Kept.mk (show FilesR G ((d.rows.take (i + 1)).foldl doneP d.lies) w2 v2 ∧ Ext w1 w2 from ⟨by rw [Kst.out]; exact hf2, KK.out.2.trans hE2⟩)
      subst hv2
      clear hf2 hE2 KD s0 s1 s2 x2
      go_wp2_with fail
      go_roundg (gk - 1)
      case measure => have := Kq.out; omega
      case rel => exact ⟨i + 1, by have := Kq.out; omega, by first | rfl | simp, Kn⟩
    · have hltI : ¬ (i : Int) < (m : Int) := by omega
      have Kall := Kept.mk (show d.rows.take i = d.rows from List.take_of_length_le (by rw [← Km.out]; omega))
      go_wp2_with fail
      go_ret
      exact ⟨_, rfl, by have := KK.out.1; rw [Kall.out] at this; exact this, KE.out.trans KK.out.2⟩
set_option maxRecDepth 100000 in
set_option maxHeartbeats 2000000 in
theorem pathR_any (p : S) (w : World) : Calls Try.prog 38 #[.string (strOf p)] w fun e w' => e = .returned (.bool (okP p)) ∧ w = w' := by
  have hz : (strOf p).size = p.length := strOf_size p
  by_cases h0 : p = []
  · subst h0
    have K : Kept (okP [] = false) := Kept.mk rfl
    simp only [List.length_nil] at hz
    rw [K.out]
    go_enter Try.func38, Try.ntmps38
    go_wp2_with fail
    go_ret
    exact ⟨rfl, rfl⟩
  · have h1 : (1 : Int) ≤ (p.length : Int) := by have := List.length_pos_iff.2 h0; omega
    have hd : decide (p.length ≤ 255) = okP p := by unfold okP; rw [decide_eq_decide]; simp [h0]
    have Kd := Kept.mk hd
    clear hd h0
    generalize p.length = n at *
    go_enter Try.func38, Try.ntmps38
    go_wp2_with fail
    go_ret
    exact ⟨by rw [← Kd.out]; simp; omega, rfl⟩
end Disk
end Go.Proofs.Ytjphmjegfpdbeaa
