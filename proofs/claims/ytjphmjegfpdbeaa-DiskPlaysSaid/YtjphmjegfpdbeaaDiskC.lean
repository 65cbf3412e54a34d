/- The disk's methods that ask or turn one field; New; path. No condition. -/
import Derived.Test.YtjphmjegfpdbeaaDiskB
namespace Go.Proofs.Ytjphmjegfpdbeaa
open Go.RowKit
namespace Disk
open Str
set_option linter.unusedSimpArgs false
set_option linter.unusedVariables false
theorem empty_no {p : S} (h : p ≠ []) : (strOf p).toList.isEmpty = false := by
  rw [ByteArray.toList_eq, strOf_list]
  cases p with
  | nil => exact absurd rfl h
  | cons x r => rfl
set_option maxRecDepth 100000 in
set_option maxHeartbeats 2000000 in
theorem path_any (p : S) (w : World) : Calls Try.prog 36 #[.string (strOf p)] w fun e w' => e = .returned (.bool (okP p)) ∧ w = w' := by
  by_cases h0 : p = []
  · subst h0
    have he : (strOf []).toList.isEmpty = true := by rw [ByteArray.toList_eq, strOf_list]; rfl
    go_enter Try.func36, Try.ntmps36
    go_wp2_with fail
    go_ret
    exact ⟨rfl, rfl⟩
  · have he := empty_no h0
    have hz : (strOf p).size = p.length := strOf_size p
    have hd : decide (p.length ≤ 255) = okP p := by unfold okP; rw [decide_eq_decide]; simp [h0]
    have Kd := Kept.mk hd
    clear hd h0
    go_enter Try.func36, Try.ntmps36
    go_wp2_with fail
    go_ret
    exact ⟨by rw [← Kd.out]; simp; omega, rfl⟩
set_option maxRecDepth 100000 in
set_option maxHeartbeats 2000000 in
theorem down_any (w : World) (B : Nat) (D : List Nat) (g : Nat) (d : Dk) (h : DkAt w B D g d) : Calls Try.prog 27 #[.pointer (some ⟨g, 0, none⟩)] w fun e w' => e = .returned (.bool d.down) ∧ w = w' := by
  obtain ⟨hg, bl, bs, v, hb, hp⟩ := h
  have c4 := hb.cell 4
  simp only [dkV, List.getElem?_cons_zero, List.getElem?_cons_succ] at c4
  clear hg hb hp
  generalize d.down = x at *
  go_enter Try.func27, Try.ntmps27
  go_wp2_with fail
  go_ret
  exact ⟨rfl, rfl⟩
set_option maxRecDepth 100000 in
set_option maxHeartbeats 2000000 in
theorem waiting_any (w : World) (B : Nat) (D : List Nat) (g : Nat) (d : Dk) (h : DkAt w B D g d) : Calls Try.prog 28 #[.pointer (some ⟨g, 0, none⟩)] w fun e w' => e = .returned (.int .i64 (d.rows.length : Int)) ∧ w = w' := by
  obtain ⟨hg, bl, bs, v, hb, hp⟩ := h
  obtain ⟨A, c, hv⟩ := hp.wb.form
  rw [List.length_map] at hv
  subst hv
  have c3 := hb.cell 3
  simp only [dkV, List.getElem?_cons_zero, List.getElem?_cons_succ] at c3
  clear hg hb hp
  generalize d.rows.length = x at *
  go_enter Try.func28, Try.ntmps28
  go_wp2_with fail
  go_ret
  exact ⟨rfl, rfl⟩
set_option maxRecDepth 100000 in
set_option maxHeartbeats 2000000 in
theorem start_any (w : World) (B : Nat) (D : List Nat) (g : Nat) (d : Dk) (h : DkAt w B D g d) : Calls Try.prog 31 #[.pointer (some ⟨g, 0, none⟩)] w fun e w' => e = .returned (.tuple #[]) ∧ After w B D g (startP d) w' := by
  obtain ⟨hg, bl, bs, v, hb, hp⟩ := h
  have c4 := hb.cell 4
  have f4 := hb.free 4
  simp only [dkV, List.getElem?_cons_zero, List.getElem?_cons_succ] at c4
  have KD : Kept (After w B D g (startP d) (w.setCell ⟨g, 4, none⟩ (.bool false))) := Kept.mk (After.put (d' := startP d) hg hb hp (Touch.set w ⟨g, 4, none⟩ _) (hb.set 4 (.bool false)))
  clear hg hb hp
  generalize d.down = x at c4
  go_enter Try.func31, Try.ntmps31
  go_wp2_with fail
  go_end0
  exact ⟨rfl, KD.out⟩
set_option maxRecDepth 100000 in
set_option maxHeartbeats 4000000 in
theorem arm_any (w : World) (B : Nat) (D : List Nat) (g : Nat) (d : Dk) (h : DkAt w B D g d) (n k : Int) : Calls Try.prog 30 #[.pointer (some ⟨g, 0, none⟩), .agg #[.int .i64 n, .int .u64 k]] w fun e w' => e = .returned (.tuple #[]) ∧ After w B D g (armP d n k) w' := by
  have hE := Ext.alloc w (.cells #[.int .i64 n, .int .u64 k] 31)
  have hgw := (h.lt g h.1).2
  have hA := h.ext hE
  obtain ⟨hg, bl, bs, v, hb, hp⟩ := hA
  have hne : w.heap.size ≠ g := by omega
  have hx := Blk.new w 31 [.int .i64 n, .int .u64 k]
  have Kx := Kept.mk hx
  have KB := Kept.mk hb
  have KP := Kept.mk hp
  have Kg := Kept.mk hg
  have KE := Kept.mk (Touch.of_ext (S := D) hE)
  clear hx hb hp hg hE hgw h
  go_enter Try.func30, Try.ntmps30
  go_upto_region 1 with (fail)
  generalize hcg : w.heap.size = cg at Kx hne ⊢
  generalize hw1 : w.alloc (.cells #[.int .i64 n, .int .u64 k] 31) = w1 at *
  have Kz := Kept.mk (show w.heap.size ≤ w1.heap.size from by rw [← hw1]; simp)
  clear hw1 hcg
  have c5 := KB.out.cell 5
  have f5 := KB.out.free 5
  have c6 := KB.out.cell 6
  have f6 := KB.out.free 6
  simp only [dkV, List.getElem?_cons_zero, List.getElem?_cons_succ] at c5 c6
  have x0 := Kx.out.cell 0
  have x1 := Kx.out.cell 1
  simp only [List.getElem?_cons_zero, List.getElem?_cons_succ] at x0 x1
  have Kfin := Kept.mk (fun (d' : Dk) (W : World) (hl : d'.lies = d.lies) (hr : d'.rows = d.rows) (ht : Touch [g] w1 W) (hb : Blk W g 73 (dkV d' bl bs v)) =>
    (show After w B D g d' W from by
      have h := After.put (d' := d') Kg.out KB.out (by have hs : seenP d' = seenP d := by unfold seenP; rw [hl, hr]
                                                       rw [hl, hr, hs]; exact KP.out) ht hb
      obtain ⟨D', a, b, c⟩ := h
      exact ⟨D', a, KE.out.trans b (fun j hj => .inl hj), fun j hj => by rcases c j hj with h | h; exact .inl h; exact .inr (Nat.le_trans Kz.out h)⟩))
  generalize d.cnt = oc at c5
  generalize d.keep = ok at c6
  by_cases hn : n < 1
  · have KA : Kept (armP d n k = { d with cnt := 0, keep := 0 }) := Kept.mk (by unfold armP; rw [if_pos hn])
    go_wp2_with fail
    go_end0
    rw [KA.out]
    exact ⟨rfl, Kfin.out _ _ rfl rfl (by
      have t1 := Touch.set w1 ⟨g, 5, none⟩ (.int .i64 n)
      have t2 := Touch.set (w1.setCell ⟨g, 5, none⟩ (.int .i64 n)) ⟨g, 6, none⟩ (.int .u64 k)
      have t3 := Touch.set ((w1.setCell ⟨g, 5, none⟩ (.int .i64 n)).setCell ⟨g, 6, none⟩ (.int .u64 k)) ⟨g, 5, none⟩ (.int .i64 0)
      have t4 := Touch.set (((w1.setCell ⟨g, 5, none⟩ (.int .i64 n)).setCell ⟨g, 6, none⟩ (.int .u64 k)).setCell ⟨g, 5, none⟩ (.int .i64 0)) ⟨g, 6, none⟩ (.int .u64 0)
      exact ((t1.trans t2 (fun j hj => .inl hj)).trans t3 (fun j hj => .inl hj)).trans t4 (fun j hj => .inl hj)) ((((KB.out.set 5 _).set 6 _).set 5 _).set 6 _)⟩
  · have KA : Kept (armP d n k = { d with cnt := n, keep := k }) := Kept.mk (by unfold armP; rw [if_neg hn])
    go_wp2_with fail
    go_end0
    rw [KA.out]
    exact ⟨rfl, Kfin.out _ _ rfl rfl (by
      have t1 := Touch.set w1 ⟨g, 5, none⟩ (.int .i64 n)
      have t2 := Touch.set (w1.setCell ⟨g, 5, none⟩ (.int .i64 n)) ⟨g, 6, none⟩ (.int .u64 k)
      exact t1.trans t2 (fun j hj => .inl hj)) ((KB.out.set 5 _).set 6 _)⟩
end Disk
end Go.Proofs.Ytjphmjegfpdbeaa
