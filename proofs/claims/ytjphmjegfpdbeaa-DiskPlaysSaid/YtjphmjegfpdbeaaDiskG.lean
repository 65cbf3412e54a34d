/- Write, Rename, Remove, Sync. No condition. -/
import Derived.Test.YtjphmjegfpdbeaaDiskF
namespace Go.Proofs.Ytjphmjegfpdbeaa
open Go.RowKit
namespace Disk
open Str
set_option linter.unusedSimpArgs false
set_option linter.unusedVariables false
set_option maxRecDepth 100000 in
set_option maxHeartbeats 4000000 in
theorem write_any (w : World) (B : Nat) (D : List Nat) (g : Nat) (d : Dk) (n : Nat) (p t : S) (h : DkAt w B D g d) (hb : DkB n d) (hn : n + 1 ≤ 1048576) (hp : p.length ≤ SZ) (ht : t.length ≤ SZ) :
    Calls Try.prog 16 #[.pointer (some ⟨g, 0, none⟩), .string (strOf p), .string (strOf t)] w (NumE w B D g (writeP d p t)) := by
  have KA := Kept.mk h
  have KW := Kept.mk (wait_any w B D g d n ⟨0, p, t⟩ h hb hn ⟨hp, ht, .inl rfl⟩)
  have KP := Kept.mk (path_any p w)
  obtain ⟨-, bl, bs, v, hb1, -⟩ := h
  have c4 := hb1.cell 4
  simp only [dkV, List.getElem?_cons_zero, List.getElem?_cons_succ] at c4
  have Kd : Kept (writeP d p t = if d.down then (8, d) else if okP p = false then (12, d) else waitP d ⟨0, p, t⟩) := Kept.mk rfl
  generalize writeP d p t = R at *
  clear hb1 hb hp ht
  cases hd : d.down with
  | true =>
    rw [hd] at c4 Kd
    have K0 := Kept.mk (show R = (8, d) from by rw [Kd.out]; rfl)
    clear hd Kd KW KP
    go_enter Try.func16, Try.ntmps16
    go_wp2_with fail
    go_ret
    rw [K0.out]
    exact ⟨rfl, After.same KA.out (Ext.refl _)⟩
  | false =>
    rw [hd] at c4 Kd
    cases ho : okP p with
    | false =>
      rw [ho] at KP Kd
      have K0 := Kept.mk (show R = (12, d) from by rw [Kd.out]; rfl)
      clear hd Kd KW ho
      go_enter Try.func16, Try.ntmps16
      go_wp2_with fail
      refine KP.out.mono ?_
      rintro e w' ⟨rfl, rfl⟩
      go_wp2_with fail
      go_ret
      rw [K0.out]
      exact ⟨rfl, After.same KA.out (Ext.refl _)⟩
    | true =>
      rw [ho] at KP Kd
      have K0 := Kept.mk (show R = waitP d ⟨0, p, t⟩ from by rw [Kd.out]; rfl)
      clear hd Kd ho
      go_enter Try.func16, Try.ntmps16
      go_wp2_with fail
      refine KP.out.mono ?_
      rintro e w' ⟨rfl, rfl⟩
      go_wp2_with fail
      refine KW.out.mono ?_
      rintro e w' ⟨rfl, hA⟩
      have KA2 := Kept.mk hA
      clear hA
      go_wp2_with fail
      go_ret
      rw [K0.out]
      exact ⟨rfl, KA2.out⟩
set_option maxRecDepth 100000 in
set_option maxHeartbeats 4000000 in
theorem rename_any (w : World) (B : Nat) (D : List Nat) (g : Nat) (d : Dk) (n : Nat) (p t : S) (h : DkAt w B D g d) (hb : DkB n d) (hn : n + 1 ≤ 1048576) (hp : p.length ≤ SZ) (ht : t.length ≤ SZ) :
    Calls Try.prog 15 #[.pointer (some ⟨g, 0, none⟩), .string (strOf p), .string (strOf t)] w (NumE w B D g (renameP d p t)) := by
  have KA := Kept.mk h
  have KW := Kept.mk (wait_any w B D g d n ⟨1, p, t⟩ h hb hn ⟨hp, ht, .inr (.inl rfl)⟩)
  have KP := Kept.mk (path_any t w)
  obtain ⟨-, bl, bs, v, hb1, hpt⟩ := h
  have c2 := hb1.cell 2
  have c4 := hb1.cell 4
  simp only [dkV, List.getElem?_cons_zero, List.getElem?_cons_succ] at c2 c4
  have hl := hpt.fs.look p
  have Kd : Kept (renameP d p t = if d.down then (8, d) else if okP t = false then (12, d) else if getK (seenP d) p = none then (5, d) else waitP d ⟨1, p, t⟩) := Kept.mk rfl
  generalize renameP d p t = R at *
  clear hb1 hb hp ht hpt
  obtain ⟨x, hx⟩ : ∃ x, x = (getK (seenP d) p).getD [] := ⟨_, rfl⟩
  rw [← hx] at hl
  clear hx
  have Ks : Kept ((getK (seenP d) p).isSome = true ↔ getK (seenP d) p ≠ none) := Kept.mk (by cases getK (seenP d) p <;> simp)
  cases hd : d.down with
  | true =>
    rw [hd] at c4 Kd
    have K0 := Kept.mk (show R = (8, d) from by rw [Kd.out]; rfl)
    clear hd Kd KW KP
    generalize (getK (seenP d) p).isSome = y at hl
    go_enter Try.func15, Try.ntmps15
    go_wp2_with fail
    go_ret
    rw [K0.out]
    exact ⟨rfl, After.same KA.out (Ext.refl _)⟩
  | false =>
    rw [hd] at c4 Kd
    cases ho : okP t with
    | false =>
      rw [ho] at KP Kd
      have K0 := Kept.mk (show R = (12, d) from by rw [Kd.out]; rfl)
      clear hd Kd KW ho
      generalize (getK (seenP d) p).isSome = y at hl
      go_enter Try.func15, Try.ntmps15
      go_wp2_with fail
      refine KP.out.mono ?_
      rintro e w' ⟨rfl, rfl⟩
      go_wp2_with fail
      go_ret
      rw [K0.out]
      exact ⟨rfl, After.same KA.out (Ext.refl _)⟩
    | true =>
      rw [ho] at KP Kd
      clear hd ho
      cases hs : (getK (seenP d) p).isSome with
      | false =>
        rw [hs] at hl Ks
        have K0 := Kept.mk (show R = (5, d) from by
          rw [Kd.out, if_neg (by decide), if_neg (by decide), if_pos (Classical.byContradiction fun hc => by have := Ks.out.2 hc; cases this)])
        clear hs Kd KW Ks
        go_enter Try.func15, Try.ntmps15
        go_wp2_with fail
        refine KP.out.mono ?_
        rintro e w' ⟨rfl, rfl⟩
        go_wp2_with fail
        go_ret
        rw [K0.out]
        exact ⟨rfl, After.same KA.out (Ext.refl _)⟩
      | true =>
        rw [hs] at hl Ks
        have K0 := Kept.mk (show R = waitP d ⟨1, p, t⟩ from by
          rw [Kd.out, if_neg (by decide), if_neg (by decide), if_neg (Ks.out.1 rfl)])
        clear hs Kd Ks
        go_enter Try.func15, Try.ntmps15
        go_wp2_with fail
        refine KP.out.mono ?_
        rintro e w' ⟨rfl, rfl⟩
        go_wp2_with fail
        refine KW.out.mono ?_
        rintro e w' ⟨rfl, hA⟩
        have KA2 := Kept.mk hA
        clear hA
        go_wp2_with fail
        go_ret
        rw [K0.out]
        exact ⟨rfl, KA2.out⟩
set_option maxRecDepth 100000 in
set_option maxHeartbeats 4000000 in
theorem remove_any (w : World) (B : Nat) (D : List Nat) (g : Nat) (d : Dk) (n : Nat) (p : S) (h : DkAt w B D g d) (hb : DkB n d) (hn : n + 1 ≤ 1048576) (hp : p.length ≤ SZ) :
    Calls Try.prog 17 #[.pointer (some ⟨g, 0, none⟩), .string (strOf p)] w (NumE w B D g (removeP d p)) := by
  have KA := Kept.mk h
  have KW := Kept.mk (wait_any w B D g d n ⟨2, p, []⟩ h hb hn ⟨hp, Nat.zero_le _, .inr (.inr rfl)⟩)
  obtain ⟨-, bl, bs, v, hb1, hpt⟩ := h
  have c2 := hb1.cell 2
  have c4 := hb1.cell 4
  simp only [dkV, List.getElem?_cons_zero, List.getElem?_cons_succ] at c2 c4
  have hl := hpt.fs.look p
  have Kd : Kept (removeP d p = if d.down then (8, d) else if getK (seenP d) p = none then (5, d) else waitP d ⟨2, p, []⟩) := Kept.mk rfl
  generalize removeP d p = R at *
  clear hb1 hb hp hpt
  obtain ⟨x, hx⟩ : ∃ x, x = (getK (seenP d) p).getD [] := ⟨_, rfl⟩
  rw [← hx] at hl
  clear hx
  have Ks : Kept ((getK (seenP d) p).isSome = true ↔ getK (seenP d) p ≠ none) := Kept.mk (by cases getK (seenP d) p <;> simp)
  cases hd : d.down with
  | true =>
    rw [hd] at c4 Kd
    have K0 := Kept.mk (show R = (8, d) from by rw [Kd.out]; rfl)
    clear hd Kd KW
    generalize (getK (seenP d) p).isSome = y at hl
    go_enter Try.func17, Try.ntmps17
    go_wp2_with fail
    go_ret
    rw [K0.out]
    exact ⟨rfl, After.same KA.out (Ext.refl _)⟩
  | false =>
    rw [hd] at c4 Kd
    clear hd
    cases hs : (getK (seenP d) p).isSome with
    | false =>
      rw [hs] at hl Ks
      have K0 := Kept.mk (show R = (5, d) from by
        rw [Kd.out, if_neg (by decide), if_pos (Classical.byContradiction fun hc => by have := Ks.out.2 hc; cases this)])
      clear hs Kd KW Ks
      go_enter Try.func17, Try.ntmps17
      go_wp2_with fail
      go_ret
      rw [K0.out]
      exact ⟨rfl, After.same KA.out (Ext.refl _)⟩
    | true =>
      rw [hs] at hl Ks
      have K0 := Kept.mk (show R = waitP d ⟨2, p, []⟩ from by
        rw [Kd.out, if_neg (by decide), if_neg (Ks.out.1 rfl)])
      clear hs Kd Ks
      go_enter Try.func17, Try.ntmps17
      go_wp2_with fail
      refine KW.out.mono ?_
      rintro e w' ⟨rfl, hA⟩
      have KA2 := Kept.mk hA
      clear hA
      go_wp2_with fail
      go_ret
      rw [K0.out]
      exact ⟨rfl, KA2.out⟩
set_option maxRecDepth 100000 in
set_option maxHeartbeats 4000000 in
theorem sync_any (w : World) (B : Nat) (D : List Nat) (g : Nat) (d : Dk) (n : Nat) (h : DkAt w B D g d) (hb : DkB n d) (hn : n ≤ 1048576) :
    Calls Try.prog 29 #[.pointer (some ⟨g, 0, none⟩)] w (NumE w B D g (syncP d)) := by
  have KA := Kept.mk h
  have KFs := Kept.mk (fails_any w B D g d h hb.cnt)
  have Kfb := Kept.mk (fails_b hb)
  have KD := Kept.mk (show ∀ j ∈ D, j < w.heap.size from fun j hj => (h.lt j hj).2)
  obtain ⟨-, bl0, bs0, v0, hb1, hpt⟩ := h
  have c4 := hb1.cell 4
  simp only [dkV, List.getElem?_cons_zero, List.getElem?_cons_succ] at c4
  have Kd : Kept (syncP d = if d.down then (8, d) else if (callP d).2 then (8, (callP d).1) else (0, { (callP d).1 with lies := seenP d, rows := [] })) := Kept.mk rfl
  have Kcf := Kept.mk (call_fails d)
  have Kse := Kept.mk (fail_fails d)
  generalize syncP d = R at *
  clear hb1 hb hpt
  cases hd : d.down with
  | true =>
    rw [hd] at c4 Kd
    have K0 := Kept.mk (show R = (8, d) from by rw [Kd.out]; rfl)
    clear hd Kd KFs Kcf Kse
    go_enter Try.func29, Try.ntmps29
    go_wp2_with fail
    go_ret
    rw [K0.out]
    exact ⟨rfl, After.same KA.out (Ext.refl _)⟩
  | false =>
    rw [hd] at c4 Kd
    clear hd
    go_enter Try.func29, Try.ntmps29
    go_wp2_with fail
    refine KFs.out.mono ?_
    rintro e1 wa ⟨rfl, hA⟩
    obtain ⟨Da, hDa, hTa, hsa⟩ := hA
    have KTa := Kept.mk hTa
    have Ksa := Kept.mk hsa
    have KDa := Kept.mk hDa
    clear hDa hTa hsa KFs c4
    generalize (failsP d).2 = d2 at *
    generalize (failsP d).1 = fb at *
    cases fb with
    | true =>
      have K0 := Kept.mk (show R = (8, failP d2) from by rw [Kd.out, Kcf.out]; rfl)
      have KFl := Kept.mk (fail_any wa B Da g d2 n KDa.out Kfb.out hn)
      clear Kd Kcf Kse
      go_wp2_with fail
      refine KFl.out.mono ?_
      rintro e1 wb ⟨rfl, hB⟩
      have KBb := Kept.mk (After.trans KTa.out Ksa.out hB)
      clear hB
      go_wp2_with fail
      go_ret
      rw [K0.out]
      exact ⟨rfl, KBb.out⟩
    | false =>
      have K0 := Kept.mk (show R = (0, { d2 with lies := seenP d2, rows := [] }) from by rw [Kd.out, Kcf.out, Kse.out]; rfl)
      obtain ⟨hg, bl, bs, v, hb2, hp2⟩ := KDa.out
      have c2 := hb2.cell 2
      simp only [dkV, List.getElem?_cons_zero, List.getElem?_cons_succ] at c2
      have KC := Kept.mk (clone_any wa bs _ hp2.fs)
      have Kg := Kept.mk hg
      have KB := Kept.mk hb2
      have KP := Kept.mk hp2
      clear hg hb2 hp2 Kd Kcf Kse
      go_wp2_with fail
      refine KC.out.mono ?_
      rintro e1 wb ⟨rfl, hf, hE, hs⟩
      have Kf := Kept.mk hf
      have KB2 := Kept.mk (KB.out.ext hE)
      have KP2 := Kept.mk (KP.out.touch (Touch.of_ext (S := []) hE) (by simp) (by simp) (by simp))
      have KT2 := Kept.mk (KTa.out.trans (Touch.of_ext (S := []) hE) (by simp))
      have Knb := Kept.mk (show (∀ j ∈ Da, j < wa.heap.size) ∧ wa.heap.size < wb.heap.size ∧ w.heap.size ≤ wa.heap.size from ⟨fun j hj => (KP.out.lo j hj).2, by omega, KTa.out.size⟩)
      generalize wa.heap.size = nb at *
      clear hf hE hs KC c2
      have c1 := KB2.out.cell 1
      have c3 := KB2.out.cell 3
      have f1 := KB2.out.free 1
      have f3 := KB2.out.free 3
      simp only [dkV, List.getElem?_cons_zero, List.getElem?_cons_succ] at c1 c3
      go_wp2_with fail
      go_ret
      rw [K0.out]
      refine ⟨rfl, ?_⟩
      have t1 := Touch.set wb ⟨g, 1, none⟩ (.map (some nb))
      have t2 := Touch.set (wb.setCell ⟨g, 1, none⟩ (.map (some nb))) ⟨g, 3, none⟩ (.slice none 0 0)
      have ht := t1.trans t2 (fun j hj => .inl hj)
      have hb3 := ((KB2.out.set 1 (.map (some nb))).set 3 (.slice none 0 0))
      have hne : nb ≠ g := fun e => by have := Knb.out.1 g Kg.out; omega
      have hp3 := KP2.out.blk KB2.out.z ht
      refine ⟨nb :: Da, ⟨by simp [Kg.out], nb, bs, .slice none 0 0, hb3, ?_⟩, ?_, ?_⟩
      · refine ⟨Kf.out.touch ht (by simpa using hne), hp3.fs, BufS.nil 3 _ _ _, by simp, by simp [hp3.ds], by simp [own], fun e => by have := Knb.out.1 _ hp3.ds; omega, ?_⟩
        intro j hj
        have hz := ht.size
        rcases List.mem_cons.1 hj with rfl | hj
        · have := Knb.out.1 g Kg.out
          have := (hp3.lo g Kg.out).1
          have := Knb.out.2.1
          omega
        · exact hp3.lo j hj
      · refine KT2.out.trans ht (fun j hj => ?_)
        rw [List.mem_singleton] at hj
        subst hj
        exact Ksa.out _ Kg.out
      · intro j hj
        rcases List.mem_cons.1 hj with rfl | hj
        · exact .inr Knb.out.2.2
        · exact Ksa.out j hj
end Disk
end Go.Proofs.Ytjphmjegfpdbeaa
