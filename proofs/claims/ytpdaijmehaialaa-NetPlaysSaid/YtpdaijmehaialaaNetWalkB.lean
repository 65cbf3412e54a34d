/- The walks of slices.Delete at packets, of net's Take and Lose. No condition. -/
import Derived.Test.YtpdaijmehaialaaNetWalkA
namespace Go.Proofs.Ytpdaijmehaialaa
open Go.RowKit
namespace Net
set_option linter.unusedSimpArgs false
set_option linter.unusedVariables false
def DelE (w : World) (B : Nat) (A : Option Addr) (n n' cap : Nat) (css : List (List Value)) (e : Ending) (w' : World) : Prop :=
  e = .returned (.slice A n' cap) ∧ BufS 3 w' B 34 (.slice A n' cap) css ∧ Touch (own (.slice A n cap)) w w'
set_option maxRecDepth 100000 in
set_option maxHeartbeats 2000000 in
theorem delete_any (B : Nat) (A : Option Addr) (N i m cap : Nat) (hN : N = i + 1 + m) (css : List (List Value)) (h1 : ∀ c ∈ css, ∀ u ∈ c, u.oneCell' = true) (w : World) (h : BufS 3 w B 34 (.slice A N cap) css) :
    Calls Try.prog 21 #[.slice A N cap, .int .i64 (i : Int), .int .i64 ((i : Int) + 1)] w (DelE w B A N (i + m) cap (css.take i ++ css.drop (i + 1))) := by
  obtain ⟨iP, hiP, hzP, hsP, hbP⟩ := infoP
  have hm : Try.prog.follows .mixedOrders = true := by kernel_rfl
  obtain ⟨hcl, hcap, hmx⟩ := h.len
  obtain ⟨b, off, rfl, -⟩ := h.at (by decide) (i := i) (by omega)
  have KF := Kept.mk ((h.front i (by omega)).ext (Ext.drew w))
  have hsrc := BufS.src (P := Try.prog) _ ((h.cut (i + 1) (by omega)).ext (Ext.drew w)) (by decide) Try.underlying39 (fun c hc => h1 c (List.mem_of_mem_drop hc))
  rw [show N - (i + 1) = m by omega] at hsrc
  have Kc := Kept.mk (show ∀ c ∈ css.drop (i + 1), c.length = 3 from fun c hc => h.each c (List.mem_of_mem_drop hc))
  have Kh := Kept.mk h
  have h63 : cap ≤ 9223372036854775807 := hmx
  have hc1 : (i : Int) + 1 ≤ (cap : Int) := by omega
  have hc2 : (i : Int) + 1 ≤ (N : Int) := by omega
  have hne : ((i : Int) == (i : Int) + 1) = false := by rw [beq_eq_false_iff_ne]; omega
  have hnn : ((i : Int) + 1).toNat = i + 1 := by omega
  have hsub : N - (i + 1) = m := by omega
  have Ksub2 := Kept.mk (show N - (i + m) = 1 by omega)
  have hcne : ¬ cap = i + m := by omega
  have hic : i ≤ cap := by omega
  have hi0 : (0 : Int) ≤ (i : Int) + 1 := by omega
  have hi1 : i + 1 ≤ N := by omega
  have hc3 : ((i + m : Nat) : Int) ≤ (N : Int) := by omega
  have hc4 : (N : Int) ≤ (cap : Int) := by omega
  have KN := Kept.mk hN
  clear hN hcl
  by_cases hce : cap = i + 1
  · rw [if_pos hce] at hsrc
    subst hce
    rw [Nat.sub_self] at hsrc
    have hii : (i : Int) ≤ (i : Int) + 1 := by omega
    have hc5 : (N : Int) ≤ (i : Int) + 1 := by omega
    have Ks := Kept.mk hsrc
    clear hsrc h
    go_enter Try.func21, Try.ntmps21
    go_wp2_with fail
    go_region_law ((refine step_append_roomS (P := Try.prog) _ (by rfl) (.tmp 22) (.tmp 25) 39 39 (by rfl) 3 (by decide) 34 iP Try.underlying39 hiP hsP B (some ⟨b, off, none⟩) i (i + 1) (css.take i) (by simp [Act.eval, Act.put]) KF.out (.slice (some ⟨b, off, none⟩) m 0) m (css.drop (i + 1)) Kc.out (by simp [Act.eval, Act.put]) Ks.out (by have := KN.out; omega) (by omega) ?_; intro w1 hV hT))
    obtain ⟨cs, hb, hcs, -⟩ := hV.blk (by omega)
    have KV := Kept.mk hV
    have KT := Kept.mk hT
    have Kb := Kept.mk hb
    have hcs2 : off + (i + m) * 3 + (N - (i + m)) * 3 ≤ cs.length := by omega
    clear hV hT hb
    go_wp2_with (refine wpList_clearS (P := Try.prog) _ rfl (.tmp 31) 39 rfl 3 (by decide) 34 iP _ Try.underlying39 hiP hzP rfl (by simp [Value.cells, Value.oneCell']) b (off + (i + m) * 3) (N - (i + m)) (i + 1 - (i + m)) rfl cs 34 Kb.out (by have := Ksub2.out; omega) hcs2 ?_)
    intro zs hzs
    have hzl : off + (i + m) * 3 + zs.length ≤ off + (i + 1) * 3 := by have := Ksub2.out; have := KN.out; omega
    have Kf := Kept.mk (KV.out.behind (off + (i + m) * 3) zs (Nat.le_refl _) hzl)
    have Kt := Kept.mk (((Touch.of_ext (S := own (.slice (some ⟨b, off, none⟩) N (i + 1))) (Ext.drew w)).trans KT.out (fun j hj => .inl hj)).trans (touch_setCells b zs (off + (i + m) * 3) w1) (fun j hj => .inl hj))
    clear hzs hzl hcs2
    go_wp2_with fail
    go_ret
    exact ⟨rfl, Kf.out, Kt.out⟩
  · rw [if_neg hce] at hsrc
    simp only [Option.map_some, Addr.add_lit] at hsrc
    have Ks := Kept.mk hsrc
    clear hsrc h
    go_enter Try.func21, Try.ntmps21
    go_wp2_with fail
    go_region_law ((refine step_append_roomS (P := Try.prog) _ (by rfl) (.tmp 22) (.tmp 25) 39 39 (by rfl) 3 (by decide) 34 iP Try.underlying39 hiP hsP B (some ⟨b, off, none⟩) i cap (css.take i) (by simp [Act.eval, Act.put]) KF.out (.slice (some ⟨b, off + (i + 1) * 3, none⟩) m (cap - (i + 1))) m (css.drop (i + 1)) Kc.out (by simp [Act.eval, Act.put]) Ks.out (by have := KN.out; omega) (by omega) ?_; intro w1 hV hT))
    obtain ⟨cs, hb, hcs, -⟩ := hV.blk (by omega)
    have KV := Kept.mk hV
    have KT := Kept.mk hT
    have Kb := Kept.mk hb
    have hcs2 : off + (i + m) * 3 + (N - (i + m)) * 3 ≤ cs.length := by omega
    clear hV hT hb
    go_wp2_with (refine wpList_clearS (P := Try.prog) _ rfl (.tmp 31) 39 rfl 3 (by decide) 34 iP _ Try.underlying39 hiP hzP rfl (by simp [Value.cells, Value.oneCell']) b (off + (i + m) * 3) (N - (i + m)) (cap - (i + m)) rfl cs 34 Kb.out (by have := Ksub2.out; omega) hcs2 ?_)
    intro zs hzs
    have hzl : off + (i + m) * 3 + zs.length ≤ off + cap * 3 := by have := Ksub2.out; have := KN.out; omega
    have Kf := Kept.mk (KV.out.behind (off + (i + m) * 3) zs (Nat.le_refl _) hzl)
    have Kt := Kept.mk (((Touch.of_ext (S := own (.slice (some ⟨b, off, none⟩) N cap)) (Ext.drew w)).trans KT.out (fun j hj => .inl hj)).trans (touch_setCells b zs (off + (i + m) * 3) w1) (fun j hj => .inl hj))
    clear hzs hzl hcs2
    go_wp2_with fail
    go_ret
    exact ⟨rfl, Kf.out, Kt.out⟩
end Net
end Go.Proofs.Ytpdaijmehaialaa
