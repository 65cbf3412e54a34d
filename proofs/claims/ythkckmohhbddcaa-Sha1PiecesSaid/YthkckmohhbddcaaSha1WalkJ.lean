/- The walk of SHA-1's state: Copy. No condition. -/
import Derived.Test.YthkckmohhbddcaaSha1WalkI
namespace Go.Proofs.Ythkckmohhbddcaa
open Go.RowKit
namespace Sha1

/-- A new state like it. -/
def CopyIs (w : World) (c : Ch) (r : List UInt8) (n : Nat) (e : Ending) (w' : World) : Prop :=
  ∃ q v, e = .returned (.pointer (some ⟨q, 0, none⟩)) ∧ w.heap.size ≤ q ∧ Ext w w' ∧ Blk w' q 50 (stC c v n) ∧ Buf w' w.heap.size 5 v (bytesV r) ∧ q ∉ own v
set_option linter.unusedSimpArgs false
set_option linter.unusedVariables false
set_option maxRecDepth 100000 in
set_option maxHeartbeats 2000000 in
theorem copy_any (B p : Nat) (v0 : Value) (c : Ch) (r : List UInt8) (n : Nat) (w : World) (hb : Blk w p 50 (stC c v0 n)) (hv : Buf w B 5 v0 (bytesV r)) (hl : r.length ≤ 1000000000) :
    Calls Try.prog 11 #[.pointer (some ⟨p, 0, none⟩)] w (CopyIs w c r n) := by
  have hm : Try.prog.follows .mixedOrders = true := by kernel_rfl
  have hz := zero_run (P := Try.prog) infoS
  obtain ⟨iB, hiB, hzB, hsB, hbB⟩ := infoB
  have hc5 : w.cell? ⟨p, 5, none⟩ = some v0 := hb.cell 5
  have hc6 : w.cell? ⟨p, 6, none⟩ = some (.int .u64 (n : Int)) := hb.cell 6
  obtain ⟨A, cap, rfl⟩ := hv.form
  have hlen := bytesV_length r
  rw [hlen] at hb hv hc5
  have K1 := Kept.mk hb
  have KV := Kept.mk hv
  clear hb hv
  go_enter Try.func11, Try.ntmps11
  go_wp2_with fail
  refine wp_region_calm Ext 13 ([] :: [(3, 0)] :: [(4, 1)] :: [(5, 2)] :: [] :: [(7, 4)] :: [(8, 5)] :: [(9, 6)] :: [(10, 7)] :: [] :: [(12, 9)] :: [(13, 10)] :: [(14, 11)] :: [])
    ((3, 0) :: (4, 1) :: (5, 2) :: (6, 3) :: (7, 4) :: (8, 5) :: (9, 6) :: (10, 7) :: (11, 8) :: (12, 9) :: (13, 10) :: (14, 11) :: (15, 12) :: [])
    (EqV ?pce0 :: EqV ?pce1 :: EqV ?pce2 :: EqV (.agg (chW c).toArray) :: EqV ?pce4 :: EqV ?pce5 :: EqV ?pce6 :: EqV (.slice A r.length cap) :: (fun W u => Buf W w.heap.size 5 u (bytesV r)) :: EqV ?pce9 :: EqV ?pce10 :: EqV ?pce11 :: EqV (.int .u64 (n : Int)) :: []) hm (by kernel_rfl) Ext.refl (fun _ _ _ => Ext.trans) Ext.drew
    (MonoL.at (MonoL.eq _ (MonoL.eq _ (MonoL.eq _ (MonoL.eq _ (MonoL.eq _ (MonoL.eq _ (MonoL.eq _ (MonoL.eq _ (MonoL.cons (fun a b u h k => Buf.ext k h) (MonoL.eq _ (MonoL.eq _ (MonoL.eq _ (MonoL.eq _ (MonoL.nil))))))))))))))) ?pcalmOps ?pcalmDone
  case pcalmOps =>
    intro vs
    refine (CalmOps.cons ?_ (CalmOps.cons ?_ (CalmOps.cons ?_ (CalmOps.cons ?_ (CalmOps.cons ?_ (CalmOps.cons ?_ (CalmOps.cons ?_ (CalmOps.cons ?_ (CalmOps.cons ?_ (CalmOps.cons ?_ (CalmOps.cons ?_ (CalmOps.cons ?_ (CalmOps.cons ?_ trivial)))))))))))))
    · intro w6 hR hL; simp [Look, VAt, EqV] at hL; simp [Guarded, setAll, bare, hL]; go_wp2_with fail; exact CalmPost.mk (by simp; rfl) rfl (Ext.refl _)
    · intro w6 hR hL; simp [Look, VAt, EqV] at hL; simp [Guarded, setAll, bare, hL]; go_wp2_with fail; exact CalmPost.mk (by simp; rfl) rfl (Ext.refl _)
    · intro w6 hR hL; simp [Look, VAt, EqV] at hL; simp [Guarded, setAll, bare, hL]; go_wp2_with fail; exact CalmPost.mk (by simp; rfl) rfl (Ext.refl _)
    · intro w6 hR hL; simp [Look, VAt, EqV] at hL; simp [Guarded, setAll, bare, hL]; go_wp2_with (refine wpList_load_part rfl 37 (.tmp 5) rfl p 0 rfl 50 _ (chW c) (K1.out.ext hR) rfl _ Try.underlying37 rfl (info_size info5) ?_); exact CalmPost.mk (by simp) rfl (Ext.refl _)
    · intro w6 hR hL; simp [Look, VAt, EqV] at hL; simp [Guarded, setAll, bare, hL]; go_wp2_with fail; exact CalmPost.mk (by simp; rfl) rfl (Ext.refl _)
    · intro w6 hR hL; simp [Look, VAt, EqV] at hL; simp [Guarded, setAll, bare, hL]; go_wp2_with fail; exact CalmPost.mk (by simp; rfl) rfl (Ext.refl _)
    · intro w6 hR hL; simp [Look, VAt, EqV] at hL; simp [Guarded, setAll, bare, hL]; go_wp2_with fail; exact CalmPost.mk (by simp; rfl) rfl (Ext.refl _)
    · intro w6 hR hL; have hc9 := hR.cell hc5; simp [Look, VAt, EqV] at hL; simp [Guarded, setAll, bare, hL]; go_wp2_with fail; exact CalmPost.mk (by simp) rfl (Ext.refl _)
    · intro w6 hR hL; simp [Look, VAt, EqV] at hL; simp [Guarded, setAll, bare, hL]; go_wp2_with (refine wpList_append_buf (P := Try.prog) _ rfl (.const (.slice none 0 0)) (.tmp 10) 34 34 rfl 5 iB _ Try.underlying34 hiB hzB hsB rfl w.heap.size (.slice none 0 0) [] rfl (Buf.nil _ _ _) (.slice A r.length cap) r.length (bytesV r) rfl (Buf.src _ (KV.out.ext hR) Try.underlying34 (bytesV_one _)) hR.size (by simp only [maxLen, List.length_nil]; omega) (by rw [hbB, List.length_nil]; omega) ?_); intro v1 w1 hv1 ht1 ho1; go_wp2_with fail; exact CalmPost.mk (by simp) hv1 ht1.to_ext
    · intro w6 hR hL; simp [Look, VAt, EqV] at hL; simp [Guarded, setAll, bare, hL]; go_wp2_with fail; exact CalmPost.mk (by simp; rfl) rfl (Ext.refl _)
    · intro w6 hR hL; simp [Look, VAt, EqV] at hL; simp [Guarded, setAll, bare, hL]; go_wp2_with fail; exact CalmPost.mk (by simp; rfl) rfl (Ext.refl _)
    · intro w6 hR hL; simp [Look, VAt, EqV] at hL; simp [Guarded, setAll, bare, hL]; go_wp2_with fail; exact CalmPost.mk (by simp; rfl) rfl (Ext.refl _)
    · intro w6 hR hL; have hc9 := hR.cell hc6; simp [Look, VAt, EqV] at hL; simp [Guarded, setAll, bare, hL]; go_wp2_with fail; exact CalmPost.mk (by simp) rfl (Ext.refl _)
  case pcalmDone =>
    intro vs w6 hR hL; simp [Look, VAt, EqV] at hL; simp [setAll, hL]
    have hB := hL.2.2.2.2.2.2.2.2.1
    clear hL
    obtain ⟨A9, cap9, h9⟩ := hB.form
    rw [h9] at hB ⊢
    simp only [stZ, zW, List.cons_append, List.nil_append] at hz
    simp only [chW, numsV, chL, List.map_cons, List.map_nil]
    go_wp2_with fail
    go_ret
    rw [bytesV_length] at hB
    exact ⟨w6.heap.size, .slice A9 r.length cap9, rfl, hR.size, hR.trans (Ext.alloc _ _), Blk.new w6 _ (stC c (.slice A9 r.length cap9) n), hB.ext (Ext.alloc _ _), fun h => by have := (hB.owns _ h).2; omega⟩
end Sha1
end Go.Proofs.Ythkckmohhbddcaa
