/- The walks of the document's step back, of the words and of a block. No condition. -/
import Derived.Test.YthkckmohhbddcaaSha1WalkB
import Derived.Deep.WholeRow
namespace Go.Proofs.Ythkckmohhbddcaa
open Go.RowKit
namespace Sha1

/-- A new array of five zeros. -/
def NewArr5 (B : Nat) (T : TypeId) : World → Value → Prop := fun w v => ∃ b, B ≤ b ∧ v = .pointer (some ⟨b, 0, none⟩) ∧ w.heap[b]? = some (.cells #[.int .u32 0, .int .u32 0, .int .u32 0, .int .u32 0, .int .u32 0] T (0, 0))
theorem NewArr5.mono (B : Nat) (T : TypeId) (w w' : World) (v : Value) (h : Ext w w') : NewArr5 B T w v → NewArr5 B T w' v := fun ⟨b, hB, e, hb⟩ =>
  ⟨b, hB, e, (Below.block h b (by obtain ⟨hl, _⟩ := Array.getElem?_eq_some_iff.1 hb; exact hl)).trans hb⟩
set_option linter.unusedSimpArgs false
set_option linter.unusedVariables false
set_option maxRecDepth 100000 in
set_option maxHeartbeats 1000000 in
theorem refBack_any (x : Ch) (t v : Int) (w : World) : Calls Try.prog 21 #[chV x, .int .i64 t, .int .u32 v] w (ChIs w (backC x t v)) := by
  obtain ⟨a, b, c, d, e⟩ := x
  have hstep := Lib.hid (fun w1 => refStep_any ⟨b, rotI c 2, d, e, 0⟩ t v w1)
  unfold chV
  have hm : Try.prog.follows .mixedOrders = true := by kernel_rfl
  go_enter Try.func21, Try.ntmps21
  go_wp2_with fail
  refine wp_region_calm Ext 11 ([] :: [(9, 0)] :: [] :: [(11, 2)] :: [(12, 3)] :: [] :: [(14, 5)] :: [] :: [(16, 7)] :: [(10, 1), (13, 4), (15, 6), (17, 8)] :: [] :: [])
    ((9, 0) :: (10, 1) :: (11, 2) :: (12, 3) :: (13, 4) :: (14, 5) :: (15, 6) :: (16, 7) :: (17, 8) :: (18, 9) :: (7, 10) :: [])
    (EqV ?pce0 :: EqV ?pce1 :: EqV ?pce2 :: EqV ?pce3 :: EqV ?pce4 :: EqV ?pce5 :: EqV ?pce6 :: EqV ?pce7 :: EqV ?pce8 :: EqV ?pce9 :: NewArr5 (w.heap.size + 2) 36 :: []) hm (by kernel_rfl) Ext.refl (fun _ _ _ => Ext.trans) Ext.drew
    (MonoL.at (MonoL.eq _ (MonoL.eq _ (MonoL.eq _ (MonoL.eq _ (MonoL.eq _ (MonoL.eq _ (MonoL.eq _ (MonoL.eq _ (MonoL.eq _ (MonoL.eq _ (MonoL.cons (NewArr5.mono _ _) (MonoL.nil))))))))))))) ?pcalmOps ?pcalmDone
  case pcalmOps =>
    intro vs
    refine (CalmOps.cons ?_ (CalmOps.cons ?_ (CalmOps.cons ?_ (CalmOps.cons ?_ (CalmOps.cons ?_ (CalmOps.cons ?_ (CalmOps.cons ?_ (CalmOps.cons ?_ (CalmOps.cons ?_ (CalmOps.cons ?_ (CalmOps.cons ?_ trivial)))))))))))
    · intro w6 hR hL; simp [Look, VAt, EqV] at hL; simp [Guarded, setAll, bare, hL]; go_wp2_with fail; exact CalmPost.mk (by simp; rfl) rfl (Ext.refl _)
    · intro w6 hR hL; have hc6 := hR.cell (a := ⟨w.heap.size, 1, none⟩) (v := .int .u32 b) (by simp [go_sem]); simp [Look, VAt, EqV] at hL; simp [Guarded, setAll, bare, hL]; go_wp2_with fail; exact CalmPost.mk (by simp; rfl) rfl (Ext.refl _)
    · intro w6 hR hL; simp [Look, VAt, EqV] at hL; simp [Guarded, setAll, bare, hL]; go_wp2_with fail; exact CalmPost.mk (by simp; rfl) rfl (Ext.refl _)
    · intro w6 hR hL; have hc6 := hR.cell (a := ⟨w.heap.size, 2, none⟩) (v := .int .u32 c) (by simp [go_sem]); simp [Look, VAt, EqV] at hL; simp [Guarded, setAll, bare, hL]; go_wp2_with fail; exact CalmPost.mk (by simp; rfl) rfl (Ext.refl _)
    · intro w6 hR hL; simp [Look, VAt, EqV] at hL; simp [Guarded, setAll, bare, hL]; go_wp2_with fail; refine (rot_any c 2 (by decide) _).mono ?_; rintro ee ww ⟨rfl, rfl⟩; go_wp2_with fail; exact CalmPost.mk (by simp; rfl) rfl (Ext.refl _)
    · intro w6 hR hL; simp [Look, VAt, EqV] at hL; simp [Guarded, setAll, bare, hL]; go_wp2_with fail; exact CalmPost.mk (by simp; rfl) rfl (Ext.refl _)
    · intro w6 hR hL; have hc6 := hR.cell (a := ⟨w.heap.size, 3, none⟩) (v := .int .u32 d) (by simp [go_sem]); simp [Look, VAt, EqV] at hL; simp [Guarded, setAll, bare, hL]; go_wp2_with fail; exact CalmPost.mk (by simp; rfl) rfl (Ext.refl _)
    · intro w6 hR hL; simp [Look, VAt, EqV] at hL; simp [Guarded, setAll, bare, hL]; go_wp2_with fail; exact CalmPost.mk (by simp; rfl) rfl (Ext.refl _)
    · intro w6 hR hL; have hc6 := hR.cell (a := ⟨w.heap.size, 4, none⟩) (v := .int .u32 e) (by simp [go_sem]); simp [Look, VAt, EqV] at hL; simp [Guarded, setAll, bare, hL]; go_wp2_with fail; exact CalmPost.mk (by simp; rfl) rfl (Ext.refl _)
    · intro w6 hR hL; simp [Look, VAt, EqV] at hL; simp [Guarded, setAll, bare, hL]; go_wp2_with fail; exact CalmPost.mk (by simp; rfl) rfl (Ext.refl _)
    · intro w6 hR hL; have hsz := hR.size; have hsz2 : w.heap.size + 2 ≤ w6.heap.size := (by simpa using hsz); clear hsz; simp [Guarded, setAll, bare]; go_wp2_with fail; exact CalmPost.mk (by simp) ⟨_, hsz2, rfl, heap_alloc_last _ _⟩ (Ext.alloc _ _)
  case pcalmDone =>
    intro vs w6 hR hL
    obtain ⟨l0, l1, l2, l3, l4, l5, l6, l7, l8, l9, ⟨g, hgB, hv, hblk⟩, -⟩ := hL
    simp [VAt, EqV] at l0 l1 l2 l3 l4 l5 l6 l7 l8 l9
    simp only at hv
    have f0 := cell_of_row w6 g 0 _ _ _ hblk
    have f1 := cell_of_row w6 g 1 _ _ _ hblk
    have f2 := cell_of_row w6 g 2 _ _ _ hblk
    have f3 := cell_of_row w6 g 3 _ _ _ hblk
    have f4 := cell_of_row w6 g 4 _ _ _ hblk
    have z0 := frozen_of_row w6 g 0 _ _ hblk
    have z1 := frozen_of_row w6 g 1 _ _ hblk
    have z2 := frozen_of_row w6 g 2 _ _ hblk
    have z3 := frozen_of_row w6 g 3 _ _ hblk
    have z4 := frozen_of_row w6 g 4 _ _ hblk
    simp at f0 f1 f2 f3 f4
    simp [setAll, l0, l1, l2, l3, l4, l5, l6, l7, l8, l9, hv]
    clear l0 l1 l2 l3 l4 l5 l6 l7 l8 l9 hv
    have p0 := hR.cell (a := ⟨w.heap.size, 0, none⟩) (v := .int .u32 a) (by simp [go_sem])
    have q0 := hR.cell (a := ⟨w.heap.size + 1, 0, none⟩) (v := .int .u32 0) (by simp [go_sem])
    have q1 := hR.cell (a := ⟨w.heap.size + 1, 1, none⟩) (v := .int .u32 0) (by simp [go_sem])
    have q2 := hR.cell (a := ⟨w.heap.size + 1, 2, none⟩) (v := .int .u32 0) (by simp [go_sem])
    have q3 := hR.cell (a := ⟨w.heap.size + 1, 3, none⟩) (v := .int .u32 0) (by simp [go_sem])
    have q4 := hR.cell (a := ⟨w.heap.size + 1, 4, none⟩) (v := .int .u32 0) (by simp [go_sem])
    have hfz : ∀ i, w6.frozen? ⟨w.heap.size + 1, i, none⟩ = false := fun i => by
      have := Below.frozen hR (p := ⟨w.heap.size + 1, i, none⟩) (by simp)
      rw [this]; simp [go_sem]
    have hsz := hR.size
    simp at hsz
    have hne1 : ¬ g = w.heap.size := by omega
    have hne2 : ¬ g = w.heap.size + 1 := by omega
    have hne3 : ¬ w.heap.size = g := by omega
    have hne4 : ¬ w.heap.size + 1 = g := by omega
    have hEx : Ext w w6 := (Ext.alloc _ _).trans ((Ext.alloc _ _).trans hR)
    clear hR hblk
    go_wp2_with fail
    generalize hw7 : ((((w6.setCell ⟨g, 0, none⟩ (.int .u32 b)).setCell ⟨g, 1, none⟩ (.int .u32 (rotI c 2))).setCell ⟨g, 2, none⟩ (.int .u32 d)).setCell ⟨g, 3, none⟩ (.int .u32 e)).setCell ⟨g, 4, none⟩ (.int .u32 0) = w7
    have g0 : w7.cell? ⟨g, 0, none⟩ = some (.int .u32 b) := by rw [← hw7]; simp [go_sem, f0]
    have g1 : w7.cell? ⟨g, 1, none⟩ = some (.int .u32 (rotI c 2)) := by rw [← hw7]; simp [go_sem, f1]
    have g2 : w7.cell? ⟨g, 2, none⟩ = some (.int .u32 d) := by rw [← hw7]; simp [go_sem, f2]
    have g3 : w7.cell? ⟨g, 3, none⟩ = some (.int .u32 e) := by rw [← hw7]; simp [go_sem, f3]
    have g4 : w7.cell? ⟨g, 4, none⟩ = some (.int .u32 0) := by rw [← hw7]; simp [go_sem, f4]
    have y4 : w7.frozen? ⟨g, 4, none⟩ = false := by rw [← hw7]; simp [go_sem, z4]
    have r0 : w7.cell? ⟨w.heap.size, 0, none⟩ = some (.int .u32 a) := by rw [← hw7]; simp [go_sem, hne3, p0]
    have s0 : w7.cell? ⟨w.heap.size + 1, 0, none⟩ = some (.int .u32 0) := by rw [← hw7]; simp [go_sem, hne4, q0]
    have s1 : w7.cell? ⟨w.heap.size + 1, 1, none⟩ = some (.int .u32 0) := by rw [← hw7]; simp [go_sem, hne4, q1]
    have s2 : w7.cell? ⟨w.heap.size + 1, 2, none⟩ = some (.int .u32 0) := by rw [← hw7]; simp [go_sem, hne4, q2]
    have s3 : w7.cell? ⟨w.heap.size + 1, 3, none⟩ = some (.int .u32 0) := by rw [← hw7]; simp [go_sem, hne4, q3]
    have s4 : w7.cell? ⟨w.heap.size + 1, 4, none⟩ = some (.int .u32 0) := by rw [← hw7]; simp [go_sem, hne4, q4]
    have u0 : ∀ i, w7.frozen? ⟨w.heap.size + 1, i, none⟩ = false := fun i => by rw [← hw7]; simp [go_sem, hfz]
    have hE7 : Ext w w7 := by
      rw [← hw7]
      have hB : Below w.heap.size w w6 := hEx
      exact ((((hB.setCell (by simp; omega) _).setCell (by simp; omega) _).setCell (by simp; omega) _).setCell (by simp; omega) _).setCell (by simp; omega) _
    have hgl : g < w7.heap.size := World.block_lt_of_cell? _ _ g0
    clear hw7 f0 f1 f2 f3 f4 z0 z1 z2 z3 z4 p0 q0 q1 q2 q3 q4 hfz hEx hsz
    refine (hstep.out _).mono ?_
    rintro ee w8 ⟨rfl, h78⟩
    unfold chV stepC
    have G0 := h78.cell g0
    have G1 := h78.cell g1
    have G2 := h78.cell g2
    have G3 := h78.cell g3
    have G4 := h78.cell g4
    have R0 := h78.cell r0
    have S0 := h78.cell s0
    have S1 := h78.cell s1
    have S2 := h78.cell s2
    have S3 := h78.cell s3
    have S4 := h78.cell s4
    have Y4 := (Below.frozen h78 (p := ⟨g, 4, none⟩) hgl).trans y4
    have hs1l : w.heap.size + 1 < w7.heap.size := World.block_lt_of_cell? _ _ s0
    have U0 := (Below.frozen h78 (p := ⟨w.heap.size + 1, 0, none⟩) hs1l).trans (u0 0)
    have U1 := (Below.frozen h78 (p := ⟨w.heap.size + 1, 1, none⟩) hs1l).trans (u0 1)
    have U2 := (Below.frozen h78 (p := ⟨w.heap.size + 1, 2, none⟩) hs1l).trans (u0 2)
    have U3 := (Below.frozen h78 (p := ⟨w.heap.size + 1, 3, none⟩) hs1l).trans (u0 3)
    have U4 := (Below.frozen h78 (p := ⟨w.heap.size + 1, 4, none⟩) hs1l).trans (u0 4)
    have hE8 : Ext w w8 := hE7.trans h78
    have hg8 : g < w8.heap.size := Nat.lt_of_lt_of_le hgl h78.size
    have hs8 : w.heap.size + 1 < w8.heap.size := Nat.lt_of_lt_of_le hs1l h78.size
    have hs8' : w.heap.size < w8.heap.size := by omega
    clear g0 g1 g2 g3 g4 y4 r0 s0 s1 s2 s3 s4 u0 hE7 h78 hstep hgl hs1l
    go_wp2_with fail
    refine bodyPost_ret (v := chV (backC ⟨a, b, c, d, e⟩ t v)) ?_ rfl ⟨rfl, ?_⟩
    · simp [results, Try.results21, go_sem, G0, G1, G2, G3, G4, S0, S1, S2, S3, S4, hne1, hne2, hne3, hne4, hs8, hs8']
      unfold chV backC
      rw [show a - rotI b 5 - mixI t (rotI c 2) d e - v = a - (rotI b 5 + mixI t (rotI c 2) d e + v) by omega]
    · unfold Ext
      have hB : Below w.heap.size w w8 := hE8
      exact Below.alloc ((((((hB.setCell (by simp; omega) _).setCell (by simp) _).setCell (by simp) _).setCell (by simp) _).setCell (by simp) _).setCell (by simp) _) (by simp; omega) _

end Sha1
end Go.Proofs.Ythkckmohhbddcaa
