/- The walk of awake. No condition. -/
import Derived.Test.YtjfacolnlbfpmaaSha2WalkF
namespace Go.Proofs.Ytjfacolnlbfpmaa
open Go.RowKit
namespace Sha2

def TrueIs (w : World) (e : Ending) (w' : World) : Prop := e = .returned (.bool true) ∧ Ext w w'
def bA : ByteArray := ⟨#[97]⟩
def bBC : ByteArray := ⟨#[98, 99]⟩
def bABC : ByteArray := ⟨#[97, 98, 99]⟩
set_option linter.unusedSimpArgs false
set_option linter.unusedVariables false
set_option maxRecDepth 100000 in
set_option maxHeartbeats 2000000 in
theorem awake_any (w : World) : Calls Try.prog 6 #[] w (TrueIs w) := by
  have habc := abc
  have hdl := digest_length [97, 98, 99]
  go_enter Try.func6, Try.ntmps6
  go_wp2_with fail
  refine (new_any _).mono ?_
  rintro e w1 ⟨p, rfl, hp, h1, hb⟩
  go_wp2_with fail
  have hf1 : flat [bA, bBC] = [97, 98, 99] := rfl
  have hf2 : flat [bABC] = [97, 98, 99] := rfl
  refine (write_any p [] (some ⟨w1.heap.size, 0, none⟩) 2 [bA, bBC] _ (hb.ext (Ext.alloc _ _)) (Row.of_blk (Blk.new w1 9 [.string bA, .string bBC])) (fun _ => by simp [own]; have := hb.lt; omega) (by rw [hf1]; decide) (by decide)).mono ?_
  rintro e w2 ⟨rfl, hb2, ht2⟩
  rw [List.nil_append, hf1] at hb2
  have hE2 : Ext w w2 := Touch.below (h1.trans (Ext.alloc _ _)) ht2 (by intro j hj; simp at hj; subst hj; exact hp) (Nat.le_trans h1.size (by simp))
  clear ht2 hb h1
  go_wp2_with fail
  refine (sumOf_any (some ⟨w2.heap.size, 0, none⟩) 1 [bABC] _ (Row.of_blk (Blk.new w2 9 [.string bABC])) (by intro j hj; simp [own] at hj; subst hj; simp) (by rw [hf2]; decide) (by decide)).mono ?_
  rintro e w3 ⟨rfl, h3⟩
  rw [hf2]
  have h3 : Ext w2 w3 := (Ext.alloc w2 _).trans h3
  have KA := Kept.mk habc
  have hb3 := hb2.ext h3
  have hE3 := hE2.trans h3
  clear habc hb2 h3 hE2
  obtain ⟨dg, hdg⟩ : ∃ dg, dg = digest [97, 98, 99] := ⟨_, rfl⟩
  rw [← hdg] at hdl KA ⊢
  have KG := Kept.mk hdg
  clear hdg
  go_wp2_with fail
  refine (digits_any (strOf dg) (by rw [strOf_size, hdl]; decide) _).mono ?_
  rintro e w4 ⟨rfl, h4⟩
  rw [strOf_list]
  have hb4 := hb3.ext h4
  have hE4 := hE3.trans h4
  clear hb3 h4 hE3
  go_wp2_with fail
  rotate_left
  · rename_i hno
    exact absurd (by rw [ByteArray.toList_eq, strOf_list, KA.out]; rfl) hno
  refine (sum_any p [97, 98, 99] w4 hb4 (by decide)).mono ?_
  rintro e w5 ⟨rfl, h5⟩
  rw [← KG.out]
  have hE5 := hE4.trans h5
  clear hb4 h5 hE4
  go_wp2_with fail
  refine (sumOf_any (some ⟨w5.heap.size, 0, none⟩) 1 [bABC] _ (Row.of_blk (Blk.new w5 9 [.string bABC])) (by intro j hj; simp [own] at hj; subst hj; simp) (by rw [hf2]; decide) (by decide)).mono ?_
  rintro e w6 ⟨rfl, h6⟩
  rw [hf2, ← KG.out]
  have hE6 := hE5.trans ((Ext.alloc w5 _).trans h6)
  clear h6 hE5
  go_wp2_with fail
  go_ret
  exact ⟨by simp, hE6⟩
end Sha2
end Go.Proofs.Ytjfacolnlbfpmaa
