/- The walk of awake. No condition. -/
import Derived.Test.YthkckmohhbddcaaSha1WalkN
namespace Go.Proofs.Ythkckmohhbddcaa
open Go.RowKit
namespace Sha1

def TrueIs (w : World) (e : Ending) (w' : World) : Prop := e = .returned (.bool true) ∧ Ext w w'
def bA : ByteArray := ⟨#[97]⟩
def bBC : ByteArray := ⟨#[98, 99]⟩
def bABC : ByteArray := ⟨#[97, 98, 99]⟩
def bABCD : ByteArray := ⟨#[97, 98, 99, 100]⟩
theorem dg_length : (digest [97, 98, 99]).length = 20 := by decide +kernel
set_option linter.unusedSimpArgs false
set_option linter.unusedVariables false
set_option maxRecDepth 100000 in
set_option maxHeartbeats 2000000 in
theorem awake_any (w : World) : Calls Try.prog 7 #[] w (TrueIs w) := by
  have habc := abc
  have hdl := dg_length
  go_enter Try.func7, Try.ntmps7
  go_wp2_with fail
  refine (new_any _).mono ?_
  rintro e w1 ⟨p, rfl, hp, h1, hb⟩
  go_wp2_with fail
  have hf1 : flat [bA, bBC] = [97, 98, 99] := rfl
  have hf2 : flat [bABC] = [97, 98, 99] := rfl
  refine (write_any w.heap.size p (.slice none 0 0) [] (some ⟨w1.heap.size, 0, none⟩) 2 [bA, bBC] _ (hb.old _) (Buf.nil _ _ _) (Nat.le_trans h1.size (by simp)) (by simp [own]) (Row.of_blk (Blk.new w1 9 [.string bA, .string bBC])) (by intro j hj; simp [own] at hj ⊢; have := hb.lt; omega) (by rw [hf1]; decide) (by decide)).mono ?_
  rintro e w2 ⟨rfl, v2, hb2, hv2, ht2, -⟩
  rw [List.nil_append, hf1] at hb2 hv2
  have hE2 : Ext w w2 := Touch.below (h1.trans (Ext.alloc _ _)) ht2 (by intro j hj; simp [own] at hj; subst hj; exact hp) (Nat.le_trans h1.size (by simp))
  clear ht2 hb h1
  go_wp2_with fail
  refine (sumOf_any (some ⟨w2.heap.size, 0, none⟩) 1 [bABC] _ (Row.of_blk (Blk.new w2 9 [.string bABC])) (by intro j hj; simp [own] at hj; subst hj; simp) (by rw [hf2]; decide) (by decide)).mono ?_
  rintro e w3 ⟨rfl, h3⟩
  rw [hf2]
  have h3 : Ext w2 w3 := (Ext.alloc w2 _).trans h3
  have KA := Kept.mk habc
  have hb3 := hb2.ext h3
  have hv3 := hv2.ext h3
  have hE3 := hE2.trans h3
  clear habc hb2 hv2 h3 hE2
  obtain ⟨dg, hdg⟩ : ∃ dg, dg = digest [97, 98, 99] := ⟨_, rfl⟩
  rw [← hdg] at hdl KA ⊢
  have KG := Kept.mk hdg
  clear hdg
  go_wp2_with fail
  refine (digits_any (strOf dg) (by rw [strOf_size, hdl]; decide) _).mono ?_
  rintro e w4 ⟨rfl, h4⟩
  rw [strOf_list]
  have hb4 := hb3.ext h4
  have hv4 := hv3.ext h4
  have hE4 := hE3.trans h4
  clear hb3 hv3 h4 hE3
  go_wp2_with fail
  rotate_left
  · rename_i hno
    exact absurd (by rw [ByteArray.toList_eq, strOf_list, KA.out]; rfl) hno
  refine (sum_any w.heap.size p v2 [97, 98, 99] w4 hb4 hv4 (by decide)).mono ?_
  rintro e w5 ⟨rfl, h5⟩
  rw [← KG.out]
  have hE5 := hE4.trans h5
  clear hb4 hv4 h5 hE4
  go_wp2_with fail
  refine (sumOf_any (some ⟨w5.heap.size, 0, none⟩) 1 [bABC] _ (Row.of_blk (Blk.new w5 9 [.string bABC])) (by intro j hj; simp [own] at hj; subst hj; simp) (by rw [hf2]; decide) (by decide)).mono ?_
  rintro e w6 ⟨rfl, h6⟩
  rw [hf2, ← KG.out]
  have hE6 := hE5.trans ((Ext.alloc w5 _).trans h6)
  clear h6 hE5
  go_wp2_with fail
  refine (first_any _).mono ?_
  rintro e w7 ⟨rfl, h7⟩
  have hE7 := hE6.trans h7
  rw [chV_eq]
  have hi0 : (Instr.index 37 (.agg (chW firstC).toArray) (.int .i64 0)).run Try.prog w7 = .ok (.int .u32 1732584193) w7 := run_index_nums (P := Try.prog) 37 35 5 4 .u32 Try.underlying37 infoU32 Try.underlying35 (chL firstC) rfl 0 (by decide) w7
  clear h7 hE6
  go_wp2_with fail
  refine (expand_any bABCD (by decide) _).mono ?_
  rintro e w8 ⟨rfl, h8⟩
  have hE8 := hE7.trans h8
  clear h8 hE7
  have hix : (Instr.index 41 (.agg (numsV .u32 (expand bABCD.data.toList)).toArray) (.int .i64 0)).run Try.prog w8 = .ok (.int .u32 1633837924) w8 := by
    have := run_index_nums (P := Try.prog) 41 35 80 4 .u32 Try.underlying41 infoU32 Try.underlying35 (expand bABCD.data.toList) (expand_length _) 0 (by decide) w8
    rw [show (expand bABCD.data.toList).getD 0 0 = 1633837924 from abcd] at this
    exact this
  generalize expand bABCD.data.toList = we at hix ⊢
  go_wp2_with fail
  go_ret
  exact ⟨rfl, hE8⟩
end Sha1
end Go.Proofs.Ythkckmohhbddcaa
