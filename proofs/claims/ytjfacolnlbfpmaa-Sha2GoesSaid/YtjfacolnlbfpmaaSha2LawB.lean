/- The walk of the statement Sha2Goes. No condition. -/
import Derived.Test.YtjfacolnlbfpmaaSha2Awake
namespace Go.Proofs.Ytjfacolnlbfpmaa
open Go.RowKit
namespace Sha2
set_option linter.unusedVariables false
/-- Sum of a new row of strings. -/
def SumIs (w : World) (l : List UInt8) (e : Ending) (w' : World) : Prop := e = .returned (.string (strOf (digest l))) ∧ Ext w w'
theorem sumOf_row (w : World) (l : List ByteArray) (n : Nat) (hn : l.length = n) (m : List UInt8) (hm : flat l = m) (hlen : m.length ≤ 400000000) (hl : n ≤ 1000000) :
    Calls Try.prog 7 #[.slice (some ⟨w.heap.size, 0, none⟩) n n] (w.alloc (.cells (l.map strV).toArray 9)) (SumIs w m) := by
  subst hn hm
  refine (sumOf_any (some ⟨w.heap.size, 0, none⟩) l.length l _ (Row.of_blk (Blk.new w 9 (l.map strV))) (by intro j hj; simp [own] at hj; subst hj; simp) hlen (by omega)).mono ?_
  rintro e w' ⟨rfl, h⟩
  exact ⟨rfl, (Ext.alloc _ _).trans h⟩
def WroteE (w : World) (q : Nat) (m : List UInt8) (e : Ending) (w' : World) : Prop := e = .returned (.tuple #[]) ∧ StE w q m w'
theorem write_row (w : World) (q : Nat) (m : List UInt8) (wi : World) (l : List ByteArray) (n : Nat) (hn : l.length = n) (m' : List UInt8) (hm : m ++ flat l = m') (h : StE w q m wi) (hlen : m'.length ≤ 1000000000) (hl : n ≤ 1000000) :
    Calls Try.prog 10 #[.pointer (some ⟨q, 0, none⟩), .slice (some ⟨wi.heap.size, 0, none⟩) n n] (wi.alloc (.cells (l.map strV).toArray 9)) (WroteE w q m') := by
  subst hn hm
  have h2 := h.ext (Ext.alloc wi (.cells (l.map strV).toArray 9))
  refine (write_any q m (some ⟨wi.heap.size, 0, none⟩) l.length l _ h2.2.1 (Row.of_blk (Blk.new wi 9 (l.map strV))) (fun _ => by simp [own]; have := h.2.1.lt; omega) (by rw [← List.length_append]; exact hlen) (by omega)).mono ?_
  rintro e w' ⟨rfl, hs, ht⟩
  exact ⟨rfl, h2.wrote hs ht⟩
theorem strOf_app2 (a b : ByteArray) : (a ++ b).data.toList = a.data.toList ++ b.data.toList := by rw [ByteArray.data_append, Array.toList_append]
def bE : ByteArray := ⟨#[]⟩
set_option linter.unusedSimpArgs false
set_option maxRecDepth 100000 in
set_option maxHeartbeats 2000000 in
theorem goes_law (w : World) (a : ByteArray) (ha : a.size ≤ 9223372036854775807) (b : ByteArray) (hb : b.size ≤ 9223372036854775807) (t : Int) (ht : (Lit.int .u8 t).wf = true) :
    Calls Try.prog 5 #[.string a, .string b, .int .u8 t] w (TrueIs w) := by
  have htr : 0 ≤ t ∧ t ≤ 255 := by
    simp [Lit.wf, IntKind.min, IntKind.max, IntKind.signed, IntKind.bits] at ht
    omega
  have ht0 := htr.1
  have ht1 := htr.2
  clear htr ht
  go_enter Try.func5, Try.ntmps5
  go_wp2_with fail
  refine (awake_any _).mono ?_
  rintro e w1 ⟨rfl, h1⟩
  have KE := Kept.mk h1
  clear h1
  rcases (show 1000 < a.size ∨ (a.size ≤ 1000 ∧ 1000 < b.size) ∨ (a.size ≤ 1000 ∧ b.size ≤ 1000) by omega) with h | ⟨h, h'⟩ | ⟨h, h'⟩
  · have hI : (a.size : Int) > 1000 := by omega
    go_wp2_with fail
    go_ret
    exact ⟨rfl, KE.out⟩
  · have hI : ¬ (a.size : Int) > 1000 := by omega
    have hI2 : (b.size : Int) > 1000 := by omega
    go_wp2_with fail
    go_ret
    exact ⟨rfl, KE.out⟩
  · have hI : ¬ (a.size : Int) > 1000 := by omega
    have hI2 : ¬ (b.size : Int) > 1000 := by omega
    have hal : a.data.toList.length = a.size := by simp
    have hbl : b.data.toList.length = b.size := by simp
    have Kal := Kept.mk hal
    have Kbl := Kept.mk hbl
    have hcat : a.size + b.size ≤ 9223372036854775807 := by omega
    clear hal hbl
    go_wp2_with fail
    refine (new_any _).mono ?_
    rintro e w2 ⟨p, rfl, hp, h2, hs⟩
    have hS : StE w p [] w2 := ⟨Nat.le_trans KE.out.size hp, hs, KE.out.trans h2⟩
    have KS := Kept.mk hS
    clear hS hs h2 hp KE
    go_wp2_with fail
    refine (write_row w p [] w2 [a] 1 rfl a.data.toList (by simp [flat]) KS.out (by rw [Kal.out]; omega) (by omega)).mono ?_
    rintro e w3 ⟨rfl, hS⟩
    have KS := Kept.mk hS
    clear hS
    obtain ⟨n, hn⟩ : ∃ n : Nat, t % 5 = (n : Int) := ⟨(t % 5).toNat, by omega⟩
    obtain ⟨da, hda⟩ : ∃ da, da = digest a.data.toList := ⟨_, rfl⟩
    have Kda := Kept.mk hda
    clear hda
    go_wp2_with fail
    go_loopg [7, 8] n (fun r s i wi => ∃ k p : Nat, k + r = n ∧ i = .int .i64 (k : Int) ∧ s = .pointer (some ⟨p, 0, none⟩) ∧ StE w p a.data.toList wi)
    case atStart => exact ⟨0, p, by omega, rfl, rfl, KS.out⟩
    case round =>
      clear KS
      obtain ⟨k, p, hk, rfl, rfl, hS⟩ := hrel
      have KS := Kept.mk hS
      clear hS
      by_cases hlt : k < n
      · have hkI : (k : Int) < (n : Int) := by omega
        go_wp2_with fail
        refine (sum_any p a.data.toList wr KS.out.2.1 (by rw [Kal.out]; omega)).mono ?_
        rintro e w4 ⟨rfl, h4⟩
        rw [← Kda.out]
        have KS4 := Kept.mk (KS.out.ext h4)
        clear h4 KS
        go_wp2_with fail
        refine (sumOf_row w4 [a] 1 rfl a.data.toList (by simp [flat]) (by rw [Kal.out]; omega) (by omega)).mono ?_
        rintro e w5 ⟨rfl, h5⟩
        rw [← Kda.out]
        have KS5 := Kept.mk (KS4.out.ext h5)
        clear h5 KS4
        go_wp2_with fail
        refine (copy_any p a.data.toList w5 KS5.out.2.1).mono ?_
        rintro e w6 ⟨q, rfl, hq, h6, hs6⟩
        have KS6 := Kept.mk (show StE w q a.data.toList w6 from ⟨Nat.le_trans KS5.out.2.2.size hq, hs6, KS5.out.2.2.trans h6⟩)
        clear h6 KS5 hs6 hq
        go_wp2_with fail
        go_roundg (gk - 1)
        case measure => omega
        case rel => exact ⟨k + 1, q, by omega, by go_num, rfl, KS6.out⟩
      · obtain rfl : k = n := by omega
        have hkI : ¬ (k : Int) < (k : Int) := by omega
        obtain ⟨dm, hdm⟩ : ∃ dm, dm = digest (a.data.toList ++ b.data.toList) := ⟨_, rfl⟩
        have Kdm := Kept.mk hdm
        have hml : (a.data.toList ++ b.data.toList).length ≤ 2000 := by rw [List.length_append, Kal.out, Kbl.out]; omega
        have Kml := Kept.mk hml
        clear hdm hml
        go_wp2_with fail
        refine (write_row w p a.data.toList wr [bE, b, bE] 3 rfl (a.data.toList ++ b.data.toList) (by simp [flat, bE]) KS.out (by have := Kml.out; omega) (by omega)).mono ?_
        rintro e w4 ⟨rfl, hS4⟩
        have KS4 := Kept.mk hS4
        clear hS4 KS
        go_wp2_with fail
        refine (sum_any p (a.data.toList ++ b.data.toList) w4 KS4.out.2.1 (by have := Kml.out; omega)).mono ?_
        rintro e w5 ⟨rfl, h5⟩
        rw [← Kdm.out]
        have KE5 := Kept.mk (KS4.out.2.2.trans h5)
        clear h5 KS4
        go_wp2_with fail
        refine (sumOf_row w5 [a ++ b] 1 rfl (a.data.toList ++ b.data.toList) (by simp [flat, strOf_app2]) (by have := Kml.out; omega) (by omega)).mono ?_
        rintro e w6 ⟨rfl, h6⟩
        rw [← Kdm.out]
        have KE6 := Kept.mk (KE5.out.trans h6)
        clear h6 KE5
        go_wp2_with fail
        refine (sumOf_row w6 [a, b] 2 rfl (a.data.toList ++ b.data.toList) (by simp [flat]) (by have := Kml.out; omega) (by omega)).mono ?_
        rintro e w7 ⟨rfl, h7⟩
        rw [← Kdm.out]
        have KE7 := Kept.mk (KE6.out.trans h7)
        clear h7 KE6
        go_wp2_with fail
        refine (sumOf_row w7 [a ++ b] 1 rfl (a.data.toList ++ b.data.toList) (by simp [flat, strOf_app2]) (by have := Kml.out; omega) (by omega)).mono ?_
        rintro e w8 ⟨rfl, h8⟩
        rw [← Kdm.out]
        have KE8 := Kept.mk (KE7.out.trans h8)
        clear h8 KE7
        go_wp2_with fail
        go_ret
        exact ⟨by simp, KE8.out⟩
end Sha2
end Go.Proofs.Ytjfacolnlbfpmaa
