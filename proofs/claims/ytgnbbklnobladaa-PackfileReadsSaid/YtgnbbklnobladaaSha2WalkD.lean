/- The walk of SHA-256's state: Sum. No condition. -/
import Derived.Test.YtgnbbklnobladaaSha2WalkC
import Derived.Test.YtgnbbklnobladaaBufMore
namespace Go.Proofs.Ytgnbbklnobladaa
open Go.RowKit
namespace Sha2

/-- A string; all else is as it was. -/
def StrIs (w : World) (l : List UInt8) (e : Ending) (w' : World) : Prop := e = .returned (.string (strOf l)) ∧ Ext w w'
theorem digit4V (x : Int) : bytesV (digit4 x) = [.int .u8 (x / 16777216 % 256), .int .u8 (x / 65536 % 256), .int .u8 (x / 256 % 256), .int .u8 (x % 256)] := by
  have h : ∀ y : Int, ((UInt8.ofNat (y % 256).toNat).toNat : Int) = y % 256 := fun y => by
    have := Int.emod_nonneg y (show (256 : Int) ≠ 0 by decide)
    have := Int.emod_lt_of_pos y (show (0 : Int) < 256 by decide)
    simp; omega
  simp [bytesV, numsV, nb, digit4, -UInt8.toNat_ofNat', h]
def b80 : ByteArray := ⟨#[128]⟩
def b00 : ByteArray := ⟨#[0]⟩
/-- One state more that this call made. -/
def StE (w : World) (q : Nat) (m : List UInt8) (wi : World) : Prop := w.heap.size ≤ q ∧ St wi q m ∧ Ext w wi
theorem StE.wrote {w : World} {q : Nat} {m m' : List UInt8} {wi w' : World} (h : StE w q m wi) (hs : St w' q m') (ht : Touch [q] wi w') : StE w q m' w' :=
  ⟨h.1, hs, Touch.below h.2.2 ht (by intro j hj; simp at hj; subst hj; exact h.1) h.2.2.size⟩
theorem StE.ext {w : World} {q : Nat} {m : List UInt8} {wi w' : World} (h : StE w q m wi) (e : Ext wi w') : StE w q m w' := ⟨h.1, h.2.1.ext e, h.2.2.trans e⟩
/-- Write of one string in a new row. -/
theorem write_one (w : World) (q : Nat) (m : List UInt8) (s : ByteArray) (wi : World) (h : StE w q m wi) (hl : m.length + s.size ≤ 1000000000) :
    Calls Try.prog 34 #[.pointer (some ⟨q, 0, none⟩), .slice (some ⟨wi.heap.size, 0, none⟩) 1 1] (wi.alloc (.cells #[.string s] 9)) fun e w' => e = .returned (.tuple #[]) ∧ StE w q (m ++ s.data.toList) w' := by
  have hf : flat [s] = s.data.toList := by simp [flat]
  have hsl : s.data.toList.length = s.size := by simp
  have h2 := h.ext (Ext.alloc wi (.cells #[.string s] 9))
  refine (write_any q m (some ⟨wi.heap.size, 0, none⟩) 1 [s] _ h2.2.1 (Row.of_blk (Blk.new wi 9 [.string s])) (fun _ => by simp [own]; have := h.2.1.lt; omega) (by rw [hf]; omega) (by simp)).mono ?_
  rintro e w' ⟨rfl, hs, ht⟩
  rw [hf] at hs
  exact ⟨rfl, h2.wrote hs ht⟩
/-- Write of one byte in a new string in a new row. -/
theorem write_byte (w : World) (q : Nat) (m : List UInt8) (x : Int) (wi : World) (h : StE w q m wi) (hl : m.length + 1 ≤ 1000000000) :
    Calls Try.prog 34 #[.pointer (some ⟨q, 0, none⟩), .slice (some ⟨wi.heap.size + 1, 0, none⟩) 1 1] ((wi.alloc (.cells #[.int .u8 x] 5)).alloc (.cells #[.string (strOfNums [x])] 9)) fun e w' => e = .returned (.tuple #[]) ∧ StE w q (m ++ [UInt8.ofNat x.toNat]) w' := by
  have := write_one w q m (strOfNums [x]) _ (h.ext (Ext.alloc wi (.cells #[.int .u8 x] 5))) (by rw [strOfNums_size]; exact hl)
  rw [World.size_alloc, strOfNums_data] at this
  exact this
theorem byte_of (y : Int) : ((UInt8.ofNat (y % 256).toNat).toNat : Int) = y % 256 := by
  have := Int.emod_nonneg y (show (256 : Int) ≠ 0 by decide)
  have := Int.emod_lt_of_pos y (show (0 : Int) < 256 by decide)
  simp; omega
theorem StE.same {w : World} {q : Nat} {m m' : List UInt8} {wi : World} (h : StE w q m wi) (e : m = m') : StE w q m' wi := e ▸ h
theorem byte_same {l : List UInt8} {x : Int} {n : Nat} (h : x.toNat = n) : l ++ [UInt8.ofNat x.toNat] = l ++ [UInt8.ofNat n] := by rw [h]
set_option linter.unusedSimpArgs false
set_option linter.unusedVariables false
set_option maxRecDepth 100000 in
set_option maxHeartbeats 2000000 in
theorem sum_any (p : Nat) (m : List UInt8) (w : World) (hs : St w p m) (hlen : m.length ≤ 500000000) :
    Calls Try.prog 35 #[.pointer (some ⟨p, 0, none⟩)] w (StrIs w (digest m)) := by
  obtain ⟨iB, hiB, hzB, hsB, hbB⟩ := infoB
  obtain ⟨b, hb1, hb2, hb⟩ := id hs
  have c73 := hb.cell 73
  rw [stC_told _ b hb1] at c73
  go_enter Try.func35, Try.ntmps35
  go_wp2_with fail
  refine (copy_any p m w hs).mono ?_
  rintro e w1 ⟨q, rfl, hq, h1, hS1⟩
  have c73 := h1.cell c73
  have hE := Kept.mk (show StE w q m w1 from ⟨hq, hS1, h1⟩)
  clear h1 hS1 hb hb2 hs
  have hw1 : (8 * (m.length : Int)) % 18446744073709551616 = 8 * (m.length : Int) := by omega
  go_wp2_with fail
  refine (write_one w q m b80 w1 hE.out (by have : b80.size = 1 := rfl; omega)).mono ?_
  rintro e w2 ⟨rfl, hE2⟩
  have hE2 : StE w q (m ++ 128 :: List.replicate 0 0) w2 := hE2
  have KE := Kept.mk hE2
  clear hE2 hE c73
  go_wp2_with fail
  obtain ⟨Z, hZ⟩ : ∃ Z, Z = (119 - m.length % 64) % 64 := ⟨_, rfl⟩
  have KZ := Kept.mk hZ
  clear hZ
  go_loopg [] Z (fun r wi => ∃ z : Nat, z + r = Z ∧ StE w q (m ++ 128 :: List.replicate z 0) wi)
  case atStart => exact ⟨0, by omega, KE.out⟩
  case round =>
    clear KE
    obtain ⟨z, hz, hE⟩ := hrel
    have hzb : Z ≤ 63 := by have := KZ.out; omega
    obtain ⟨b, hb1, hb2, hb⟩ := id hE.2.1
    have c72 := hb.cell 72
    rw [stC_fill _ b hb1] at c72
    have hml : (m ++ 128 :: List.replicate z 0).length = m.length + 1 + z := by simp; omega
    rw [hml] at c72
    have KE := Kept.mk hE
    clear hb hb2 hE
    by_cases hlt : z < Z
    · have hne : ((((m.length + 1 + z) % 64 : Nat) : Int) != 56) = true := by have := KZ.out; rw [bne_iff_ne]; omega
      generalize (m.length + 1 + z) % 64 = F at c72 hne
      have Kml := Kept.mk hml
      clear hml
      go_wp2_with fail
      refine (write_one w q (m ++ 128 :: List.replicate z 0) b00 wr KE.out (by have : b00.size = 1 := rfl; have := Kml.out; omega)).mono ?_
      rintro e w3 ⟨rfl, hE3⟩
      rw [List.append_assoc, List.cons_append, show b00.data.toList = [0] from rfl, ← List.replicate_succ'] at hE3
      have KE3 := Kept.mk hE3
      clear hE3
      go_wp2_with fail
      go_roundg (gk - 1)
      case measure => omega
      case rel => exact ⟨z + 1, by omega, KE3.out⟩
    · obtain rfl : z = Z := by omega
      have heq : ((((m.length + 1 + z) % 64 : Nat) : Int) != 56) = false := by have := KZ.out; rw [bne_eq_false_iff_eq]; omega
      generalize (m.length + 1 + z) % 64 = F at c72 heq
      have hT : tailB m.length = 128 :: List.replicate z 0 := by rw [tailB, ← KZ.out]
      rw [← hT] at KE
      have htl : (m ++ tailB m.length).length ≤ m.length + 64 := by rw [hT]; simp; omega
      clear hT hml
      obtain ⟨N, hN⟩ : ∃ N, N = 8 * m.length % 2 ^ 64 := ⟨_, rfl⟩
      have hN8 : N = 8 * m.length := by omega
      have KN := Kept.mk hN
      have KN8 := Kept.mk hN8
      clear hN hN8 hz hlt
      go_wp2_with fail
      obtain ⟨go, rfl⟩ : ∃ n : Nat, n = gk := ⟨_, rfl⟩
      go_loopg [5] 8 (fun r i wi => ∃ k : Nat, k + r = 8 ∧ i = .int .i64 (56 - 8 * (k : Int)) ∧ StE w q (m ++ tailB m.length ++ (be8 N).take k) wi)
      case atStart => exact ⟨0, rfl, rfl, by simpa using KE.out⟩
      case round =>
        clear KE c72 heq
        obtain ⟨k, hk, rfl, hE⟩ := hrel
        have KE := Kept.mk hE
        clear hE
        by_cases hlt : k < 8
        · have hb8 := be8_next N k hlt
          have hbl : (m ++ tailB m.length ++ (be8 N).take k).length ≤ m.length + 80 := by rw [List.length_append, List.length_take]; omega
          have KB := Kept.mk hb8
          have Kbl := Kept.mk hbl
          clear hb8 hbl
          have kc : ∀ x : Int, (convert 54 9 (.slice (some ⟨wr.heap.size, 0, none⟩) 1 1)).run Try.prog (wr.alloc (.cells #[.int .u8 x] 5)) = .ok (.string (strOfNums [x])) (wr.alloc (.cells #[.int .u8 x] 5)) := fun x => conv_new wr _ _ _ Try.underlying54 Try.underlying5 Try.underlying9 1 [x]
          have hkc : k = 0 ∨ k = 1 ∨ k = 2 ∨ k = 3 ∨ k = 4 ∨ k = 5 ∨ k = 6 ∨ k = 7 := by omega
          rcases hkc with rfl | rfl | rfl | rfl | rfl | rfl | rfl | rfl
          · rw [show (56 - 8 * ((0 : Nat) : Int)) = 56 from rfl]
            go_wp2_with fail
            refine (write_byte w q _ _ wr KE.out (by have := Kbl.out; omega)).mono ?_
            rintro e w3 ⟨rfl, hE3⟩
            have hE3 : StE w q (m ++ tailB m.length ++ (be8 N).take (0 + 1)) w3 := by
              rw [KB.out, ← List.append_assoc]
              refine StE.same hE3 (byte_same ?_)
              have := KN8.out
              omega
            have KE3 := Kept.mk hE3
            clear hE3
            go_wp2_with fail
            go_roundg (gk - 1)
            case measure => omega
            case rel => exact ⟨0 + 1, by omega, by first | rfl | go_num, KE3.out⟩
          · rw [show (56 - 8 * ((1 : Nat) : Int)) = 48 from rfl]
            go_wp2_with fail
            refine (write_byte w q _ _ wr KE.out (by have := Kbl.out; omega)).mono ?_
            rintro e w3 ⟨rfl, hE3⟩
            have hE3 : StE w q (m ++ tailB m.length ++ (be8 N).take (1 + 1)) w3 := by
              rw [KB.out, ← List.append_assoc]
              refine StE.same hE3 (byte_same ?_)
              have := KN8.out
              omega
            have KE3 := Kept.mk hE3
            clear hE3
            go_wp2_with fail
            go_roundg (gk - 1)
            case measure => omega
            case rel => exact ⟨1 + 1, by omega, by first | rfl | go_num, KE3.out⟩
          · rw [show (56 - 8 * ((2 : Nat) : Int)) = 40 from rfl]
            go_wp2_with fail
            refine (write_byte w q _ _ wr KE.out (by have := Kbl.out; omega)).mono ?_
            rintro e w3 ⟨rfl, hE3⟩
            have hE3 : StE w q (m ++ tailB m.length ++ (be8 N).take (2 + 1)) w3 := by
              rw [KB.out, ← List.append_assoc]
              refine StE.same hE3 (byte_same ?_)
              have := KN8.out
              omega
            have KE3 := Kept.mk hE3
            clear hE3
            go_wp2_with fail
            go_roundg (gk - 1)
            case measure => omega
            case rel => exact ⟨2 + 1, by omega, by first | rfl | go_num, KE3.out⟩
          · rw [show (56 - 8 * ((3 : Nat) : Int)) = 32 from rfl]
            go_wp2_with fail
            refine (write_byte w q _ _ wr KE.out (by have := Kbl.out; omega)).mono ?_
            rintro e w3 ⟨rfl, hE3⟩
            have hE3 : StE w q (m ++ tailB m.length ++ (be8 N).take (3 + 1)) w3 := by
              rw [KB.out, ← List.append_assoc]
              refine StE.same hE3 (byte_same ?_)
              have := KN8.out
              omega
            have KE3 := Kept.mk hE3
            clear hE3
            go_wp2_with fail
            go_roundg (gk - 1)
            case measure => omega
            case rel => exact ⟨3 + 1, by omega, by first | rfl | go_num, KE3.out⟩
          · rw [show (56 - 8 * ((4 : Nat) : Int)) = 24 from rfl]
            go_wp2_with fail
            refine (write_byte w q _ _ wr KE.out (by have := Kbl.out; omega)).mono ?_
            rintro e w3 ⟨rfl, hE3⟩
            have hE3 : StE w q (m ++ tailB m.length ++ (be8 N).take (4 + 1)) w3 := by
              rw [KB.out, ← List.append_assoc]
              refine StE.same hE3 (byte_same ?_)
              have := KN8.out
              omega
            have KE3 := Kept.mk hE3
            clear hE3
            go_wp2_with fail
            go_roundg (gk - 1)
            case measure => omega
            case rel => exact ⟨4 + 1, by omega, by first | rfl | go_num, KE3.out⟩
          · rw [show (56 - 8 * ((5 : Nat) : Int)) = 16 from rfl]
            go_wp2_with fail
            refine (write_byte w q _ _ wr KE.out (by have := Kbl.out; omega)).mono ?_
            rintro e w3 ⟨rfl, hE3⟩
            have hE3 : StE w q (m ++ tailB m.length ++ (be8 N).take (5 + 1)) w3 := by
              rw [KB.out, ← List.append_assoc]
              refine StE.same hE3 (byte_same ?_)
              have := KN8.out
              omega
            have KE3 := Kept.mk hE3
            clear hE3
            go_wp2_with fail
            go_roundg (gk - 1)
            case measure => omega
            case rel => exact ⟨5 + 1, by omega, by first | rfl | go_num, KE3.out⟩
          · rw [show (56 - 8 * ((6 : Nat) : Int)) = 8 from rfl]
            go_wp2_with fail
            refine (write_byte w q _ _ wr KE.out (by have := Kbl.out; omega)).mono ?_
            rintro e w3 ⟨rfl, hE3⟩
            have hE3 : StE w q (m ++ tailB m.length ++ (be8 N).take (6 + 1)) w3 := by
              rw [KB.out, ← List.append_assoc]
              refine StE.same hE3 (byte_same ?_)
              have := KN8.out
              omega
            have KE3 := Kept.mk hE3
            clear hE3
            go_wp2_with fail
            go_roundg (gk - 1)
            case measure => omega
            case rel => exact ⟨6 + 1, by omega, by first | rfl | go_num, KE3.out⟩
          · rw [show (56 - 8 * ((7 : Nat) : Int)) = 0 from rfl]
            go_wp2_with fail
            refine (write_byte w q _ _ wr KE.out (by have := Kbl.out; omega)).mono ?_
            rintro e w3 ⟨rfl, hE3⟩
            have hE3 : StE w q (m ++ tailB m.length ++ (be8 N).take (7 + 1)) w3 := by
              rw [KB.out, ← List.append_assoc]
              refine StE.same hE3 (byte_same ?_)
              have := KN8.out
              omega
            have KE3 := Kept.mk hE3
            clear hE3
            go_wp2_with fail
            go_roundg (gk - 1)
            case measure => omega
            case rel => exact ⟨7 + 1, by omega, by first | rfl | go_num, KE3.out⟩
        · obtain rfl : k = 8 := by omega
          have hbe : (be8 N).take 8 = be8 N := List.take_of_length_le (by simp [be8])
          have hpad : m ++ tailB m.length ++ be8 N = pad m := by rw [KN.out, pad, List.append_assoc]
          rw [hbe, hpad] at KE
          have KD := Kept.mk (show digest m = digestC (midC (pad m)) from rfl)
          obtain ⟨b', hb1', hb2', hb'⟩ := KE.out.2.1
          have KE := Kept.mk KE.out.2.2
          generalize midC (pad m) = C at hb' KD
          generalize (pad m).length % 64 = f' at hb'
          generalize (pad m).length = t' at hb'
          have KB := Kept.mk hb'
          clear hb' hb2' hbe hpad
          have hBw0 := KE.out.size
          go_wp2_with (refine wpList_make_blk (P := Try.prog) _ rfl (.const (.int .i64 0)) (.const (.int .i64 32)) 54 rfl 5 iB (.int .u8 0) Try.underlying54 hiB hzB hsB rfl .i64 .i64 0 32 0 32 rfl rfl rfl rfl (by omega) (by rw [hbB]; omega) (by omega) ?_)
          intro w4 hb4 h4 hs4
          have hV : Buf w4 w.heap.size 5 (.slice (some ⟨wr.heap.size, 0, none⟩) (4 * 0) 32) (bytesV (((chL C).take 0).flatMap digit4)) :=
            ⟨_, 32, rfl, Nat.zero_le _, by decide, by intro j hj; simp [own] at hj; subst hj; exact ⟨hBw0, by omega⟩, .inr ⟨_, 0, _, rfl, hb4.z, by simp, by simp [bytesV, numsV, nb]⟩⟩
          have hB4 := KB.out.ext h4
          have KV := Kept.mk hV
          have KE4 := Kept.mk (KE.out.trans h4)
          have KB4 := Kept.mk hB4
          clear hb4 h4 hV hB4 KB KE hs4
          go_wp2_with (refine wpList_load_part rfl 65 (.tmp 44) rfl q 0 rfl 87 (stC C b' f' t') (chW C) KB4.out rfl _ Try.underlying65 rfl (info_size info8) ?_)
          generalize (some ⟨wr.heap.size, 0, none⟩ : Option Addr) = A0 at KV ⊢
          obtain ⟨gz, rfl⟩ : ∃ n : Nat, n = gk := ⟨_, rfl⟩
          go_loopg [6, 46] 8 (fun r s i wi => ∃ (j : Nat) (A : Option Addr) (cap : Nat), j + r = 8 ∧ i = .int .i64 (j : Int) ∧ s = .slice A (4 * j) cap ∧ Buf wi w.heap.size 5 (.slice A (4 * j) cap) (bytesV (((chL C).take j).flatMap digit4)) ∧ Ext w wi)
          case atStart => exact ⟨0, A0, 32, rfl, rfl, rfl, KV.out, KE4.out⟩
          case round =>
            clear KV KE4 KB4
            obtain ⟨j, A, cap, hj, rfl, rfl, hV, hE⟩ := hrel
            have KV := Kept.mk hV
            have KE := Kept.mk hE
            clear hV hE
            by_cases hlt2 : j < 8
            · have hjI : (j : Int) < 8 := by omega
              have hix := run_index_nums (P := Try.prog) 65 62 8 4 .u32 Try.underlying65 infoU32 Try.underlying62 (chL C) rfl j hlt2
              change ∀ W, (Instr.index 65 (.agg (chW C).toArray) (.int .i64 (j : Int))).run Try.prog W = _ at hix
              have hnx : ((chL C).take (j + 1)).flatMap digit4 = ((chL C).take j).flatMap digit4 ++ digit4 ((chL C).getD j 0) := by
                rw [List.take_succ_eq_append_getElem (show j < (chL C).length from hlt2), List.flatMap_append, List.getD_eq_getElem?_getD, List.getElem?_eq_getElem (show j < (chL C).length from hlt2)]
                simp
              generalize (chL C).getD j 0 = x at hix hnx
              have hpl : (((chL C).take j).flatMap digit4).length = 4 * j := by
                obtain ⟨_, _, he⟩ := KV.out.form
                injection he with _ h2 _
                rw [bytesV_length] at h2
                exact h2.symm
              have Knx := Kept.mk hnx
              have Kpl := Kept.mk hpl
              clear hnx hpl
              generalize ((chL C).take j).flatMap digit4 = pre at Knx Kpl KV
              go_wp2_with fail
              obtain ⟨gy, rfl⟩ : ∃ n : Nat, n = gk := ⟨_, rfl⟩
              go_loopg [6, 9] 4 (fun r s i wi => ∃ (k : Nat) (A : Option Addr) (cap : Nat), k + r = 4 ∧ i = .int .i64 (24 - 8 * (k : Int)) ∧ s = .slice A (4 * j + k) cap ∧ Buf wi w.heap.size 5 (.slice A (4 * j + k) cap) (bytesV (pre ++ (digit4 x).take k)) ∧ Ext w wi)
              case atStart => exact ⟨0, A, cap, rfl, rfl, rfl, by simpa using KV.out, KE.out⟩
              case round =>
                clear KV KE
                obtain ⟨k, A, cap, hk, rfl, rfl, hV, hE⟩ := hrel
                have KV := Kept.mk hV
                have KE := Kept.mk hE
                have hBw := hE.size
                clear hV hE
                by_cases hlt3 : k < 4
                · have hll : (bytesV (pre ++ (digit4 x).take k)).length = 4 * j + k := by
                    obtain ⟨_, _, he⟩ := KV.out.form
                    injection he with _ h2 _
                    exact h2.symm
                  have hkc : k = 0 ∨ k = 1 ∨ k = 2 ∨ k = 3 := by omega
                  rcases hkc with rfl | rfl | rfl | rfl
                  · rw [show (24 - 8 * ((0 : Nat) : Int)) = 24 from rfl]
                    go_wp2_with (refine wpList_append_lit (P := Try.prog) wr rfl (.tmp 53) (.tmp 58) 54 rfl 5 iB (.int .u8 0) Try.underlying54 hiB hzB hsB rfl w.heap.size (.slice A (4 * j + 0) cap) (bytesV (pre ++ (digit4 x).take 0)) rfl KV.out [.int .u8 _] 1 rfl rfl (by simp [Value.oneCell']) hBw (by rw [hll]; simp only [maxLen]; omega) (by rw [hll, hbB]; omega) ?_)
                    intro v' w' hv' ht' ho'
                    have hv' : Buf w' w.heap.size 5 v' (bytesV (pre ++ (digit4 x).take (0 + 1))) := by
                      have := Buf.byte (l := pre ++ (digit4 x).take 0) (b := UInt8.ofNat (x / 16777216 % 256).toNat) (by first | exact hv' | simpa using hv') (byte_of _)
                      rw [List.append_assoc] at this
                      exact this
                    have hE' : Ext w w' := Touch.below KE.out ht' (fun j hj => (KV.out.owns j hj).1) hBw
                    obtain ⟨A', cap', rfl⟩ := hv'.form
                    rw [show (bytesV (pre ++ (digit4 x).take (0 + 1))).length = 4 * j + (0 + 1) by rw [bytesV_length, List.length_append, Kpl.out]; rfl] at hv' ⊢
                    have KV := Kept.mk hv'
                    have KE := Kept.mk hE'
                    clear hv' hE' ht' ho'
                    go_wp2_with fail
                    go_roundg (gk - 1)
                    case measure => omega
                    case rel => exact ⟨0 + 1, A', cap', by omega, by first | rfl | go_num, rfl, KV.out, KE.out⟩
                  · rw [show (24 - 8 * ((1 : Nat) : Int)) = 16 from rfl]
                    go_wp2_with (refine wpList_append_lit (P := Try.prog) wr rfl (.tmp 53) (.tmp 58) 54 rfl 5 iB (.int .u8 0) Try.underlying54 hiB hzB hsB rfl w.heap.size (.slice A (4 * j + 1) cap) (bytesV (pre ++ (digit4 x).take 1)) rfl KV.out [.int .u8 _] 1 rfl rfl (by simp [Value.oneCell']) hBw (by rw [hll]; simp only [maxLen]; omega) (by rw [hll, hbB]; omega) ?_)
                    intro v' w' hv' ht' ho'
                    have hv' : Buf w' w.heap.size 5 v' (bytesV (pre ++ (digit4 x).take (1 + 1))) := by
                      have := Buf.byte (l := pre ++ (digit4 x).take 1) (b := UInt8.ofNat (x / 65536 % 256).toNat) (by first | exact hv' | simpa using hv') (byte_of _)
                      rw [List.append_assoc] at this
                      exact this
                    have hE' : Ext w w' := Touch.below KE.out ht' (fun j hj => (KV.out.owns j hj).1) hBw
                    obtain ⟨A', cap', rfl⟩ := hv'.form
                    rw [show (bytesV (pre ++ (digit4 x).take (1 + 1))).length = 4 * j + (1 + 1) by rw [bytesV_length, List.length_append, Kpl.out]; rfl] at hv' ⊢
                    have KV := Kept.mk hv'
                    have KE := Kept.mk hE'
                    clear hv' hE' ht' ho'
                    go_wp2_with fail
                    go_roundg (gk - 1)
                    case measure => omega
                    case rel => exact ⟨1 + 1, A', cap', by omega, by first | rfl | go_num, rfl, KV.out, KE.out⟩
                  · rw [show (24 - 8 * ((2 : Nat) : Int)) = 8 from rfl]
                    go_wp2_with (refine wpList_append_lit (P := Try.prog) wr rfl (.tmp 53) (.tmp 58) 54 rfl 5 iB (.int .u8 0) Try.underlying54 hiB hzB hsB rfl w.heap.size (.slice A (4 * j + 2) cap) (bytesV (pre ++ (digit4 x).take 2)) rfl KV.out [.int .u8 _] 1 rfl rfl (by simp [Value.oneCell']) hBw (by rw [hll]; simp only [maxLen]; omega) (by rw [hll, hbB]; omega) ?_)
                    intro v' w' hv' ht' ho'
                    have hv' : Buf w' w.heap.size 5 v' (bytesV (pre ++ (digit4 x).take (2 + 1))) := by
                      have := Buf.byte (l := pre ++ (digit4 x).take 2) (b := UInt8.ofNat (x / 256 % 256).toNat) (by first | exact hv' | simpa using hv') (byte_of _)
                      rw [List.append_assoc] at this
                      exact this
                    have hE' : Ext w w' := Touch.below KE.out ht' (fun j hj => (KV.out.owns j hj).1) hBw
                    obtain ⟨A', cap', rfl⟩ := hv'.form
                    rw [show (bytesV (pre ++ (digit4 x).take (2 + 1))).length = 4 * j + (2 + 1) by rw [bytesV_length, List.length_append, Kpl.out]; rfl] at hv' ⊢
                    have KV := Kept.mk hv'
                    have KE := Kept.mk hE'
                    clear hv' hE' ht' ho'
                    go_wp2_with fail
                    go_roundg (gk - 1)
                    case measure => omega
                    case rel => exact ⟨2 + 1, A', cap', by omega, by first | rfl | go_num, rfl, KV.out, KE.out⟩
                  · rw [show (24 - 8 * ((3 : Nat) : Int)) = 0 from rfl]
                    go_wp2_with (refine wpList_append_lit (P := Try.prog) wr rfl (.tmp 53) (.tmp 58) 54 rfl 5 iB (.int .u8 0) Try.underlying54 hiB hzB hsB rfl w.heap.size (.slice A (4 * j + 3) cap) (bytesV (pre ++ (digit4 x).take 3)) rfl KV.out [.int .u8 _] 1 rfl rfl (by simp [Value.oneCell']) hBw (by rw [hll]; simp only [maxLen]; omega) (by rw [hll, hbB]; omega) ?_)
                    intro v' w' hv' ht' ho'
                    have hv' : Buf w' w.heap.size 5 v' (bytesV (pre ++ (digit4 x).take (3 + 1))) := by
                      have := Buf.byte (l := pre ++ (digit4 x).take 3) (b := UInt8.ofNat (x % 256).toNat) (by first | exact hv' | simpa using hv') (byte_of _)
                      rw [List.append_assoc] at this
                      exact this
                    have hE' : Ext w w' := Touch.below KE.out ht' (fun j hj => (KV.out.owns j hj).1) hBw
                    obtain ⟨A', cap', rfl⟩ := hv'.form
                    rw [show (bytesV (pre ++ (digit4 x).take (3 + 1))).length = 4 * j + (3 + 1) by rw [bytesV_length, List.length_append, Kpl.out]; rfl] at hv' ⊢
                    have KV := Kept.mk hv'
                    have KE := Kept.mk hE'
                    clear hv' hE' ht' ho'
                    go_wp2_with fail
                    go_roundg (gk - 1)
                    case measure => omega
                    case rel => exact ⟨3 + 1, A', cap', by omega, by first | rfl | go_num, rfl, KV.out, KE.out⟩
                · obtain rfl : k = 4 := by omega
                  have KV := Kept.mk (show Buf wr w.heap.size 5 (.slice A (4 * (j + 1)) cap) (bytesV (((chL C).take (j + 1)).flatMap digit4)) by
                    rw [Knx.out]; exact KV.out)
                  go_wp2_with fail
                  go_roundg (gy - 1)
                  case measure => omega
                  case rel => exact ⟨j + 1, A, cap, by omega, by go_num, rfl, KV.out, KE.out⟩
            · obtain rfl : j = 8 := by omega
              have hV : Buf wr w.heap.size 5 (.slice A 32 cap) (bytesV (digestC C)) := KV.out
              have kc2 : (convert 54 9 (.slice A 32 cap)).run Try.prog wr = .ok (.string (strOf (digestC C))) wr := conv_buf wr _ _ _ Try.underlying54 Try.underlying5 Try.underlying9 _ hV
              clear hV KV
              go_wp2_with fail
              go_ret
              rw [KD.out]
              exact ⟨rfl, KE.out⟩
end Sha2
end Go.Proofs.Ytgnbbklnobladaa
