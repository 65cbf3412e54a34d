/- The walks of Write of a pack on the document's examples: the parts. No condition. -/
import Derived.Test.YtgnbbklnobladaaPackWalkE
import Derived.Test.YtgnbbklnobladaaDeltaWalkE
import Derived.Test.YtgnbbklnobladaaSqzWalkG
namespace Go.Proofs.Ytgnbbklnobladaa
open Go.RowKit
namespace Pack
open Delta
set_option linter.unusedSimpArgs false
set_option linter.unusedVariables false
set_option maxRecDepth 100000 in
set_option maxHeartbeats 1000000 in
theorem pnum_any (B : Nat) (A : Option Addr) (cap : Nat) (l : List UInt8) (n : Nat) (hn : n ≤ 60000) (hl : l.length ≤ 100000) (w : World) (hB : B ≤ w.heap.size) (hv : Buf w B 5 (.slice A l.length cap) (bytesV l)) :
    Calls Try.prog 19 #[.slice A l.length cap, .int .i64 (n : Int)] w (AppE w B (.slice A l.length cap) (l ++ num4 n)) := by
  obtain ⟨iB, hiB, hzB, hsB, hbB⟩ := infoB
  have hll := bytesV_length l
  have KV := Kept.mk hv
  have K4 := Kept.mk (num4V (n : Int))
  have e1 : (n : Int) / 16777216 % 256 = 0 := by omega
  have e2 : (n : Int) / 65536 % 256 = 0 := by omega
  have e3 : (n : Int) / 256 % 256 = (n : Int) / 256 := by omega
  rw [e1, e2, e3] at K4
  clear hv e1 e2 e3
  go_enter Try.func19, Try.ntmps19
  go_wp2_with (refine wpList_append_lit (P := Try.prog) w rfl (.tmp 5) (.tmp 17) 54 rfl 5 iB (.int .u8 0) Try.underlying54 hiB hzB hsB rfl B (.slice A l.length cap) (bytesV l) rfl KV.out [.int .u8 _, .int .u8 _, .int .u8 _, .int .u8 _] 4 rfl rfl (by simp [Value.oneCell']) hB (by rw [hll]; simp only [maxLen]; omega) (by rw [hll, hbB]; omega) ?_)
  intro v' w' hv' ht' ho'
  have KA := Kept.mk (show AppE w B (.slice A l.length cap) (l ++ num4 n) (.returned v') w' from AppE.mk (by
    rw [bytesV_append, K4.out]
    refine Buf.same hv' ?_
    congr 1
    first
      | rfl
      | (congr 1; · congr 1; omega
         congr 1; · congr 1; omega
         congr 1; congr 1; omega)
      | (simp; omega)) ht' ho')
  clear hv' ht' ho'
  go_wp2_with fail
  go_ret
  exact KA.out
def hellox : List UInt8 := [104, 101, 108, 108, 111, 33]
def madeX : List UInt8 := [0, 0, 0, 5, 0, 0, 0, 6, 2, 0, 0, 0, 6, 104, 101, 108, 108, 111, 33]
set_option maxRecDepth 100000 in
set_option maxHeartbeats 1000000 in
theorem take_none (A : Option Addr) (n cap : Nat) (a : Int) (w : World) : Calls Try.prog 30 #[.slice A n cap, .int .i64 a, .int .i64 0] w fun e w' => e = .returned (.slice A n cap) ∧ w = w' := by
  go_enter Try.func30, Try.ntmps30
  go_wp2_with fail
  go_ret
  exact ⟨rfl, rfl⟩
set_option maxRecDepth 100000 in
set_option maxHeartbeats 2000000 in
theorem make_hellox (w : World) : Calls Try.prog 21 #[.string (strOf hello), .string (strOf hellox)] w (StrE w madeX) := by
  obtain ⟨iB, hiB, hzB, hsB, hbB⟩ := infoB
  have hm : Try.prog.follows .mixedOrders = true := by kernel_rfl
  have hsa : (strOf hello).size = 5 := rfl
  have hsb : (strOf hellox).size = 6 := rfl
  have a0 : (((strOf hello)[0]'(by rw [hsa]; decide)).toNat : Int) = 104 := rfl
  have b0 : (((strOf hellox)[0]'(by rw [hsb]; decide)).toNat : Int) = 104 := rfl
  have a1 : (((strOf hello)[1]'(by rw [hsa]; decide)).toNat : Int) = 101 := rfl
  have b1 : (((strOf hellox)[1]'(by rw [hsb]; decide)).toNat : Int) = 101 := rfl
  have a2 : (((strOf hello)[2]'(by rw [hsa]; decide)).toNat : Int) = 108 := rfl
  have b2 : (((strOf hellox)[2]'(by rw [hsb]; decide)).toNat : Int) = 108 := rfl
  have a3 : (((strOf hello)[3]'(by rw [hsa]; decide)).toNat : Int) = 108 := rfl
  have b3 : (((strOf hellox)[3]'(by rw [hsb]; decide)).toNat : Int) = 108 := rfl
  have a4 : (((strOf hello)[4]'(by rw [hsa]; decide)).toNat : Int) = 111 := rfl
  have b4 : (((strOf hellox)[4]'(by rw [hsb]; decide)).toNat : Int) = 111 := rfl
  have hx : (strOf hellox).extract 5 6 = strOf [33] := strOf_extract hellox 5 6
  generalize strOf hello = sa at hsa a0 a1 a2 a3 a4 ⊢
  generalize hsB2 : strOf hellox = sb at hsb b0 b1 b2 b3 b4 hx ⊢
  have Ksb := Kept.mk hsB2
  clear hsB2
  go_enter Try.func21, Try.ntmps21
  go_wp2_with fail
  go_loopg [5] 5 (fun r i wi => ∃ k : Nat, k + r = 5 ∧ k ≤ 5 ∧ i = .int .i64 (k : Int) ∧ Ext w wi)
  case atStart => exact ⟨0, rfl, by decide, rfl, Ext.refl _⟩
  case round =>
    obtain ⟨k, hk, hk1, rfl, hE⟩ := hrel
    have KE := Kept.mk hE
    clear hE
    rcases (show k = 0 ∨ k = 1 ∨ k = 2 ∨ k = 3 ∨ k = 4 ∨ k = 5 by omega) with rfl | rfl | rfl | rfl | rfl | rfl
    · rw [show ((0 : Nat) : Int) = 0 from rfl]
      go_wp2_with fail
      go_quiet (fail)
      go_wp2_with fail
      go_roundg (gk - 1)
      case measure => omega
      case rel => exact ⟨1, by omega, by decide, rfl, KE.out.trans (Ext.drewN _ _)⟩
    · rw [show ((1 : Nat) : Int) = 1 from rfl]
      go_wp2_with fail
      go_quiet (fail)
      go_wp2_with fail
      go_roundg (gk - 1)
      case measure => omega
      case rel => exact ⟨2, by omega, by decide, rfl, KE.out.trans (Ext.drewN _ _)⟩
    · rw [show ((2 : Nat) : Int) = 2 from rfl]
      go_wp2_with fail
      go_quiet (fail)
      go_wp2_with fail
      go_roundg (gk - 1)
      case measure => omega
      case rel => exact ⟨3, by omega, by decide, rfl, KE.out.trans (Ext.drewN _ _)⟩
    · rw [show ((3 : Nat) : Int) = 3 from rfl]
      go_wp2_with fail
      go_quiet (fail)
      go_wp2_with fail
      go_roundg (gk - 1)
      case measure => omega
      case rel => exact ⟨4, by omega, by decide, rfl, KE.out.trans (Ext.drewN _ _)⟩
    · rw [show ((4 : Nat) : Int) = 4 from rfl]
      go_wp2_with fail
      go_quiet (fail)
      go_wp2_with fail
      go_roundg (gk - 1)
      case measure => omega
      case rel => exact ⟨5, by omega, by decide, rfl, KE.out.trans (Ext.drewN _ _)⟩
    · rw [show ((5 : Nat) : Int) = 5 from rfl]
      go_wp2_with fail
      go_quiet (fail)
      go_wp2_with fail
      go_loopg [6] 1 (fun r i wi => r = 1 ∧ i = .int .i64 0 ∧ Ext w wi)
      case atStart => exact ⟨rfl, rfl, KE.out.trans (Ext.drewN _ _)⟩
      case round =>
        clear KE
        obtain ⟨hk, rfl, hE⟩ := hrel
        have KE := Kept.mk hE
        clear hE
        go_wp2_with fail
        go_quiet (fail)
        go_wp2_with fail
        refine (numM w none 0 [] 0 5 [0, 0, 0, 5] 4 rfl (by decide) (by decide) (by decide) rfl _ (KE.out.trans (Ext.drewN _ _)) (Buf.nil _ _ _)).mono ?_
        rintro e w1 ⟨A1, cap1, rfl, hv1, hE1⟩
        go_wp2_with fail
        refine (numM w A1 cap1 [0, 0, 0, 5] 4 6 [0, 0, 0, 5, 0, 0, 0, 6] 8 rfl (by decide) (by decide) (by decide) rfl _ hE1 hv1).mono ?_
        rintro e w2 ⟨A2, cap2, rfl, hv2, hE2⟩
        go_wp2_with fail
        refine (takeM w A2 cap2 [0, 0, 0, 5, 0, 0, 0, 6] 8 0 5 [0, 0, 0, 5, 0, 0, 0, 6, 1, 0, 0, 0, 0, 0, 0, 0, 5] 17 rfl (by decide) (by decide) (by decide) (by decide) (by decide) rfl _ hE2 hv2).mono ?_
        rintro e w3 ⟨A3, cap3, rfl, hv3, hE3⟩
        go_wp2_with fail
        refine (tellM w A3 cap3 [0, 0, 0, 5, 0, 0, 0, 6, 1, 0, 0, 0, 0, 0, 0, 0, 5] [33] 17 [0, 0, 0, 5, 0, 0, 0, 6, 1, 0, 0, 0, 0, 0, 0, 0, 5, 2, 0, 0, 0, 1, 33] 23 rfl (by decide) (by decide) (by decide) (by decide) rfl _ hE3 hv3).mono ?_
        rintro e w4 ⟨A4, cap4, rfl, hv4, hE4⟩
        go_wp2_with fail
        refine (take_none A4 23 cap4 5 _).mono ?_
        rintro e w5 ⟨rfl, rfl⟩
        go_wp2_with fail
        refine (numM w none 0 [] 0 5 [0, 0, 0, 5] 4 rfl (by decide) (by decide) (by decide) rfl _ hE4 (Buf.nil _ _ _)).mono ?_
        rintro e w6 ⟨A6, cap6, rfl, hv6, hE6⟩
        go_wp2_with fail
        refine (numM w A6 cap6 [0, 0, 0, 5] 4 6 [0, 0, 0, 5, 0, 0, 0, 6] 8 rfl (by decide) (by decide) (by decide) rfl _ hE6 hv6).mono ?_
        rintro e w7 ⟨A7, cap7, rfl, hv7, hE7⟩
        go_wp2_with fail
        rw [← Ksb.out]
        refine (tellM w A7 cap7 [0, 0, 0, 5, 0, 0, 0, 6] hellox 8 madeX 19 rfl (by decide) (by decide) (by decide) (by decide) rfl _ hE7 hv7).mono ?_
        rintro e w8 ⟨A8, cap8, rfl, hv8, hE8⟩
        have kc : (convert 54 9 (.slice A8 19 cap8)).run Try.prog w8 = .ok (.string (strOf madeX)) w8 := conv_buf w8 _ _ _ Try.underlying54 Try.underlying5 Try.underlying9 _ hv8
        go_wp2_with fail
        go_ret
        exact ⟨by rfl, hE8⟩
end Pack
end Go.Proofs.Ytgnbbklnobladaa
