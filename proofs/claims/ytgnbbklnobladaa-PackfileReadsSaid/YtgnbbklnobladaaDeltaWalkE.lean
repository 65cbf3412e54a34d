/- The walks of Make on the document's example; awake; the statement DeltaApplies. No condition. -/
import Derived.Test.YtgnbbklnobladaaDeltaWalkD
namespace Go.Proofs.Ytgnbbklnobladaa
open Go.RowKit
namespace Delta
/-- A number's bytes. -/
def num4 (x : Int) : List UInt8 := [UInt8.ofNat (x / 16777216 % 256).toNat, UInt8.ofNat (x / 65536 % 256).toNat, UInt8.ofNat (x / 256 % 256).toNat, UInt8.ofNat (x % 256).toNat]
theorem num4V (x : Int) : bytesV (num4 x) = [.int .u8 (x / 16777216 % 256), .int .u8 (x / 65536 % 256), .int .u8 (x / 256 % 256), .int .u8 (x % 256)] := by
  have h : ∀ y : Int, ((UInt8.ofNat (y % 256).toNat).toNat : Int) = y % 256 := fun y => by
    have := Int.emod_nonneg y (show (256 : Int) ≠ 0 by decide)
    have := Int.emod_lt_of_pos y (show (0 : Int) < 256 by decide)
    simp; omega
  simp [bytesV, numsV, nb, num4, -UInt8.toNat_ofNat', h]
theorem Buf.same {w : World} {B : Nat} {e : TypeId} {v : Value} {xs ys : List Value} (h : Buf w B e v xs) (hx : xs = ys) : Buf w B e v ys := hx ▸ h
/-- More bytes at a slice's end. -/
def AppE (w : World) (B : Nat) (v : Value) (l : List UInt8) (e : Ending) (w' : World) : Prop :=
  ∃ A cap, e = .returned (.slice A l.length cap) ∧ Buf w' B 5 (.slice A l.length cap) (bytesV l) ∧ Touch (own v) w w' ∧ ∀ j ∈ own (.slice A l.length cap), j ∈ own v ∨ w.heap.size ≤ j
theorem AppE.mk {w : World} {B : Nat} {v v' : Value} {l : List UInt8} {w' : World} (h : Buf w' B 5 v' (bytesV l)) (ht : Touch (own v) w w') (ho : ∀ j ∈ own v', j ∈ own v ∨ w.heap.size ≤ j) : AppE w B v l (.returned v') w' := by
  obtain ⟨A, cap, rfl⟩ := h.form
  rw [bytesV_length] at h ho ⊢
  exact ⟨A, cap, rfl, h, ht, ho⟩
set_option linter.unusedSimpArgs false
set_option linter.unusedVariables false
set_option maxRecDepth 100000 in
set_option maxHeartbeats 1000000 in
theorem num_any (B : Nat) (A : Option Addr) (cap : Nat) (l : List UInt8) (n : Nat) (hn : n ≤ 1000) (hl : l.length ≤ 100000) (w : World) (hB : B ≤ w.heap.size) (hv : Buf w B 5 (.slice A l.length cap) (bytesV l)) :
    Calls Try.prog 31 #[.slice A l.length cap, .int .i64 (n : Int)] w (AppE w B (.slice A l.length cap) (l ++ num4 n)) := by
  obtain ⟨iB, hiB, hzB, hsB, hbB⟩ := infoB
  have hll := bytesV_length l
  have KV := Kept.mk hv
  have K4 := Kept.mk (num4V (n : Int))
  have e1 : (n : Int) / 16777216 % 256 = 0 := by omega
  have e2 : (n : Int) / 65536 % 256 = 0 := by omega
  have e3 : (n : Int) / 256 % 256 = (n : Int) / 256 := by omega
  rw [e1, e2, e3] at K4
  clear hv e1 e2 e3
  go_enter Try.func31, Try.ntmps31
  go_wp2_with (refine wpList_append_lit (P := Try.prog) w rfl (.tmp 5) (.tmp 17) 54 rfl 5 iB (.int .u8 0) Try.underlying54 hiB hzB hsB rfl B (.slice A l.length cap) (bytesV l) rfl KV.out [.int .u8 _, .int .u8 _, .int .u8 _, .int .u8 _] 4 rfl rfl (by simp [Value.oneCell']) hB (by rw [hll]; simp only [maxLen]; omega) (by rw [hll, hbB]; omega) ?_)
  intro v' w' hv' ht' ho'
  have KA := Kept.mk (show AppE w B (.slice A l.length cap) (l ++ num4 n) (.returned v') w' from AppE.mk (by
    rw [bytesV_append, K4.out]
    refine Buf.same hv' ?_
    congr 1
    first
      | rfl
      | (congr 1; · congr 1; omega
         congr 1; · congr 1; omega
         congr 1; congr 1; omega)
      | (simp; omega)) ht' ho')
  clear hv' ht' ho'
  go_wp2_with fail
  go_ret
  exact KA.out
theorem Touch.own_trans {w w1 w2 : World} {v v1 : Value} (h1 : Touch (own v) w w1) (h2 : Touch (own v1) w1 w2) (ho : ∀ j ∈ own v1, j ∈ own v ∨ w.heap.size ≤ j) : Touch (own v) w w2 := Touch.trans h1 h2 ho
theorem AppE.next {w w1 w2 : World} {B : Nat} {v v1 : Value} {l : List UInt8} {e : Ending} (h2 : AppE w1 B v1 l e w2) (h1 : Touch (own v) w w1) (ho : ∀ j ∈ own v1, j ∈ own v ∨ w.heap.size ≤ j) : AppE w B v l e w2 := by
  obtain ⟨A, cap, he, hv, ht, hj⟩ := h2
  refine ⟨A, cap, he, hv, Touch.own_trans h1 ht ho, fun j h => ?_⟩
  rcases hj j h with h | h
  · exact ho j h
  · exact .inr (Nat.le_trans h1.size h)
set_option maxRecDepth 100000 in
set_option maxHeartbeats 1000000 in
theorem take_any (B : Nat) (A : Option Addr) (cap : Nat) (l : List UInt8) (a n : Nat) (hn0 : n ≠ 0) (ha : a ≤ 1000) (hn : n ≤ 1000) (hl : l.length ≤ 10000) (w : World) (hB : B ≤ w.heap.size) (hv : Buf w B 5 (.slice A l.length cap) (bytesV l)) :
    Calls Try.prog 30 #[.slice A l.length cap, .int .i64 (a : Int), .int .i64 (n : Int)] w (AppE w B (.slice A l.length cap) (l ++ [1] ++ num4 a ++ num4 n)) := by
  obtain ⟨iB, hiB, hzB, hsB, hbB⟩ := infoB
  have hll := bytesV_length l
  have KV := Kept.mk hv
  have q0 : ((n : Int) == 0) = false := by rw [beq_eq_false_iff_ne]; omega
  clear hv hn0
  go_enter Try.func30, Try.ntmps30
  go_wp2_with (refine wpList_append_lit (P := Try.prog) w rfl (.tmp 10) (.tmp 11) 54 rfl 5 iB (.int .u8 0) Try.underlying54 hiB hzB hsB rfl B (.slice A l.length cap) (bytesV l) rfl KV.out [.int .u8 1] 1 rfl rfl (by simp [Value.oneCell']) hB (by rw [hll]; simp only [maxLen]; omega) (by rw [hll, hbB]; omega) ?_)
  intro v' w' hv' ht' ho'
  have hv' := Buf.byte (b := 1) hv' rfl
  obtain ⟨A1, cap1, rfl⟩ := hv'.form
  rw [bytesV_length] at hv' ho' ⊢
  have hM1l : (l ++ [1]).length ≤ 10001 := by simp; omega
  generalize hM1 : l ++ [1] = M1 at hv' ho' hM1l ⊢
  have KM1 := Kept.mk hM1
  clear hM1
  have KV1 := Kept.mk hv'
  have KT1 := Kept.mk ht'
  have KO1 := Kept.mk ho'
  clear hv' ht' ho'
  go_wp2_with fail
  refine (num_any B A1 cap1 M1 a ha (by omega) w' (Nat.le_trans hB KT1.out.size) KV1.out).mono ?_
  rintro e w2 h2
  have h2 := h2.next KT1.out KO1.out
  obtain ⟨A2, cap2, rfl, hv2, ht2, ho2⟩ := h2
  have hM2l : (M1 ++ num4 a).length ≤ 10005 := by simp [num4]; omega
  generalize hM2 : M1 ++ num4 (a : Int) = M2 at hv2 ht2 ho2 hM2l ⊢
  have KM2 := Kept.mk hM2
  clear hM2
  have KV2 := Kept.mk hv2
  have KT2 := Kept.mk ht2
  have KO2 := Kept.mk ho2
  clear hv2 ht2 ho2
  go_wp2_with fail
  refine (num_any B A2 cap2 M2 n hn (by omega) w2 (Nat.le_trans hB KT2.out.size) KV2.out).mono ?_
  rintro e w3 h3
  have h3 := h3.next KT2.out KO2.out
  rw [← KM2.out, ← KM1.out] at h3
  have K3 := Kept.mk h3
  obtain ⟨A3, cap3, rfl, -⟩ := h3
  obtain ⟨n3, hn3⟩ : ∃ n3, n3 = (l ++ [1] ++ num4 (a : Int) ++ num4 (n : Int)).length := ⟨_, rfl⟩
  rw [← hn3] at K3 ⊢
  clear hn3
  go_wp2_with fail
  go_ret
  exact K3.out
set_option maxRecDepth 100000 in
set_option maxHeartbeats 1000000 in
theorem tell_any (B : Nat) (A : Option Addr) (cap : Nat) (l s : List UInt8) (hs0 : s ≠ []) (hs : s.length ≤ 1000) (hl : l.length ≤ 10000) (w : World) (hB : B ≤ w.heap.size) (hv : Buf w B 5 (.slice A l.length cap) (bytesV l)) :
    Calls Try.prog 32 #[.slice A l.length cap, .string (strOf s)] w (AppE w B (.slice A l.length cap) (l ++ [2] ++ num4 s.length ++ s)) := by
  obtain ⟨iB, hiB, hzB, hsB, hbB⟩ := infoB
  have hll := bytesV_length l
  have KV := Kept.mk hv
  have hsz := strOf_size s
  have q0 : ((strOf s).toList == []) = false := by
    rw [beq_eq_false_iff_ne, ByteArray.toList_eq, strOf_list]; exact hs0
  have q1 : (strOf s).toList ≠ [] := by
    rw [ByteArray.toList_eq, strOf_list]; exact hs0
  clear hv hs0
  go_enter Try.func32, Try.ntmps32
  go_wp2_with (refine wpList_append_lit (P := Try.prog) w rfl (.tmp 8) (.tmp 9) 54 rfl 5 iB (.int .u8 0) Try.underlying54 hiB hzB hsB rfl B (.slice A l.length cap) (bytesV l) rfl KV.out [.int .u8 2] 1 rfl rfl (by simp [Value.oneCell']) hB (by rw [hll]; simp only [maxLen]; omega) (by rw [hll, hbB]; omega) ?_)
  intro v' w' hv' ht' ho'
  have hv' := Buf.byte (b := 2) hv' rfl
  obtain ⟨A1, cap1, rfl⟩ := hv'.form
  rw [bytesV_length] at hv' ho' ⊢
  have hM1l : (l ++ [2]).length ≤ 10001 := by simp; omega
  generalize hM1 : l ++ [2] = M1 at hv' ho' hM1l ⊢
  have KM1 := Kept.mk hM1
  clear hM1
  have KV1 := Kept.mk hv'
  have KT1 := Kept.mk ht'
  have KO1 := Kept.mk ho'
  clear hv' ht' ho'
  go_wp2_with fail
  refine (num_any B A1 cap1 M1 s.length hs (by omega) w' (Nat.le_trans hB KT1.out.size) KV1.out).mono ?_
  rintro e w2 h2
  have h2 := h2.next KT1.out KO1.out
  obtain ⟨A2, cap2, rfl, hv2, ht2, ho2⟩ := h2
  have hB2 := Nat.le_trans hB ht2.size
  have hl2 : (bytesV (M1 ++ num4 (s.length : Int))).length = M1.length + 4 := by rw [bytesV_length]; simp [num4]
  have KV2 := Kept.mk hv2
  have KT2 := Kept.mk ht2
  have KO2 := Kept.mk ho2
  clear hv2 ht2 ho2
  generalize hM : M1 ++ num4 (s.length : Int) = M at KV2 KT2 KO2 hl2 ⊢
  have KM := Kept.mk hM
  clear hM
  go_wp2_with (refine wpList_append_buf (P := Try.prog) _ rfl (.tmp 13) (.tmp 14) 54 9 rfl 5 iB _ Try.underlying54 hiB hzB hsB rfl B (.slice A2 M.length cap2) (bytesV M) rfl KV2.out (.string (strOf s)) s.length (byteCells (strOf s)) rfl (by have := Src.ofString w2 Try.underlying9 (strOf s); rw [hsz] at this; exact this) hB2 (by rw [hl2]; simp only [maxLen]; omega) (by rw [hl2, hbB]; omega) ?_)
  intro v3 w3 hv3 ht3 ho3
  rw [byteCells_eq, strOf_list, ← bytesV_append] at hv3
  have h3 := (AppE.mk (w := w2) (v := .slice A2 M.length cap2) hv3 ht3 (fun j hj => by
    rcases ho3 with h | h
    · rw [h] at hj; exact .inl hj
    · rw [h, List.mem_singleton] at hj; subst hj; exact .inr (Nat.le_refl _))).next KT2.out KO2.out
  rw [← KM.out, ← KM1.out] at h3
  have K3 := Kept.mk h3
  clear h3 hv3 ht3 ho3
  go_wp2_with fail
  go_ret
  exact K3.out
/-- Bytes made since w0. -/
def MadeN (w0 : World) (l : List UInt8) (n : Nat) (e : Ending) (w' : World) : Prop :=
  ∃ A cap, e = .returned (.slice A n cap) ∧ Buf w' w0.heap.size 5 (.slice A n cap) (bytesV l) ∧ Ext w0 w'
theorem AppE.made {w0 w : World} {v : Value} {l : List UInt8} {n : Nat} {e : Ending} {w' : World} (h : AppE w w0.heap.size v l e w') (hE : Ext w0 w) (hv : ∀ j ∈ own v, w0.heap.size ≤ j) (hn : l.length = n) : MadeN w0 l n e w' := by
  subst hn
  obtain ⟨A, cap, he, hb, ht, ho⟩ := h
  exact ⟨A, cap, he, hb, Touch.below hE ht hv hE.size⟩
theorem numM (w0 : World) (A : Option Addr) (cap : Nat) (l : List UInt8) (n k : Nat) (l' : List UInt8) (n' : Nat) (hn : l.length = n) (hk : k ≤ 1000) (hl : n ≤ 1000) (hl' : l ++ num4 k = l') (hn' : l'.length = n') (w : World) (hE : Ext w0 w) (hv : Buf w w0.heap.size 5 (.slice A n cap) (bytesV l)) :
    Calls Try.prog 31 #[.slice A n cap, .int .i64 (k : Int)] w (MadeN w0 l' n') := by
  subst hn hl'
  exact (num_any w0.heap.size A cap l k hk (by omega) w hE.size hv).mono fun e w' h => h.made hE (fun j hj => (hv.owns j hj).1) hn'
theorem takeM (w0 : World) (A : Option Addr) (cap : Nat) (l : List UInt8) (n a k : Nat) (l' : List UInt8) (n' : Nat) (hn : l.length = n) (hk0 : k ≠ 0) (ha : a ≤ 1000) (hk : k ≤ 1000) (hl : n ≤ 1000) (hl' : l ++ [1] ++ num4 a ++ num4 k = l') (hn' : l'.length = n') (w : World) (hE : Ext w0 w) (hv : Buf w w0.heap.size 5 (.slice A n cap) (bytesV l)) :
    Calls Try.prog 30 #[.slice A n cap, .int .i64 (a : Int), .int .i64 (k : Int)] w (MadeN w0 l' n') := by
  subst hn hl'
  exact (take_any w0.heap.size A cap l a k hk0 ha hk (by omega) w hE.size hv).mono fun e w' h => h.made hE (fun j hj => (hv.owns j hj).1) hn'
theorem tellM (w0 : World) (A : Option Addr) (cap : Nat) (l s : List UInt8) (n : Nat) (l' : List UInt8) (n' : Nat) (hn : l.length = n) (hs0 : s ≠ []) (hs : s.length ≤ 1000) (hl : n ≤ 1000) (hl' : l ++ [2] ++ num4 s.length ++ s = l') (hn' : l'.length = n') (w : World) (hE : Ext w0 w) (hv : Buf w w0.heap.size 5 (.slice A n cap) (bytesV l)) :
    Calls Try.prog 32 #[.slice A n cap, .string (strOf s)] w (MadeN w0 l' n') := by
  subst hn hl'
  exact (tell_any w0.heap.size A cap l s hs0 hs (by omega) w hE.size hv).mono fun e w' h => h.made hE (fun j hj => (hv.owns j hj).1) hn'
def hello : List UInt8 := [104, 101, 108, 108, 111]
def hallo : List UInt8 := [104, 97, 108, 108, 111]
def madeP : List UInt8 := [0, 0, 0, 5, 0, 0, 0, 5, 2, 0, 0, 0, 5, 104, 97, 108, 108, 111]
def StrE (w : World) (l : List UInt8) (e : Ending) (w' : World) : Prop := e = .returned (.string (strOf l)) ∧ Ext w w'
set_option maxRecDepth 100000 in
set_option maxHeartbeats 2000000 in
theorem make_hello (w : World) : Calls Try.prog 21 #[.string (strOf hello), .string (strOf hallo)] w (StrE w madeP) := by
  obtain ⟨iB, hiB, hzB, hsB, hbB⟩ := infoB
  have hm : Try.prog.follows .mixedOrders = true := by kernel_rfl
  have hsa : (strOf hello).size = 5 := rfl
  have hsb : (strOf hallo).size = 5 := rfl
  have a0 : (((strOf hello)[0]'(by rw [hsa]; decide)).toNat : Int) = 104 := rfl
  have a1 : (((strOf hello)[1]'(by rw [hsa]; decide)).toNat : Int) = 101 := rfl
  have a2 : (((strOf hello)[2]'(by rw [hsa]; decide)).toNat : Int) = 108 := rfl
  have a3 : (((strOf hello)[3]'(by rw [hsa]; decide)).toNat : Int) = 108 := rfl
  have a4 : (((strOf hello)[4]'(by rw [hsa]; decide)).toNat : Int) = 111 := rfl
  have b0 : (((strOf hallo)[0]'(by rw [hsb]; decide)).toNat : Int) = 104 := rfl
  have b1 : (((strOf hallo)[1]'(by rw [hsb]; decide)).toNat : Int) = 97 := rfl
  have b2 : (((strOf hallo)[2]'(by rw [hsb]; decide)).toNat : Int) = 108 := rfl
  have b3 : (((strOf hallo)[3]'(by rw [hsb]; decide)).toNat : Int) = 108 := rfl
  have b4 : (((strOf hallo)[4]'(by rw [hsb]; decide)).toNat : Int) = 111 := rfl
  have hx := strOf_extract hallo 1 2
  have hx : (strOf hallo).extract 1 2 = strOf [97] := hx
  have Khl : hello = [104, 101, 108, 108, 111] := rfl
  have KL := Kept.mk Khl
  generalize strOf hello = sa at hsa a0 a1 a2 a3 a4 ⊢
  generalize hsB2 : strOf hallo = sb at hsb b0 b1 b2 b3 b4 hx ⊢
  have Ksb := Kept.mk hsB2
  clear hsB2
  go_enter Try.func21, Try.ntmps21
  go_wp2_with fail
  go_loopg [5] 2 (fun r i wi => ∃ k : Nat, k + r = 2 ∧ k ≤ 1 ∧ i = .int .i64 (k : Int) ∧ Ext w wi)
  case atStart => exact ⟨0, rfl, by decide, rfl, Ext.refl _⟩
  case round =>
    obtain ⟨k, hk, hk1, rfl, hE⟩ := hrel
    have KE := Kept.mk hE
    clear hE
    rcases (show k = 0 ∨ k = 1 by omega) with rfl | rfl
    · rw [show ((0 : Nat) : Int) = 0 from rfl]
      go_wp2_with fail
      go_quiet (fail)
      go_wp2_with fail
      go_roundg (gk - 1)
      case measure => omega
      case rel => exact ⟨1, by omega, by decide, rfl, KE.out.trans (Ext.drewN _ _)⟩
    · rw [show ((1 : Nat) : Int) = 1 from rfl]
      go_wp2_with fail
      go_quiet (fail)
      go_wp2_with fail
      obtain ⟨go, rfl⟩ : ∃ n : Nat, n = gk := ⟨_, rfl⟩
      go_loopg [6] 4 (fun r i wi => ∃ k : Nat, k + r = 4 ∧ k ≤ 3 ∧ i = .int .i64 (k : Int) ∧ Ext w wi)
      case atStart => exact ⟨0, rfl, by decide, rfl, KE.out.trans (Ext.drewN _ _)⟩
      case round =>
        clear KE
        obtain ⟨k, hk, hk3, rfl, hE⟩ := hrel
        have KE := Kept.mk hE
        clear hE
        rcases (show k = 0 ∨ k = 1 ∨ k = 2 ∨ k = 3 by omega) with rfl | rfl | rfl | rfl
        · rw [show ((0 : Nat) : Int) = 0 from rfl]
          go_wp2_with fail
          go_quiet (fail)
          go_wp2_with fail
          go_roundg (gk - 1)
          case measure => omega
          case rel => exact ⟨0 + 1, by omega, by decide, rfl, KE.out.trans (Ext.drewN _ _)⟩
        · rw [show ((1 : Nat) : Int) = 1 from rfl]
          go_wp2_with fail
          go_quiet (fail)
          go_wp2_with fail
          go_roundg (gk - 1)
          case measure => omega
          case rel => exact ⟨1 + 1, by omega, by decide, rfl, KE.out.trans (Ext.drewN _ _)⟩
        · rw [show ((2 : Nat) : Int) = 2 from rfl]
          go_wp2_with fail
          go_quiet (fail)
          go_wp2_with fail
          go_roundg (gk - 1)
          case measure => omega
          case rel => exact ⟨2 + 1, by omega, by decide, rfl, KE.out.trans (Ext.drewN _ _)⟩
        · rw [show ((3 : Nat) : Int) = 3 from rfl]
          go_wp2_with fail
          go_quiet (fail)
          go_wp2_with fail
          refine (numM w none 0 [] 0 5 [0, 0, 0, 5] 4 rfl (by decide) (by decide) (by decide) rfl _ (KE.out.trans (Ext.drewN _ _)) (Buf.nil _ _ _)).mono ?_
          rintro e w1 ⟨A1, cap1, rfl, hv1, hE1⟩
          go_wp2_with fail
          refine (numM w A1 cap1 [0, 0, 0, 5] 4 5 [0, 0, 0, 5, 0, 0, 0, 5] 8 rfl (by decide) (by decide) (by decide) rfl _ hE1 hv1).mono ?_
          rintro e w2 ⟨A2, cap2, rfl, hv2, hE2⟩
          go_wp2_with fail
          refine (takeM w A2 cap2 [0, 0, 0, 5, 0, 0, 0, 5] 8 0 1 [0, 0, 0, 5, 0, 0, 0, 5, 1, 0, 0, 0, 0, 0, 0, 0, 1] 17 rfl (by decide) (by decide) (by decide) (by decide) (by decide) rfl _ hE2 hv2).mono ?_
          rintro e w3 ⟨A3, cap3, rfl, hv3, hE3⟩
          go_wp2_with fail
          refine (tellM w A3 cap3 [0, 0, 0, 5, 0, 0, 0, 5, 1, 0, 0, 0, 0, 0, 0, 0, 1] [97] 17 [0, 0, 0, 5, 0, 0, 0, 5, 1, 0, 0, 0, 0, 0, 0, 0, 1, 2, 0, 0, 0, 1, 97] 23 rfl (by decide) (by decide) (by decide) (by decide) rfl _ hE3 hv3).mono ?_
          rintro e w4 ⟨A4, cap4, rfl, hv4, hE4⟩
          go_wp2_with fail
          refine (takeM w A4 cap4 [0, 0, 0, 5, 0, 0, 0, 5, 1, 0, 0, 0, 0, 0, 0, 0, 1, 2, 0, 0, 0, 1, 97] 23 2 3 [0, 0, 0, 5, 0, 0, 0, 5, 1, 0, 0, 0, 0, 0, 0, 0, 1, 2, 0, 0, 0, 1, 97, 1, 0, 0, 0, 2, 0, 0, 0, 3] 32 rfl (by decide) (by decide) (by decide) (by decide) (by decide) rfl _ hE4 hv4).mono ?_
          rintro e w5 ⟨A5, cap5, rfl, hv5, hE5⟩
          go_wp2_with fail
          refine (numM w none 0 [] 0 5 [0, 0, 0, 5] 4 rfl (by decide) (by decide) (by decide) rfl _ hE5 (Buf.nil _ _ _)).mono ?_
          rintro e w6 ⟨A6, cap6, rfl, hv6, hE6⟩
          go_wp2_with fail
          refine (numM w A6 cap6 [0, 0, 0, 5] 4 5 [0, 0, 0, 5, 0, 0, 0, 5] 8 rfl (by decide) (by decide) (by decide) rfl _ hE6 hv6).mono ?_
          rintro e w7 ⟨A7, cap7, rfl, hv7, hE7⟩
          go_wp2_with fail
          rw [← Ksb.out]
          refine (tellM w A7 cap7 [0, 0, 0, 5, 0, 0, 0, 5] hallo 8 [0, 0, 0, 5, 0, 0, 0, 5, 2, 0, 0, 0, 5, 104, 97, 108, 108, 111] 18 rfl (by decide) (by decide) (by decide) (by decide) rfl _ hE7 hv7).mono ?_
          rintro e w8 ⟨A8, cap8, rfl, hv8, hE8⟩
          have kc : (convert 54 9 (.slice A8 18 cap8)).run Try.prog w8 = .ok (.string (strOf [0, 0, 0, 5, 0, 0, 0, 5, 2, 0, 0, 0, 5, 104, 97, 108, 108, 111])) w8 := conv_buf w8 _ _ _ Try.underlying54 Try.underlying5 Try.underlying9 _ hv8
          go_wp2_with fail
          go_ret
          exact ⟨by rfl, hE8⟩
end Delta
end Go.Proofs.Ytgnbbklnobladaa
