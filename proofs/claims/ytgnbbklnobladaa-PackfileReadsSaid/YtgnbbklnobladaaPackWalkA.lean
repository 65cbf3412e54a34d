/- The walk of a pack's reader's number. No condition. -/
import Derived.Test.YtgnbbklnobladaaPackPlain
import Derived.Test.YtgnbbklnobladaaDeltaWalkC
import Derived.Test.YtgnbbklnobladaaBufS
import Derived.Test.YtgnbbklnobladaaWorkPlain
namespace Go.Proofs.Ytgnbbklnobladaa
open Go.RowKit
namespace Pack
open Delta (wraps_i64 val4)
open Work (ints)
set_option linter.unusedSimpArgs false
set_option linter.unusedVariables false
def Sep (a b : List Nat) : Prop := ∀ j ∈ a, j ∉ b
/-- A reader in memory. -/
structure RdAt (w : World) (B g : Nat) (iv cv : Value) (its : List It) (chs : List Int) (s : List UInt8) : Prop where
  blk : Blk w g 48 [.string (strOf s), iv, cv]
  items : BufS 2 w B 42 iv (its.map itV)
  chains : Buf w B 3 cv (ints chs)
  bg : B ≤ g
  s1 : g ∉ own iv
  s2 : g ∉ own cv
  s3 : Sep (own iv) (own cv)
theorem RdAt.ext {w w' : World} {B g : Nat} {iv cv : Value} {its : List It} {chs : List Int} {s : List UInt8} (h : RdAt w B g iv cv its chs s) (k : Ext w w') : RdAt w' B g iv cv its chs s :=
  ⟨h.blk.ext k, h.items.ext k, h.chains.ext k, h.bg, h.s1, h.s2, h.s3⟩
theorem RdAt.text {w : World} {B g : Nat} {iv cv : Value} {its : List It} {chs : List Int} {s : List UInt8} (h : RdAt w B g iv cv its chs s) (s' : List UInt8) : RdAt (w.setCell ⟨g, 0, none⟩ (.string (strOf s'))) B g iv cv its chs s' :=
  ⟨h.blk.set 0 _, h.items.touch (Touch.set w ⟨g, 0, none⟩ _) (fun j hj hm => h.s1 (by rw [List.mem_singleton] at hm; exact (show j = g from hm) ▸ hj)), h.chains.touch (Touch.set w ⟨g, 0, none⟩ _) (fun j hj hm => h.s2 (by rw [List.mem_singleton] at hm; exact (show j = g from hm) ▸ hj)), h.bg, h.s1, h.s2, h.s3⟩
/-- The number of the first k bytes. -/
def pv (s : List UInt8) : Nat → Int
  | 0 => 0
  | k + 1 => pv s k * 256 + byt s k
theorem pv_four (s : List UInt8) : pv s 4 = (val4 s : Int) := by
  simp only [pv, Delta.val4_byt]
  omega
theorem pv_bound (s : List UInt8) : ∀ k, k ≤ 3 → 0 ≤ pv s k ∧ pv s k < 16777216
  | 0, _ => by simp [pv]
  | 1, _ => by have := byt_range s 0; simp only [pv]; omega
  | 2, _ => by have := byt_range s 0; have := byt_range s 1; simp only [pv]; omega
  | 3, _ => by have := byt_range s 0; have := byt_range s 1; have := byt_range s 2; simp only [pv]; omega
  | k + 4, h => by omega
theorem join8 (a b : Int) (ha : 0 ≤ a ∧ a < 16777216) (hb : 0 ≤ b ∧ b ≤ 255) : bits .or .i64 (a * 256) b = a * 256 + b := by
  rw [bits_join .i64 63 (by decide) wraps_i64 8 (a * 256) b (by omega) (by omega) (by omega) (by omega) (by omega) (by omega)]
/-- What number leaves. -/
def NumE (w : World) (B g : Nat) (iv cv : Value) (its : List It) (chs : List Int) (s : List UInt8) (e : Ending) (w' : World) : Prop :=
  e = .returned (.tuple #[.int .i64 (if s.length < 4 then 0 else (val4 s : Int)), .bool (decide (¬ s.length < 4))]) ∧ RdAt w' B g iv cv its chs (if s.length < 4 then s else s.drop 4) ∧ Touch [g] w w'
set_option maxRecDepth 100000 in
set_option maxHeartbeats 2000000 in
theorem number_any (B g : Nat) (iv cv : Value) (its : List It) (chs : List Int) (s : List UInt8) (hs : s.length ≤ 2000000) (w : World) (h : RdAt w B g iv cv its chs s) :
    Calls Try.prog 27 #[.pointer (some ⟨g, 0, none⟩)] w (NumE w B g iv cv its chs s) := by
  have c0 : w.cell? ⟨g, 0, none⟩ = some (.string (strOf s)) := by rw [h.blk.cell]; rfl
  have f0 := h.blk.free 0
  have hsz := strOf_size s
  have KH := Kept.mk h
  unfold NumE
  by_cases h4 : s.length < 4
  · have h4I : (s.length : Int) < 4 := by omega
    rw [if_pos h4, if_pos h4, decide_eq_false (fun h => h h4)]
    clear h h4
    go_enter Try.func27, Try.ntmps27
    go_wp2_with fail
    exact bodyPost_ret (v := .tuple #[.int .i64 0, .bool false]) (by simp [results, Try.results27, go_sem]) rfl ⟨rfl, KH.out, Touch.refl _ _⟩
  · have h4I : ¬ (s.length : Int) < 4 := by omega
    have h4I2 : (4 : Int) ≤ (s.length : Int) := by omega
    rw [if_neg h4, if_neg h4, decide_eq_true h4]
    have hx : (strOf s).extract 0 4 = strOf (s.take 4) := by rw [strOf_extract]; rfl
    have hxl : (s.take 4).length = 4 := by rw [List.length_take]; omega
    obtain ⟨cap, w1, hcv, hE1, hV1⟩ := conv_bytes (P := Try.prog) w 9 54 5 Try.underlying9 Try.underlying54 Try.underlying5 w.heap.size (Nat.le_refl _) (strOf (s.take 4)) (by rw [strOf_size, hxl]; simp only [maxLen]; omega)
    rw [strOf_size, hxl, ← hx] at hcv
    rw [strOf_size, hxl, strOf_list] at hV1
    have KV1 := Kept.mk hV1
    have KE1 := Kept.mk hE1
    have KH1 := Kept.mk (h.ext hE1)
    clear h hV1 hE1 hx
    go_enter Try.func27, Try.ntmps27
    go_wp2_with fail
    go_loopg [4, 20] 4 (fun r nv iv wi => ∃ i : Nat, i + r = 4 ∧ nv = .int .i64 (pv s i) ∧ iv = .int .i64 (i : Int) ∧ w1 = wi)
    case atStart => exact ⟨0, by omega, rfl, rfl, rfl⟩
    case round =>
      obtain ⟨i, hr, rfl, rfl, rfl⟩ := hrel
      have Kr := Kept.mk hr
      have hil : i ≤ 4 := by omega
      clear hr
      by_cases hlt : i < 4
      · have hltI : (i : Int) < 4 := by omega
        obtain ⟨b, off, e, hc⟩ := KV1.out.cell (j := i) (u := .int .u8 (byt s i)) (by
          rw [bytesV_at _ _ (by rw [hxl]; exact hlt)]
          have hl2 : i < s.length := by omega
          simp [byt, List.getD_eq_getElem?_getD, hl2])
        cases e
        rw [Nat.zero_add] at hc
        have hb := pv_bound s i (by omega)
        have hby := byt_range s i
        have hj := join8 (pv s i) (byt s i) hb hby
        have Kst := Kept.mk (show pv s (i + 1) = pv s i * 256 + byt s i from rfl)
        generalize pv s i = x at hb hj Kst ⊢
        generalize byt s i = y at hby hj hc Kst
        go_wp2_with fail
        go_roundg (gk - 1)
        case measure => have := Kr.out; omega
        case rel => exact ⟨i + 1, by have := Kr.out; omega, by rw [Kst.out], by first | rfl | simp, rfl⟩
      · have hltI : ¬ (i : Int) < 4 := by omega
        have h4e : i = 4 := by omega
        have Kpv := Kept.mk (show pv s i = (val4 s : Int) from by rw [h4e]; exact pv_four s)
        have c1 := KE1.out.cell c0
        have f1 := KH1.out.blk.free 0
        have Kfin := Kept.mk (KH1.out.text (s.drop 4))
        have Kt := Kept.mk (show (strOf s).extract 4 s.length = strOf (s.drop 4) from by rw [← hsz]; exact strOf_tail s 4)
        generalize pv s i = x at Kpv ⊢
        clear h4e
        go_wp2_with fail
        rw [Kt.out]
        refine bodyPost_ret (v := .tuple #[.int .i64 x, .bool true]) (by simp [results, Try.results27, go_sem]) rfl ⟨by rw [Kpv.out], Kfin.out, (Touch.of_ext KE1.out).trans (Touch.set w1 ⟨g, 0, none⟩ _) (by simp)⟩
end Pack
end Go.Proofs.Ytgnbbklnobladaa
