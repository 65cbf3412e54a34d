/- The walks of CRC's table and of its sum by the table. No condition. -/
import Derived.Test.YtfebgibinnfjkaaProg
import Derived.Test.YtfebgibinnfjkaaCrcPlain
import Derived.Test.YtfebgibinnfjkaaRow
import Derived.WalkKit
import Derived.WalkSpells
import Derived.WalkLawsBesides
import Derived.KernelRfl
import Derived.Deep.LoopGhost
import Derived.Deep.QuietTactic
import Derived.BigQuiet
import Derived.Lib.Hide
namespace Go.Proofs.Ytfebgibinnfjkaa
open Go.RowKit
namespace Crc

def zeros256 : Array Value := Array.replicate 256 (.int .u32 0)
theorem infoArr : (Try.prog.info? 40).map (fun i => (i.zero, i.size, i.bytes)) = some (some (.agg zeros256), 256, 1024) := by kernel_rfl
theorem zeroArr (w : World) : (zeroValue 40).run Try.prog w = .ok (.agg zeros256) w := by
  obtain ⟨i0, hi, hzz⟩ := Option.map_eq_some_iff.1 infoArr
  simp only [Prod.mk.injEq] at hzz
  simp [zeroValue, typeInfo, hi, hzz.1]
/-- The block g holds the table's first k places (of 256 cells in all). -/
structure TabAt (w : World) (g k : Nat) : Prop where
  some' : ∀ j, j < 256 → (w.cell? ⟨g, j, none⟩).isSome = true
  cell : ∀ j, j < k → w.cell? ⟨g, j, none⟩ = some (.int .u32 ((tab j : Nat) : Int))
  free : ∀ j, w.frozen? ⟨g, j, none⟩ = false
theorem TabAt.set {w : World} {g k : Nat} (h : TabAt w g k) (hk : k < 256) : TabAt (w.setCell ⟨g, k, none⟩ (.int .u32 ((tab k : Nat) : Int))) g (k + 1) := by
  refine ⟨fun j hj => ?_, fun j hj => ?_, fun j => ?_⟩
  · by_cases e : j = k
    · subst e
      rw [World.cell?_setCell_same' _ _ _ (h.some' j hj)]; rfl
    · rw [World.cell?_setCell_other _ _ _ _ (by simp)]; exact h.some' j hj
  · by_cases e : j = k
    · subst e
      rw [World.cell?_setCell_same' _ _ _ (h.some' j hk)]
    · rw [World.cell?_setCell_other _ _ _ _ (by simp)]; exact h.cell j (by omega)
  · rw [World.frozen?_setCell]; exact h.free j
def TableIs (w : World) (e : Ending) (w' : World) : Prop :=
  e = .returned (.pointer (some ⟨w.heap.size, 0, none⟩)) ∧ Below w.heap.size w w' ∧ w'.heap.size = w.heap.size + 1 ∧ TabAt w' w.heap.size 256
theorem cast_inj {a b : Nat} (h : a = b) : Value.int .u32 ((a : Nat) : Int) = Value.int .u32 ((b : Nat) : Int) := by rw [h]

set_option maxRecDepth 100000 in
set_option maxHeartbeats 400000 in
theorem table_any (w : World) : Calls Try.prog 13 #[] w (TableIs w) := by
  have hz := zeroArr
  go_enter Try.func13, Try.ntmps13
  go_wp2_with fail
  go_loopg [2, 3, 4, 9] 256 (fun n _ _ i _ wr => ∃ k : Nat, k + n = 256 ∧ i = .int .i64 k ∧ Below w.heap.size w wr ∧ wr.heap.size = w.heap.size + 1 ∧ TabAt wr w.heap.size k)
  case atStart =>
    refine ⟨0, rfl, rfl, (Below.refl _ _).alloc (Nat.le_refl _) _, by simp, ⟨fun j hj => ?_, fun j hj => by omega, fun j => ?_⟩⟩
    · rw [World.cell?_alloc_at _ _ _ _ rfl]; simp [zeros256, hj]
    · rw [World.frozen?_alloc_at _ _ _ _ rfl]
  case round =>
    obtain ⟨k, hk, rfl, hb, hs, hc⟩ := hrel
    obtain ⟨wo, rfl⟩ : ∃ wo : World, wo = wr := ⟨_, rfl⟩
    obtain ⟨go, rfl⟩ : ∃ n : Nat, n = gk := ⟨_, rfl⟩
    by_cases hlt : k < 256
    · obtain ⟨z, hc1⟩ := Option.isSome_iff_exists.1 (hc.some' k hlt)
      have hf := hc.free k
      have HC := Lib.hid hc
      clear hc
      go_wp2_with fail
      go_loopg [3, 9] 8 (fun n x i wi => wi = wo ∧ ∃ m : Nat, m + n = 8 ∧ i = .int .i64 m ∧ x = .int .u32 ((stps m k : Nat) : Int))
      case atStart => exact ⟨rfl, 0, rfl, rfl, rfl⟩
      case round =>
        obtain ⟨rfl, m, hm, rfl, rfl⟩ := hrel
        by_cases hlt2 : m < 8
        · go_wp2_with fail
          go_roundg (gk - 1)
          case measure => omega
          case rel => exact ⟨rfl, m + 1, by omega, by go_num, by rw [stp_walk (stps_lt m (by omega))]; rfl⟩
        · obtain rfl : m = 8 := by omega
          go_wp2_with fail
          go_roundg (go - 1)
          case measure => omega
          case rel => exact ⟨k + 1, by omega, by go_num, hb.setCell (Nat.le_refl _) _, by simp [World.setCell, hs], HC.out.set hlt⟩
    · go_wp2_with fail
      go_ret
      obtain rfl : k = 256 := by omega
      exact ⟨rfl, hb, hs, hc⟩

end Crc
end Go.Proofs.Ytfebgibinnfjkaa
