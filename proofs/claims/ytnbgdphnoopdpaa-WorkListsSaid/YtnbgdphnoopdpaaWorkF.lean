/- slices.Backward over ints: what it hands back goes over the slice from its end. No condition. -/
import Derived.RangeFuncNested
import Derived.RangeFuncBound
import Derived.RangeFuncCalls
import Derived.RangeFuncLeaves
import Derived.Shelf.Abstract
import Derived.Shelf.RegionOpen
import Derived.WalkKit
import Derived.OwnWalkIn
import Derived.TacticsInMore
import Derived.LoopNIn
import Derived.LoopIn
import Derived.Test.YtnbgdphnoopdpaaWorkC
namespace Go.Proofs.Ytnbgdphnoopdpaa
open Go.RowKit Go.Shelf
namespace Work
set_option linter.unusedSimpArgs false
set_option linter.unusedVariables false
attribute [local go_sem] Oper.semAt_some
/-- Blocks below n but for S are as they were. -/
def KpT (S : List Nat) (n : Nat) (W W' : World) : Prop := ∀ k, k < n → k ∉ S → W'.heap[k]? = W.heap[k]?
theorem KpT.refl (S : List Nat) (n : Nat) (W : World) : KpT S n W W := fun _ _ _ => rfl
theorem KpT.trans {S : List Nat} {n : Nat} {A B C : World} (h : KpT S n A B) (k : KpT S n B C) : KpT S n A C := fun j hj hn => (k j hj hn).trans (h j hj hn)
theorem KpT.cell {S : List Nat} {n : Nat} {W W' : World} (h : KpT S n W W') {a : Addr} {v : Value} (hc : W.cell? a = some v) (hn : a.block < n) (hS : a.block ∉ S) : W'.cell? a = some v :=
  (World.cell?_of_block (h a.block hn hS)).trans hc
theorem KpT.row {S : List Nat} {n m c : Nat} {W W' : World} (h : KpT S n W W') {A : Option Addr} {vs : List Value} (hr : Row W A vs) (hA : ∀ j ∈ own (.slice A m c), j < n ∧ j ∉ S) : Row W' A vs := by
  rcases hr with hr | ⟨b, off, rfl, hc⟩
  · exact .inl hr
  · obtain ⟨h1, h2⟩ := hA b (by simp [own])
    exact .inr ⟨b, off, rfl, fun j v hv => h.cell (hc j v hv) h1 h2⟩
/-- What has come behind k rounds. -/
def backL (zs : List Int) (k : Nat) : List (Nat × Int) := (List.range k).map (fun j => (zs.length - (j + 1), zs.getD (zs.length - (j + 1)) 0))
theorem backL_length (zs : List Int) (k : Nat) : (backL zs k).length = k := by simp [backL]
theorem backL_succ (zs : List Int) (k : Nat) : backL zs (k + 1) = backL zs k ++ [(zs.length - (k + 1), zs.getD (zs.length - (k + 1)) 0)] := by simp [backL, List.range_succ]
theorem backL_snd (zs : List Int) : (backL zs zs.length).map (·.2) = zs.reverse := by
  apply List.ext_getElem
  · simp [backL]
  · intro i h1 h2
    have hi : i < zs.length := by simp [backL] at h1; exact h1
    simp only [backL, List.map_map, List.getElem_map, List.getElem_range, Function.comp_def, List.getElem_reverse]
    rw [List.getD_eq_getElem?_getD, List.getElem?_eq_getElem (by omega)]
    simp only [Option.getD_some]
    congr 1
    omega
set_option maxRecDepth 100000 in
set_option maxHeartbeats 2000000 in
theorem back1_in (F : Fence) (n : Nat) (hf : F.fn 39) (hro : F.round = none) (hn : 1 ≤ n) (l Bs n₀ : Nat) (S : List Nat) (A : Option Addr) (cap : Nat) (zs : List Int) (hz : zs.length ≤ 1000000) (hB : Bs < n₀) (hBS : Bs ∉ S)
    (hA : ∀ j ∈ own (.slice A zs.length cap), j < n₀ ∧ j ∉ S) (J Jx : List (Nat × Int) → World → Prop)
    (hY : ∀ pre x W, J pre W → pre.length < zs.length → YieldAt F (n - 1) Try.prog l #[.int .i64 (x.1 : Int), .int .i64 x.2] W fun e W' =>
      (e = .returned (.bool true) ∧ J (pre ++ [x]) W' ∧ KpT S n₀ W W') ∨ (e = .returned (.bool false) ∧ Jx (pre ++ [x]) W'))
    (W : World) (hc : W.cell? ⟨Bs, 0, none⟩ = some (.slice A zs.length cap)) (hR : Row W A (ints zs)) (h0 : J [] W) :
    CallsIn F n Try.prog 39 #[.func (.yield l) #[] #[], .pointer (some ⟨Bs, 0, none⟩)] W fun e W' => (∃ v, e = .returned v) ∧
      ((∃ ys, ys = backL zs zs.length ∧ J ys W') ∨ (∃ pre, (∃ k, k ≤ zs.length ∧ pre = backL zs k) ∧ Jx pre W')) := by
  refine callsIn_of_wp Try.func39 rfl hf ?_ hro
  simp only [Try.ntmps39, List.size_toArray, List.length_cons, List.length_nil, Nat.reduceAdd, Nat.reduceSub, Array.replicate_succ, Array.replicate_zero, List.push_toArray, List.append_toArray, List.nil_append, List.cons_append]
  gi_wp2
  gi_loopw [3] (fun i wr => ∃ k j : Nat, k + j = zs.length ∧ i = .int .i64 ((j : Int) - 1) ∧ J (backL zs k) wr ∧ KpT S n₀ W wr)
    (fun i _ => (intOf i + 1).toNat)
  case atStart => exact ⟨0, zs.length, by omega, rfl, h0, KpT.refl _ _ _⟩
  case round =>
    obtain ⟨k, j, hkj, rfl, hJs, hnx⟩ := hrel
    have hbc := hnx.cell (a := ⟨Bs, 0, none⟩) hc hB hBS
    cases j with
    | zero =>
      obtain rfl : k = zs.length := by omega
      gi_wp2
      go_end0
      exact ⟨⟨_, rfl⟩, .inl ⟨_, rfl, hJs⟩⟩
    | succ m =>
      have hm : m < zs.length := by omega
      have e1 : ((m + 1 : Nat) : Int) - 1 = (m : Int) := by omega
      rw [e1]
      obtain ⟨b, off, rfl, hcs⟩ := (hnx.row hR hA).at (by rw [ints_length]; omega)
      have hcx := hcs m _ (ints_at zs m hm)
      have hsn := backL_succ zs k
      rw [show zs.length - (k + 1) = m from by omega] at hsn
      generalize zs.getD m 0 = x at hcx hsn
      obtain ⟨fn, tmps, assign, body, hy, hRR⟩ := hY _ (m, x) wr hJs (by rw [backL_length]; omega)
      dsimp only at hy
      have hmI : (m : Int) < (zs.length : Int) := by omega
      gi_wp2
      refine hRR.mono ?_
      rintro e W3 (⟨rfl, hJ3, hk3⟩ | ⟨rfl, hJx3⟩)
      · gi_wp2
        go_roundw
        case rel => exact ⟨k + 1, m, by omega, by first | rfl | simp, by rw [hsn]; exact hJ3, hnx.trans hk3⟩
        case measure => simp [intOf]
      · gi_wp2
        refine bodyPost_ret (results_none rfl _ _ _) rfl ?_
        exact ⟨⟨_, rfl⟩, .inr ⟨_, ⟨k + 1, by omega, hsn.symm⟩, hJx3⟩⟩
set_option maxHeartbeats 1000000 in
theorem back_in (F : Fence) (n : Nat) (hf : F.fn 35) (hro : F.round = none) (a : Option Addr) (len cap : Nat) (w : World) :
    CallsIn F n Try.prog 35 #[.slice a len cap] w fun e w' => e = .returned (.func (.func 39) #[] #[.pointer (some ⟨w.heap.size, 0, none⟩)]) ∧ w' = w.alloc (.cells #[.slice a len cap] 22) := by
  refine callsIn_of_wp Try.func35 rfl hf ?_ hro
  simp only [Try.ntmps35, List.size_toArray, List.length_cons, List.length_nil, Nat.reduceAdd, Nat.reduceSub, Array.replicate_succ, Array.replicate_zero, List.push_toArray, List.append_toArray, List.nil_append, List.cons_append]
  gi_wp2
  go_ret
  exact ⟨rfl, rfl⟩
/-- What slices.Backward hands back, as a range asks it. -/
theorem back_stops (F : Fence) (n : Nat) (hf : F.fn 39) (hro : F.round = none) (hn : 1 ≤ n) (Bs n₀ : Nat) (S : List Nat) (A : Option Addr) (cap : Nat) (zs : List Int) (hz : zs.length ≤ 1000000) (hB : Bs < n₀) (hBS : Bs ∉ S)
    (hA : ∀ j ∈ own (.slice A zs.length cap), j < n₀ ∧ j ∉ S) (w : World) (hn₀ : n₀ ≤ w.heap.size) (hc : w.cell? ⟨Bs, 0, none⟩ = some (.slice A zs.length cap)) (hR : Row w A (ints zs)) :
    SeqStopsK F n Try.prog 39 #[.pointer (some ⟨Bs, 0, none⟩)] (fun x : Nat × Int => #[Value.int .i64 (x.1 : Int), Value.int .i64 x.2]) (KpT S n₀) (fun ys => ys = backL zs zs.length) (fun pre => ∃ k, k ≤ zs.length ∧ pre = backL zs k) zs.length w :=
  fun l J Jx W hW _ _ hY h0 => back1_in F n hf hro hn l Bs n₀ S A cap zs hz hB hBS hA J Jx hY W ((hW.cell (p := ⟨Bs, 0, none⟩) (show Bs < w.heap.size from Nat.lt_of_lt_of_le hB hn₀)).trans hc) (hR.ext hW) h0
end Work
end Go.Proofs.Ytnbgdphnoopdpaa
