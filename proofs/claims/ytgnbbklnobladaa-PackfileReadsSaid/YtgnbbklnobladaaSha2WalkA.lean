/- The walks of SHA-256's words: rotation; the keys. No condition. -/
import Derived.Test.YtgnbbklnobladaaProg
import Derived.Test.YtgnbbklnobladaaArr
import Derived.Test.YtgnbbklnobladaaSha2Plain
namespace Go.Proofs.Ytgnbbklnobladaa
open Go.RowKit
section
variable {P : Program} {ops : Array Oper} {Q : Exit → Act → World → Prop} {rest : List Oper} {o : Oper} {a : Act} {w : World}
/-- A literal whose run is known. -/
theorem wpList_build_run (hgd : o.guard = none) (t : TypeId) (parts : Array (Nat × Operand)) (ho : o.op = .build t parts) (v : Value) (hr : ∀ W : World, (Instr.build t (parts.map fun (i, x) => (i, a.eval x))).run P W = .ok v W)
    (h : wpList P ops Q rest (a.put o.dst v) w) : wpList P ops Q (o :: rest) a w := by
  refine wpList_plain hgd fun K hK => ?_
  unfold Oper.wp execOp
  simp only [ho, Sem.run_bind, Sem.run_pure, Result.andThen_ok, hr]
  exact hK _ _ h
end
namespace Sha2

def IntIs (k : IntKind) (w : World) (x : Int) (e : Ending) (w' : World) : Prop := e = .returned (.int k x) ∧ w = w'
set_option linter.unusedSimpArgs false
set_option linter.unusedVariables false
set_option maxRecDepth 100000 in
set_option maxHeartbeats 400000 in
theorem rotl_any (x : Int) (k : Nat) (h1 : 1 ≤ k) (hk : k ≤ 31) (w : World) : Calls Try.prog 49 #[.int .u32 x, .int .i64 (-(k : Int))] w (IntIs .u32 w (rotr x k)) := by
  obtain ⟨S, hS⟩ : ∃ S : Nat, S = 32 - k := ⟨_, rfl⟩
  have hb : bits .and .u64 (IntKind.u64.wrap (-(k : Int))) 31 = (S : Int) := by
    rw [show IntKind.u64.wrap (-(k : Int)) = -(k : Int) % 18446744073709551616 by simp [IntKind.wrap, IntKind.bits, IntKind.signed]]
    have := bits_mask .u64 64 (by decide) wraps_u64 5 (by decide) (-(k : Int) % 18446744073709551616) (by omega) (by omega)
    simpa using this.trans (by omega)
  have hk' : (S : Int) ≤ 31 := by omega
  have K := Kept.mk (show rotr x k = bits .or .u32 (x * 2 ^ S % 4294967296) (x / 2 ^ (32 - S)) by rw [rotr, hS, show 32 - (32 - k) = k by omega])
  clear hS
  go_enter Try.func49, Try.ntmps49
  go_wp2_with fail
  go_ret
  exact ⟨by rw [K.out]; rfl, rfl⟩
set_option maxRecDepth 100000 in
set_option maxHeartbeats 400000 in
theorem turn_any (x : Int) (k : Nat) (h1 : 1 ≤ k) (hk : k ≤ 31) (w : World) : Calls Try.prog 48 #[.int .u32 x, .int .i64 (k : Int)] w (IntIs .u32 w (rotr x k)) := by
  have hk' : (k : Int) ≤ 31 := by omega
  go_enter Try.func48, Try.ntmps48
  go_wp2_with fail
  refine (rotl_any x k h1 hk _).mono ?_
  rintro e w' ⟨rfl, rfl⟩
  go_wp2_with fail
  go_ret
  exact ⟨rfl, rfl⟩
set_option maxRecDepth 100000 in
set_option maxHeartbeats 400000 in
theorem refTurn_any (x : Int) (k : Nat) (h1 : 1 ≤ k) (hk : k ≤ 31) (w : World) : Calls Try.prog 26 #[.int .u32 x, .int .u64 (k : Int)] w (IntIs .u32 w (rotr x k)) := by
  obtain ⟨S, hS⟩ : ∃ S : Nat, S = 32 - k := ⟨_, rfl⟩
  have hk' : (k : Int) ≤ 31 := by omega
  have hs' : (32 - (k : Int)) % 18446744073709551616 = (S : Int) := by omega
  have hs2 : 32 - (k : Int) = (S : Int) := by omega
  have hSb : (S : Int) ≤ 31 := by omega
  have K := Kept.mk (show rotr x k = bits .or .u32 (x / 2 ^ k) (x * 2 ^ S % 4294967296) by rw [rotr, hS, or_comm])
  clear hS
  go_enter Try.func26, Try.ntmps26
  go_wp2_with fail
  go_ret
  exact ⟨by rw [K.out]; rfl, rfl⟩
def WordsIs (w : World) (xs : List Int) (e : Ending) (w' : World) : Prop := e = .returned (.agg (numsV .u32 xs).toArray) ∧ Ext w w'
def z64 : List Int := List.replicate 64 0
def chW (x : Ch) : List Value := numsV .u32 (chL x)
def zW : List Value := numsV .u32 (List.replicate 8 0)
theorem info64 : (Try.prog.info? 63).map (fun i => (i.zero, i.size, i.bytes)) = some (some (.agg (numsV .u32 z64).toArray), 64, 256) := by kernel_rfl
theorem info8 : (Try.prog.info? 65).map (fun i => (i.zero, i.size, i.bytes)) = some (some (.agg zW.toArray), 8, 32) := by kernel_rfl
theorem infoU32 : (Try.prog.info? 62).map (fun i => (i.zero, i.size, i.bytes)) = some (some (.int .u32 0), 1, 4) := by kernel_rfl
theorem chW_one (x : Ch) : (chW x).all (·.oneCell') = true := rfl
theorem keysL_length : keysL.length = 64 := rfl
set_option maxRecDepth 100000 in
set_option maxHeartbeats 1000000 in
theorem keys_any (w : World) : Calls Try.prog 47 #[] w (WordsIs w keysL) := by
  have hz := zero_run (P := Try.prog) info64
  go_enter Try.func47, Try.ntmps47
  go_wp2_with (first
    | (refine wpList_build_run rfl 63 _ rfl (.agg (numsV .u32 keysL).toArray) (fun W => by kernel_rfl) ?_)
    | (refine wpList_store_new rfl 63 (.tmp 0) (.tmp 1) rfl rfl rfl 63 (numsV .u32 z64) (numsV .u32 keysL) rfl rfl (info_size info64) (numsV_one _ _) ?_))
  refine bodyPost_ret (v := .agg (numsV .u32 keysL).toArray) ?_ rfl ⟨rfl, Ext.alloc _ _⟩
  exact results_blk Try.results47 _ _ w.heap.size 63 (numsV .u32 keysL) _ rfl (Blk.new w _ _) Try.underlying63 rfl (info_size info64)
set_option maxRecDepth 100000 in
set_option maxHeartbeats 1000000 in
theorem refKeys_any (w : World) : Calls Try.prog 25 #[] w (WordsIs w keysL) := by
  have hz := zero_run (P := Try.prog) info64
  go_enter Try.func25, Try.ntmps25
  go_wp2_with (first
    | (refine wpList_build_run rfl 63 _ rfl (.agg (numsV .u32 keysL).toArray) (fun W => by kernel_rfl) ?_)
    | (refine wpList_store_new rfl 63 (.tmp 0) (.tmp 1) rfl rfl rfl 63 (numsV .u32 z64) (numsV .u32 keysL) rfl rfl (info_size info64) (numsV_one _ _) ?_))
  refine bodyPost_ret (v := .agg (numsV .u32 keysL).toArray) ?_ rfl ⟨rfl, Ext.alloc _ _⟩
  exact results_blk Try.results25 _ _ w.heap.size 63 (numsV .u32 keysL) _ rfl (Blk.new w _ _) Try.underlying63 rfl (info_size info64)
end Sha2
end Go.Proofs.Ytgnbbklnobladaa
