/- SHA-1 of any bytes, piece by piece: plain words; and a block's store by parts. No condition. -/
import Derived.Test.YthkckmohhbddcaaSha1WalkG
import Derived.Test.YthkckmohhbddcaaBuf
import Derived.Deep.MidRow
namespace Go.Proofs.Ythkckmohhbddcaa
open Go.RowKit

theorem Row.touch {w w' : World} {A : Option Addr} {vs : List Value} {S : List Nat} (h : Row w A vs) (k : Touch S w w') (hS : ∀ j ∈ own (.slice A 0 0), j ∉ S) : Row w' A vs := by
  rcases h with h | ⟨b, off, rfl, hc⟩
  · exact .inl h
  · exact .inr ⟨b, off, rfl, fun j v hv => k.cell (hc j v hv) (hS b (by simp [own]))⟩
theorem Row.of_blk {w : World} {g : Nat} {T : TypeId} {xs : List Value} (h : Blk w g T xs) : Row w (some ⟨g, 0, none⟩) xs := .inr ⟨g, 0, rfl, fun j v hv => by rw [h.cell]; simpa using hv⟩
section
variable {P : Program} {ops : Array Oper} {Q : Exit → Act → World → Prop} {rest : List Oper} {o : Oper} {a : Act} {w : World}
/-- A whole array into a part of a block. -/
theorem wpList_store_part (hgd : o.guard = none) (ty : TypeId) (x y : Operand) (ho : o.op = .store ty x y) (hd : o.dst = none) (g off : Nat) (hx : a.eval x = .pointer (some ⟨g, off, none⟩)) (T : TypeId) (xs ys : List Value)
    (hy : a.eval y = .agg ys.toArray) (hg : Blk w g T xs) (hl : off + ys.length ≤ xs.length) (hi : (P.info? ty).map (·.size) = some ys.length) (h1 : ys.all (·.oneCell') = true)
    (h : wpList P ops Q rest a (w.setRow g (xs.take off ++ ys ++ xs.drop (off + ys.length)).toArray)) : wpList P ops Q (o :: rest) a w := by
  refine wpList_plain hgd fun K hK => ?_
  unfold Oper.wp execOp
  have hst := run_storeCells_at P g off T ys 0 xs.toArray w hg (by simpa using hl) (by simpa using h1)
  have hr : (storeVar ty ⟨g, off, none⟩ (.agg ys.toArray)).run P w = .ok () (w.setRow g (xs.take off ++ ys ++ xs.drop (off + ys.length)).toArray) := by
    cases hq : P.info? ty with
    | none => simp [hq] at hi
    | some i =>
      have hs : ys.length = i.size := by simp [hq] at hi; omega
      simp only [Nat.add_zero] at hst
      simp [storeVar, sizeOf, typeInfo, hq, Value.cells, hs]
      simpa [hs] using hst
  simp only [ho, hx, hy, Instr.storeAt, Instr.sureAddr, Sem.run_bind, Sem.run_pure, Result.andThen_ok, hr]
  have hput : ∀ v, a.put o.dst v = a := fun v => by rw [hd]; rfl
  simp only [Oper.upon, hput]
  exact hK _ _ h
/-- A whole array out of a part of a block. -/
theorem wpList_load_part (hgd : o.guard = none) (ty : TypeId) (x : Operand) (ho : o.op = .load ty x) (g off : Nat) (hx : a.eval x = .pointer (some ⟨g, off, none⟩)) (T : TypeId) (xs ys : List Value) (hg : Blk w g T xs) (hp : (xs.drop off).take ys.length = ys) (d : TypeDesc)
    (hu : P.underlying ty = some d) (hd : d.isRow = true) (hi : (P.info? ty).map (·.size) = some ys.length)
    (h : wpList P ops Q rest (a.put o.dst (.agg ys.toArray)) w) : wpList P ops Q (o :: rest) a w :=
  wpList_load_mid hgd ty x ho g off hx ys d (fun j v hv => by
    have hj : j < ys.length := (List.getElem?_eq_some_iff.1 hv).1
    rw [hg.cell, ← List.getElem?_drop]
    rw [← hp, List.getElem?_take_of_lt hj] at hv
    exact hv) hu hd hi h
end

namespace Sha1
def chain : Nat → Ch → List UInt8 → Ch
  | 0, c, _ => c
  | k + 1, c, l => chain k (pressC c (l.take 64)) (l.drop 64)
theorem chain_add (i : Nat) : ∀ (j : Nat) (c : Ch) (l : List UInt8), chain (i + j) c l = chain j (chain i c l) (l.drop (64 * i)) := by
  induction i with
  | zero => intro j c l; simp [chain]
  | succ i ih =>
    intro j c l
    rw [show i + 1 + j = (i + j) + 1 by omega, chain, ih, chain, List.drop_drop, show 64 + 64 * i = 64 * (i + 1) by omega]
theorem chain_front (k : Nat) : ∀ (c : Ch) (l x : List UInt8), 64 * k ≤ l.length → chain k c (l ++ x) = chain k c l := by
  induction k with
  | zero => intro c l x _; rfl
  | succ k ih =>
    intro c l x h
    rw [chain, chain, List.take_append_of_le_length (by omega), List.drop_append_of_le_length (by omega), ih _ _ _ (by rw [List.length_drop]; omega)]
def midC (m : List UInt8) : Ch := chain (m.length / 64) firstC m
def restB (m : List UInt8) : List UInt8 := m.drop (64 * (m.length / 64))
theorem restB_length (m : List UInt8) : (restB m).length = m.length % 64 := by rw [restB, List.length_drop]; omega
theorem feed_mod (m x : List UInt8) : (m ++ x).length / 64 = m.length / 64 + (restB m ++ x).length / 64 := by
  rw [List.length_append, List.length_append, restB_length]; omega
theorem midC_feed (m x : List UInt8) : midC (m ++ x) = chain ((restB m ++ x).length / 64) (midC m) (restB m ++ x) := by
  rw [midC, feed_mod, chain_add, chain_front _ _ m x (by omega), List.drop_append_of_le_length (by omega)]
  rfl
theorem restB_feed (m x : List UInt8) : restB (m ++ x) = (restB m ++ x).drop (64 * ((restB m ++ x).length / 64)) := by
  conv => lhs; rw [restB, feed_mod, Nat.mul_add, ← List.drop_drop, List.drop_append_of_le_length (by omega)]
  rfl
def flat (l : List ByteArray) : List UInt8 := (l.map fun s => s.data.toList).flatten
theorem flat_next (l : List ByteArray) (k : Nat) (h : k < l.length) : flat (l.take (k + 1)) = flat (l.take k) ++ l[k].data.toList := by
  rw [flat, flat, List.take_succ_eq_append_getElem h, List.map_append, List.flatten_append, List.map_singleton, List.flatten_singleton]
theorem flat_len (l : List ByteArray) (k : Nat) : (flat (l.take k)).length ≤ (flat l).length := by
  have h : flat l = flat (l.take k) ++ flat (l.drop k) := by
    conv => lhs; rw [← List.take_append_drop k l]
    rw [flat, flat, flat, List.map_append, List.flatten_append]
  rw [h, List.length_append]; omega

/-- What the padding adds. -/
def tailB (n : Nat) : List UInt8 := 128 :: List.replicate ((119 - n % 64) % 64) 0
def be8 (n : Nat) : List UInt8 := (List.range 8).map fun i => UInt8.ofNat (n / 2 ^ (56 - 8 * i) % 256)
def pad (m : List UInt8) : List UInt8 := m ++ (tailB m.length ++ be8 (8 * m.length % 2 ^ 64))
def digit4 (x : Int) : List UInt8 := [UInt8.ofNat (x / 16777216 % 256).toNat, UInt8.ofNat (x / 65536 % 256).toNat, UInt8.ofNat (x / 256 % 256).toNat, UInt8.ofNat (x % 256).toNat]
def digestC (x : Ch) : List UInt8 := (chL x).flatMap digit4
def digest (m : List UInt8) : List UInt8 := digestC (midC (pad m))
end Sha1
end Go.Proofs.Ythkckmohhbddcaa
