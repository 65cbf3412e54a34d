/- More words on slices that a call owns: a literal appended; bytes. No condition. -/
import Derived.Test.YtjphmjegfpdbeaaBuf
import Derived.Laws.OwnMore
namespace Go.Proofs.Ytjphmjegfpdbeaa
open Go.RowKit

theorem Buf.lit (W : World) (e : TypeId) (B : Nat) (hB : B ≤ W.heap.size) (xs : List Value) (hm : xs.length ≤ maxLen) : Buf (W.alloc (.cells xs.toArray e)) B e (.slice (some ⟨W.heap.size, 0, none⟩) xs.length xs.length) xs := by
  have := Buf.new W e B hB xs [] (by simpa using hm)
  simpa using this
section
variable {P : Program} (W : World)
/-- append(s, a, b, ..): the literal's block is the newest. -/
theorem wpList_append_lit {ops : Array Oper} {rest : List Oper} {o : Oper} {a : Act} {Q : Exit → Act → World → Prop} (hgd : o.guard = none) (s x : Operand) (t : TypeId)
    (ho : o.op = .call { callee := .builtin .append, args := #[s, x], argTypes := #[t, t] }) (e : TypeId) (i : TypeInfo) (z : Value) (ht : P.underlying t = some (.slice e)) (hi : P.info? e = some i) (hz : i.zero = some z) (hs1 : i.size = 1) (hz1 : z.cells.size = 1)
    (B : Nat) (v : Value) (xs : List Value) (hv : a.eval s = v) (h : Buf W B e v xs) (ys : List Value) (n : Nat) (hn : ys.length = n) (hx : a.eval x = .slice (some ⟨W.heap.size, 0, none⟩) n n) (h1 : ∀ u ∈ ys, u.oneCell' = true) (hB : B ≤ W.heap.size) (h63 : xs.length + n ≤ maxLen) (hfit : (xs.length + n) * i.bytes ≤ 140737488355328)
    (hk : ∀ v' w', Buf w' B e v' (xs ++ ys) → Touch (own v) W w' → (∀ j ∈ own v', j ∈ own v ∨ W.heap.size ≤ j) → wpList P ops Q rest (a.put o.dst v') w') : wpList P ops Q (o :: rest) a (W.alloc (.cells ys.toArray e)) := by
  subst hn
  have hl := Buf.lit W e B hB ys (by simp only [maxLen] at *; omega)
  refine wpList_append_buf _ hgd s x t t ho e i z ht hi hz hs1 hz1 B v xs hv (h.ext (Ext.alloc _ _)) _ ys.length ys hx (Buf.src _ hl ht h1) (Nat.le_trans hB (by simp)) h63 hfit ?_
  intro v' w' h2 h3 h4
  refine hk v' w' h2 ((Touch.of_ext (S := own v) (Ext.alloc _ _)).trans h3 (fun j hj => .inl hj)) ?_
  intro j hj
  rcases h4 with h4 | h4
  · rw [h4] at hj; exact .inl hj
  · rw [h4, List.mem_singleton] at hj; subst hj; right; simp
end
/-- One byte, as a value. -/
theorem byteV (n : Nat) : bytesV [UInt8.ofNat (n % 256)] = [.int .u8 ((n % 256 : Nat) : Int)] := by
  simp [bytesV, numsV, nb]
theorem Buf.byte {w : World} {B : Nat} {e : TypeId} {v : Value} {l : List UInt8} {b : UInt8} {x : Int} (h : Buf w B e v (bytesV l ++ [.int .u8 x])) (hx : (b.toNat : Int) = x) : Buf w B e v (bytesV (l ++ [b])) := by
  rw [bytesV_append]
  subst hx
  exact h
/-- make([]T, n, cap) of one-cell elements. -/
theorem wpList_make_blk {P : Program} (w : World) {ops : Array Oper} {rest : List Oper} {o : Oper} {a : Act} {Q : Exit → Act → World → Prop} (hgd : o.guard = none) (l c : Operand) (t : TypeId) (ho : o.op = .makeSlice t l c)
    (e : TypeId) (i : TypeInfo) (z : Value) (ht : P.underlying t = some (.slice e)) (hi : P.info? e = some i) (hz : i.zero = some z) (hs1 : i.size = 1) (hzc : z.cells = #[z]) (kl kc : IntKind) (L C : Int) (n cap : Nat) (hL : L = n) (hC : C = cap) (hl : a.eval l = .int kl L) (hc : a.eval c = .int kc C)
    (hn : n ≤ cap) (hb : i.bytes * cap ≤ 281474976710656) (h63 : cap ≤ 9223372036854775807)
    (h : ∀ w', Blk w' w.heap.size e (List.replicate cap z) → Ext w w' → w'.heap.size = w.heap.size + 1 → wpList P ops Q rest (a.put o.dst (.slice (some ⟨w.heap.size, 0, none⟩) n cap)) w') : wpList P ops Q (o :: rest) a w := by
  subst hL hC
  refine wpList_plain hgd fun K hK => ?_
  have hr := run_make (P := P) w t e i z ht hi hz kl kc (n : Int) (cap : Int) (by omega) (by omega) (by rw [← Int.natCast_mul]; exact Int.ofNat_le.2 hb) (by omega)
  rw [hs1, Int.toNat_natCast, Int.toNat_natCast, hzc, Nat.mul_one] at hr
  have hm : madeCells #[z] cap = (List.replicate cap z).toArray := by
    apply Array.ext'
    rw [toList_madeCells_one]
  rw [hm] at hr
  unfold Oper.wp execOp
  simp only [ho, hl, hc, Sem.run_bind, Sem.run_pure, Result.andThen_ok, hr]
  exact hK _ _ (h _ (Blk.new w e _) (Ext.alloc _ _) (by simp))
end Go.Proofs.Ytjphmjegfpdbeaa
