/- Plain: what Press's map holds; what a repeat tells. No condition. -/
import Derived.Test.YtgnbbklnobladaaSqzKey
namespace Go.Proofs.Ytgnbbklnobladaa
open Go.RowKit Go.Maps
namespace Sqz
theorem ownsMap_block {H : Type} {w w' : World} {P : Program} {k : TypeId} {R : Value → Option (DataW H × List MemPlace)} {b n : Nat} {D : DataW H} (h : w.ownsMap P k R b n D) (he : w'.heap[b]? = w.heap[b]?) : w'.ownsMap P k R b n D := by
  obtain ⟨es, c, h1, h2⟩ := h
  exact ⟨es, c, he.trans h1, h2⟩
theorem touch_grown {w w' : World} {b : Nat} (h : w.grownBy w' (some b)) : Touch [b] w w' := ⟨h.os, h.tape, h.output, h.size, fun k hk hn => h.block k hk (by simpa using hn)⟩
def KeyAt (s : List UInt8) (p : Nat) (kl : Lit) : Prop := keyOf Try.prog 82 (.agg (bytesV (fourL s p)).toArray) = some kl
def Good (s : List UInt8) (i : Nat) (D : DataW Unit) : Prop :=
  ∀ kl c, Maps.has D kl = true → D.atKey kl (.lit (.int .i64 0)) = .lit (.int .i64 c) → ∃ p : Nat, c = (p : Int) ∧ p < i ∧ p + 4 ≤ s.length ∧ KeyAt s p kl
theorem Good.empty (s : List UInt8) (i : Nat) : Good s i (.map []) := by
  intro kl c h
  simp [Maps.has] at h
theorem Good.put {s : List UInt8} {i j : Nat} {D : DataW Unit} (h : Good s i D) (hD : IsMap D) (hi : i + 4 ≤ s.length) {kl : Lit} (hk : KeyAt s i kl) (hj : i < j) : Good s j (D.put kl (.lit (.int .i64 (i : Int)))) := by
  intro kl' c hh ha
  by_cases he : kl' = kl
  · subst he
    rw [atKey_put_same hD (law46.key hk)] at ha
    injection ha with ha
    injection ha with _ ha
    exact ⟨i, ha.symm, hj, hi, hk⟩
  · rw [has_put_other he] at hh
    rw [atKey_put_other he] at ha
    obtain ⟨p, h1, h2, h3⟩ := h kl' c hh ha
    exact ⟨p, h1, by omega, h3⟩
theorem byte_in (b : UInt8) : (0 : Int) ≤ (b.toNat : Int) ∧ (b.toNat : Int) < 256 := by have := b.toNat_lt; omega
theorem key_at (s : List UInt8) (p : Nat) : ∃ kl, KeyAt s p kl :=
  key4 ((s.getD p 0).toNat : Int) ((s.getD (p + 1) 0).toNat : Int) ((s.getD (p + 2) 0).toNat : Int) ((s.getD (p + 3) 0).toNat : Int) (byte_in _) (byte_in _) (byte_in _) (byte_in _)
theorem bytesV_inj {a b : List UInt8} (h : bytesV a = bytesV b) : a = b := by
  induction a generalizing b with
  | nil => cases b with
    | nil => rfl
    | cons y b => simp [bytesV, numsV, nb] at h
  | cons x a ih => cases b with
    | nil => simp [bytesV, numsV, nb] at h
    | cons y b =>
      simp only [bytesV, numsV, nb, List.map_cons, List.cons.injEq, Value.int.injEq, true_and] at h
      obtain ⟨h1, h2⟩ := h
      rw [UInt8.toNat_inj.1 (show x.toNat = y.toNat by omega), ih (by simpa [bytesV, numsV, nb] using h2)]
theorem key_same {s : List UInt8} {p i : Nat} {kl : Lit} (h1 : KeyAt s p kl) (h2 : KeyAt s i kl) : ∀ k, k < 4 → s.getD (p + k) 0 = s.getD (i + k) 0 := by
  have h := law46.inj h1 h2
  injection h with h
  have h3 := bytesV_inj (List.toArray_inj h)
  simp only [fourL, List.cons.injEq, and_true] at h3
  obtain ⟨e0, e1, e2, e3⟩ := h3
  intro k hk
  rcases (show k = 0 ∨ k = 1 ∨ k = 2 ∨ k = 3 by omega) with rfl | rfl | rfl | rfl
  · exact e0
  · exact e1
  · exact e2
  · exact e3
theorem take_succ_getD (s : List UInt8) (m : Nat) (h : m < s.length) : s.take (m + 1) = s.take m ++ [s.getD m 0] := by
  rw [List.take_succ_eq_append_getElem h]
  simp [List.getD, h]
theorem rep_run (s : List UInt8) (p i : Nat) (hp : p < i) : ∀ n, i + n ≤ s.length → (∀ k, k < n → s.getD (p + k) 0 = s.getD (i + k) 0) → rep (i - p) n (s.take i) = s.take (i + n)
  | 0, _, _ => rfl
  | n + 1, hn, h => by
    rw [rep_snoc, rep_run s p i hp n (by omega) (fun k hk => h k (by omega))]
    have hl : (s.take (i + n)).length = i + n := by rw [List.length_take]; omega
    rw [hl, show i + n - (i - p) = p + n by omega, ← Nat.add_assoc, take_succ_getD s (i + n) (by omega), ← h n (by omega)]
    have hg : (s.take (i + n)).getD (p + n) 0 = s.getD (p + n) 0 := by
      simp [List.getD, show p + n < i + n by omega]
    rw [hg]
theorem leads_far {s T : List UInt8} {p i n : Nat} (h : Leads [] T (s.take i)) (hp : p < i) (hf : i - p ≤ 65535) (hn : 4 ≤ n) (hn2 : n ≤ 131) (hi : i + n ≤ s.length) (hk : ∀ k, k < n → s.getD (p + k) 0 = s.getD (i + k) 0) :
    Leads [] (T ++ [UInt8.ofNat (n + 124), UInt8.ofNat ((i - p) / 256), UInt8.ofNat ((i - p) % 256)]) (s.take (i + n)) := by
  refine h.trans ?_
  refine .far _ n (i - p) [] _ hn hn2 (by omega) hf ?_ ?_
  · rw [List.length_take]; omega
  · rw [rep_run s p i hp n hi hk]; exact .nil _
end Sqz
end Go.Proofs.Ytgnbbklnobladaa
