/- A handed object, opened. No condition. -/
import Derived.Test.YtdjkcolceccclaaEdgeJ
namespace Go.Proofs.Ytdjkcolceccclaa
open Go.RowKit Go.ChangeShapes Go.WideShapes Go.Deep
theorem leaf_slice {H : Type} {enc : TypeId × Value → H} {P : Program} {W : World} {base : Nat} {spare : Nat → Bool} {held : Bool} {n : Nat} {t : TypeId} {off : Nat} {t' e : TypeId} {fuel : Nat} {cs : List Value} {x : DataW H × List MemPlace} (s : Nat) (h : leafAt P n t off = some t') (hk : P.underlying t' = some (.slice e)) (hc : P.cellsOf e = s) (h0 : 0 < s) (hb : 0 < P.bytesOf e)
    (hx : DataW.trod enc P W base spare held fuel t cs = some x) (hw : ∀ n ∈ x.1.weights P t, n ≤ reachBytes) :
    ∃ a len cap css, cs[off]? = some (.slice a len cap) ∧ InFlat W a len cap css ∧ css.length ≤ reachBytes ∧ ∀ c ∈ css, c.length = s ∧ ∃ n x, DataW.trod enc P W base spare held n e c = some x ∧ ∀ k ∈ x.1.weights P e, k ≤ reachBytes := by
  obtain ⟨fuel', c, y, h1, h2, h3⟩ := leaf_trod n t off t' fuel cs x h hx
  have hsl : ∃ a len cap, c = [.slice a len cap] ∧ len ≤ reachBytes := by
    rcases open_slice hk h1 with ⟨hcs, hy⟩ | ⟨a', len', cap', m, n', D, Pl, hcs, _, _, _, _, hy, _⟩
    · exact ⟨none, 0, 0, hcs, Nat.zero_le _⟩
    · refine ⟨some a', len', cap', hcs, ?_⟩
      have hm : (len' + (m - len')) * P.bytesOf e ∈ y.1.weights P t' := by
        rw [hy]
        simp only [DataW.weights, hk, List.length_map, List.length_range, List.mem_cons, true_or]
      have h4 := hw _ (h3 _ hm)
      have h5 : len' ≤ (len' + (m - len')) * P.bytesOf e := Nat.le_trans (Nat.le_add_right _ _) (Nat.le_mul_of_pos_right _ hb)
      omega
  obtain ⟨a, len, cap, rfl, hlen⟩ := hsl
  obtain ⟨css, g1, g2⟩ := in_flat (W := W) (base := base) (spare := spare) (held := held) (a := a) (len := len) (cap := cap) (d := y.1) (p := y.2) s hk hc h0 ⟨fuel', by simpa [Value.cells] using h1⟩
  refine ⟨a, len, cap, css, h2 _ rfl, g1, by rw [g1.1]; exact hlen, fun c hc => ?_⟩
  obtain ⟨e1, n2, x2, e2, e3⟩ := g2 c hc
  exact ⟨e1, n2, x2, e2, fun k hk2 => hw _ (h3 _ (e3 k hk2))⟩
namespace Edge
def InOb (W : World) (o : Ob) (ev pv : Value) : Prop := ObSz o ∧ ObIn W o ev pv
theorem str_of {s : ByteArray} {n : Nat} (h : s.size ≤ n) : s = strOf s.data.toList ∧ s.data.toList.length ≤ n := ⟨(strOf_self s).symm, by rw [Array.length_toList]; exact h⟩
theorem in_ob {H : Type} {enc : TypeId × Value → H} {W : World} {r : Reach} {base b0 : Nat} {spare : Nat → Bool} {held : Bool} {v : Value} {d : DataW H} {p : List MemPlace} (hval : Value.okWide Try.prog W r b0 25 v)
    (h : DataW.Trod enc Try.prog W base spare held 25 v d p) (hw : ∀ n ∈ d.weights Try.prog 25, n ≤ reachBytes) : ∃ o ev pv, v = .agg (obV o ev pv).toArray ∧ InOb W o ev pv := by
  obtain ⟨cs, rfl, hsz⟩ := okWide_struct Try.underlying25 hval
  have hsz2 : cs.size = 10 := hsz.trans (by kernel_rfl)
  obtain ⟨fuel, hf⟩ := h
  obtain ⟨k, e0, _⟩ := leaf_int (n := 3) (off := 0) (t' := 3) (k := .i64) (by kernel_rfl) Try.underlying3 hf
  obtain ⟨s1, e1, w1⟩ := leaf_string_sized (n := 3) (off := 1) (t' := 9) (by kernel_rfl) Try.underlying9 hf hw
  obtain ⟨a2, l2, c2, css2, e2, f2, m2, g2⟩ := leaf_slice (n := 3) (off := 2) (t' := 22) 3 (by kernel_rfl) Try.underlying22 (by kernel_rfl) (by decide) (of_decide_eq_true (by kernel_rfl)) hf hw
  obtain ⟨s3, e3, w3⟩ := leaf_string_sized (n := 3) (off := 3) (t' := 9) (by kernel_rfl) Try.underlying9 hf hw
  obtain ⟨a4, l4, c4, css4, e4, f4, m4, g4⟩ := leaf_slice (n := 3) (off := 4) (t' := 23) 1 (by kernel_rfl) Try.underlying23 (by kernel_rfl) (by decide) (of_decide_eq_true (by kernel_rfl)) hf hw
  obtain ⟨s5, e5, w5⟩ := leaf_string_sized (n := 3) (off := 5) (t' := 9) (by kernel_rfl) Try.underlying9 hf hw
  obtain ⟨k6, e6, _⟩ := leaf_int (n := 3) (off := 6) (t' := 3) (k := .i64) (by kernel_rfl) Try.underlying3 hf
  obtain ⟨s7, e7, w7⟩ := leaf_string_sized (n := 3) (off := 7) (t' := 9) (by kernel_rfl) Try.underlying9 hf hw
  obtain ⟨s8, e8, w8⟩ := leaf_string_sized (n := 3) (off := 8) (t' := 9) (by kernel_rfl) Try.underlying9 hf hw
  obtain ⟨k9, e9, _⟩ := leaf_int (n := 3) (off := 9) (t' := 3) (k := .i64) (by kernel_rfl) Try.underlying3 hf
  obtain ⟨es, rfl, q2⟩ := list_of (f := entV) (p := fun x => x.n.length ≤ 140737488351232 ∧ x.i.length ≤ 140737488351232) css2 (fun c hc => by
    obtain ⟨hl, n, x, hx, hxw⟩ := g2 c hc
    obtain ⟨y0, b0, _⟩ := leaf_int (n := 2) (off := 0) (t' := 3) (k := .i64) (by kernel_rfl) Try.underlying3 hx
    obtain ⟨y1, b1, v1⟩ := leaf_string_sized (n := 2) (off := 1) (t' := 9) (by kernel_rfl) Try.underlying9 hx hxw
    obtain ⟨y2, b2, v2⟩ := leaf_string_sized (n := 2) (off := 2) (t' := 9) (by kernel_rfl) Try.underlying9 hx hxw
    refine ⟨⟨y0, y1.data.toList, y2.data.toList⟩, ?_, (str_of v1).2, (str_of v2).2⟩
    match c, hl with
    | [c0, c1, c2], _ =>
      simp at b0 b1 b2
      unfold entV
      rw [← (str_of v1).1, ← (str_of v2).1, b0, b1, b2])
  obtain ⟨ps, rfl, q4⟩ := list_of (f := sV) (p := fun x => x.length ≤ 140737488351232) css4 (fun c hc => by
    obtain ⟨hl, n, x, hx, hxw⟩ := g4 c hc
    obtain ⟨y1, b1, v1⟩ := leaf_string_sized (n := 2) (off := 0) (t' := 9) (by kernel_rfl) Try.underlying9 hx hxw
    refine ⟨y1.data.toList, ?_, (str_of v1).2⟩
    match c, hl with
    | [c0], _ =>
      simp at b1
      unfold sV
      rw [← (str_of v1).1, b1])
  refine ⟨⟨k, s1.data.toList, es, s3.data.toList, ps, s5.data.toList, k6, s7.data.toList, s8.data.toList, k9⟩, .slice a2 l2 c2, .slice a4 l4 c4, ?_, ?_, ?_⟩
  · unfold obV
    simp only [strOf_self]
    congr 1
    simp only [Value.cells] at e0 e1 e2 e3 e4 e5 e6 e7 e8 e9
    apply Array.ext'
    obtain ⟨l⟩ := cs
    simp only [List.size_toArray] at hsz2
    match l, hsz2 with
    | [z0, z1, z2, z3, z4, z5, z6, z7, z8, z9], _ =>
      simp at e0 e1 e2 e3 e4 e5 e6 e7 e8 e9
      subst e0 e1 e2 e3 e4 e5 e6 e7 e8 e9
      rfl
  · exact ⟨(str_of w1).2, (str_of w3).2, (str_of w5).2, (str_of w7).2, (str_of w8).2, by rw [List.length_map] at m2; exact m2, by rw [List.length_map] at m4; exact m4, q2, q4⟩
  · exact ⟨f2.rd (fun c hc => (g2 c hc).1), f4.rd (fun c hc => (g4 c hc).1)⟩
end Edge
end Go.Proofs.Ytdjkcolceccclaa
