/- Arguments opened: an array of whole numbers; a slice of strings. No condition. -/
import Derived.Test.YtjfacolnlbfpmaaBuf
import Derived.SliceStrings
import Derived.OpenShut
namespace Go.Proofs.Ytjfacolnlbfpmaa
open Go.RowKit Go.ChangeShapes Go.WideShapes

section
variable {H : Type} {enc : TypeId × Value → H} {P : Program} {W : World} {base : Nat} {spare : Nat → Bool} {held : Bool}
theorem in_arr {r : Reach} {b0 t e n : Nat} {k : IntKind} {v : Value} {d : DataW H} {p : List MemPlace} (ht : P.underlying t = some (.array n e)) (he : P.underlying e = some (.int k)) (hc : P.cellsOf e = 1) (hct : P.cellsOf t = n)
    (hval : Value.okWide P W r b0 t v) (h : DataW.Trod enc P W base spare held t v d p) : ∃ xs : List Int, v = .agg (numsV k xs).toArray ∧ xs.length = n ∧ ∀ x ∈ xs, (Lit.int k x).wf = true := by
  obtain ⟨cs, rfl, hsz, _⟩ : ∃ cs, v = .agg cs ∧ cs.size = P.cellsOf t ∧ Row.okWide P W r b0 t cs := by
    simpa [Value.okWide, ht] using hval
  obtain ⟨fuel, hf⟩ := h
  obtain ⟨ys, m, rfl, hx, hl, hyl, hy⟩ := DataW.trod_array ht hf
  rw [hct] at hsz
  have each : ∀ i (hi : i < cs.size), ∃ x, cs[i] = .int k x ∧ (Lit.int k x).wf = true := by
    intro i hi
    have h1 := hy i (by omega)
    rw [hc, Nat.mul_one, List.getElem?_eq_getElem (by omega)] at h1
    have h2 : ((Value.agg cs).cells.toList.drop i).take 1 = [cs[i]] := by
      simp only [Value.cells]
      rw [List.drop_eq_getElem_cons (by simpa using hi)]
      simp
    rw [h2] at h1
    obtain ⟨x, e1, _, hw⟩ := DataW.trod_int he h1
    simp at e1
    exact ⟨x, e1, hw⟩
  have hcs : cs.toList = numsV k (cs.toList.map fun v => match v with | .int _ x => x | _ => 0) := by
    apply List.ext_getElem
    · simp [numsV]
    · intro i h1 h2
      obtain ⟨x, e1, _⟩ := each i (by simpa using h1)
      simp [numsV, e1]
  refine ⟨cs.toList.map fun v => match v with | .int _ x => x | _ => 0, by rw [← hcs], by simp [hsz], ?_⟩
  intro x hx
  obtain ⟨v, hv, rfl⟩ := List.mem_map.1 hx
  obtain ⟨i, hi, rfl⟩ := List.mem_iff_getElem.1 hv
  obtain ⟨x, e1, hw⟩ := each i (by simpa using hi)
  simpa [e1] using hw
/-- A slice of strings that came in. -/
def InStrs (W : World) (a : Option Addr) (len cap : Nat) (zs : List ByteArray) : Prop :=
  zs.length = len ∧ len ≤ cap ∧ cap ≤ maxLen ∧ Row W a (zs.map strV) ∧ (∀ s ∈ zs, s.size ≤ maxLen) ∧ (∀ j ∈ own (.slice a 0 0), j < W.heap.size ∨ zs = [])
theorem in_strs {t e : TypeId} {a : Option Addr} {len cap : Nat} {d : DataW H} {p : List MemPlace} (ht : P.underlying t = some (.slice e)) (he : P.underlying e = some .string) (hc : P.cellsOf e = 1)
    (h : DataW.Trod enc P W base spare held t (.slice a len cap) d p) : ∃ zs, InStrs W a len cap zs := by
  obtain ⟨fuel, hf⟩ := h
  rcases open_strings ht he hc hf with ⟨hcs, hx⟩ | ⟨a', len', cap', ss, hcs, _, hl, hm, hz, hx, hcell, hws⟩
  · simp [Value.cells] at hcs
    obtain ⟨rfl, rfl, rfl⟩ := hcs
    exact ⟨[], rfl, Nat.le_refl _, Nat.zero_le _, Row.nil _ _, by simp, by simp [own]⟩
  · simp [Value.cells] at hcs
    obtain ⟨rfl, rfl, rfl⟩ := hcs
    have hle : len ≤ ss.length := by rw [hz]; split <;> omega
    have hlen : (ss.take len).length = len := by rw [List.length_take]; omega
    rcases Nat.eq_zero_or_pos len with h0 | h0
    · subst h0
      exact ⟨[], rfl, hl, hm, Row.nil _ _, by simp, fun _ _ => .inr rfl⟩
    obtain ⟨b, off, spot⟩ := a'
    have hspot : spot = none := by simpa [Addr.add] using World.cell?_spot (hcell 0 (by omega))
    subst hspot
    refine ⟨ss.take len, hlen, hl, hm, .inr ⟨b, off, rfl, fun j v hv => ?_⟩, fun s hs => hws s (List.mem_of_mem_take hs), ?_⟩
    · have hj : j < len := by
        have := (List.getElem?_eq_some_iff.1 hv).1
        rwa [List.length_map, hlen] at this
      have h1 := hcell j (by omega)
      rw [Addr.add_lit] at h1
      rw [h1]
      rw [List.getElem?_map, List.getElem?_take_of_lt hj, List.getElem?_eq_getElem (by omega)] at hv
      simp [strV] at hv
      rw [← hv]
      simp [List.getD_eq_getElem?_getD, List.getElem?_eq_getElem (show j < ss.length by omega)]
    · intro j hj
      simp [own] at hj
      subst hj
      exact .inl (World.block_lt_of_cell? _ _ (hcell 0 (by omega)))
end
end Go.Proofs.Ytjfacolnlbfpmaa
