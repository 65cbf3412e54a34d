/- The shelf's words for rows (Holds, putRow, ahead, grow), for slices of one-cell elements. No condition. -/
import Derived.Test.YtjphmjegfpdbeaaRd
import Derived.Sort.Grow
import Derived.Sort.EncStr
namespace Go.Proofs.Ytjphmjegfpdbeaa
open Go.RowKit
set_option linter.unusedSimpArgs false
set_option linter.unusedVariables false
def tV (s : List UInt8) : Value := .string (strOf s)
theorem tV_enc : (tV : List UInt8 → Value) = encStr := rfl
theorem tV_one (l : List (List UInt8)) : ∀ u ∈ l.map tV, u.oneCell' = true := by
  intro u hu
  obtain ⟨s, _, rfl⟩ := List.mem_map.1 hu
  rfl
theorem tV_rows (l : List (List UInt8)) : (l.map tV).map (fun x => [x]) = l.map sV := by rw [List.map_map]; rfl
theorem tV_inj {s t : List UInt8} (h : tV s = tV t) : s = t := by
  unfold tV strOf at h
  simpa using h
theorem ext_ahead (w : World) (n : Nat) : Ext w (Sort.ahead w n) := ⟨rfl, rfl, rfl, Nat.le_refl _, fun k hk => rfl⟩
theorem ext_growA (w : World) (os : Array Obj) : Ext w (Sort.grow w os) := ⟨rfl, rfl, rfl, by simp, fun k hk => Sort.heap_grow_old _ _ hk⟩
theorem Buf.holds {α : Type} [Inhabited α] {w : World} {B : Nat} {e : TypeId} {b off n cap : Nat} {l : List α} (enc : α → Value) (h : Buf w B e (.slice (some ⟨b, off, none⟩) n cap) (l.map enc)) : Sort.Holds enc w b off l.toArray := by
  obtain ⟨A', cap', he, h1, h2, h3, h4⟩ := h
  injection he with e1 e2 e3
  subst e1 e3
  intro j hj
  simp only [List.size_toArray] at hj
  rcases h4 with h4 | ⟨b', off', cs, he, hb, h5, h6⟩
  · rw [List.length_map] at h1; omega
  · injection he with he
    injection he with e1 e2
    subst e1 e2
    rw [List.length_map] at h1 h6
    refine ⟨?_, hb.free _ (by omega)⟩
    rw [hb.cell]
    have h7 : (l.map enc)[j]? = cs[off + j]? := by rw [← h6, List.getElem?_take_of_lt hj, List.getElem?_drop]
    rw [← h7, List.getElem?_map, List.getElem?_eq_getElem hj]
    simp [hj]
theorem Buf.putRow {α : Type} [Inhabited α] {w : World} {B : Nat} {e : TypeId} {b off n cap : Nat} {xs : List Value} (h : Buf w B e (.slice (some ⟨b, off, none⟩) n cap) xs) (h0 : 0 < xs.length) (enc : α → Value) (d : List α) (hd : d.length = xs.length) :
    Buf (Sort.putRow enc w b off d.toArray) B e (.slice (some ⟨b, off, none⟩) n cap) (d.map enc) ∧ Touch [b] w (Sort.putRow enc w b off d.toArray) := by
  have hT : Touch [b] w (Sort.putRow enc w b off d.toArray) := by
    refine ⟨rfl, rfl, rfl, by simp [Sort.putRow, Sort.mapBlock], fun k hk hn => ?_⟩
    simp only [Sort.putRow, Sort.mapBlock, Array.getElem?_modify]
    rw [if_neg (fun hh => hn (by simp [hh]))]
  refine ⟨?_, hT⟩
  obtain ⟨A', cap', he, h1, h2, h3, h4⟩ := h
  injection he with e1 e2 e3
  subst e1 e3
  rcases h4 with h4 | ⟨b', off', cs, he, hb, h5, h6⟩
  · omega
  · injection he with he
    injection he with e1 e2
    subst e1 e2
    obtain ⟨fz, hh, hf⟩ := hb
    have hcs : ∃ cs', cs' = (Sort.putCells enc off d.toArray cs.toArray).toList := ⟨_, rfl⟩
    obtain ⟨cs', hcs'⟩ := hcs
    have hlen : cs'.length = cs.length := by rw [hcs']; simp [Sort.putCells]
    refine ⟨_, _, by rw [e2, List.length_map, hd], by rw [List.length_map, hd]; exact h1, h2, fun j hj => ⟨(h3 j hj).1, Nat.lt_of_lt_of_le (h3 j hj).2 hT.size⟩, .inr ⟨b, off, cs', rfl, ⟨fz, ?_, fun j hj => hf j (by omega)⟩, by omega, ?_⟩⟩
    · simp only [Sort.putRow, Sort.mapBlock, Array.getElem?_modify, if_true, hh, Option.map_some, Sort.onCells]
      rw [hcs', Array.toArray_toList]
    · apply List.ext_getElem?
      intro j
      by_cases hj : j < d.length
      · rw [List.length_map, List.getElem?_take_of_lt hj, List.getElem?_drop, hcs']
        rw [Array.getElem?_toList]
        simp only [Sort.putCells, Array.getElem?_mapIdx, List.getElem?_toArray, List.size_toArray]
        rw [List.getElem?_eq_getElem (show off + j < cs.length by omega), List.getElem?_map, List.getElem?_eq_getElem hj]
        simp only [Option.map_some]
        rw [if_pos (by omega), show off + j - off = j by omega]
        simp [hj]
      · rw [List.getElem?_eq_none (by rw [List.length_take, List.length_map]; omega), List.getElem?_eq_none (by rw [List.length_map]; omega)]
end Go.Proofs.Ytjphmjegfpdbeaa
