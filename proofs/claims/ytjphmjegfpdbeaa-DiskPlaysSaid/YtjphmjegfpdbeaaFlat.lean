/- Arguments opened: structs of any shape, and slices of them, as cells. No condition. -/
import Derived.Test.YtjphmjegfpdbeaaBuf
import Derived.OpenShut
import Derived.Deep.Slices
import Derived.SizedLaws
namespace Go.Proofs.Ytjphmjegfpdbeaa
open Go.RowKit Go.ChangeShapes Go.WideShapes Go.Deep

section
variable {H : Type} {enc : TypeId × Value → H} {P : Program} {W : World} {base : Nat} {spare : Nat → Bool} {held : Bool}
/-- The type of the cell at a place within a value. -/
def leafAt (P : Program) : Nat → TypeId → Nat → Option TypeId
  | 0, _, _ => none
  | n + 1, t, off =>
    match P.underlying t with
    | some (.struct fs) =>
      match fs.findIdx? (fun f => decide (f.offset ≤ off ∧ off < f.offset + P.cellsOf f.type)) with
      | some i => match fs[i]? with
        | some f => leafAt P n f.type (off - f.offset)
        | none => none
      | none => none
    | _ => if off = 0 then some t else none
theorem leaf_trod : ∀ (n : Nat) (t : TypeId) (off : Nat) (t' : TypeId) (fuel : Nat) (cs : List Value) (x : DataW H × List MemPlace), leafAt P n t off = some t' → DataW.trod enc P W base spare held fuel t cs = some x →
    ∃ fuel' c y, DataW.trod enc P W base spare held fuel' t' c = some y ∧ (∀ v, c = [v] → cs[off]? = some v) ∧ ∀ n ∈ y.1.weights P t', n ∈ x.1.weights P t
  | 0, _, _, _, _, _, _, h, _ => by simp [leafAt] at h
  | n + 1, t, off, t', fuel, cs, x, h, hx => by
    unfold leafAt at h
    split at h
    · rename_i fs hu
      split at h
      · rename_i i hi
        split at h
        · rename_i f hf
          have hp : f.offset ≤ off ∧ off < f.offset + P.cellsOf f.type := by
            obtain ⟨h1, h2, _⟩ := Array.findIdx?_eq_some_iff_getElem.1 hi
            have : fs[i] = f := by
              rw [Array.getElem?_eq_getElem h1] at hf
              exact Option.some.inj hf
            rw [this] at h2
            simpa using h2
          obtain ⟨ys, m, _, rfl, hl, hyl, hy⟩ := DataW.trod_struct hu hx
          have h1 := hy i f hf
          have hil : i < ys.length := by
            have := (Array.getElem?_eq_some_iff.1 hf).1
            omega
          rw [List.getElem?_eq_getElem hil] at h1
          obtain ⟨fuel', c, y, h2, h3, h5⟩ := leaf_trod n _ _ _ _ _ _ h h1
          refine ⟨fuel', c, y, h2, fun v hv => ?_, fun n hn => ?_⟩
          · have h4 := h3 v hv
            rw [List.getElem?_take_of_lt (by omega), List.getElem?_drop, show f.offset + (off - f.offset) = off by omega] at h4
            exact h4
          · simp only [DataW.weights, hu]
            refine DataW.weights_mem_each (j := i) (t := f.type) (d := (ys[i]).1) ?_ ?_ n (h5 n hn)
            · rw [List.getElem?_map, Array.getElem?_toList, hf]; rfl
            · rw [List.getElem?_map, List.getElem?_eq_getElem hil]; rfl
        · cases h
      · cases h
    · split at h
      · rename_i h0
        cases h
        exact ⟨fuel, cs, x, hx, fun v hv => by rw [hv, h0]; rfl, fun n hn => hn⟩
      · cases h
theorem leaf_int {n : Nat} {t : TypeId} {off : Nat} {t' : TypeId} {k : IntKind} {fuel : Nat} {cs : List Value} {x : DataW H × List MemPlace} (h : leafAt P n t off = some t') (hk : P.underlying t' = some (.int k)) (hx : DataW.trod enc P W base spare held fuel t cs = some x) :
    ∃ z : Int, cs[off]? = some (.int k z) ∧ (Lit.int k z).wf = true := by
  obtain ⟨fuel', c, y, h1, h2, h3⟩ := leaf_trod n t off t' fuel cs x h hx
  obtain ⟨z, e1, _, hw⟩ := DataW.trod_int hk h1
  exact ⟨z, h2 _ e1, hw⟩
theorem leaf_string {n : Nat} {t : TypeId} {off : Nat} {t' : TypeId} {fuel : Nat} {cs : List Value} {x : DataW H × List MemPlace} (h : leafAt P n t off = some t') (hk : P.underlying t' = some .string) (hx : DataW.trod enc P W base spare held fuel t cs = some x) :
    ∃ s : ByteArray, cs[off]? = some (.string s) ∧ s.size ≤ maxLen := by
  obtain ⟨fuel', c, y, h1, h2, h3⟩ := leaf_trod n t off t' fuel cs x h hx
  obtain ⟨s, e1, _, hw⟩ := DataW.trod_string hk h1
  exact ⟨s, h2 _ e1, by simpa [Lit.wf] using hw⟩
theorem leaf_string_sized {n : Nat} {t : TypeId} {off : Nat} {t' : TypeId} {fuel : Nat} {cs : List Value} {x : DataW H × List MemPlace} (h : leafAt P n t off = some t') (hk : P.underlying t' = some .string) (hx : DataW.trod enc P W base spare held fuel t cs = some x) (hw : ∀ n ∈ x.1.weights P t, n ≤ reachBytes) :
    ∃ s : ByteArray, cs[off]? = some (.string s) ∧ s.size ≤ reachBytes := by
  obtain ⟨fuel', c, y, h1, h2, h3⟩ := leaf_trod n t off t' fuel cs x h hx
  obtain ⟨s, e1, e2, _⟩ := DataW.trod_string hk h1
  refine ⟨s, h2 _ e1, hw _ (h3 _ ?_)⟩
  subst e2
  simp [DataW.weights]
theorem leaf_bool {n : Nat} {t : TypeId} {off : Nat} {t' : TypeId} {fuel : Nat} {cs : List Value} {x : DataW H × List MemPlace} (h : leafAt P n t off = some t') (hk : P.underlying t' = some .bool) (hx : DataW.trod enc P W base spare held fuel t cs = some x) :
    ∃ b : Bool, cs[off]? = some (.bool b) := by
  obtain ⟨fuel', c, y, h1, h2, h3⟩ := leaf_trod n t off t' fuel cs x h hx
  obtain ⟨s, e1, _⟩ := DataW.trod_bool hk h1
  exact ⟨s, h2 _ e1⟩
theorem list_of {α β : Type} {f : β → α} {p : β → Prop} : ∀ (l : List α), (∀ a ∈ l, ∃ b, a = f b ∧ p b) → ∃ m : List β, l = m.map f ∧ ∀ b ∈ m, p b
  | [], _ => ⟨[], rfl, by simp⟩
  | a :: l, h => by
    obtain ⟨b, e, hb⟩ := h a (by simp)
    obtain ⟨m, em, hm⟩ := list_of l (fun a ha => h a (by simp [ha]))
    exact ⟨b :: m, by rw [e, em]; rfl, by simpa using ⟨hb, hm⟩⟩
theorem flat_at {α : Type} (s : Nat) : ∀ (css : List (List α)) (i j : Nat), (∀ c ∈ css, c.length = s) → j < s → css.flatten[i * s + j]? = css[i]?.bind (·[j]?)
  | [], i, j, _, _ => by simp
  | c :: css, 0, j, h, hj => by
    have := h c (by simp)
    simp [List.getElem?_append_left (show j < c.length by omega)]
  | c :: css, i + 1, j, h, hj => by
    have hc := h c (by simp)
    rw [List.flatten_cons, List.getElem?_append_right (by rw [hc, Nat.add_mul, Nat.one_mul]; omega), hc, show (i + 1) * s + j - s = i * s + j by rw [Nat.add_mul, Nat.one_mul]; omega, flat_at s css i j (fun c hc => h c (by simp [hc])) hj]
    rfl
/-- A slice that came in: the cells of its elements, one behind the other. -/
def InFlat (W : World) (a : Option Addr) (len cap : Nat) (css : List (List Value)) : Prop :=
  css.length = len ∧ len ≤ cap ∧ cap ≤ maxLen ∧ Row W a css.flatten ∧ (∀ j ∈ own (.slice a 0 0), j < W.heap.size ∨ css.flatten = [])
theorem weights_all_mem {e : TypeId} : ∀ {l : List (DataW H)} {d : DataW H}, d ∈ l → ∀ n ∈ d.weights P e, n ∈ DataW.weightsAll P e l
  | d' :: r, d, hd, n, hn => by
    simp only [DataW.weightsAll, List.mem_append]
    rcases List.mem_cons.1 hd with rfl | h
    · exact Or.inl hn
    · exact Or.inr (weights_all_mem h n hn)
theorem in_flat {t e : TypeId} {a : Option Addr} {len cap : Nat} {d : DataW H} {p : List MemPlace} (s : Nat) (ht : P.underlying t = some (.slice e)) (hc : P.cellsOf e = s) (h0 : 0 < s)
    (h : DataW.Trod enc P W base spare held t (.slice a len cap) d p) : ∃ css, InFlat W a len cap css ∧ ∀ c ∈ css, c.length = s ∧ ∃ n x, DataW.trod enc P W base spare held n e c = some x ∧ ∀ k ∈ x.1.weights P e, k ∈ d.weights P t := by
  obtain ⟨fuel, hf⟩ := h
  rcases open_slice ht hf with ⟨hcs, hx⟩ | ⟨a', len', cap', m, n, D, Pl, hcs, hb, hl, hm, hmm, hx, hi⟩
  · simp [Value.cells] at hcs
    obtain ⟨rfl, rfl, rfl⟩ := hcs
    exact ⟨[], ⟨rfl, Nat.le_refl _, Nat.zero_le _, Row.nil _ _, by simp [own]⟩, by simp⟩
  · simp [Value.cells] at hcs
    obtain ⟨rfl, rfl, rfl⟩ := hcs
    have hlm : len ≤ m := by rw [hmm]; split <;> omega
    rw [hc] at hi
    have each : ∀ i, ∃ c, i < m → W.cells? base (a'.add (i * s)) s = some c ∧ DataW.trod enc P W base spare held n e c = some (D i, Pl i) := by
      intro i
      by_cases him : i < m
      · obtain ⟨c, h1⟩ := hi i him
        exact ⟨c, fun _ => h1⟩
      · exact ⟨[], fun h => absurd h him⟩
    have ⟨f, hfe⟩ := Classical.axiomOfChoice each
    have hfl : ∀ i, i < len → (f i).length = s := fun i hi' => (World.cells?_some (hfe i (by omega)).1).2.1
    have hall : ∀ c ∈ (List.range len).map f, c.length = s ∧ ∃ n x, DataW.trod enc P W base spare held n e c = some x ∧ ∀ k ∈ x.1.weights P e, k ∈ d.weights P t := by
      intro c hc'
      obtain ⟨i, hi', rfl⟩ := List.mem_map.1 hc'
      have hil := List.mem_range.1 hi'
      refine ⟨hfl i hil, n, _, (hfe i (by omega)).2, fun k hk => ?_⟩
      obtain ⟨hd1, _⟩ := Prod.mk.inj hx
      subst hd1
      simp only [DataW.weights, ht, List.mem_cons, List.mem_append]
      exact .inr (.inl (weights_all_mem (List.mem_map.2 ⟨i, List.mem_range.2 hil, rfl⟩) _ hk))
    refine ⟨(List.range len).map f, ⟨by simp, hl, hm, ?_, ?_⟩, hall⟩
    · rcases Nat.eq_zero_or_pos len with hz | hz
      · subst hz; exact Row.nil _ _
      · obtain ⟨b, off, spot⟩ := a'
        have h00 := (World.cells?_some (hfe 0 (by omega)).1).2.2 0 h0
        have hv0 : ∃ v, (f 0)[0]? = some v := ⟨_, List.getElem?_eq_getElem (by rw [hfl 0 hz]; omega)⟩
        obtain ⟨v0, hv0⟩ := hv0
        rw [hv0] at h00
        have hspot : spot = none := by simpa [Addr.add] using World.cell?_spot h00
        subst hspot
        refine .inr ⟨b, off, rfl, fun j v hv => ?_⟩
        have hjl : j < len * s := by
          have h1 := (List.getElem?_eq_some_iff.1 hv).1
          have h2 : ((List.range len).map f).flatten.length = len * s := by
            rw [List.length_flatten, List.map_map]
            have : (List.range len).map (List.length ∘ f) = List.replicate len s := by
              apply List.eq_replicate_iff.2
              refine ⟨by simp, fun b hb' => ?_⟩
              obtain ⟨i, hi', rfl⟩ := List.mem_map.1 hb'
              exact hfl i (List.mem_range.1 hi')
            rw [this]; simp
          omega
        have hq : j / s < len := Nat.div_lt_of_lt_mul (by rw [Nat.mul_comm]; exact hjl)
        have hjs : j / s * s + j % s = j := by rw [Nat.mul_comm]; exact Nat.div_add_mod j s
        have h1 := (World.cells?_some (hfe (j / s) (by omega)).1).2.2 (j % s) (Nat.mod_lt _ h0)
        have h2 := flat_at s _ (j / s) (j % s) (fun c hc' => (hall c hc').1) (Nat.mod_lt _ h0)
        rw [hjs, hv, List.getElem?_map, List.getElem?_range hq] at h2
        simp at h2
        rw [Addr.add_lit, Addr.add_lit] at h1
        rw [← hjs, ← Nat.add_assoc, h1, ← h2]
    · intro j hj
      simp [own] at hj
      subst hj
      rcases Nat.eq_zero_or_pos len with hz | hz
      · subst hz; exact .inr rfl
      · obtain ⟨b, off, spot⟩ := a'
        have h00 := (World.cells?_some (hfe 0 (by omega)).1).2.2 0 h0
        rw [List.getElem?_eq_getElem (by rw [hfl 0 hz]; omega)] at h00
        have h01 := World.block_lt_of_cell? _ _ h00
        exact .inl (by simpa [Addr.add] using h01)
end
end Go.Proofs.Ytjphmjegfpdbeaa
