/- One word for a slice that reads as rows of cells, whoever made it. No condition. -/
import Derived.Test.YtjphmjegfpdbeaaBufS
import Derived.Test.YtjphmjegfpdbeaaFlat
namespace Go.Proofs.Ytjphmjegfpdbeaa
open Go.RowKit Go.ChangeShapes Go.WideShapes
set_option linter.unusedSimpArgs false
set_option linter.unusedVariables false
/-- The slice v reads these rows, of s cells each. -/
def Rd (s : Nat) (w : World) (v : Value) (css : List (List Value)) : Prop :=
  ∃ A cap, v = .slice A css.length cap ∧ css.length ≤ cap ∧ cap ≤ maxLen ∧ (∀ c ∈ css, c.length = s) ∧ Row w A css.flatten
theorem Rd.ext {s : Nat} {w w' : World} {v : Value} {css : List (List Value)} (h : Rd s w v css) (k : Ext w w') : Rd s w' v css := by
  obtain ⟨A, cap, h1, h2, h3, h4, h5⟩ := h
  exact ⟨A, cap, h1, h2, h3, h4, h5.ext k⟩
theorem Rd.nil (s : Nat) (w : World) : Rd s w (.slice none 0 0) [] := ⟨none, 0, rfl, Nat.le_refl _, Nat.zero_le _, by simp, Row.nil _ _⟩
theorem Rd.form {s : Nat} {w : World} {v : Value} {css : List (List Value)} (h : Rd s w v css) : ∃ A cap, v = .slice A css.length cap := by
  obtain ⟨A, cap, h1, _⟩ := h
  exact ⟨A, cap, h1⟩
theorem Rd.le {s : Nat} {w : World} {v : Value} {css : List (List Value)} (h : Rd s w v css) : css.length ≤ 9223372036854775807 := by
  obtain ⟨A, cap, h1, h2, h3, _⟩ := h
  simp only [maxLen] at h3
  omega
theorem Rd.at {s : Nat} {w : World} {A : Option Addr} {n cap : Nat} {css : List (List Value)} (h : Rd s w (.slice A n cap) css) (hs : 0 < s) {i : Nat} (hi : i < css.length) :
    ∃ b off, A = some ⟨b, off, none⟩ ∧ b < w.heap.size ∧ ∀ j u, css[i]?.bind (·[j]?) = some u → w.cell? ⟨b, off + i * s + j, none⟩ = some u := by
  obtain ⟨A', cap', he, h1, h2, h3, h4⟩ := h
  injection he with e1 e2 e3
  subst e1 e3
  have hfl : css.flatten.length = css.length * s := flat_len h3
  have h0 : 0 < css.flatten.length := by
    rw [hfl]; exact Nat.mul_pos (by omega) hs
  obtain ⟨b, off, rfl, hc⟩ := h4.at h0
  refine ⟨b, off, rfl, ?_, fun j u hu => ?_⟩
  · exact World.block_lt_of_cell? _ _ (hc 0 _ (List.getElem?_eq_getElem h0))
  · obtain ⟨c, hcc, hj⟩ := Option.bind_eq_some_iff.1 hu
    have hjs : j < s := by rw [← h3 c (List.mem_of_getElem? hcc)]; exact (List.getElem?_eq_some_iff.1 hj).1
    rw [← flat_at s css i j h3 hjs] at hu
    rw [Nat.add_assoc]
    exact hc _ _ hu
theorem BufS.rd {s : Nat} {w : World} {B : Nat} {e : TypeId} {v : Value} {css : List (List Value)} (h : BufS s w B e v css) : Rd s w v css := by
  obtain ⟨A, cap, rfl, h1, h2, h3, h4, h5⟩ := h
  refine ⟨A, cap, rfl, h1, h2, h3, ?_⟩
  rcases h5 with h5 | ⟨b, off, cs, rfl, hb, h6, h7⟩
  · have : css = [] := List.eq_nil_of_length_eq_zero (by omega)
    subst this
    exact Row.nil _ _
  · refine .inr ⟨b, off, rfl, fun j u hu => ?_⟩
    have hlt : j < css.length * s := by rw [← flat_len h3]; exact (List.getElem?_eq_some_iff.1 hu).1
    rw [hb.cell]
    rw [← h7, List.getElem?_take_of_lt hlt, List.getElem?_drop] at hu
    exact hu
theorem flat_one1 (xs : List Value) : (xs.map fun x => [x]).flatten = xs := by
  induction xs with
  | nil => rfl
  | cons x xs ih => rw [List.map_cons, List.flatten_cons, ih]; rfl
theorem Buf.rd {w : World} {B : Nat} {e : TypeId} {v : Value} {xs : List Value} (h : Buf w B e v xs) : Rd 1 w v (xs.map fun x => [x]) := by
  obtain ⟨A, cap, rfl, h1, h2, h3, h4⟩ := h
  refine ⟨A, cap, by rw [List.length_map], by rw [List.length_map]; exact h1, h2, ?_, ?_⟩
  · intro c hc
    obtain ⟨x, _, rfl⟩ := List.mem_map.1 hc
    rfl
  · rw [flat_one1]
    rcases h4 with h4 | ⟨b, off, cs, rfl, hb, h5, h6⟩
    · have : xs = [] := List.eq_nil_of_length_eq_zero (by omega)
      subst this
      exact Row.nil _ _
    · refine .inr ⟨b, off, rfl, fun j u hu => ?_⟩
      have hlt := (List.getElem?_eq_some_iff.1 hu).1
      rw [hb.cell]
      rw [← h6, List.getElem?_take_of_lt hlt, List.getElem?_drop] at hu
      exact hu
theorem InFlat.rd {W : World} {a : Option Addr} {len cap : Nat} {css : List (List Value)} {s : Nat} (h : InFlat W a len cap css) (hs : ∀ c ∈ css, c.length = s) : Rd s W (.slice a len cap) css := by
  obtain ⟨h1, h2, h3, h4, h5⟩ := h
  subst h1
  exact ⟨a, cap, rfl, h2, h3, hs, h4⟩
/-- A row of a typed list. -/
theorem Rd.get {α : Type} {f : α → List Value} {s : Nat} {w : World} {A : Option Addr} {n cap : Nat} {l : List α} (h : Rd s w (.slice A n cap) (l.map f)) (hs : 0 < s) {i : Nat} (hi : i < l.length) :
    ∃ b off, A = some ⟨b, off, none⟩ ∧ b < w.heap.size ∧ ∀ j u, (f l[i])[j]? = some u → w.cell? ⟨b, off + i * s + j, none⟩ = some u := by
  obtain ⟨b, off, h1, h2, h3⟩ := h.at hs (i := i) (by rw [List.length_map]; exact hi)
  exact ⟨b, off, h1, h2, fun j u hu => h3 j u (by rw [List.getElem?_map, List.getElem?_eq_getElem hi]; exact hu)⟩
/-- A row to be appended. -/
theorem Rd.src {P : Program} {s : Nat} {w : World} {tx e' : TypeId} {A : Option Addr} {n cap : Nat} {css : List (List Value)} (h : Rd s w (.slice A n cap) css) (hs : 0 < s) (hk : P.underlying tx = some (.slice e')) (h1 : ∀ u ∈ css.flatten, u.oneCell' = true) : Src P s tx (.slice A n cap) n css.flatten w := by
  obtain ⟨A', cap', he, h2, h3, h4, h5⟩ := h
  injection he with e1 e2 e3
  subst e1 e2 e3
  rcases h5 with h5 | ⟨b, off, rfl, hc⟩
  · have hcss : css = [] := by
      cases css with
      | nil => rfl
      | cons c r =>
        exfalso
        have := h4 c (by simp)
        rw [List.flatten_cons, List.append_eq_nil_iff] at h5
        rw [h5.1] at this
        simp at this
        omega
    subst hcss
    cases A with
    | none => exact Src.ofNil w hk cap
    | some a => exact Src.ofSlice w hk a 0 cap [] (by simp) (by simp) (by simp)
  · refine Src.ofSlice w hk _ _ cap css.flatten (by rw [flat_len h4]) (fun j u hu => ?_) h1
    rw [Addr.add_lit]
    exact hc j u hu
theorem BufS.form3 {s : Nat} {w : World} {B : Nat} {e : TypeId} {v : Value} {css : List (List Value)} (h : BufS s w B e v css) : ∃ A n cap, v = .slice A n cap := by
  obtain ⟨A, cap, h1⟩ := h.form
  exact ⟨A, _, cap, h1⟩
/-! ### rows of texts -/
def sV (s : List UInt8) : List Value := [.string (strOf s)]
theorem sV_one (l : List (List UInt8)) : ∀ u ∈ (l.map sV).flatten, u.oneCell' = true := by
  intro u hu
  obtain ⟨c, hc, hu⟩ := List.mem_flatten.1 hu
  obtain ⟨s, _, rfl⟩ := List.mem_map.1 hc
  simp [sV] at hu
  subst hu
  rfl
end Go.Proofs.Ytjphmjegfpdbeaa
