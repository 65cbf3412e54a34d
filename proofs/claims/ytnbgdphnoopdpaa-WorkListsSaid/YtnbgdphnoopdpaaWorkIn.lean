/- Arguments opened: slices of ints. No condition. -/
import Derived.Test.YtnbgdphnoopdpaaWorkD
namespace Go.Proofs.Ytnbgdphnoopdpaa
open Go.RowKit Go.Maps Go.ChangeShapes Go.WideShapes
namespace Work
set_option linter.unusedSimpArgs false
set_option linter.unusedVariables false
def InInts (W : World) (a : Option Addr) (len cap : Nat) (xs : List Int) : Prop := xs.length = len ∧ len ≤ 9223372036854775807 ∧ Row W a (ints xs) ∧ ∀ x ∈ xs, Wf x
theorem flat_ints : ∀ zs : List Int, (zs.map (fun x : Int => [Value.int .i64 x])).flatten = ints zs
  | [] => rfl
  | z :: zs => by
    have := flat_ints zs
    simp only [List.map_cons, List.flatten_cons, this]
    rfl
theorem in_ints {H : Type} {enc : TypeId × Value → H} {W : World} {base : Nat} {spare : Nat → Bool} {held : Bool} {a : Option Addr} {len cap : Nat} {d : DataW H} {p : List MemPlace}
    (h : DataW.Trod enc Try.prog W base spare held 22 (.slice a len cap) d p) (hw : ∀ n ∈ d.weights Try.prog 22, n ≤ reachBytes) : ∃ xs, InInts W a len cap xs := by
  obtain ⟨css, h1, h2⟩ := in_flat 1 Try.underlying22 (by kernel_rfl) (by decide) h
  obtain ⟨zs, rfl, h3⟩ := list_of (f := fun x : Int => [Value.int .i64 x]) (p := Wf) css (fun c hc => by
    obtain ⟨hl, n, x, hx, hxw⟩ := h2 c hc
    obtain ⟨y0, e0, w0⟩ := leaf_int (n := 3) (off := 0) (t' := 3) (k := .i64) (by kernel_rfl) Try.underlying3 hx
    refine ⟨y0, ?_, w0⟩
    match c, hl with
    | [c0], _ => simp at e0; simp [e0])
  obtain ⟨h4, h5, h6, h7, h8⟩ := h1
  refine ⟨zs, by simpa using h4, by simp only [maxLen] at h6; omega, ?_, h3⟩
  rwa [flat_ints] at h7
/-- A handed row, to be appended. -/
theorem Row.src {P : Program} (w : World) {tx e' : TypeId} {n cap : Nat} {A : Option Addr} {xs : List Value} (h : Row w A xs) (hn : xs.length = n) (hk : P.underlying tx = some (.slice e')) (h1 : ∀ u ∈ xs, u.oneCell' = true) : Src P 1 tx (.slice A n cap) n xs w := by
  rcases h with rfl | ⟨b, off, rfl, hc⟩
  · obtain rfl : n = 0 := by simpa using hn.symm
    cases A with
    | none => exact Src.ofNil w hk cap
    | some a => exact Src.ofSlice w hk a 0 cap [] (by simp) (by simp) (by simp)
  · refine Src.ofSlice w hk _ n cap xs (by omega) (fun j u hu => ?_) h1
    rw [Addr.add_lit]
    exact hc j u hu
end Work
end Go.Proofs.Ytnbgdphnoopdpaa
