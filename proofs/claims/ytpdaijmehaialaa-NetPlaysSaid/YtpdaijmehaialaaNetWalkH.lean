/- The walks of the law's few and awake; the script opened. No condition. -/
import Derived.Test.YtpdaijmehaialaaNetWalkG
namespace Go.Proofs.Ytpdaijmehaialaa
open Go.RowKit Go.ChangeShapes Go.WideShapes
namespace Net
set_option linter.unusedSimpArgs false
set_option linter.unusedVariables false
def InActs (W : World) (a : Option Addr) (len cap : Nat) (zs : List Act) : Prop := InFlat W a len cap (zs.map actV) ∧ ∀ z ∈ zs, ActOk z
theorem in_acts {H : Type} {enc : TypeId × Value → H} {W : World} {base : Nat} {spare : Nat → Bool} {held : Bool} {a : Option Addr} {len cap : Nat} {d : DataW H} {p : List MemPlace}
    (h : DataW.Trod enc Try.prog W base spare held 22 (.slice a len cap) d p) (hw : ∀ n ∈ d.weights Try.prog 22, n ≤ reachBytes) : ∃ zs, InActs W a len cap zs := by
  obtain ⟨css, h1, h2⟩ := in_flat 7 Try.underlying22 (by kernel_rfl) (by decide) h
  obtain ⟨zs, rfl, h3⟩ := list_of (f := actV) (p := ActOk) css (fun c hc => by
    obtain ⟨hl, n, x, hx, hxw⟩ := h2 c hc
    obtain ⟨y0, e0, _⟩ := leaf_int (n := 3) (off := 0) (t' := 3) (k := .i64) (by kernel_rfl) Try.underlying3 hx
    obtain ⟨y1, e1, _⟩ := leaf_int (n := 3) (off := 1) (t' := 3) (k := .i64) (by kernel_rfl) Try.underlying3 hx
    obtain ⟨y2, e2, _⟩ := leaf_int (n := 3) (off := 2) (t' := 3) (k := .i64) (by kernel_rfl) Try.underlying3 hx
    obtain ⟨s, e3, hs⟩ := leaf_string_sized (n := 3) (off := 3) (t' := 9) (by kernel_rfl) Try.underlying9 hx (fun k hk => hw k (hxw k hk))
    obtain ⟨y4, e4, _⟩ := leaf_int (n := 3) (off := 4) (t' := 3) (k := .i64) (by kernel_rfl) Try.underlying3 hx
    obtain ⟨y5, e5, _⟩ := leaf_int (n := 3) (off := 5) (t' := 3) (k := .i64) (by kernel_rfl) Try.underlying3 hx
    obtain ⟨y6, e6, h6⟩ := leaf_int (n := 3) (off := 6) (t' := 5) (k := .u8) (by kernel_rfl) Try.underlying5 hx
    have h6' : 0 ≤ y6 ∧ y6 ≤ 255 := by simp [Lit.wf, IntKind.min, IntKind.max, IntKind.signed, IntKind.bits] at h6; omega
    refine ⟨⟨y0, ⟨y1, y2, s.data.toList⟩, y4, y5, y6⟩, ?_, ⟨by simpa [reachBytes] using hs, h6'.1, h6'.2⟩⟩
    match c, hl with
    | [c0, c1, c2, c3, c4, c5, c6], _ => simp at e0 e1 e2 e3 e4 e5 e6; simp [actV, strOf_self, e0, e1, e2, e3, e4, e5, e6])
  exact ⟨zs, h1, h3⟩
theorem InActs.at {W : World} {a : Option Addr} {len cap : Nat} {zs : List Act} (h : InActs W a len cap zs) {i : Nat} (hi : i < len) :
    ∃ b off z, zs[i]? = some z ∧ a = some ⟨b, off, none⟩ ∧ b < W.heap.size ∧ ActOk z ∧ ∀ j u, (actV z)[j]? = some u → W.cell? ⟨b, off + i * 7 + j, none⟩ = some u := by
  obtain ⟨⟨h1, h2, h3, h4, h5⟩, h6⟩ := h
  have hl : zs.length = len := by simpa using h1
  have hz : zs[i]? = some (zs[i]'(by omega)) := List.getElem?_eq_getElem (by omega)
  generalize zs[i]'(by omega) = z at hz
  have hm : z ∈ zs := List.mem_of_getElem? hz
  have hcs : ∀ c ∈ zs.map actV, c.length = 7 := by
    intro c hc
    obtain ⟨z, _, rfl⟩ := List.mem_map.1 hc
    rfl
  have hf (j : Nat) (hj : j < 7) : (zs.map actV).flatten[i * 7 + j]? = (actV z)[j]? := by
    rw [flat_at 7 _ i j hcs hj, List.getElem?_map, hz]; rfl
  have f0 := hf 0 (by decide)
  obtain ⟨b, off, rfl, hc⟩ := h4.at (by
    have := (List.getElem?_eq_some_iff.1 (f0.trans (show (actV z)[0]? = some _ from rfl))).1
    omega)
  have hcell : ∀ j u, (actV z)[j]? = some u → W.cell? ⟨b, off + i * 7 + j, none⟩ = some u := by
    intro j u hu
    have hj : j < 7 := (List.getElem?_eq_some_iff.1 hu).1
    rw [Nat.add_assoc]
    exact hc _ _ ((hf j hj).trans hu)
  exact ⟨b, off, z, hz, rfl, World.block_lt_of_cell? _ _ (hcell 0 _ rfl), h6 z hm, hcell⟩
def FewE (w : World) (len : Nat) (e : Ending) (w' : World) : Prop := ∃ r, e = .returned (.bool r) ∧ (r = true → len ≤ 400) ∧ w = w'
set_option maxRecDepth 100000 in
set_option maxHeartbeats 2000000 in
theorem few_any (w0 w : World) (a : Option Addr) (len cap : Nat) (zs : List Act) (h : InActs w0 a len cap zs) (h0 : Ext w0 w) : Calls Try.prog 8 #[.slice a len cap] w (FewE w len) := by
  have hlm : len ≤ 9223372036854775807 := Nat.le_trans h.1.2.1 h.1.2.2.1
  have KP := Kept.mk h
  have K0 := Kept.mk h0
  clear h h0
  go_enter Try.func8, Try.ntmps8
  go_wp2_with fail
  go_loopg [3, 4] len (fun r nv iv wi => ∃ (n i : Nat), i + r = len ∧ nv = .int .i64 (n : Int) ∧ iv = .int .i64 (i : Int) ∧ i ≤ n ∧ n ≤ 400 ∧ w = wi)
  case atStart => exact ⟨0, 0, by omega, rfl, rfl, by omega, by omega, rfl⟩
  case round =>
    obtain ⟨n, i, hr, rfl, rfl, hin, hn, rfl⟩ := hrel
    have Kr := Kept.mk hr
    have hil : i ≤ len := by omega
    clear hr
    by_cases hlt : i < len
    · have hltI : (i : Int) < (len : Int) := by omega
      obtain ⟨b, off, z, hz, rfl, hb, ⟨hzb, -, -⟩, hc⟩ := KP.out.at hlt
      have c3 := K0.out.cell (hc 3 (.string (strOf z.p.b)) rfl)
      have hzz := strOf_size z.p.b
      generalize z.p.b = bs at c3 hzz hzb
      clear hz hc hb
      have c3' : w.cell? ⟨b, off + i * 7 + 1 + 2, none⟩ = _ := c3
      have hb0 : (0 : Int) ≤ (bs.length : Int) := by omega
      by_cases hle : n + 1 + bs.length / 100 ≤ 400
      · have hleI : ¬ (n : Int) + 1 + (bs.length : Int) / 100 > 400 := by omega
        go_wp2_with fail
        go_roundg (gk - 1)
        case measure => have := Kr.out; omega
        case rel => exact ⟨n + 1 + bs.length / 100, i + 1, by have := Kr.out; omega, by first | rfl | simp, by first | rfl | simp, by omega, hle, rfl⟩
      · have hleI : (n : Int) + 1 + (bs.length : Int) / 100 > 400 := by omega
        go_wp2_with fail
        go_ret
        exact ⟨false, rfl, by simp, rfl⟩
    · have hltI : ¬ (i : Int) < (len : Int) := by omega
      go_wp2_with fail
      go_ret
      exact ⟨true, rfl, fun _ => by omega, rfl⟩
end Net
end Go.Proofs.Ytpdaijmehaialaa
