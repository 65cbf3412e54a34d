/- The law's acts: read from the arguments, few, do. No condition. -/
import Derived.Test.YtjphmjegfpdbeaaDiskH
import Derived.Test.YtjphmjegfpdbeaaFlat
namespace Go.Proofs.Ytjphmjegfpdbeaa
open Go.RowKit Go.ChangeShapes Go.WideShapes
namespace Disk
open Str
set_option linter.unusedSimpArgs false
set_option linter.unusedVariables false
structure Act where
  k : Int
  p : S
  t : S
  n : Int
  keep : Int
def actV (a : Act) : List Value := [.int .i64 a.k, .string (strOf a.p), .string (strOf a.t), .int .i64 a.n, .int .u64 a.keep]
structure ActOk (a : Act) : Prop where
  p : a.p.length ≤ 140737488351232
  t : a.t.length ≤ 140737488351232
  n : -9223372036854775808 ≤ a.n ∧ a.n ≤ 9223372036854775807
  keep : 0 ≤ a.keep ∧ a.keep ≤ 18446744073709551615
/-- Few and short. -/
structure FewOk (zs : List Act) : Prop where
  len : zs.length ≤ 300
  each : ∀ z ∈ zs, z.p.length + z.t.length ≤ 15000
def InActs (W : World) (a : Option Addr) (len cap : Nat) (zs : List Act) : Prop := InFlat W a len cap (zs.map actV) ∧ ∀ z ∈ zs, ActOk z
theorem actV_len (zs : List Act) : ∀ c ∈ zs.map actV, c.length = 5 := by
  intro c hc
  obtain ⟨z, _, rfl⟩ := List.mem_map.1 hc
  rfl
theorem InActs.rd {W : World} {a : Option Addr} {len cap : Nat} {zs : List Act} (h : InActs W a len cap zs) : Rd 5 W (.slice a len cap) (zs.map actV) := h.1.rd (actV_len zs)
theorem in_acts {H : Type} {enc : TypeId × Value → H} {W : World} {base : Nat} {spare : Nat → Bool} {held : Bool} {a : Option Addr} {len cap : Nat} {d : DataW H} {p : List MemPlace}
    (h : DataW.Trod enc Try.prog W base spare held 22 (.slice a len cap) d p) (hw : ∀ n ∈ d.weights Try.prog 22, n ≤ reachBytes) : ∃ zs, InActs W a len cap zs := by
  obtain ⟨css, h1, h2⟩ := in_flat 5 Try.underlying22 (by kernel_rfl) (by decide) h
  obtain ⟨zs, rfl, h3⟩ := list_of (f := actV) (p := ActOk) css (fun c hc => by
    obtain ⟨hl, n, x, hx, hxw⟩ := h2 c hc
    obtain ⟨y0, e0, _⟩ := leaf_int (n := 3) (off := 0) (t' := 3) (k := .i64) (by kernel_rfl) Try.underlying3 hx
    obtain ⟨s1, e1, hs1⟩ := leaf_string_sized (n := 3) (off := 1) (t' := 9) (by kernel_rfl) Try.underlying9 hx (fun k hk => hw k (hxw k hk))
    obtain ⟨s2, e2, hs2⟩ := leaf_string_sized (n := 3) (off := 2) (t' := 9) (by kernel_rfl) Try.underlying9 hx (fun k hk => hw k (hxw k hk))
    obtain ⟨y3, e3, h3⟩ := leaf_int (n := 3) (off := 3) (t' := 3) (k := .i64) (by kernel_rfl) Try.underlying3 hx
    obtain ⟨y4, e4, h4⟩ := leaf_int (n := 3) (off := 4) (t' := 29) (k := .u64) (by kernel_rfl) Try.underlying29 hx
    have h3' : -9223372036854775808 ≤ y3 ∧ y3 ≤ 9223372036854775807 := by simp [Lit.wf, IntKind.min, IntKind.max, IntKind.signed, IntKind.bits] at h3; omega
    have h4' : 0 ≤ y4 ∧ y4 ≤ 18446744073709551615 := by simp [Lit.wf, IntKind.min, IntKind.max, IntKind.signed, IntKind.bits] at h4; omega
    refine ⟨⟨y0, s1.data.toList, s2.data.toList, y3, y4⟩, ?_, ⟨by simpa [reachBytes] using hs1, by simpa [reachBytes] using hs2, h3', h4'⟩⟩
    match c, hl with
    | [c0, c1, c2, c3, c4], _ => simp at e0 e1 e2 e3 e4; simp [actV, strOf_self, e0, e1, e2, e3, e4])
  exact ⟨zs, h1, h3⟩
def FewE (w : World) (zs : List Act) (e : Ending) (w' : World) : Prop := ∃ r, e = .returned (.bool r) ∧ (r = true → FewOk zs) ∧ Ext w w'
set_option maxRecDepth 100000 in
set_option maxHeartbeats 2000000 in
theorem few_any (w : World) (v : Value) (zs : List Act) (h : Rd 5 w v (zs.map actV)) (hz : ∀ z ∈ zs, ActOk z) : Calls Try.prog 9 #[v] w (FewE w zs) := by
  have hlm := h.le
  obtain ⟨a, cap, rfl⟩ := h.form
  rw [List.length_map] at *
  have KP := Kept.mk h
  have KZ := Kept.mk hz
  clear h hz
  obtain ⟨len, hl⟩ : ∃ len, len = zs.length := ⟨_, rfl⟩
  have Kl := Kept.mk hl
  rw [← hl] at hlm KP ⊢
  clear hl
  go_enter Try.func9, Try.ntmps9
  go_wp2_with fail
  go_loopg [3, 4] len (fun r nv iv wi => ∃ (n i : Nat), i + r = len ∧ nv = .int .i64 (n : Int) ∧ iv = .int .i64 (i : Int) ∧ i ≤ n ∧ n ≤ 300 ∧ Kept ((∀ z ∈ zs.take i, z.p.length + z.t.length ≤ 15000) ∧ Ext w wi))
  case atStart => exact ⟨0, 0, by omega, rfl, rfl, by omega, by omega, Kept.mk ⟨by simp, Ext.refl _⟩⟩
  case round =>
    obtain ⟨n, i, hr, rfl, rfl, hin, hn, KK⟩ := hrel
    have Kr := Kept.mk hr
    have hil : i ≤ len := by omega
    clear hr
    by_cases hlt : i < len
    · have hltI : (i : Int) < (len : Int) := by omega
      have hi2 : i < zs.length := by rw [← Kl.out]; exact hlt
      obtain ⟨b, off, rfl, -, hc⟩ := KP.out.get (by decide) (i := i) hi2
      have c1 := KK.out.2.cell (hc 1 (.string (strOf zs[i].p)) rfl)
      have c2 := KK.out.2.cell (hc 2 (.string (strOf zs[i].t)) rfl)
      have hzo := KZ.out zs[i] (List.getElem_mem hi2)
      have hp := hzo.p
      have ht := hzo.t
      have z1 := strOf_size zs[i].p
      have z2 := strOf_size zs[i].t
      have Kst := Kept.mk (show zs.take (i + 1) = zs.take i ++ [zs[i]] from List.take_succ_eq_append_getElem hi2)
      generalize zs[i] = z at *
      obtain ⟨m, hm⟩ : ∃ m : Nat, m = min (z.p.length + z.t.length) 100000 := ⟨_, rfl⟩
      have Km := Kept.mk hm
      have hmI : min ((z.p.length : Int) + (z.t.length : Int)) 100000 = (m : Int) := by omega
      have hm1 : m ≤ 100000 := by omega
      generalize hlp : z.p.length = lp at *
      generalize hlt2 : z.t.length = lt at *
      have Kzz := Kept.mk (And.intro hlp hlt2)
      clear hc hzo hm hlp hlt2
      go_wp2_with fail
      go_quiet (fail)
      have KE2 := Kept.mk (KK.out.2.trans (Ext.drewN wr nq))
      clear c1 c2 hmI
      generalize wr.drewN nq = w2 at *
      by_cases hle : n + 1 + m / 50 ≤ 300
      · have hleI : ¬ (300 : Int) < (n : Int) + 1 + (m : Int) / 50 := by omega
        go_wp2_with fail
        go_roundg (gk - 1)
        case measure => have := Kr.out; omega
        case rel => exact ⟨n + 1 + m / 50, i + 1, by have := Kr.out; omega, by first | rfl | simp, by first | rfl | simp, by omega, hle, Kept.mk ⟨fun y hy => by
          rw [Kst.out, List.mem_append, List.mem_singleton] at hy
          rcases hy with hy | rfl
          · exact KK.out.1 y hy
          · have := Km.out; have := Kzz.out; omega, KE2.out⟩⟩
      · have hleI : (300 : Int) < (n : Int) + 1 + (m : Int) / 50 := by omega
        go_wp2_with fail
        go_ret
        exact ⟨false, rfl, by simp, KE2.out⟩
    · have hltI : ¬ (i : Int) < (len : Int) := by omega
      go_wp2_with fail
      go_ret
      exact ⟨true, rfl, fun _ => ⟨by rw [← Kl.out]; omega, fun z hz => KK.out.1 z (by rw [List.take_of_length_le (by rw [← Kl.out]; omega)]; exact hz)⟩, KK.out.2⟩
end Disk
end Go.Proofs.Ytjphmjegfpdbeaa
