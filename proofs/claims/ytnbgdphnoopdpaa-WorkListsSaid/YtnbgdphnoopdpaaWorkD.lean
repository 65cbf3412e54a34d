/- The walk of the reference's Next. No condition. -/
import Derived.Test.YtnbgdphnoopdpaaWorkC
import Derived.Test.YtnbgdphnoopdpaaFlat
namespace Go.Proofs.Ytnbgdphnoopdpaa
open Go.RowKit Go.Maps Go.ChangeShapes Go.WideShapes
namespace Work
set_option linter.unusedSimpArgs false
set_option linter.unusedVariables false
structure Edge where
  f : Int
  t : Int
def edgeV (e : Edge) : List Value := [.int .i64 e.f, .int .i64 e.t]
def EdgeOk (e : Edge) : Prop := Wf e.f ∧ Wf e.t
def InEdges (W : World) (a : Option Addr) (len cap : Nat) (es : List Edge) : Prop := InFlat W a len cap (es.map edgeV) ∧ ∀ e ∈ es, EdgeOk e
theorem in_edges {H : Type} {enc : TypeId × Value → H} {W : World} {base : Nat} {spare : Nat → Bool} {held : Bool} {a : Option Addr} {len cap : Nat} {d : DataW H} {p : List MemPlace}
    (h : DataW.Trod enc Try.prog W base spare held 23 (.slice a len cap) d p) (hw : ∀ n ∈ d.weights Try.prog 23, n ≤ reachBytes) : ∃ es, InEdges W a len cap es := by
  obtain ⟨css, h1, h2⟩ := in_flat 2 Try.underlying23 (by kernel_rfl) (by decide) h
  obtain ⟨zs, rfl, h3⟩ := list_of (f := edgeV) (p := EdgeOk) css (fun c hc => by
    obtain ⟨hl, n, x, hx, hxw⟩ := h2 c hc
    obtain ⟨y0, e0, w0⟩ := leaf_int (n := 3) (off := 0) (t' := 3) (k := .i64) (by kernel_rfl) Try.underlying3 hx
    obtain ⟨y1, e1, w1⟩ := leaf_int (n := 3) (off := 1) (t' := 3) (k := .i64) (by kernel_rfl) Try.underlying3 hx
    refine ⟨⟨y0, y1⟩, ?_, w0, w1⟩
    match c, hl with
    | [c0, c1], _ => simp at e0 e1; simp [edgeV, e0, e1])
  exact ⟨zs, h1, h3⟩
theorem InEdges.at {W : World} {a : Option Addr} {len cap : Nat} {es : List Edge} (h : InEdges W a len cap es) {i : Nat} (hi : i < len) :
    ∃ b off e, es[i]? = some e ∧ a = some ⟨b, off, none⟩ ∧ W.cell? ⟨b, off + i * 2, none⟩ = some (.int .i64 e.f) ∧ W.cell? ⟨b, off + i * 2 + 1, none⟩ = some (.int .i64 e.t) := by
  obtain ⟨⟨h1, h2, h3, h4, h5⟩, h6⟩ := h
  have hl : es.length = len := by simpa using h1
  have hz : es[i]? = some (es[i]'(by omega)) := List.getElem?_eq_getElem (by omega)
  generalize es[i]'(by omega) = z at hz
  have hcs : ∀ c ∈ es.map edgeV, c.length = 2 := by
    intro c hc
    obtain ⟨z, _, rfl⟩ := List.mem_map.1 hc
    rfl
  have hf (j : Nat) (hj : j < 2) : (es.map edgeV).flatten[i * 2 + j]? = (edgeV z)[j]? := by
    rw [flat_at 2 _ i j hcs hj, List.getElem?_map, hz]; rfl
  have f0 := hf 0 (by decide)
  have f1 := hf 1 (by decide)
  obtain ⟨b, off, rfl, hc⟩ := h4.at (by
    have := (List.getElem?_eq_some_iff.1 (f0.trans (show (edgeV z)[0]? = some _ from rfl))).1
    omega)
  exact ⟨b, off, z, hz, rfl, hc _ _ f0, hc _ _ f1⟩
/-- What one tells. -/
def nextL (es : List Edge) (k : Int) : List Int := (es.filter (fun e => e.f == k)).map (·.t)
theorem nextL_snoc (es : List Edge) (e : Edge) (k : Int) : nextL (es ++ [e]) k = nextL es k ++ (if e.f = k then [e.t] else []) := by
  simp only [nextL, List.filter_append, List.map_append]
  congr 1
  by_cases h : e.f = k <;> simp [h]
theorem nextL_length (es : List Edge) (k : Int) : (nextL es k).length ≤ es.length := by
  rw [nextL, List.length_map]; exact List.length_filter_le _ _
def NextE (w : World) (l : List Int) (ok : Bool) (e : Ending) (w' : World) : Prop :=
  ∃ A c, e = .returned (.tuple #[.slice A l.length c, .bool ok]) ∧ Buf w' w.heap.size 3 (.slice A l.length c) (ints l) ∧ Ext w w'
set_option maxRecDepth 100000 in
set_option maxHeartbeats 2000000 in
theorem next_any (A : Option Addr) (n cap : Nat) (es : List Edge) (w0 w : World) (h : InEdges w0 A n cap es) (h0 : Ext w0 w) (hn : n ≤ 1000) (A' : Option Addr) (n' cap' : Nat) (bad : List Int) (hb : bad.length = n') (hm' : n' ≤ 9223372036854775807) (h' : Row w A' (ints bad)) (k : Int) :
    Calls Try.prog 11 #[.slice A n cap, .slice A' n' cap', .int .i64 k] w (NextE w (nextL es k) (!decide (k ∈ bad))) := by
  obtain ⟨iI, hiI, hzI, hsI, hbI⟩ := infoI
  have hlen : es.length = n := by simpa using h.1.1
  have KH := Kept.mk h
  have K0 := Kept.mk h0
  have KR := Kept.mk h'
  clear h h0 h'
  go_enter Try.func11, Try.ntmps11
  go_wp2_with fail
  go_loopg [8, 9] n (fun r ov iv wi => ∃ (i : Nat) (o : List Int) (B c : _), i + r = n ∧ ov = .slice B o.length c ∧ iv = .int .i64 (i : Int) ∧ o = nextL (es.take i) k ∧ o.length ≤ i ∧ Buf wi w.heap.size 3 (.slice B o.length c) (ints o) ∧ Ext w wi)
  case atStart => exact ⟨0, [], none, 0, by omega, rfl, rfl, by simp [nextL], by simp, Buf.nil _ _ _, Ext.refl _⟩
  case round =>
    obtain ⟨i, o, B, c, hr, rfl, rfl, ho, hol, hV, hE⟩ := hrel
    have Kr := Kept.mk hr
    have Ko := Kept.mk ho
    have KV := Kept.mk hV
    have KE := Kept.mk hE
    have hil : i ≤ n := by omega
    have hBw : w.heap.size ≤ wr.heap.size := Ext.size hE
    clear hr ho hV hE
    by_cases hlt : i < n
    · have hltI : (i : Int) < (n : Int) := by omega
      obtain ⟨b, off, e, he, rfl, c0, c1⟩ := KH.out.at hlt
      have d0 := KE.out.cell (K0.out.cell c0)
      have d1 := KE.out.cell (K0.out.cell c1)
      have Kst := Kept.mk (show nextL (es.take (i + 1)) k = o ++ (if e.f = k then [e.t] else []) from by
        rw [List.take_add_one, he, Ko.out]
        exact nextL_snoc _ _ _)
      obtain ⟨ef, et⟩ := e
      simp only [] at d0 d1 Kst
      clear he c0 c1
      by_cases hx : ef = k
      · have hxb : (ef == k) = true := by simpa using hx
        have Ks2 := Kept.mk (show nextL (es.take (i + 1)) k = o ++ [et] from by rw [Kst.out, if_pos hx])
        clear hx
        go_wp2_with (refine wpList_append_lit (P := Try.prog) wr rfl (.tmp 23) (.tmp 29) 22 rfl 3 iI (.int .i64 0) Try.underlying22 hiI hzI hsI rfl w.heap.size (.slice B o.length c) (ints o) rfl KV.out [.int .i64 et] 1 rfl rfl (by simp [Value.oneCell']) hBw (by rw [ints_length]; simp only [maxLen]; omega) (by rw [ints_length, hbI]; omega) ?_)
        intro v' w1 hV1 hT1 ho1
        rw [show ints o ++ [.int .i64 et] = ints (o ++ [et]) by simp [numsV]] at hV1
        have KE1 := Kept.mk (show Ext w w1 from Touch.below KE.out hT1 (fun j hj => (KV.out.owns j hj).1) hBw)
        have hl2 : (o ++ [et]).length ≤ i + 1 := by rw [List.length_append, List.length_singleton]; omega
        generalize o ++ [et] = o2 at hV1 Ks2 hl2
        obtain ⟨B', c', rfl⟩ := hV1.form
        rw [ints_length] at hV1 ⊢
        have KV1 := Kept.mk hV1
        clear hV1 hT1 ho1
        go_wp2_with fail
        go_roundg (gk - 1)
        case measure => have := Kr.out; omega
        case rel => exact ⟨i + 1, o2, B', c', by have := Kr.out; omega, rfl, by first | rfl | simp, Ks2.out.symm, hl2, KV1.out, KE1.out⟩
      · have hxb : (ef == k) = false := by simpa using hx
        have Ks2 := Kept.mk (show nextL (es.take (i + 1)) k = o from by rw [Kst.out, if_neg hx, List.append_nil])
        clear hx
        go_wp2_with fail
        go_roundg (gk - 1)
        case measure => have := Kr.out; omega
        case rel => exact ⟨i + 1, o, B, c, by have := Kr.out; omega, rfl, by first | rfl | simp, Ks2.out.symm, by omega, KV.out, KE.out⟩
    · have hltI : ¬ (i : Int) < (n : Int) := by omega
      have Kfin := Kept.mk (show o = nextL es k from by rw [Ko.out, List.take_of_length_le (by omega)])
      have Kin := Kept.mk (in_any A' n' cap' bad hb hm' k wr (KR.out.ext KE.out))
      obtain ⟨q, hq⟩ : ∃ q, q = decide (k ∈ bad) := ⟨_, rfl⟩
      rw [← hq] at Kin
      have Kq := Kept.mk hq
      clear hq
      go_wp2_with fail
      refine Kin.out.mono ?_
      rintro e w2 ⟨rfl, rfl⟩
      go_wp2_with fail
      exact bodyPost_ret (v := .tuple #[.slice B o.length c, .bool (!q)]) (by simp [results, Try.results11, go_sem]) rfl ⟨B, c, by rw [← Kfin.out, ← Kq.out], by rw [← Kfin.out]; exact KV.out, KE.out⟩
end Work
end Go.Proofs.Ytnbgdphnoopdpaa
