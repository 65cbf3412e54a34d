/- What the laws' functions tell. No condition. -/
import Derived.Test.YtnbgdphnoopdpaaWorkI
import Derived.Test.YtnbgdphnoopdpaaWorkIn
namespace Go.Proofs.Ytnbgdphnoopdpaa
open Go.RowKit Go.Maps
namespace Work
set_option linter.unusedSimpArgs false
set_option linter.unusedVariables false
def nxF (es : List Edge) (bad : List Int) (k : Int) : List Int × Bool := (nextL es k, !decide (k ∈ bad))
/-- What the laws' functions read. -/
def jFar (wN : World) (asked : List Int) (D : List Nat) (w : World) : Prop := D = [] ∧ Ext wN w
/-- It writes down, beside, what it was asked. -/
def jAsk (wN : World) (asked : List Int) (D : List Nat) (w : World) : Prop :=
  Below wN.heap.size wN w ∧ ∃ v, Blk w wN.heap.size 22 [v] ∧ Buf w wN.heap.size 3 v (ints asked) ∧ wN.heap.size ∉ own v ∧ D = wN.heap.size :: own v
theorem jAsk_touch (wN : World) (asked : List Int) (D S : List Nat) (w w' : World) (h : jAsk wN asked D w) (k : Touch S w w') (hs : Sep D S) (hS : ∀ j ∈ S, wN.heap.size ≤ j) : jAsk wN asked D w' := by
  obtain ⟨h1, v, h2, h3, h4, rfl⟩ := h
  exact ⟨Touch.below h1 k hS h1.size, v, h2.touch k (hs _ (by simp)), h3.touch k (fun j hj => hs j (by simp [hj])), h4, rfl⟩
set_option maxRecDepth 100000 in
set_option maxHeartbeats 2000000 in
theorem nextR_any (wN w : World) (hE : Ext wN w) (Ae : Option Addr) (ne ce : Nat) (es : List Edge) (hes : InEdges wN Ae ne ce es) (hne : ne ≤ 1000) (g : Nat) (hg : wN.cell? ⟨g, 0, none⟩ = some (.slice Ae ne ce)) (k : Int) :
    Calls Try.prog 14 #[.int .i64 k, .pointer (some ⟨g, 0, none⟩)] w (NextE w (nextL es k) true) := by
  have c0 := hE.cell hg
  have KN := Kept.mk (next_any Ae ne ce es wN w hes hE hne none 0 0 [] rfl (by omega) (.inl rfl) k)
  rw [decide_eq_false (by simp)] at KN
  generalize nextL es k = l at KN
  clear hes hE hg
  go_enter Try.func14, Try.ntmps14
  go_wp2_with fail
  refine KN.out.mono ?_
  rintro e w' ⟨A, c, rfl, h1, h2⟩
  have K1 := Kept.mk h1
  have K2 := Kept.mk h2
  clear h1 h2
  go_wp2_with fail
  exact bodyPost_ret (v := .tuple #[.slice A l.length c, .bool true]) (by simp [results, Try.results14, go_sem]) rfl ⟨_, c, rfl, K1.out, K2.out⟩
set_option maxRecDepth 100000 in
set_option maxHeartbeats 2000000 in
theorem nextO_any (wN w : World) (hE : Ext wN w) (Ae : Option Addr) (ne ce : Nat) (es : List Edge) (hes : InEdges wN Ae ne ce es) (hne : ne ≤ 1000) (g : Nat) (hg : wN.cell? ⟨g, 0, none⟩ = some (.slice Ae ne ce)) (k : Int) :
    Calls Try.prog 16 #[.int .i64 k, .pointer (some ⟨g, 0, none⟩)] w (NextE w (nextL es k) true) := by
  have c0 := hE.cell hg
  have KN := Kept.mk (next_any Ae ne ce es wN w hes hE hne none 0 0 [] rfl (by omega) (.inl rfl) k)
  rw [decide_eq_false (by simp)] at KN
  generalize nextL es k = l at KN
  clear hes hE hg
  go_enter Try.func16, Try.ntmps16
  go_wp2_with fail
  refine KN.out.mono ?_
  rintro e w' ⟨A, c, rfl, h1, h2⟩
  have K1 := Kept.mk h1
  have K2 := Kept.mk h2
  clear h1 h2
  go_wp2_with fail
  exact bodyPost_ret (v := .tuple #[.slice A l.length c, .bool true]) (by simp [results, Try.results16, go_sem]) rfl ⟨_, c, rfl, K1.out, K2.out⟩
theorem tells_far {fn : FuncId} {caps : Array Value} (U : List Int) (wN : World) (es : List Edge) (hen : ∀ args w, (callFunc fn args).run Try.prog w = .ok (.enter fn args) w) (h : ∀ w k, Ext wN w → Calls Try.prog fn (#[.int .i64 k] ++ caps) w (NextE w (nextL es k) true)) : Tells fn caps (nxF es []) U (jFar wN) wN.heap.size where
  touch := fun _ D S w w' hj k hs hS => ⟨hj.1, Touch.below hj.2 k hS hj.2.size⟩
  lt := fun _ D _ hj j hm => by rw [hj.1] at hm; cases hm
  enter := hen
  call := fun asked D w k _ hj hk => by
    obtain ⟨rfl, hE⟩ := hj
    refine (h w k hE).mono ?_
    rintro e w' ⟨A, c, rfl, h1, h2⟩
    exact ⟨A, c, [], by simp [nxF], h1, ⟨rfl, hE.trans h2⟩, Touch.of_ext h2, by simp⟩
def NextAskE (wN w : World) (asked : List Int) (D : List Nat) (l : List Int) (ok : Bool) (e : Ending) (w' : World) : Prop :=
  ∃ A c D', e = .returned (.tuple #[.slice A l.length c, .bool ok]) ∧ Buf w' w.heap.size 3 (.slice A l.length c) (ints l) ∧ jAsk wN asked D' w' ∧ Touch D w w' ∧ ∀ j ∈ D', j ∈ D ∨ w.heap.size ≤ j
set_option maxRecDepth 100000 in
set_option maxHeartbeats 2000000 in
theorem nextW_any (wN w : World) (asked : List Int) (hal : asked.length ≤ 2000) (D : List Nat) (hj : jAsk wN asked D w) (Ae : Option Addr) (ne ce : Nat) (es : List Edge) (hes : InEdges wN Ae ne ce es) (hne : ne ≤ 1000) (g : Nat) (hg : wN.cell? ⟨g, 0, none⟩ = some (.slice Ae ne ce))
    (Ab : Option Addr) (nb cb : Nat) (bad : List Int) (hbl : bad.length = nb) (hbm : nb ≤ 9223372036854775807) (hbr : Row wN Ab (ints bad)) (g' : Nat) (hg' : wN.cell? ⟨g', 0, none⟩ = some (.slice Ab nb cb)) (k : Int) :
    Calls Try.prog 10 #[.int .i64 k, .pointer (some ⟨wN.heap.size, 0, none⟩), .pointer (some ⟨g, 0, none⟩), .pointer (some ⟨g', 0, none⟩)] w (NextAskE wN w (asked ++ [k]) D (nextL es k) (!decide (k ∈ bad))) := by
  obtain ⟨iI, hiI, hzI, hsI, hbI⟩ := infoI
  obtain ⟨hE, v, hB, hV, hn, rfl⟩ := hj
  have hfo : ∃ A c, v = .slice A asked.length c := by
    obtain ⟨A5, c5, h5⟩ := hV.form
    rw [ints_length] at h5
    exact ⟨A5, c5, h5⟩
  obtain ⟨A, c, rfl⟩ := hfo
  have cv : w.cell? ⟨wN.heap.size, 0, none⟩ = some (.slice A asked.length c) := by rw [hB.cell]; rfl
  have hf := hB.free 0
  have KV := Kept.mk hV
  have KB := Kept.mk hB
  have KE := Kept.mk hE
  have Kn := Kept.mk hn
  have Kes := Kept.mk hes
  have Kbr := Kept.mk hbr
  have Kg := Kept.mk hg
  have Kg' := Kept.mk hg'
  have hBw : wN.heap.size ≤ w.heap.size := hE.size
  clear hB hV hE hes hbr hg hg' hn
  go_enter Try.func10, Try.ntmps10
  go_wp2_with (refine wpList_append_lit (P := Try.prog) w rfl (.tmp 7) (.tmp 9) 22 rfl 3 iI (.int .i64 0) Try.underlying22 hiI hzI hsI rfl wN.heap.size (.slice A asked.length c) (ints asked) rfl KV.out [.int .i64 k] 1 rfl rfl (by simp [Value.oneCell']) hBw (by rw [ints_length]; simp only [maxLen]; omega) (by rw [ints_length, hbI]; omega) ?_)
  intro v1 w1 hV1 hT1 ho1
  rw [show ints asked ++ [.int .i64 k] = ints (asked ++ [k]) by simp [numsV]] at hV1
  have hn1 : wN.heap.size ∉ own v1 := fun hm => by
    rcases ho1 _ hm with h | h
    · exact Kn.out h
    · have := KB.out.lt; omega
  have hB1 := KB.out.touch hT1 Kn.out
  have c1 := hB1.cell 0
  have f1 := hB1.free 0
  have hT2 := Touch.set w1 ⟨wN.heap.size, 0, none⟩ v1
  have hB2 := hB1.set 0 v1
  have hV2 := hV1.touch hT2 (fun j hj hm => hn1 (by rw [List.mem_singleton] at hm; exact (show j = wN.heap.size from hm) ▸ hj))
  have hT : Touch (wN.heap.size :: own (.slice A asked.length c)) w (w1.setCell ⟨wN.heap.size, 0, none⟩ v1) := (hT1.more (fun j hj => by simp [hj])).trans hT2 (fun j hj => .inl (by rw [List.mem_singleton] at hj; simp [show j = wN.heap.size from hj]))
  have hE2 : Below wN.heap.size wN (w1.setCell ⟨wN.heap.size, 0, none⟩ v1) := Touch.below KE.out hT (fun j hj => by
    rcases List.mem_cons.1 hj with rfl | hj
    · exact Nat.le_refl _
    · exact (KV.out.owns j hj).1) hBw
  have KB2 := Kept.mk hB2
  have KV2 := Kept.mk hV2
  have KT := Kept.mk hT
  have KE2 := Kept.mk hE2
  have Kn1 := Kept.mk hn1
  have Ko1 := Kept.mk (show ∀ j ∈ wN.heap.size :: own v1, j ∈ wN.heap.size :: own (.slice A asked.length c) ∨ w.heap.size ≤ j from fun j hj => by
    rcases List.mem_cons.1 hj with rfl | hj
    · exact .inl (by simp)
    · rcases ho1 j hj with h | h
      · exact .inl (by simp [h])
      · exact .inr h)
  have hs2 : w.heap.size ≤ (w1.setCell ⟨wN.heap.size, 0, none⟩ v1).heap.size := hT.size
  have hfo : ∃ A c, v1 = .slice A (asked ++ [k]).length c := by
    obtain ⟨A5, c5, h5⟩ := hV1.form
    rw [ints_length] at h5
    exact ⟨A5, c5, h5⟩
  obtain ⟨A1, c1', rfl⟩ := hfo
  have cg := Ext.cell KE2.out Kg.out
  have cg' := Ext.cell KE2.out Kg'.out
  have KN := Kept.mk (next_any Ae ne ce es wN _ Kes.out KE2.out hne Ab nb cb bad hbl hbm (Kbr.out.ext KE2.out) k)
  clear hB1 hT1 ho1 hV1 hT2 hB2 hV2 hT hE2 hn1
  generalize asked ++ [k] = asked2 at *
  go_wp2_with fail
  generalize w1.setCell ⟨wN.heap.size, 0, none⟩ (.slice A1 asked2.length c1') = W2 at *
  generalize nextL es k = l at *
  generalize (!decide (k ∈ bad)) = q at *
  refine KN.out.mono ?_
  rintro e w3 ⟨A3, c3, rfl, hV3, hE3⟩
  have KV3 := Kept.mk (hV3.lower hs2)
  have KE3 := Kept.mk hE3
  clear hV3 hE3
  go_wp2_with fail
  refine bodyPost_ret (v := .tuple #[.slice A3 l.length c3, .bool q]) (by simp [results, Try.results10, go_sem]) rfl ⟨A3, c3, _, rfl, KV3.out, ⟨Touch.below KE2.out (Touch.of_ext (S := []) KE3.out) (by simp) KE2.out.size, _, KB2.out.ext KE3.out, KV2.out.ext KE3.out, Kn1.out, rfl⟩, KT.out.trans (Touch.of_ext (S := []) KE3.out) (by simp), Ko1.out⟩
theorem tells_ask (U : List Int) (wN : World) (Ae : Option Addr) (ne ce : Nat) (es : List Edge) (hes : InEdges wN Ae ne ce es) (hne : ne ≤ 1000) (g : Nat) (hg : wN.cell? ⟨g, 0, none⟩ = some (.slice Ae ne ce))
    (Ab : Option Addr) (nb cb : Nat) (bad : List Int) (hbl : bad.length = nb) (hbm : nb ≤ 9223372036854775807) (hbr : Row wN Ab (ints bad)) (g' : Nat) (hg' : wN.cell? ⟨g', 0, none⟩ = some (.slice Ab nb cb)) :
    Tells 10 #[.pointer (some ⟨wN.heap.size, 0, none⟩), .pointer (some ⟨g, 0, none⟩), .pointer (some ⟨g', 0, none⟩)] (nxF es bad) U (jAsk wN) wN.heap.size where
  touch := jAsk_touch wN
  lt := fun asked D w hj j hm => by
    obtain ⟨h1, v, h2, h3, h4, rfl⟩ := hj
    rcases List.mem_cons.1 hm with rfl | hm
    · exact h2.lt
    · exact (h3.owns j hm).2
  enter := enters_of Try.func10 (by kernel_rfl) rfl
  call := fun asked D w k hal hj hk => nextW_any wN w asked hal D hj Ae ne ce es hes hne g hg Ab nb cb bad hbl hbm hbr g' hg' k
end Work
end Go.Proofs.Ytnbgdphnoopdpaa
