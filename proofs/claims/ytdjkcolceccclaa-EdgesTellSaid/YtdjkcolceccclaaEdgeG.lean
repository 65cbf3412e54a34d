/- The walk of edges.Names. No condition. -/
import Derived.Test.YtdjkcolceccclaaEdgeC
import Derived.Test.YtdjkcolceccclaaRowPut
import Derived.Test.YtdjkcolceccclaaBufMore
import Derived.Test.YtdjkcolceccclaaLayA
import Derived.Test.YtdjkcolceccclaaLayB
namespace Go.Proofs.Ytdjkcolceccclaa
open Go.RowKit Go.Shelf
namespace Edge
set_option linter.unusedSimpArgs false
set_option linter.unusedVariables false
theorem infoT : ∃ i : TypeInfo, Try.prog.info? 9 = some i ∧ i.zero = some (.string ByteArray.empty) ∧ i.size = 1 ∧ i.bytes = 16 := by
  have h : (Try.prog.info? 9).map (fun i => (i.zero, i.size, i.bytes)) = some (some (.string ByteArray.empty), 1, 16) := by kernel_rfl
  obtain ⟨i, hi, he⟩ := Option.map_eq_some_iff.1 h
  injection he with e1 e2
  injection e2 with e2 e3
  exact ⟨i, hi, e1, e2, e3⟩
def sortP (l : List S) : List S := l.mergeSort fun x y => decide (x ≤ y)
theorem sortP_len (l : List S) : (sortP l).length = l.length := List.length_mergeSort _
theorem sort_any (B : Nat) (v : Value) (l : List S) (hl : l.length ≤ 1000000) (w : World) (h : Buf w B 9 v (l.map tV)) :
    Calls Try.prog 24 #[v] w fun e w' => e = .returned (.tuple #[]) ∧ Buf w' B 9 v ((sortP l).map tV) ∧ Touch (own v) w w' := by
  obtain ⟨A, cap, rfl⟩ := h.form
  rw [List.length_map] at *
  by_cases h0 : l = []
  · subst h0
    refine (AnyM.slices_Sort_string_none Try.sortS A cap w).mono ?_
    rintro e w' ⟨rfl, rfl⟩
    exact ⟨rfl, by simpa [sortP] using h, Touch.refl _ _⟩
  · have hpos : 0 < l.length := List.length_pos_iff.2 h0
    have hA : ∃ b off, A = some ⟨b, off, none⟩ := by
      obtain ⟨A', cap', he, h1, h2, h3, h4⟩ := h
      injection he with e1 e2 e3
      subst e1 e3
      rcases h4 with h4 | ⟨b, off, cs, he, _⟩
      · rw [List.length_map] at h1; omega
      · exact ⟨b, off, he⟩
    obtain ⟨b, off, rfl⟩ := hA
    have hb := (h.owns b (by simp [own])).2
    refine (AnyM.slices_Sort_string Try.sortS b off cap l w (h.holds tV) hb (by omega)).mono ?_
    rintro e w' ⟨rfl, n, os, rfl⟩
    obtain ⟨h1, h2⟩ := (h.ext (ext_ahead w n)).putRow (by rw [List.length_map]; exact hpos) encStr (sortP l) (by rw [sortP_len, List.length_map])
    refine ⟨rfl, (h1.ext (ext_growA _ os)), ?_⟩
    exact ((Touch.of_ext (S := [b]) (ext_ahead w n)).trans h2 (fun j hj => .inl hj)).trans (Touch.of_ext (S := []) (ext_growA _ os)) (by simp)
def compP (l : List S) : List S := Lib.compactUpTo l.toArray l.toArray.size
theorem eqS : EqlAt Try.prog 9 encStr (fun x y => decide (x = y)) := ⟨fun x y w => by
  rw [(EqlAt.string Try.prog 9).1 ⟨x.toArray⟩ ⟨y.toArray⟩ w]
  congr 2
  by_cases h : x = y
  · subst h; simp
  · simp [h], fun op a b c d => (EqlAt.string Try.prog 9).2 op a b ⟨c.toArray⟩ ⟨d.toArray⟩⟩
theorem neqS : NeqAt Try.prog 9 encStr (fun x y => decide (x = y)) := ⟨fun x y w => by
  rw [(NeqAt.string Try.prog 9).1 ⟨x.toArray⟩ ⟨y.toArray⟩ w]
  congr 2
  by_cases h : x = y
  · subst h; simp
  · simp [h], fun op a b c d => (EqlAt.string Try.prog 9).2 op a b ⟨c.toArray⟩ ⟨d.toArray⟩⟩
theorem compP_len (l : List S) : (compP l).length ≤ l.length := by
  unfold compP Lib.compactUpTo
  rw [List.length_map]
  exact Nat.le_trans (List.length_filter_le _ _) (by simp)
set_option maxRecDepth 100000 in
theorem comp_any (B : Nat) (v : Value) (l : List S) (hl : l.length ≤ 1000000) (w : World) (h : Buf w B 9 v (l.map tV)) :
    Calls Try.prog 25 #[v] w fun e w' => ∃ A c, e = .returned (.slice A (compP l).length c) ∧ Buf w' B 9 (.slice A (compP l).length c) ((compP l).map tV) ∧ Touch (own v) w w' := by
  obtain ⟨A, cap, rfl⟩ := h.form
  rw [List.length_map] at *
  by_cases h0 : l = []
  · subst h0
    have KH := Kept.mk h
    clear h
    go_enter Try.func25, Try.ntmps25
    go_wp2_with fail
    go_ret
    exact ⟨A, cap, rfl, KH.out, Touch.refl _ _⟩
  · have hpos : 0 < l.length := List.length_pos_iff.2 h0
    have hA : ∃ b off, A = some ⟨b, off, none⟩ := by
      obtain ⟨A', cap', he, h1, h2, h3, h4⟩ := h
      injection he with e1 e2 e3
      subst e1 e3
      rcases h4 with h4 | ⟨b, off, cs, he, _⟩
      · rw [List.length_map] at h1; omega
      · exact ⟨b, off, he⟩
    obtain ⟨b, off, rfl⟩ := hA
    have hcap : l.length ≤ cap := by
      obtain ⟨A', cap', he, h1, _⟩ := h
      injection he with e1 e2 e3
      subst e3
      simpa using h1
    have hz : ∀ w, (zeroValue 9).run Try.prog w = .ok (encStr []) w := fun w => by
      obtain ⟨i, hi, hz, _⟩ := infoT
      simp [zeroValue, typeInfo, hi, hz]
      rfl
    have hC := AnyE.slices_Compact Try.compactS encStr (fun _ => rfl) eqS neqS ([] : S) hz b off cap l.toArray w (h.holds tV) (by simp; omega) (by simpa using hcap)
    rw [List.size_toArray] at hC
    refine hC.mono ?_
    rintro e w' ⟨rfl, q, rfl⟩
    have hcl := compP_len l
    have he : Lib.compactUpTo l.toArray l.length = compP l := by unfold compP; rw [List.size_toArray]
    rw [he]
    have hdl : (compP l ++ List.replicate (l.length - (compP l).length) ([] : S)).length = (l.map tV).length := by rw [List.length_append, List.length_replicate, List.length_map]; omega
    obtain ⟨h1, h2⟩ := (h.ext (ext_ahead w q)).putRow (by rw [List.length_map]; exact hpos) encStr _ hdl
    refine ⟨some ⟨b, off, none⟩, cap, rfl, ?_, (Touch.of_ext (S := [b]) (ext_ahead w q)).trans h2 (fun j hj => .inl hj)⟩
    have h3 := h1.front (compP l).length (by rw [List.length_map, List.length_append]; omega)
    rw [List.map_append, List.take_append_of_le_length (by rw [List.length_map]; exact Nat.le_refl _), List.take_of_length_le (by rw [List.length_map]; exact Nat.le_refl _)] at h3
    exact h3
/-- An object's names. -/
def namesP (o : Ob) : List S := compP (sortP ((edgesP o).map Ed.id))
def NamesE (w : World) (o : Ob) (e : Ending) (w' : World) : Prop :=
  ∃ A c, e = .returned (.slice A (namesP o).length c) ∧ Buf w' w.heap.size 9 (.slice A (namesP o).length c) ((namesP o).map tV) ∧ Ext w w'
set_option maxRecDepth 100000 in
set_option maxHeartbeats 4000000 in
theorem names_any (o : Ob) (ev pv : Value) (he : o.ents.length ≤ 2000) (hp : o.pars.length ≤ 2000) (w : World) (hin : ObIn w o ev pv) :
    Calls Try.prog 11 #[.agg (obV o ev pv).toArray] w (NamesE w o) := by
  obtain ⟨iS, hiS, hzS, hsS, hbS⟩ := infoT
  have hE0 := Ext.alloc w (.cells (obV o ev pv).toArray 25)
  have KO := Kept.mk (of_any o ev pv he hp _ (hin.ext hE0))
  have hel := edges_len o he hp
  have KE0 := Kept.mk hE0
  have Kans : Kept (∀ (e : Ending) (w' : World), (∃ A c, e = .returned (.slice A (compP (sortP ((edgesP o).map Ed.id))).length c) ∧ Buf w' w.heap.size 9 (.slice A (compP (sortP ((edgesP o).map Ed.id))).length c) ((compP (sortP ((edgesP o).map Ed.id))).map tV) ∧ Ext w w') → NamesE w o e w') := Kept.mk (fun _ _ h => h)
  unfold OfE at KO
  generalize edgesP o = E at KO hel Kans
  obtain ⟨n, hn⟩ : ∃ n, n = E.length := ⟨_, rfl⟩
  rw [← hn] at KO
  have KN := Kept.mk hn
  have hn2 : n ≤ 2001 := by omega
  clear hE0 hin hel hn he hp
  unfold obV at *
  go_enter Try.func11, Try.ntmps11
  go_wp2_with fail
  refine KO.out.mono ?_
  rintro e w1 ⟨A1, c1, rfl, hB1, hE1⟩
  have KE1 := Kept.mk (KE0.out.trans hE1)
  have KB1 := Kept.mk hB1
  clear hE1 hB1 KO KE0
  go_wp2_with fail
  go_loopg [3, 9] n (fun r ov iv wi => ∃ i : Nat, i + r = n ∧ iv = .int .i64 (i : Int) ∧ Kept (Buf wi w.heap.size 9 ov (((E.take i).map Ed.id).map tV) ∧ Ext w1 wi ∧ ∀ j ∈ own ov, w1.heap.size ≤ j))
  case atStart => exact ⟨0, by omega, rfl, Kept.mk ⟨by simpa using Buf.nil w1 w.heap.size 9, Ext.refl _, by simp [own]⟩⟩
  case round =>
    obtain ⟨i, hr, rfl, KK⟩ := hrel
    have Kr := Kept.mk hr
    have hil : i ≤ n := by omega
    clear hr
    obtain ⟨oA, oc, hov⟩ := KK.out.1.form
    rw [List.length_map, List.length_map, List.length_take, ← KN.out, Nat.min_eq_left hil] at hov
    subst hov
    by_cases hlt : i < n
    · have hltI : (i : Int) < (n : Int) := by omega
      have hiE2 : i < E.length := by rw [← KN.out]; exact hlt
      obtain ⟨b, off, rfl, hbl, hc⟩ := KB1.out.rd.get (by decide) (i := i) hiE2
      have s0 := KK.out.2.1.cell (hc 0 (.string (strOf E[i].id)) rfl)
      have s1 := KK.out.2.1.cell (hc 1 (.int .i64 E[i].k) rfl)
      have Kst := Kept.mk (show E.take (i + 1) = E.take i ++ [E[i]] from List.take_succ_eq_append_getElem hiE2)
      generalize E[i] = x at s0 s1 Kst
      rw [Nat.add_zero] at s0
      clear hc hiE2
      have Kl : Kept ((((E.take i).map Ed.id).map tV).length = i) := Kept.mk (by rw [List.length_map, List.length_map, List.length_take, ← KN.out]; omega)
      have hEx := Ext.alloc wr (.cells #[.string (strOf x.id), .int .i64 x.k] 36)
      have KEx := Kept.mk (KK.out.2.1.trans hEx)
      have KBx := Kept.mk (KK.out.1.ext hEx)
      have Kow := Kept.mk KK.out.2.2
      have hBw : w.heap.size ≤ (wr.alloc (.cells #[.string (strOf x.id), .int .i64 x.k] 36)).heap.size := (KE1.out.trans KEx.out).size
      clear hEx KK
      go_wp2_with (refine wpList_append_lit (P := Try.prog) (wr.alloc (.cells #[.string (strOf x.id), .int .i64 x.k] 36)) rfl (.tmp 13) (.tmp 16) 23 rfl 9 iS _ Try.underlying23 hiS hzS hsS rfl w.heap.size (.slice oA i oc) (((E.take i).map Ed.id).map tV) rfl KBx.out [.string (strOf x.id)] 1 rfl (by rw [World.size_alloc]; rfl) (by simp [Value.oneCell']) hBw (by rw [Kl.out]; simp only [maxLen]; omega) (by rw [Kl.out, hbS]; omega) ?_)
      intro v' w' hv' ht' ho'
      have KN2 := Kept.mk (show Buf w' w.heap.size 9 v' (((E.take (i + 1)).map Ed.id).map tV) ∧ Ext w1 w' ∧ ∀ j ∈ own v', w1.heap.size ≤ j from ⟨by rw [Kst.out, List.map_append, List.map_append]; have h := hv'; rw [← List.map_take, ← List.map_map] at h; exact h, Touch.below KEx.out ht' (fun j hj => Kow.out j hj) KEx.out.size, fun j hj => (ho' j hj).elim (fun h => Kow.out j h) (fun h => Nat.le_trans KEx.out.size (by rw [World.size_alloc]; exact h))⟩)
      obtain ⟨A', c', h'⟩ := hv'.form
      subst h'
      clear hv' ht' ho' hBw
      go_wp2_with fail
      go_roundg (gk - 1)
      case measure => have := Kr.out; omega
      case rel => exact ⟨i + 1, by have := Kr.out; omega, by first | rfl | simp, KN2⟩
    · have hltI : ¬ (i : Int) < (n : Int) := by omega
      have Kall := Kept.mk (show E.take i = E from List.take_of_length_le (by rw [← KN.out]; omega))
      rw [Kall.out] at KK
      have KS := Kept.mk (sort_any w.heap.size (.slice oA i oc) (E.map Ed.id) (by rw [List.length_map, ← KN.out]; omega) wr KK.out.1)
      have hsl : (sortP (E.map Ed.id)).length ≤ 1000000 := by rw [sortP_len, List.length_map, ← KN.out]; omega
      have KC := Kept.mk (fun (W : World) (h : Buf W w.heap.size 9 (.slice oA i oc) ((sortP (E.map Ed.id)).map tV)) => comp_any w.heap.size (.slice oA i oc) (sortP (E.map Ed.id)) hsl W h)
      have KE := Kept.mk (KE1.out.trans KK.out.2.1)
      have Kow := Kept.mk (show ∀ j ∈ own (.slice oA i oc), w.heap.size ≤ j from fun j hj => Nat.le_trans KE1.out.size (KK.out.2.2 j hj))
      clear KK hsl
      go_wp2_with fail
      refine KS.out.mono ?_
      rintro e w2 ⟨rfl, hB2, hT2⟩
      have KE2 := Kept.mk (Touch.below KE.out hT2 Kow.out KE.out.size)
      have KC2 := Kept.mk (KC.out w2 hB2)
      clear KC hB2 hT2
      go_wp2_with fail
      refine KC2.out.mono ?_
      rintro e w3 ⟨A3, c3, rfl, hB3, hT3⟩
      have KF := Kept.mk (And.intro hB3 (Touch.below KE2.out hT3 Kow.out KE2.out.size))
      clear hB3 hT3
      go_wp2_with fail
      go_ret
      exact Kans.out _ _ ⟨A3, c3, rfl, KF.out.1, KF.out.2⟩
end Edge
end Go.Proofs.Ytdjkcolceccclaa
