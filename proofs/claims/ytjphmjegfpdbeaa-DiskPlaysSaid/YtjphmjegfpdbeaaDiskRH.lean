/- The document's List. No condition. -/
import Derived.Test.YtjphmjegfpdbeaaDiskRG
namespace Go.Proofs.Ytjphmjegfpdbeaa
open Go.RowKit
namespace Disk
open Str
set_option linter.unusedSimpArgs false
set_option linter.unusedVariables false
def ListRE (w : World) (l : List S) (e : Ending) (w' : World) : Prop := ∃ v, e = .returned v ∧ Buf w' w.heap.size 9 v (l.map tV) ∧ Ext w w'
set_option maxRecDepth 100000 in
set_option maxHeartbeats 8000000 in
theorem listR_any (L : List F) (hL : Bd 1048575 L) (pre : S) (hpz : pre.length ≤ 9223372036854775807) (v : Value) (w : World) (h : Rd 2 w v (L.map fV)) : Calls Try.prog 25 #[v, .string (strOf pre)] w (ListRE w (listP L pre)) := by
  obtain ⟨A, c, rfl⟩ := h.form
  rw [List.length_map] at *
  have KR := Kept.mk h
  have KL := Kept.mk hL
  clear h hL
  obtain ⟨n, hn⟩ : ∃ n, n = L.length := ⟨_, rfl⟩
  have Kn := Kept.mk hn
  have hnb : n ≤ 1048575 := by rw [hn]; exact KL.out.len
  rw [← hn] at KR ⊢
  clear hn
  unfold ListRE
  have z2 : (strOf pre).size = pre.length := strOf_size pre
  obtain ⟨iS, hiS, hzS, hsS, hbS⟩ := infoT
  go_enter Try.func25, Try.ntmps25
  go_wp2_with fail
  go_loopg [5, 6] n (fun q ov iv wi => ∃ (i : Nat) (oA : Option Addr) (on oc : Nat), i + q = n ∧ iv = .int .i64 (i : Int) ∧ ov = .slice oA on oc ∧ Kept (Buf wi w.heap.size 9 (.slice oA on oc) ((listP (L.take i) pre).map tV) ∧ Ext w wi))
  case atStart => exact ⟨0, none, 0, 0, by omega, rfl, rfl, Kept.mk ⟨by simpa [listP] using Buf.nil w w.heap.size 9, Ext.refl _⟩⟩
  case round =>
    obtain ⟨i, oA, on, oc, hq, rfl, rfl, KK⟩ := hrel
    have Kq := Kept.mk hq
    have hil : i ≤ n := by omega
    clear hq
    by_cases hlt : i < n
    · have hltI : (i : Int) < (n : Int) := by omega
      have hi2 : i < L.length := by rw [← Kn.out]; exact hlt
      obtain ⟨b, off, rfl, -, hc⟩ := KR.out.get (by decide) (i := i) hi2
      have s0 := KK.out.2.cell (hc 0 (.string (strOf L[i].1)) rfl)
      rw [Nat.add_zero] at s0
      have Kfl := Kept.mk (show listP (L.take (i + 1)) pre = listP (L.take i) pre ++ (if pre.isPrefixOf L[i].1 = true then [L[i].1] else []) from by
        rw [List.take_succ_eq_append_getElem hi2]
        unfold listP
        rw [List.map_append, List.filter_append]
        simp [List.filter_cons])
      have hz := (KL.out.each L[i] (List.getElem_mem hi2)).1
      have Kol := Kept.mk (show on = (listP (L.take i) pre).length ∧ on ≤ 1048575 from by
        obtain ⟨A9, c9, h9⟩ := KK.out.1.form
        injection h9 with e1 e2 e3
        rw [List.length_map] at e2
        refine ⟨e2, ?_⟩
        have := List.length_filter_le (fun p => pre.isPrefixOf p) ((L.take i).map (·.1))
        rw [List.length_map, List.length_take] at this
        have h8 : on ≤ min i L.length := by rw [e2]; exact this
        omega)
      generalize L[i] = f at *
      obtain ⟨s, t⟩ := f
      simp only at s0 Kfl hz
      simp only [SZ] at hz
      generalize listP (L.take i) pre = ol at *
      have z1 : (strOf s).size = s.length := strOf_size s
      clear hc hi2
      by_cases h1 : pre.length ≤ s.length
      · have h1I : (pre.length : Int) ≤ (s.length : Int) := by omega
        have hx := strOf_front s pre.length
        by_cases h2 : s.take pre.length = pre
        · have K := Kept.mk (show pre.isPrefixOf s = true from by rw [pre_take, h2]; simp)
          rw [K.out, if_pos rfl] at Kfl
          rw [h2] at hx
          clear h2 K
          have hqs := str_same pre
          generalize pre.length = np at *
          generalize s.length = ns at *
          have Konl := Kept.mk (show (ol.map tV).length = on from by rw [List.length_map]; exact Kol.out.1.symm)
          have Kob := Kept.mk Kol.out.2
          go_wp2_with (refine wpList_append_lit (P := Try.prog) wr rfl (.tmp 32) (.tmp 34) 34 rfl 9 iS _ Try.underlying34 hiS hzS hsS (by rfl) w.heap.size (.slice oA on oc) (ol.map tV) rfl KK.out.1 [.string (strOf s)] 1 rfl rfl (by simp [Value.oneCell']) KK.out.2.size (by rw [Konl.out]; have := Kob.out; simp only [maxLen]; omega) (by rw [Konl.out, hbS]; have := Kob.out; omega) ?_)
          intro v3 w3 hb3 hT3 ho3
          have Kn3 := Kept.mk (show Buf w3 w.heap.size 9 v3 ((listP (L.take (i + 1)) pre).map tV) ∧ Ext w w3 from ⟨by rw [Kfl.out]; simpa [tV] using hb3, Touch.below KK.out.2 hT3 (fun j hj => (KK.out.1.owns j hj).1) KK.out.2.size⟩)
          obtain ⟨vA, vn, vc, hv3⟩ : ∃ A n c, v3 = .slice A n c := by obtain ⟨A, c, h⟩ := hb3.form; exact ⟨A, _, c, h⟩
          subst hv3
          clear hb3 hT3 ho3 Kfl KK
          go_wp2_with fail
          go_roundg (gk - 1)
          case measure => have := Kq.out; omega
          case rel => exact ⟨i + 1, vA, vn, vc, by have := Kq.out; omega, by first | rfl | simp, rfl, Kn3⟩
        · have K := Kept.mk (show pre.isPrefixOf s = false from by rw [pre_take]; simp [h2])
          have Kn3 := Kept.mk (show Buf wr w.heap.size 9 (.slice oA on oc) ((listP (L.take (i + 1)) pre).map tV) ∧ Ext w wr from ⟨by rw [Kfl.out, K.out]; simpa using KK.out.1, KK.out.2⟩)
          have hqs := str_ne h2
          clear h2 Kfl KK
          generalize s.take pre.length = st at *
          generalize pre.length = np at *
          generalize s.length = ns at *
          go_wp2_with fail
          go_roundg (gk - 1)
          case measure => have := Kq.out; omega
          case rel => exact ⟨i + 1, oA, on, oc, by have := Kq.out; omega, by first | rfl | simp, rfl, Kn3⟩
      · have h1I : ¬ (pre.length : Int) ≤ (s.length : Int) := by omega
        have K := Kept.mk (show pre.isPrefixOf s = false from by
          rw [pre_take, decide_eq_false_iff_not]
          intro e
          have := congrArg List.length e
          rw [List.length_take] at this
          omega)
        have Kn3 := Kept.mk (show Buf wr w.heap.size 9 (.slice oA on oc) ((listP (L.take (i + 1)) pre).map tV) ∧ Ext w wr from ⟨by rw [Kfl.out, K.out]; simpa using KK.out.1, KK.out.2⟩)
        clear Kfl KK
        generalize pre.length = np at *
        generalize s.length = ns at *
        go_wp2_with fail
        go_roundg (gk - 1)
        case measure => have := Kq.out; omega
        case rel => exact ⟨i + 1, oA, on, oc, by have := Kq.out; omega, by first | rfl | simp, rfl, Kn3⟩
    · have hltI : ¬ (i : Int) < (n : Int) := by omega
      have Kall := Kept.mk (show L.take i = L from List.take_of_length_le (by rw [← Kn.out]; omega))
      go_wp2_with fail
      go_ret
      exact ⟨_, rfl, by have := KK.out.1; rw [Kall.out] at this; exact this, KK.out.2⟩
end Disk
end Go.Proofs.Ytjphmjegfpdbeaa
