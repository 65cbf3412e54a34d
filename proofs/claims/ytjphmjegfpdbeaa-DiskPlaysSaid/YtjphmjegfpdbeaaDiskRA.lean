/- The document's Find, without, Taken, List. No condition. -/
import Derived.Test.YtjphmjegfpdbeaaDiskLawD
import Derived.Test.YtjphmjegfpdbeaaBufReg
namespace Go.Proofs.Ytjphmjegfpdbeaa
open Go.RowKit
namespace Disk
open Str
set_option linter.unusedSimpArgs false
set_option linter.unusedVariables false
def fV (f : F) : List Value := [.string (strOf f.1), .string (strOf f.2)]
theorem fV_one (L : List F) : ∀ c ∈ L.map fV, ∀ u ∈ c, u.oneCell' = true := by
  intro c hc u hu
  obtain ⟨f, _, rfl⟩ := List.mem_map.1 hc
  simp [fV] at hu
  rcases hu with rfl | rfl <;> rfl
theorem fV_len (L : List F) : ∀ c ∈ L.map fV, c.length = 2 := by
  intro c hc
  obtain ⟨f, _, rfl⟩ := List.mem_map.1 hc
  rfl
theorem infoFile : ∃ i : TypeInfo, Try.prog.info? 83 = some i ∧ i.zero = some (.agg #[.string ByteArray.empty, .string ByteArray.empty]) ∧ i.size = 2 ∧ i.bytes = 32 := by
  have h : (Try.prog.info? 83).map (fun i => (i.zero, i.size, i.bytes)) = some (some (.agg #[.string ByteArray.empty, .string ByteArray.empty]), 2, 32) := by kernel_rfl
  obtain ⟨i, hi, he⟩ := Option.map_eq_some_iff.1 h
  injection he with e1 e2
  injection e2 with e2 e3
  exact ⟨i, hi, e1, e2, e3⟩
theorem taken_app (a b : List F) : takenP (a ++ b) = takenP a + takenP b := by simp [takenP]
/-- What Find answers. -/
def FindE (w : World) (L : List F) (p : S) (e : Ending) (w' : World) : Prop := e = .returned (.tuple #[.string (strOf ((getK L p).getD [])), .bool (getK L p).isSome]) ∧ w = w'
theorem getK_skip {L : List F} {p : S} : ∀ {i : Nat}, (∀ f ∈ L.take i, f.1 ≠ p) → getK L p = getK (L.drop i) p := by
  induction L with
  | nil => intro i h; simp
  | cons x r ih =>
    intro i h
    cases i with
    | zero => rfl
    | succ i =>
      have h1 : x.1 ≠ p := h x (by simp)
      rw [List.drop_succ_cons, ← ih (fun f hf => h f (by simp [hf]))]
      simp [getK, h1]
set_option maxRecDepth 100000 in
set_option maxHeartbeats 4000000 in
theorem find_any (L : List F) (v : Value) (p : S) (w : World) (h : Rd 2 w v (L.map fV)) : Calls Try.prog 23 #[v, .string (strOf p)] w (FindE w L p) := by
  obtain ⟨A, c, rfl⟩ := h.form
  have hle := h.le
  rw [List.length_map] at *
  have KR := Kept.mk h
  clear h
  obtain ⟨n, hn⟩ : ∃ n, n = L.length := ⟨_, rfl⟩
  have Kn := Kept.mk hn
  rw [← hn] at KR hle ⊢
  clear hn
  unfold FindE
  go_enter Try.func23, Try.ntmps23
  go_wp2_with fail
  go_loopg [6] n (fun q iv wi => ∃ i : Nat, i + q = n ∧ iv = .int .i64 (i : Int) ∧ w = wi ∧ Kept (∀ f ∈ L.take i, f.1 ≠ p))
  case atStart => exact ⟨0, by omega, rfl, rfl, Kept.mk (by simp)⟩
  case round =>
    obtain ⟨i, hq, rfl, rfl, KK⟩ := hrel
    have Kq := Kept.mk hq
    have hil : i ≤ n := by omega
    clear hq
    by_cases hlt : i < n
    · have hltI : (i : Int) < (n : Int) := by omega
      have hi2 : i < L.length := by rw [← Kn.out]; exact hlt
      obtain ⟨b, off, rfl, -, hc⟩ := KR.out.get (by decide) (i := i) hi2
      have s0 := hc 0 (.string (strOf L[i].1)) rfl
      have s1 := hc 1 (.string (strOf L[i].2)) rfl
      rw [Nat.add_zero] at s0
      have Ktk := Kept.mk (show L.take (i + 1) = L.take i ++ [L[i]] from List.take_succ_eq_append_getElem hi2)
      have Kdr := Kept.mk (show L.drop i = L[i] :: L.drop (i + 1) from List.drop_eq_getElem_cons hi2)
      generalize L[i] = f at *
      obtain ⟨p1, t1⟩ := f
      simp only at s0 s1
      clear hc hi2
      by_cases hp : p1 = p
      · subst hp
        have Kg := Kept.mk (show getK L p1 = some t1 from by rw [getK_skip KK.out, Kdr.out]; simp [getK])
        go_wp2_with fail
        go_ret2
        exact ⟨by rw [Kg.out]; rfl, rfl⟩
      · have hne := str_ne hp
        have Kne := Kept.mk hp
        clear hp
        go_wp2_with fail
        go_roundg (gk - 1)
        case measure => have := Kq.out; omega
        case rel => exact ⟨i + 1, by have := Kq.out; omega, by first | rfl | simp, rfl, Kept.mk (fun f hf => by
          rw [Ktk.out, List.mem_append, List.mem_singleton] at hf
          rcases hf with hf | rfl
          · exact KK.out f hf
          · exact Kne.out)⟩
    · have hltI : ¬ (i : Int) < (n : Int) := by omega
      have Kg := Kept.mk (show getK L p = none from by
        rw [getK_skip KK.out, List.drop_of_length_le (by rw [← Kn.out]; omega)]; rfl)
      go_wp2_with fail
      go_ret2
      exact ⟨by rw [Kg.out]; rfl, rfl⟩
/-- Files in new memory. -/
def FilesE (w : World) (L : List F) (e : Ending) (w' : World) : Prop := ∃ v, e = .returned v ∧ BufS 2 w' w.heap.size 83 v (L.map fV) ∧ Ext w w'
/-- What without answers. -/
def WithoutE (w : World) (L : List F) (e : Ending) (w' : World) : Prop := ∃ v, e = .returned v ∧ BufS 2 w' w.heap.size 83 v (L.map fV) ∧ Ext w w' ∧ (L = [] → v = .slice none 0 0)
set_option maxRecDepth 100000 in
set_option maxHeartbeats 8000000 in
theorem without_any (L : List F) (hL : L.length ≤ 1048576) (v : Value) (p : S) (w : World) (h : Rd 2 w v (L.map fV)) : Calls Try.prog 51 #[v, .string (strOf p)] w (WithoutE w (dropP L p)) := by
  obtain ⟨iF, hiF, hzF, hsF, hbF⟩ := infoFile
  obtain ⟨A, c, rfl⟩ := h.form
  rw [List.length_map] at *
  have KR := Kept.mk h
  clear h
  obtain ⟨n, hn⟩ : ∃ n, n = L.length := ⟨_, rfl⟩
  have Kn := Kept.mk hn
  rw [← hn] at KR hL ⊢
  clear hn
  unfold WithoutE
  go_enter Try.func51, Try.ntmps51
  go_wp2_with fail
  go_loopg [5, 6] n (fun q ov iv wi => ∃ i : Nat, i + q = n ∧ iv = .int .i64 (i : Int) ∧ Kept (BufS 2 wi w.heap.size 83 ov ((dropP (L.take i) p).map fV) ∧ Ext w wi ∧ (dropP (L.take i) p = [] → ov = .slice none 0 0)))
  case atStart => exact ⟨0, by omega, rfl, Kept.mk ⟨by simpa [dropP] using BufS.nil 2 w w.heap.size 83, Ext.refl _, fun _ => rfl⟩⟩
  case round =>
    obtain ⟨i, hq, rfl, KK⟩ := hrel
    have Kq := Kept.mk hq
    have hil : i ≤ n := by omega
    clear hq
    obtain ⟨oA, oc, hov⟩ := KK.out.1.form
    rw [List.length_map] at hov
    subst hov
    obtain ⟨on, hon⟩ : ∃ on, on = (dropP (L.take i) p).length := ⟨_, rfl⟩
    have Kon := Kept.mk hon
    rw [← hon] at KK ⊢
    have hon2 : on ≤ i := by rw [hon]; exact Nat.le_trans (len_drop _ _) (by rw [List.length_take]; omega)
    clear hon
    by_cases hlt : i < n
    · have hltI : (i : Int) < (n : Int) := by omega
      have hi2 : i < L.length := by rw [← Kn.out]; exact hlt
      obtain ⟨b, off, rfl, -, hc⟩ := KR.out.get (by decide) (i := i) hi2
      have s0 := KK.out.2.1.cell (hc 0 (.string (strOf L[i].1)) rfl)
      have s1 := KK.out.2.1.cell (hc 1 (.string (strOf L[i].2)) rfl)
      rw [Nat.add_zero] at s0
      have Ktk := Kept.mk (show dropP (L.take (i + 1)) p = dropP (L.take i) p ++ (if L[i].1 ≠ p then [L[i]] else []) from by
        rw [List.take_succ_eq_append_getElem hi2, dropP, List.filter_append]
        by_cases hx : L[i].1 = p <;> simp [dropP, hx])
      generalize L[i] = f at *
      obtain ⟨p1, t1⟩ := f
      simp only at s0 s1
      clear hc hi2
      by_cases hp : p1 = p
      · subst hp
        have Kn2 := Kept.mk (show BufS 2 wr w.heap.size 83 (.slice oA on oc) ((dropP (L.take (i + 1)) p1).map fV) ∧ Ext w wr ∧ (dropP (L.take (i + 1)) p1 = [] → Value.slice oA on oc = .slice none 0 0) from ⟨by rw [Ktk.out]; simpa using KK.out.1, KK.out.2.1, fun h => KK.out.2.2 (by rw [Ktk.out] at h; simpa using h)⟩)
        go_wp2_with fail
        go_roundg (gk - 1)
        case measure => have := Kq.out; omega
        case rel => exact ⟨i + 1, by have := Kq.out; omega, by first | rfl | simp, Kn2⟩
      · have hne := str_ne hp
        have Klen := Kept.mk (show ((dropP (L.take i) p).map fV).length = on from by rw [List.length_map]; exact Kon.out.symm)
        have KE := Kept.mk KK.out.2.1.size
        go_wp2_with (refine wpList_append_litS (P := Try.prog) wr rfl (.tmp 20) (.tmp 25) 46 rfl 2 (by decide) 83 iF _ Try.underlying46 hiF hzF hsF (by rfl) w.heap.size (.slice oA on oc) ((dropP (L.take i) p).map fV) rfl KK.out.1 [.string (strOf p1), .string (strOf t1)] rfl rfl (by simp [Value.oneCell']) KE.out (by rw [Klen.out]; simp only [maxLen]; omega) (by rw [Klen.out, hbF]; omega) ?_)
        intro v1 w1 hb1 hT1 ho1
        have Kn2 := Kept.mk (show BufS 2 w1 w.heap.size 83 v1 ((dropP (L.take (i + 1)) p).map fV) ∧ Ext w w1 ∧ (dropP (L.take (i + 1)) p = [] → v1 = .slice none 0 0) from ⟨by rw [Ktk.out, if_pos hp, List.map_append]; exact hb1, Touch.below KK.out.2.1 hT1 (fun j hj => (KK.out.1.owns j hj).1) KK.out.2.1.size, fun h => by rw [Ktk.out, if_pos hp] at h; simp at h⟩)
        obtain ⟨vA, vn, vc, hv1⟩ := BufS.form3 hb1
        subst hv1
        clear hb1 hT1 ho1 hp
        go_wp2_with fail
        go_roundg (gk - 1)
        case measure => have := Kq.out; omega
        case rel => exact ⟨i + 1, by have := Kq.out; omega, by first | rfl | simp, Kn2⟩
    · have hltI : ¬ (i : Int) < (n : Int) := by omega
      have Kall := Kept.mk (show L.take i = L from List.take_of_length_le (by rw [← Kn.out]; omega))
      go_wp2_with fail
      go_ret
      exact ⟨_, rfl, by have := KK.out.1; rw [Kall.out] at this; exact this, KK.out.2.1, by have := KK.out.2.2; rw [Kall.out] at this; exact this⟩
set_option maxRecDepth 100000 in
set_option maxHeartbeats 4000000 in
theorem takenR_any (L : List F) (m : Nat) (hL : Bd m L) (hm : m ≤ 1048576) (v : Value) (w : World) (h : Rd 2 w v (L.map fV)) : Calls Try.prog 26 #[v] w fun e w' => e = .returned (.int .i64 (takenP L : Int)) ∧ Ext w w' := by
  obtain ⟨A, c, rfl⟩ := h.form
  rw [List.length_map] at *
  have KR := Kept.mk h
  have Kb := Kept.mk hL
  have hn2 : L.length ≤ 1048576 := Nat.le_trans hL.len hm
  clear h hL
  obtain ⟨n, hn⟩ : ∃ n, n = L.length := ⟨_, rfl⟩
  have Kn := Kept.mk hn
  rw [← hn] at KR hn2 ⊢
  clear hn
  go_enter Try.func26, Try.ntmps26
  go_wp2_with fail
  go_loopg [3, 4] n (fun q sv iv wi => ∃ i s : Nat, i + q = n ∧ iv = .int .i64 (i : Int) ∧ sv = .int .i64 (s : Int) ∧ Kept (s = takenP (L.take i) ∧ Ext w wi))
  case atStart => exact ⟨0, 0, by omega, rfl, rfl, Kept.mk ⟨rfl, Ext.refl _⟩⟩
  case round =>
    obtain ⟨i, s, hq, rfl, rfl, KK⟩ := hrel
    have Kq := Kept.mk hq
    have hil : i ≤ n := by omega
    clear hq
    by_cases hlt : i < n
    · have hltI : (i : Int) < (n : Int) := by omega
      have hi2 : i < L.length := by rw [← Kn.out]; exact hlt
      obtain ⟨b, off, rfl, -, hc⟩ := KR.out.get (by decide) (i := i) hi2
      have s0 := KK.out.2.cell (hc 0 (.string (strOf L[i].1)) rfl)
      have s1 := KK.out.2.cell (hc 1 (.string (strOf L[i].2)) rfl)
      rw [Nat.add_zero] at s0
      have Ktk := Kept.mk (show takenP (L.take (i + 1)) = takenP (L.take i) + L[i].1.length + L[i].2.length from by
        rw [List.take_succ_eq_append_getElem hi2, taken_app]
        simp [takenP]
        omega)
      have Kbd := Kept.mk (show takenP (L.take (i + 1)) ≤ 4503599627370496 from by
        have h1 : Bd m (L.take (i + 1)) := ⟨by rw [List.length_take]; have := Kb.out.len; omega, fun f hf => Kb.out.each f (List.mem_of_mem_take hf)⟩
        exact Nat.le_trans h1.taken (by omega))
      generalize L[i] = f at *
      obtain ⟨p1, t1⟩ := f
      simp only at s0 s1
      have z1 : (strOf p1).size = p1.length := strOf_size p1
      have z2 : (strOf t1).size = t1.length := strOf_size t1
      have hsum : s + p1.length + t1.length ≤ 4503599627370496 := by have := Kbd.out; have := Ktk.out; have := KK.out.1; simp only at *; omega
      have Knx := Kept.mk (show s + p1.length + t1.length = takenP (L.take (i + 1)) from by have := Ktk.out; have := KK.out.1; simp only at *; omega)
      generalize p1.length = a1 at *
      generalize t1.length = a2 at *
      clear hc hi2
      have f1 : IntKind.i64.wrap ((s : Int) + (a1 : Int)) = (s : Int) + (a1 : Int) := IntWalk.i64_in _ (by omega)
      have f2 : IntKind.i64.wrap ((s : Int) + (a1 : Int) + (a2 : Int)) = (s : Int) + (a1 : Int) + (a2 : Int) := IntWalk.i64_in _ (by omega)
      go_wp2_with fail
      go_quiet (fail)
      have KE2 := Kept.mk (KK.out.2.trans (Ext.drewN wr nq))
      clear s0 s1 f1 f2 z1 z2
      generalize wr.drewN nq = w2 at *
      go_wp2_with fail
      go_roundg (gk - 1)
      case measure => have := Kq.out; omega
      case rel => exact ⟨i + 1, s + a1 + a2, by have := Kq.out; omega, by first | rfl | simp, by first | rfl | simp, Kept.mk ⟨Knx.out, KE2.out⟩⟩
    · have hltI : ¬ (i : Int) < (n : Int) := by omega
      have Kall := Kept.mk (show L.take i = L from List.take_of_length_le (by rw [← Kn.out]; omega))
      have Ks := Kept.mk (show s = takenP L from by have := KK.out.1; rwa [Kall.out] at this)
      go_wp2_with fail
      go_ret
      exact ⟨by rw [← Ks.out]; rfl, KK.out.2⟩
end Disk
end Go.Proofs.Ytjphmjegfpdbeaa
