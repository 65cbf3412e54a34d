/- The walk of the laws' awake. No condition. -/
import Derived.Test.YtdjkcolceccclaaEdgeL
import Derived.Test.YtdjkcolceccclaaEdgeG
namespace Go.Proofs.Ytdjkcolceccclaa
open Go.RowKit
namespace Edge
set_option linter.unusedSimpArgs false
set_option linter.unusedVariables false
theorem ed_same (p q : Ed) : (((strOf p.id).toList == (strOf q.id).toList) && p.k == q.k) = decide (p = q) := by
  rw [ByteArray.toList_eq, ByteArray.toList_eq, strOf_list, strOf_list]
  obtain ⟨a, b⟩ := p
  obtain ⟨c, d⟩ := q
  by_cases h1 : a = c <;> by_cases h2 : b = d <;> simp [h1, h2]
theorem eq_ed (p q : Ed) (w : World) : (binOp .eql 36 (.agg #[.string (strOf p.id), .int .i64 p.k]) (.agg #[.string (strOf q.id), .int .i64 q.k])).run Try.prog w = .ok (.bool (decide (p = q))) w := by
  have hS : Try.prog.underlying 36 = some (.struct (Try.prog.fieldsOf 36)) := by kernel_rfl
  have hp : Try.prog.stoodInHeld 36 = false := by kernel_rfl
  rw [run_eql_struct, show (10000 : Nat) = 9999 + 1 from rfl, run_equalIn_agg w 9999 36 _ _ hS hp]
  have hb := ed_same p q
  simp only [Program.fieldsOf, Try.underlying36]
  have u3 := Try.underlying3
  have u9 := Try.underlying9
  go_simp
  by_cases h1 : (strOf p.id).toList = (strOf q.id).toList <;> by_cases h2 : p.k = q.k <;> simp [h1, h2] at hb ⊢ <;> first | exact hb | exact hb.symm | (intro h; exact h2 (by rw [h])) | (intro h; exact h1 (by rw [h])) | simp_all
def oA : Ob := ⟨3, [], [], [116], [[112]], [], 0, [], [], 0⟩
def oA2 : Ob := ⟨3, [], [], [116, 116], [[112, 112]], [], 0, [], [], 0⟩
def fA (i : Nat) : S := ((edgesP oA).getD i ⟨[], 0⟩).id ++ ((edgesP oA).getD i ⟨[], 0⟩).id
theorem edgesA : edgesP oA = [⟨[116], 2⟩, ⟨[112], 3⟩] := by decide
theorem mapA : updO oA fA (edgesP oA).length = oA2 := rfl
theorem namesA : namesP oA = [[112], [116]] := by
  have : sortP [[116], [112]] = ([[112], [116]] : List S) := by
    unfold sortP
    simp [List.mergeSort, List.MergeSort.Internal.splitInTwo, List.merge]
    decide
  unfold namesP
  rw [edgesA]
  show compP (sortP [[116], [112]]) = _
  rw [this]
  decide
set_option maxRecDepth 100000 in
set_option maxHeartbeats 8000000 in
theorem awake_any (w : World) : Calls Try.prog 6 #[] w fun e w' => e = .returned (.bool true) ∧ Ext w w' := by
  have hE1 := Ext.alloc w (.cells #[.string (strOf [112])] 9)
  have hpv := (BufS.lit 1 w 9 w.heap.size (Nat.le_refl _) [[.string (strOf [112])]] (by simp) (by simp [maxLen])).rd
  have hE2 := Ext.alloc (w.alloc (.cells #[.string (strOf [112])] 9)) (.cells (obV oA (.slice none 0 0) (.slice (some ⟨w.heap.size, 0, none⟩) 1 1)).toArray 25)
  have hb := Blk.new (w.alloc (.cells #[.string (strOf [112])] 9)) 25 (obV oA (.slice none 0 0) (.slice (some ⟨w.heap.size, 0, none⟩) 1 1))
  rw [World.size_alloc] at hb
  have KI := Kept.mk (show ObIn ((w.alloc (.cells #[.string (strOf [112])] 9)).alloc (.cells (obV oA (.slice none 0 0) (.slice (some ⟨w.heap.size, 0, none⟩) 1 1)).toArray 25)) oA (.slice none 0 0) (.slice (some ⟨w.heap.size, 0, none⟩) 1 1) from ⟨Rd.nil 3 _, hpv.ext hE2⟩)
  have KB := Kept.mk hb
  have KE := Kept.mk (hE1.trans hE2)
  have KO := Kept.mk (fun W h => of_any oA (.slice none 0 0) (.slice (some ⟨w.heap.size, 0, none⟩) 1 1) (by decide) (by decide) W h)
  have KM := Kept.mk (fun W h => mapOk_any (fn := 21) (caps := #[]) oA fA (enters_of Try.func21 (by kernel_rfl) rfl) (.slice none 0 0) (.slice (some ⟨w.heap.size, 0, none⟩) 1 1) (by decide) (by decide) W h (fun i W' hi _ => by
    have hx : fA i = (edgesP oA)[i].id ++ (edgesP oA)[i].id := by unfold fA; rw [List.getD_eq_getElem?_getD, List.getElem?_eq_getElem hi]; rfl
    rw [hx]
    refine twice_any _ W' ?_
    have h2 : i = 0 ∨ i = 1 := by have : (edgesP oA).length = 2 := by decide
                                  omega
    rcases h2 with rfl | rfl <;> simp [edgesA]))
  have KZ := Kept.mk (fun W h => mapNo_any (fn := 22) (caps := #[]) oA 6 (by decide) (by decide) (enters_of Try.func22 (by kernel_rfl) rfl) (.slice none 0 0) (.slice (some ⟨w.heap.size, 0, none⟩) 1 1) (by decide) (by decide) W h (fun i W' hi _ => none_any _ W'))
  have KN := Kept.mk (fun W h => names_any oA (.slice none 0 0) (.slice (some ⟨w.heap.size, 0, none⟩) 1 1) (by decide) (by decide) W h)
  rw [mapA] at KM
  unfold NamesE at KN
  rw [namesA] at KN
  unfold OfE at KO
  rw [edgesA] at KO
  clear hE1 hE2 hb hpv
  unfold oA obV ob0 at *
  unfold oA2 at KM
  have Keq := Kept.mk (fun W => eq_ed ⟨[116], 2⟩ ⟨[116], 2⟩ W)
  simp only [decide_true, List.length_cons, List.length_nil, List.map_cons, List.map_nil, tV, edV, sV, strOf] at KO KN KM KZ KI KB KE Keq
  go_enter Try.func6, Try.ntmps6
  go_wp2_with fail
  generalize (w.alloc (.cells #[.string ⟨#[112]⟩] 9)).alloc (.cells #[.int .i64 3, .string ⟨#[]⟩, .slice none 0 0, .string ⟨#[116]⟩, .slice (some ⟨w.heap.size, 0, none⟩) 1 1, .string ⟨#[]⟩, .int .i64 0, .string ⟨#[]⟩, .string ⟨#[]⟩, .int .i64 0] 25) = w1 at *
  refine (KO.out w1 KI.out).mono ?_
  rintro e w2 ⟨A2, c2, rfl, hB2, hE2⟩
  have KB2 := Kept.mk hB2
  have KE2 := Kept.mk hE2
  have Kb2 := Kept.mk (KB.out.ext hE2)
  clear hB2 hE2 KO
  go_wp2_with (refine wpList_load_blk (P := Try.prog) rfl 25 (.tmp 1) rfl (w.heap.size + 1) rfl 25 _ Kb2.out _ Try.underlying25 rfl infoOb ?_)
  refine (KM.out w2 (KI.out.ext KE2.out)).mono ?_
  rintro e w3 ⟨ev3, pv3, rfl, hO3, hE3⟩
  obtain ⟨A3e, n3e, c3e, h3e⟩ := BufS.form3 hO3.e
  obtain ⟨A3p, c3p, h3p⟩ := hO3.p.form
  subst h3e h3p
  have KO3 := Kept.mk hO3
  have KE3 := Kept.mk (KE2.out.trans hE3)
  have KE3y := Kept.mk hE3
  clear hO3 hE3 KM
  have hE4 := Ext.alloc w3 (.cells #[.int .i64 3, .string ⟨#[]⟩, .slice A3e n3e c3e, .string ⟨#[116, 116]⟩, .slice A3p 1 c3p, .string ⟨#[]⟩, .int .i64 0, .string ⟨#[]⟩, .string ⟨#[]⟩, .int .i64 0] 25)
  have Kp := Kept.mk (Blk.new w3 25 [.int .i64 3, .string ⟨#[]⟩, .slice A3e n3e c3e, .string ⟨#[116, 116]⟩, .slice A3p 1 c3p, .string ⟨#[]⟩, .int .i64 0, .string ⟨#[]⟩, .string ⟨#[]⟩, .int .i64 0])
  have KE4 := Kept.mk (KE3.out.trans hE4)
  have KE3x := Kept.mk (KE3y.out.trans hE4)
  have KO4 := Kept.mk (KO3.out.ext hE4)
  have Kb4 := Kept.mk (KB.out.ext KE4.out)
  clear hE4
  go_wp2_with (refine wpList_load_blk (P := Try.prog) rfl 25 (.tmp 1) rfl (w.heap.size + 1) rfl 25 _ Kb4.out _ Try.underlying25 rfl infoOb ?_)
  generalize hg3 : w3.heap.size = g3 at *
  generalize w3.alloc (.cells #[.int .i64 3, .string ⟨#[]⟩, .slice A3e n3e c3e, .string ⟨#[116, 116]⟩, .slice A3p 1 c3p, .string ⟨#[]⟩, .int .i64 0, .string ⟨#[]⟩, .string ⟨#[]⟩, .int .i64 0] 25) = w4 at *
  refine (KZ.out w4 (KI.out.ext KE4.out)).mono ?_
  rintro e w5 ⟨rfl, hE5⟩
  have hE6 := Ext.alloc w5 (.cells #[.int .i64 0, .string ⟨#[]⟩, .slice none 0 0, .string ⟨#[]⟩, .slice none 0 0, .string ⟨#[]⟩, .int .i64 0, .string ⟨#[]⟩, .string ⟨#[]⟩, .int .i64 0] 25)
  have KE6 := Kept.mk (hE5.trans hE6)
  have Kb6 := Kept.mk (Kb4.out.ext KE6.out)
  clear hE5 hE6
  go_wp2_with (refine wpList_load_blk (P := Try.prog) rfl 25 (.tmp 1) rfl (w.heap.size + 1) rfl 25 _ Kb6.out _ Try.underlying25 rfl infoOb ?_)
  generalize w5.alloc (.cells #[.int .i64 0, .string ⟨#[]⟩, .slice none 0 0, .string ⟨#[]⟩, .slice none 0 0, .string ⟨#[]⟩, .int .i64 0, .string ⟨#[]⟩, .string ⟨#[]⟩, .int .i64 0] 25) = w6 at *
  refine (KN.out w6 (KI.out.ext (KE4.out.trans KE6.out))).mono ?_
  rintro e w7 ⟨A7, c7, rfl, hB7, hE7⟩
  have KE7 := Kept.mk (KE6.out.trans hE7)
  have hb7 := KB.out.ext (KE4.out.trans KE7.out)
  have d4 := hb7.cell 4
  have hp7 := Kp.out.ext KE7.out
  have p3 := hp7.cell 3
  have p4 := hp7.cell 4
  simp only [List.getElem?_cons_zero, List.getElem?_cons_succ] at d4 p3 p4
  obtain ⟨bl, ol, rfl, -, hl⟩ := KB2.out.rd.at (by decide) (i := 0) (by decide)
  have l0 := hl 0 _ rfl
  have l1 := hl 1 _ rfl
  obtain ⟨bl', ol', e1, -, hl'⟩ := KB2.out.rd.at (by decide) (i := 1) (by decide)
  have l3 := hl' 1 _ rfl
  injection e1 with e1
  injection e1 with e1 e2
  subst e1 e2
  obtain ⟨bp, op, rfl, -, hp⟩ := KO4.out.p.rd.at (by decide) (i := 0) (by decide)
  have r0 := KE7.out.cell (hp 0 _ rfl)
  obtain ⟨bn, on, rfl, -, hn⟩ := hB7.rd.at (by decide) (i := 0) (by decide)
  have n0 := hn 0 _ rfl
  obtain ⟨bo, oo, e3, -, ho⟩ := KI.out.p.at (by decide) (i := 0) (by decide)
  have q0 := (KE4.out.trans KE7.out).cell (ho 0 _ rfl)
  injection e3 with e3
  injection e3 with e3 e4
  subst e3 e4
  have l0' := (KE3x.out.trans KE7.out).cell l0
  have l1' := (KE3x.out.trans KE7.out).cell l1
  have l3' := (KE3x.out.trans KE7.out).cell l3
  simp only [Nat.zero_mul, Nat.add_zero, Nat.one_mul, Nat.zero_add, Nat.add_assoc, strOf] at l0' l1' l3' r0 n0 q0
  have KF := Kept.mk (KE.out.trans (KE4.out.trans KE7.out))
  have hq := Keq.out
  clear hl hl' hp hn ho hp7 hb7 hB7 hE7 l0 l1 l3
  go_wp2_with fail
  go_ret
  exact ⟨rfl, KF.out⟩
end Edge
end Go.Proofs.Ytdjkcolceccclaa
