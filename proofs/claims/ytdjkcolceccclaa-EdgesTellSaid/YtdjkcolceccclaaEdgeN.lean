/- The law EdgesBack. No condition. -/
import Derived.Test.YtdjkcolceccclaaEdgeM
import Derived.Test.YtdjkcolceccclaaEdgeI
import Derived.Test.YtdjkcolceccclaaEdgeIn
namespace Go.Proofs.Ytdjkcolceccclaa
open Go.RowKit
namespace Edge
set_option linter.unusedSimpArgs false
set_option linter.unusedVariables false
theorem ids_small {o : Ob} (h : FewOk o) {i : Nat} (hi : i < (edgesP o).length) : (edgesP o)[i].id.length < 30000 := by
  by_cases h2 : o.k = 2
  · rw [ed_get2 h2 hi]; exact h.en _ (List.getElem_mem _)
  · by_cases h3 : o.k = 3
    · cases i with
      | zero => rw [ed_get30 h3 hi]; exact h.tree
      | succ i => rw [ed_get3 h3 hi]; exact h.pn _ (List.getElem_mem _)
    · by_cases h4 : o.k = 4
      · have hi0 : i = 0 := by rw [len4 h4] at hi; omega
        subst hi0
        rw [ed_get4 h4 hi]; exact h.targ
      · exfalso
        have he : edgesP o = [] := by unfold edgesP; rw [if_neg h2, if_neg h3, if_neg h4]
        rw [he] at hi
        simp at hi
def idAt (o : Ob) (i : Nat) : S := ((edgesP o).getD i ⟨[], 0⟩).id
theorem idAt_eq {o : Ob} {i : Nat} (hi : i < (edgesP o).length) : idAt o i = (edgesP o)[i].id := by
  unfold idAt; rw [List.getD_eq_getElem?_getD, List.getElem?_eq_getElem hi]; rfl
theorem back_self (o : Ob) : updO o (idAt o) (edgesP o).length = o := updO_self o (fun j hj => idAt_eq hj)
theorem back_twice (o : Ob) (s : S) : updO (updO o (fun i => s ++ idAt o i) (edgesP o).length) (fun i => (idAt (updO o (fun i => s ++ idAt o i) (edgesP o).length) i).drop s.length) (edgesP (updO o (fun i => s ++ idAt o i) (edgesP o).length)).length = o := by
  rw [upd_len, updO_twice]
  refine updO_self o (fun j hj => ?_)
  have hj2 : j < (edgesP (updO o (fun i => s ++ idAt o i) (edgesP o).length)).length := by rw [upd_len]; exact hj
  rw [idAt_eq hj2, upd_get o _ hj]
  simp only [List.drop_left]
  exact idAt_eq hj
set_option maxRecDepth 100000 in
set_option maxHeartbeats 16000000 in
theorem back_law (w : World) (o : Ob) (ev pv : Value) (hz : ObSz o) (hin : ObIn w o ev pv) (s : S) (hs : s.length ≤ 9223372036854775807) :
    Calls Try.prog 4 #[.agg (obV o ev pv).toArray, .string (strOf s)] w fun e w1 => e = .returned (.bool true) ∧ Below w.heap.size w w1 := by
  have hb0 := Blk.new w 25 (obV o ev pv)
  have hE1 := Ext.alloc w (.cells (obV o ev pv).toArray 25)
  have hE2 := Ext.alloc (w.alloc (.cells (obV o ev pv).toArray 25)) (.cells #[.string (strOf s)] 9)
  have hb1 := Blk.new (w.alloc (.cells (obV o ev pv).toArray 25)) 9 [.string (strOf s)]
  rw [World.size_alloc] at hb1
  have KB := Kept.mk (hb0.ext hE2)
  have KS := Kept.mk hb1
  have KE := Kept.mk (hE1.trans hE2)
  have Ksz := Kept.mk (show ((w.alloc (.cells (obV o ev pv).toArray 25)).alloc (.cells #[.string (strOf s)] 9)).heap.size = w.heap.size + 2 from by simp)
  have KI := Kept.mk (fun W (h : Ext w W) => hin.ext h)
  have KF := Kept.mk (fun W (h : Ext w W) => few_any o ev pv hz W (hin.ext h))
  have KM1 := Kept.mk (fun W (h : Ext w W) (hf : FewOk o) => mapOk_any (fn := 17) (caps := #[]) o (idAt o) (enters_of Try.func17 (by kernel_rfl) rfl) ev pv (by have := hf.ents; omega) (by have := hf.pars; omega) W (hin.ext h) (fun i W' hi _ => by rw [idAt_eq hi]; exact same1_any _ W'))
  have KM2 := Kept.mk (fun W (h : Ext w W) (hf : FewOk o) (hs1 : s.length ≤ 100) (g : Nat) (hg : W.cell? ⟨g, 0, none⟩ = some (.string (strOf s))) => mapOk_any (fn := 18) (caps := #[.pointer (some ⟨g, 0, none⟩)]) o (fun i => s ++ idAt o i) (enters_of Try.func18 (by kernel_rfl) rfl) ev pv (by have := hf.ents; omega) (by have := hf.pars; omega) W (hin.ext h) (fun i W' hi hE => by
    rw [idAt_eq hi]
    exact pre2_any _ s g W' (by have := ids_small hf hi; omega) hs1 (hE.cell hg)))
  have KM3 := Kept.mk (fun W (hf : FewOk o) (hs1 : s.length ≤ 100) (g : Nat) (hg : W.cell? ⟨g, 0, none⟩ = some (.string (strOf s))) (ev3 pv3 : Value) (h : ObIn W (updO o (fun i => s ++ idAt o i) (edgesP o).length) ev3 pv3) => mapOk_any (fn := 19) (caps := #[.pointer (some ⟨g, 0, none⟩)]) (updO o (fun i => s ++ idAt o i) (edgesP o).length) (fun i => (idAt (updO o (fun i => s ++ idAt o i) (edgesP o).length) i).drop s.length) (enters_of Try.func19 (by kernel_rfl) rfl) ev3 pv3 (by rw [updO_elen]; have := hf.ents; omega) (by rw [updO_plen]; have := hf.pars; omega) W h (fun i W' hi hE => by
    have hi2 : i < (edgesP o).length := by rw [upd_len] at hi; exact hi
    rw [idAt_eq hi]
    have hx := upd_get o (fun i => s ++ idAt o i) hi2
    refine cut3_any _ s g W' ?_ ?_ (hE.cell hg)
    · rw [hx]; simp only [List.length_append]; rw [idAt_eq hi2]; have := ids_small hf hi2; omega
    · rw [hx]; simp only [List.length_append]; omega))
  rw [back_self] at KM1
  rw [back_twice] at KM3
  generalize updO o (fun i => s ++ idAt o i) (edgesP o).length = q at KM2 KM3
  have KSM := Kept.mk (fun (W : World) (h1 : Ext w W) (ev2 pv2 : Value) (h2 : ObIn W o ev2 pv2) => same_any o ev2 pv2 ev pv W h2 (hin.ext h1))
  have hse : (strOf s).size = s.length := strOf_size _
  have KAW := Kept.mk (fun W => awake_any W)
  obtain ⟨eA, ec, hev⟩ := hin.e.form
  obtain ⟨pA, pc, hpv⟩ := hin.p.form
  rw [List.length_map] at hev hpv
  subst hev hpv
  clear hb0 hE1 hE2 hb1 hin hz
  unfold FewE at KF
  simp only [obV] at *
  go_enter Try.func4, Try.ntmps4
  go_wp2_with fail
  generalize (w.alloc (.cells #[.int .i64 o.k, .string (strOf o.text), .slice eA o.ents.length ec, .string (strOf o.tree), .slice pA o.pars.length pc, .string (strOf o.targ), .int .i64 o.of, .string (strOf o.name), .string (strOf o.who), .int .i64 o.when] 25)).alloc (.cells #[.string (strOf s)] 9) = w1 at *
  refine (KAW.out w1).mono ?_
  rintro e w2 ⟨rfl, hE2⟩
  have KE2 := Kept.mk (KE.out.trans hE2)
  have KB2 := Kept.mk (KB.out.ext hE2)
  have KS2 := Kept.mk (KS.out.ext hE2)
  clear hE2 KAW
  go_wp2_with (refine wpList_load_blk (P := Try.prog) rfl 25 (.tmp 2) rfl w.heap.size rfl 25 _ KB2.out _ Try.underlying25 rfl infoOb ?_)
  refine (KF.out w2 KE2.out).mono ?_
  rintro e w3 ⟨b, rfl, hb, hE3⟩
  have KE3 := Kept.mk (KE2.out.trans hE3)
  have KB3 := Kept.mk (KB2.out.ext hE3)
  have KS3 := Kept.mk (KS2.out.ext hE3)
  have sc := KS3.out.cell 0
  simp only [List.getElem?_cons_zero] at sc
  clear hE3 KF
  cases b with
  | false =>
    clear hb
    go_wp2_with fail
    go_ret
    exact ⟨rfl, KE3.out⟩
  | true =>
    have KFw := Kept.mk (hb rfl)
    clear hb
    by_cases h1 : s.length ≤ 100
    · have h1I : ¬ (100 : Int) < (s.length : Int) := by omega
      go_wp2_with (refine wpList_load_blk (P := Try.prog) rfl 25 (.tmp 2) rfl w.heap.size rfl 25 _ KB3.out _ Try.underlying25 rfl infoOb ?_)
      refine (KM1.out w3 KE3.out KFw.out).mono ?_
      rintro e w4 ⟨ev4, pv4, rfl, hO4, hE4⟩
      obtain ⟨A4e, n4e, c4e, h4e⟩ := BufS.form3 hO4.e
      obtain ⟨A4p, n4p, c4p, h4p⟩ := BufS.form3 hO4.p
      subst h4e h4p
      have hn4e : n4e = (o.ents.map entV).length := hO4.e.len.1
      have hn4p : n4p = (o.pars.map sV).length := hO4.p.len.1
      have Kn4e := Kept.mk hn4e
      have Kn4p := Kept.mk hn4p
      have Kcap : Kept (n4e ≤ 749 ∧ n4p ≤ 749) := Kept.mk ⟨by rw [hn4e, List.length_map]; exact KFw.out.ents, by rw [hn4p, List.length_map]; exact KFw.out.pars⟩
      have hA5 := Ext.alloc w4 (.cells #[.int .i64 o.k, .string (strOf o.text), .slice A4e n4e c4e, .string (strOf o.tree), .slice A4p n4p c4p, .string (strOf o.targ), .int .i64 o.of, .string (strOf o.name), .string (strOf o.who), .int .i64 o.when] 25)
      have Kp5 := Kept.mk (Blk.new w4 25 [.int .i64 o.k, .string (strOf o.text), .slice A4e n4e c4e, .string (strOf o.tree), .slice A4p n4p c4p, .string (strOf o.targ), .int .i64 o.of, .string (strOf o.name), .string (strOf o.who), .int .i64 o.when])
      have KO5 := Kept.mk (hO4.ext hA5)
      have KE45 := hE4.trans hA5
      have KE5 := Kept.mk (KE3.out.trans KE45)
      have KB5 := Kept.mk (KB3.out.ext KE45)
      have KS5 := Kept.mk (KS3.out.ext KE45)
      have sc5 := KS5.out.cell 0
      simp only [List.getElem?_cons_zero] at sc5
      have Klt4 := Kept.mk (show (∀ j ∈ own (.slice A4e n4e c4e), j < w4.heap.size) ∧ (∀ j ∈ own (.slice A4p n4p c4p), j < w4.heap.size) ∧ (∀ j ∈ own (.slice A4e n4e c4e), w.heap.size ≤ j) ∧ (∀ j ∈ own (.slice A4p n4p c4p), w.heap.size ≤ j) ∧ (∀ j ∈ own (.slice A4e n4e c4e), w.heap.size + 2 ≤ j) ∧ (∀ j ∈ own (.slice A4p n4p c4p), w.heap.size + 2 ≤ j) from by
        have hsz : w.heap.size + 2 ≤ w3.heap.size := by have := KS3.out.lt; omega
        exact ⟨fun j hj => (hO4.e.owns j hj).2, fun j hj => (hO4.p.owns j hj).2, fun j hj => by have := hO4.e.owns j hj; omega, fun j hj => by have := hO4.p.owns j hj; omega, fun j hj => by have := hO4.e.owns j hj; omega, fun j hj => by have := hO4.p.owns j hj; omega⟩)
      have Kg5 := Kept.mk (show w4.heap.size < (w4.alloc (.cells #[.int .i64 o.k, .string (strOf o.text), .slice A4e n4e c4e, .string (strOf o.tree), .slice A4p n4p c4p, .string (strOf o.targ), .int .i64 o.of, .string (strOf o.name), .string (strOf o.who), .int .i64 o.when] 25)).heap.size from by simp)
      clear hO4 hE4 hA5 KE45 hn4e hn4p KM1 sc
      go_wp2_with (refine wpList_load_blk (P := Try.prog) rfl 25 (.tmp 2) rfl w.heap.size rfl 25 _ KB5.out _ Try.underlying25 rfl infoOb ?_)
      generalize hg5 : w4.heap.size = g5 at *
      generalize w4.alloc (.cells #[.int .i64 o.k, .string (strOf o.text), .slice A4e n4e c4e, .string (strOf o.tree), .slice A4p n4p c4p, .string (strOf o.targ), .int .i64 o.of, .string (strOf o.name), .string (strOf o.who), .int .i64 o.when] 25) = w5 at *
      clear hg5
      refine (KM2.out w5 KE5.out KFw.out h1 (w.heap.size + 1) sc5).mono ?_
      rintro e w6 ⟨ev6, pv6, rfl, hO6, hE6⟩
      obtain ⟨A6e, n6e, c6e, h6e⟩ := BufS.form3 hO6.e
      obtain ⟨A6p, n6p, c6p, h6p⟩ := BufS.form3 hO6.p
      subst h6e h6p
      have hA7 := Ext.alloc w6 (.cells #[.int .i64 q.k, .string (strOf q.text), .slice A6e n6e c6e, .string (strOf q.tree), .slice A6p n6p c6p, .string (strOf q.targ), .int .i64 q.of, .string (strOf q.name), .string (strOf q.who), .int .i64 q.when] 25)
      have Kp7 := Kept.mk (Blk.new w6 25 [.int .i64 q.k, .string (strOf q.text), .slice A6e n6e c6e, .string (strOf q.tree), .slice A6p n6p c6p, .string (strOf q.targ), .int .i64 q.of, .string (strOf q.name), .string (strOf q.who), .int .i64 q.when])
      have KI7 := Kept.mk (hO6.in.ext hA7)
      have KE57 := Kept.mk (hE6.trans hA7)
      have KS7 := Kept.mk (KS5.out.ext KE57.out)
      have sc7 := KS7.out.cell 0
      simp only [List.getElem?_cons_zero] at sc7
      clear hO6 hE6 hA7 KM2 sc5
      go_wp2_with (refine wpList_load_blk (P := Try.prog) rfl 25 (.tmp 7) rfl w6.heap.size rfl 25 _ Kp7.out _ Try.underlying25 rfl infoOb ?_)
      generalize hg7 : w6.heap.size = g7 at *
      generalize w6.alloc (.cells #[.int .i64 q.k, .string (strOf q.text), .slice A6e n6e c6e, .string (strOf q.tree), .slice A6p n6p c6p, .string (strOf q.targ), .int .i64 q.of, .string (strOf q.name), .string (strOf q.who), .int .i64 q.when] 25) = w7 at *
      clear hg7
      refine (KM3.out w7 KFw.out h1 (w.heap.size + 1) sc7 _ _ KI7.out).mono ?_
      rintro e w8 ⟨ev8, pv8, rfl, hO8, hE8⟩
      obtain ⟨A8e, n8e, c8e, h8e⟩ := BufS.form3 hO8.e
      obtain ⟨A8p, n8p, c8p, h8p⟩ := BufS.form3 hO8.p
      subst h8e h8p
      have hA9 := Ext.alloc w8 (.cells #[.int .i64 o.k, .string (strOf o.text), .slice A8e n8e c8e, .string (strOf o.tree), .slice A8p n8p c8p, .string (strOf o.targ), .int .i64 o.of, .string (strOf o.name), .string (strOf o.who), .int .i64 o.when] 25)
      have Kp9 := Kept.mk (Blk.new w8 25 [.int .i64 o.k, .string (strOf o.text), .slice A8e n8e c8e, .string (strOf o.tree), .slice A8p n8p c8p, .string (strOf o.targ), .int .i64 o.of, .string (strOf o.name), .string (strOf o.who), .int .i64 o.when])
      have KO9 := Kept.mk (hO8.ext hA9)
      have KE59 := Kept.mk (KE57.out.trans (hE8.trans hA9))
      have Kg9 := Kept.mk (show w7.heap.size ≤ w8.heap.size from hE8.size)
      have Kg57 := Kept.mk (show g5 < w7.heap.size from Nat.lt_of_lt_of_le Kg5.out KE57.out.size)
      clear hO8 hE8 hA9 KM3 sc7
      have KE9 := Kept.mk (KE5.out.trans KE59.out)
      have KB9 := Kept.mk (KB5.out.ext KE59.out)
      have Kp59 := Kept.mk (Kp5.out.ext KE59.out)
      have KI9 := Kept.mk (KI.out _ KE9.out)
      have KI59 := Kept.mk (KO5.out.in.ext KE59.out)
      have KSM1 := Kept.mk (KSM.out _ KE9.out _ _ KI59.out)
      have a0 := KB9.out.cell 0
      have a1 := KB9.out.cell 1
      have a2 := KB9.out.cell 2
      have a3 := KB9.out.cell 3
      have a4 := KB9.out.cell 4
      have a5 := KB9.out.cell 5
      have a6 := KB9.out.cell 6
      have a7 := KB9.out.cell 7
      have a8 := KB9.out.cell 8
      have a9 := KB9.out.cell 9
      simp only [List.getElem?_cons_zero, List.getElem?_cons_succ] at a0 a1 a2 a3 a4 a5 a6 a7 a8 a9
      have b0 := Kp59.out.cell 0
      have b1 := Kp59.out.cell 1
      have b2 := Kp59.out.cell 2
      have b3 := Kp59.out.cell 3
      have b4 := Kp59.out.cell 4
      have b5 := Kp59.out.cell 5
      have b6 := Kp59.out.cell 6
      have b7 := Kp59.out.cell 7
      have b8 := Kp59.out.cell 8
      have b9 := Kp59.out.cell 9
      simp only [List.getElem?_cons_zero, List.getElem?_cons_succ] at b0 b1 b2 b3 b4 b5 b6 b7 b8 b9
      go_wp2_with fail
      generalize hg9 : w8.heap.size = g9 at *
      generalize w8.alloc (.cells #[.int .i64 o.k, .string (strOf o.text), .slice A8e n8e c8e, .string (strOf o.tree), .slice A8p n8p c8p, .string (strOf o.targ), .int .i64 o.of, .string (strOf o.name), .string (strOf o.who), .int .i64 o.when] 25) = w9 at *
      clear hg9
      refine KSM1.out.mono ?_
      rintro e wa ⟨rfl, hEa⟩
      have KEa := Kept.mk (KE9.out.trans hEa)
      have KBa := Kept.mk (KB9.out.ext hEa)
      have KPa := Kept.mk (Kp9.out.ext hEa)
      have KP5a := Kept.mk (Kp59.out.ext hEa)
      have KOa := Kept.mk (KO9.out.ext hEa)
      have KO5a := Kept.mk (KO5.out.ext (KE59.out.trans hEa))
      have KSM2 := Kept.mk (KSM.out _ KEa.out _ _ KOa.out.in)
      have c0 := KBa.out.cell 0
      have c1 := KBa.out.cell 1
      have c2 := KBa.out.cell 2
      have c3 := KBa.out.cell 3
      have c4 := KBa.out.cell 4
      have c5 := KBa.out.cell 5
      have c6 := KBa.out.cell 6
      have c7 := KBa.out.cell 7
      have c8 := KBa.out.cell 8
      have c9 := KBa.out.cell 9
      simp only [List.getElem?_cons_zero, List.getElem?_cons_succ] at c0 c1 c2 c3 c4 c5 c6 c7 c8 c9
      have d0 := KPa.out.cell 0
      have d1 := KPa.out.cell 1
      have d2 := KPa.out.cell 2
      have d3 := KPa.out.cell 3
      have d4 := KPa.out.cell 4
      have d5 := KPa.out.cell 5
      have d6 := KPa.out.cell 6
      have d7 := KPa.out.cell 7
      have d8 := KPa.out.cell 8
      have d9 := KPa.out.cell 9
      simp only [List.getElem?_cons_zero, List.getElem?_cons_succ] at d0 d1 d2 d3 d4 d5 d6 d7 d8 d9
      clear hEa KSM1 a0 a1 a2 a3 a4 a5 a6 a7 a8 a9 b0 b1 b2 b3 b4 b5 b6 b7 b8 b9
      go_wp2_with fail
      refine KSM2.out.mono ?_
      rintro e wb ⟨rfl, hEb⟩
      have KEb := Kept.mk (KEa.out.trans hEb)
      have KBb := Kept.mk (KBa.out.ext hEb)
      have KPb := Kept.mk (KPa.out.ext hEb)
      have KP5b := Kept.mk (KP5a.out.ext hEb)
      have KOb := Kept.mk (KOa.out.ext hEb)
      have KO5b := Kept.mk (KO5a.out.ext hEb)
      have m2 := KP5b.out.cell 2
      simp only [List.getElem?_cons_zero, List.getElem?_cons_succ] at m2
      clear hEb KSM2 c0 c1 c2 c3 c4 c5 c6 c7 c8 c9 d0 d1 d2 d3 d4 d5 d6 d7 d8 d9
      have Khc := Kept.mk (show n4e ≤ c4e from KO5b.out.e.len.2.1)
      go_wp2_with fail
      have hn4I : n4e ≤ 749 := Kcap.out.1
      go_loopg [11] n4e (fun r iv wi => ∃ (i : Nat) (css : List (List Value)), i + r = n4e ∧ iv = .int .i64 (i : Int) ∧ Kept (css.length = n4e ∧ BufS 3 wi w3.heap.size 46 (.slice A4e n4e c4e) css ∧ BufS 1 wi w3.heap.size 9 (.slice A4p n4p c4p) (o.pars.map sV) ∧ Touch (own (.slice A4e n4e c4e)) wb wi))
      case atStart => exact ⟨0, o.ents.map entV, by omega, rfl, Kept.mk ⟨Kn4e.out.symm, KO5b.out.e.lower (by omega), KO5b.out.p.lower (by omega), Touch.refl _ _⟩⟩
      case round =>
        clear m2
        obtain ⟨i, css, hr, rfl, KK⟩ := hrel
        have Kr := Kept.mk hr
        have hil : i ≤ n4e := by omega
        clear hr
        have KP5r := Kept.mk (KP5b.out.touch KK.out.2.2.2 (fun hm => by have := Klt4.out.1 _ hm; omega))
        by_cases hlt : i < n4e
        · have hltI : (i : Int) < (n4e : Int) := by omega
          have e2 := KP5r.out.cell 2
          simp only [List.getElem?_cons_zero, List.getElem?_cons_succ] at e2
          have hi2 : i < css.length := by rw [KK.out.1]; exact hlt
          obtain ⟨b, off, rfl, -⟩ := KK.out.2.1.at (by decide) (i := i) hi2
          obtain ⟨u2, hu2, hf2⟩ := KK.out.2.1.slot (i := i) hi2 (j := 2) (by decide)
          have hB2 := KK.out.2.1.setAt (by decide) i hi2 2 (by decide) (.string ⟨#[122]⟩)
          obtain ⟨u0, hu0, hf0⟩ := hB2.slot (i := i) (by rw [List.length_set]; exact hi2) (j := 0) (by decide)
          have hB0 := hB2.setAt (by decide) i (by rw [List.length_set]; exact hi2) 0 (by decide) (.int .i64 9)
          obtain ⟨u0', hu0', hf0'⟩ := KK.out.2.1.slot (i := i) hi2 (j := 0) (by decide)
          rw [Nat.add_zero] at hu0 hf0 hB0 hu0' hf0'
          have hTa := Touch.set wr ⟨b, off + i * 3 + 2, none⟩ (.string ⟨#[122]⟩)
          have hTb := Touch.set (wr.setCell ⟨b, off + i * 3 + 2, none⟩ (.string ⟨#[122]⟩)) ⟨b, off + i * 3, none⟩ (.int .i64 9)
          have hbg : b < g5 := Klt4.out.1 b (by simp [own])
          have e2' := hTa.cell e2 (fun hm => by rw [List.mem_singleton] at hm; simp only at hm; omega)
          have hz : ∃ cs, BlkZ wr b 46 cs := by
            obtain ⟨cs, h, _⟩ := KK.out.2.1.blk (by have := Khc.out; omega)
            exact ⟨cs, h⟩
          obtain ⟨cs, hz⟩ := hz
          have hz2 : ∃ cs, BlkZ (wr.setCell ⟨b, off + i * 3 + 2, none⟩ (.string ⟨#[122]⟩)) b 46 cs := by
            obtain ⟨cs, h, _⟩ := hB2.blk (by have := Khc.out; omega)
            exact ⟨cs, h⟩
          obtain ⟨cs2, hz2⟩ := hz2
          have hpp := BufS.other (BufS.other KK.out.2.2.1 hz (by decide) hTa) hz2 (by decide) hTb
          have KN := Kept.mk (show ∃ css2 : List (List Value), css2.length = n4e ∧ BufS 3 ((wr.setCell ⟨b, off + i * 3 + 2, none⟩ (.string ⟨#[122]⟩)).setCell ⟨b, off + i * 3, none⟩ (.int .i64 9)) w3.heap.size 46 (.slice (some ⟨b, off, none⟩) n4e c4e) css2 ∧ BufS 1 ((wr.setCell ⟨b, off + i * 3 + 2, none⟩ (.string ⟨#[122]⟩)).setCell ⟨b, off + i * 3, none⟩ (.int .i64 9)) w3.heap.size 9 (.slice A4p n4p c4p) (o.pars.map sV) ∧ Touch (own (.slice (some ⟨b, off, none⟩) n4e c4e)) wb ((wr.setCell ⟨b, off + i * 3 + 2, none⟩ (.string ⟨#[122]⟩)).setCell ⟨b, off + i * 3, none⟩ (.int .i64 9)) from
            ⟨_, by rw [List.length_set, List.length_set]; exact KK.out.1, hB0, hpp, (KK.out.2.2.2.trans hTa (fun j hj => .inl (by rw [List.mem_singleton] at hj; simp [own, hj]))).trans hTb (fun j hj => .inl (by rw [List.mem_singleton] at hj; simp [own, hj]))⟩)
          clear hTa hTb hB2 hB0 hz hz2 hpp KK hi2
          go_wp2_with fail
          go_roundg (gk - 1)
          case measure => have := Kr.out; omega
          case rel =>
            obtain ⟨css2, k1, k2, k3, k4⟩ := KN.out
            exact ⟨i + 1, css2, by have := Kr.out; omega, by first | rfl | simp, Kept.mk ⟨k1, k2, k3, k4⟩⟩
        · have hltI : ¬ (i : Int) < (n4e : Int) := by omega
          have e2 := KP5r.out.cell 2
          have e4 := KP5r.out.cell 4
          simp only [List.getElem?_cons_zero, List.getElem?_cons_succ] at e2 e4
          have KPP := Kept.mk KK.out.2.2.1
          have KT1 := Kept.mk (KK.out.2.2.2.more (S' := own (.slice A4e n4e c4e) ++ own (.slice A4p n4p c4p)) (fun j hj => List.mem_append_left _ hj))
          have hn4J : n4p ≤ 749 := Kcap.out.2
          clear KK
          go_wp2_with fail
          go_loopg [12] n4p (fun r iv wi => ∃ (j : Nat) (css : List (List Value)), j + r = n4p ∧ iv = .int .i64 (j : Int) ∧ Kept (css.length = n4p ∧ BufS 1 wi w3.heap.size 9 (.slice A4p n4p c4p) css ∧ Touch (own (.slice A4e n4e c4e) ++ own (.slice A4p n4p c4p)) wb wi))
          case atStart => exact ⟨0, o.pars.map sV, by omega, rfl, Kept.mk ⟨Kn4p.out.symm, KPP.out, KT1.out⟩⟩
          case round =>
            clear e2 e4 KPP KT1
            obtain ⟨j, css, hr2, rfl, KK⟩ := hrel
            have Kr2 := Kept.mk hr2
            have hjl : j ≤ n4p := by omega
            clear hr2
            have Kap := Kept.mk (show ∀ x ∈ own (.slice A4e n4e c4e) ++ own (.slice A4p n4p c4p), x < g5 ∧ w.heap.size + 2 ≤ x from fun x hx => by
              rcases List.mem_append.1 hx with hx | hx
              · exact ⟨Klt4.out.1 _ hx, Klt4.out.2.2.2.2.1 _ hx⟩
              · exact ⟨Klt4.out.2.1 _ hx, Klt4.out.2.2.2.2.2 _ hx⟩)
            have KP5s := Kept.mk (KP5b.out.touch KK.out.2.2 (fun hm => by have := (Kap.out _ hm).1; omega))
            have e4 := KP5s.out.cell 4
            simp only [List.getElem?_cons_zero, List.getElem?_cons_succ] at e4
            by_cases hlt2 : j < n4p
            · have hltJ : (j : Int) < (n4p : Int) := by omega
              have hj2 : j < css.length := by rw [KK.out.1]; exact hlt2
              obtain ⟨b, off, rfl, -⟩ := KK.out.2.1.at (by decide) (i := j) hj2
              obtain ⟨u2, hu2, hf2⟩ := KK.out.2.1.slot (i := j) hj2 (j := 0) (by decide)
              have hB2 := KK.out.2.1.setAt (by decide) j hj2 0 (by decide) (.string ⟨#[122]⟩)
              rw [Nat.add_zero, Nat.mul_one] at hu2 hf2 hB2
              have hTa := Touch.set wr ⟨b, off + j, none⟩ (.string ⟨#[122]⟩)
              have KN := Kept.mk (show ∃ css2 : List (List Value), css2.length = n4p ∧ BufS 1 (wr.setCell ⟨b, off + j, none⟩ (.string ⟨#[122]⟩)) w3.heap.size 9 (.slice (some ⟨b, off, none⟩) n4p c4p) css2 ∧ Touch (own (.slice A4e n4e c4e) ++ own (.slice (some ⟨b, off, none⟩) n4p c4p)) wb (wr.setCell ⟨b, off + j, none⟩ (.string ⟨#[122]⟩)) from
                ⟨_, by rw [List.length_set]; exact KK.out.1, hB2, KK.out.2.2.trans hTa (fun x hx => .inl (by rw [List.mem_singleton] at hx; simp [own, hx]))⟩)
              clear hTa hB2 KK hj2
              go_wp2_with fail
              go_roundg (gk - 1)
              case measure => have := Kr2.out; omega
              case rel =>
                obtain ⟨css2, k1, k2, k3⟩ := KN.out
                exact ⟨j + 1, css2, by have := Kr2.out; omega, by first | rfl | simp, Kept.mk ⟨k1, k2, k3⟩⟩
            · have hltJ : ¬ (j : Int) < (n4p : Int) := by omega
              have KEz := Kept.mk (show Ext w wr from Touch.below KEb.out KK.out.2.2 (fun x hx => by have := (Kap.out x hx).2; omega) KEb.out.size)
              have KOz := Kept.mk (show ObOwn wr w7.heap.size o (.slice A8e n8e c8e) (.slice A8p n8p c8p) from
                ⟨KOb.out.e.touch KK.out.2.2 (fun x hx hm => by have := (Kap.out x hm).1; have := KOb.out.e.owns x hx; have := Kg57.out; omega), KOb.out.p.touch KK.out.2.2 (fun x hx hm => by have := (Kap.out x hm).1; have := KOb.out.p.owns x hx; have := Kg57.out; omega)⟩)
              have KB9z := Kept.mk (KPb.out.touch KK.out.2.2 (fun hm => by have := (Kap.out _ hm).1; have := Kg57.out; have := Kg9.out; omega))
              have KBz := Kept.mk (KBb.out.touch KK.out.2.2 (fun hm => by have := (Kap.out _ hm).2; omega))
              have KSz := Kept.mk (KSM.out _ KEz.out _ _ KOz.out.in)
              clear KK
              go_wp2_with (first | (refine wpList_load_blk (P := Try.prog) rfl 25 (.tmp 9) rfl g9 rfl 25 _ KB9z.out _ Try.underlying25 rfl infoOb ?_) | (refine wpList_load_blk (P := Try.prog) rfl 25 (.tmp 2) rfl w.heap.size rfl 25 _ KBz.out _ Try.underlying25 rfl infoOb ?_))
              refine KSz.out.mono ?_
              rintro e wy ⟨rfl, hEy⟩
              have KFz := Kept.mk (KEz.out.trans hEy)
              clear hEy
              go_wp2_with fail
              go_ret
              exact ⟨rfl, KFz.out⟩
    · have h1I : (100 : Int) < (s.length : Int) := by omega
      go_wp2_with fail
      go_ret
      exact ⟨rfl, KE3.out⟩
theorem back_frame (w : World) (o : Ob) (ev pv : Value) (h : InOb w o ev pv) (a : ByteArray) (ha : a.size ≤ maxLen) : Calls Try.prog 4 #[.agg (obV o ev pv).toArray, .string a] w fun e w1 => e = .returned (.bool true) ∧ Below w.heap.size w w1 := by
  have := back_law w o ev pv h.1 h.2 a.data.toList (by rw [Array.length_toList]; exact ha)
  rwa [strOf_self] at this
end Edge
end Go.Proofs.Ytdjkcolceccclaa
