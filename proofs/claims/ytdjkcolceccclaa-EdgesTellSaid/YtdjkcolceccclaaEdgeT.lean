/- The walk of the document's With. No condition. -/
import Derived.Test.YtdjkcolceccclaaEdgeS
import Derived.Test.YtdjkcolceccclaaEdgeF
import Derived.Test.YtdjkcolceccclaaEdgeL
namespace Go.Proofs.Ytdjkcolceccclaa
open Go.RowKit
namespace Edge
set_option linter.unusedSimpArgs false
set_option linter.unusedVariables false
def WithE (w : World) (o : Ob) (e : Ending) (w' : World) : Prop := ∃ ev pv, e = .returned (.agg (obV o ev pv).toArray) ∧ ObIn w' o ev pv ∧ Ext w w'
set_option maxRecDepth 100000 in
set_option maxHeartbeats 8000000 in
theorem with_any (o : Ob) (ev pv : Value) (he : o.ents.length ≤ 2000) (hp : o.pars.length ≤ 2000) (l : List S) (B : Nat) (lv : Value) (w : World) (hll : l.length = (edgesP o).length) (hL : BufS 1 w B 9 lv (l.map sV)) (hin : ObIn w o ev pv) :
    Calls Try.prog 16 #[.agg (obV o ev pv).toArray, lv] w (WithE w (updO o (fun i => l.getD i []) (edgesP o).length)) := by
  obtain ⟨iE, hiE, hzE, hsE, hbE⟩ := infoE
  obtain ⟨iS, hiS, hzS, hsS, hbS⟩ := infoT
  obtain ⟨k, text, ents, tree, pars, targ, of, name, who, when⟩ := o
  obtain ⟨lA, lc, rfl⟩ := hL.form
  rw [List.length_map] at hL ⊢
  have hb0 := Blk.new w 25 (obV ⟨k, text, ents, tree, pars, targ, of, name, who, when⟩ ev pv)
  have hE0 := Ext.alloc w (.cells (obV ⟨k, text, ents, tree, pars, targ, of, name, who, when⟩ ev pv).toArray 25)
  have hb1 := Blk.new (w.alloc (.cells (obV ⟨k, text, ents, tree, pars, targ, of, name, who, when⟩ ev pv).toArray 25)) 25 ob0
  have hE1 := Ext.alloc (w.alloc (.cells (obV ⟨k, text, ents, tree, pars, targ, of, name, who, when⟩ ev pv).toArray 25)) (.cells ob0.toArray 25)
  rw [World.size_alloc] at hb1
  obtain ⟨eA, ec, hev⟩ := hin.e.form
  obtain ⟨pA, pc, hpv⟩ := hin.p.form
  rw [List.length_map] at hev hpv
  subst hev hpv
  have KIw := Kept.mk hin
  have KI := Kept.mk (hin.ext (hE0.trans hE1))
  have KB := Kept.mk (hb0.ext hE1)
  have KR := Kept.mk hb1
  have KE := Kept.mk (hE0.trans hE1)
  have KlB := Kept.mk (fun j hj => (hL.owns j hj).2)
  have KLw := Kept.mk hL
  have KLb := Kept.mk (hL.ext (hE0.trans hE1))
  have Ksz := Kept.mk (show ((w.alloc (.cells (obV ⟨k, text, ents, tree, pars, targ, of, name, who, when⟩ (.slice eA ents.length ec) (.slice pA pars.length pc)).toArray 25)).alloc (.cells ob0.toArray 25)).heap.size = w.heap.size + 2 from by simp)
  have Kll := Kept.mk hll
  have hlm : l.length ≤ 9223372036854775807 := by have h := hL.len.2.1; have h2 := hL.len.2.2; simp only [maxLen] at h2; omega
  unfold WithE
  simp only [obV, ob0] at *
  clear hb0 hE0 hb1 hE1 hin hll hL
  by_cases h2 : k = 2
  · have hkb : (k == 2) = true := by simpa using h2
    have hk3 : (k == 3) = false := by rw [h2]; rfl
    have hk4 : (k == 4) = false := by rw [h2]; rfl
    have hu : updO ⟨k, text, ents, tree, pars, targ, of, name, who, when⟩ (fun i => l.getD i []) (edgesP ⟨k, text, ents, tree, pars, targ, of, name, who, when⟩).length = ⟨k, text, updE (fun i => l.getD i []) ents.length ents, tree, pars, targ, of, name, who, when⟩ := by
      unfold updO; rw [if_pos h2, len2 h2]
    have Kll2 := Kept.mk (show l.length = ents.length from by rw [Kll.out, len2 h2])
    rw [hu]
    clear h2 hu
    obtain ⟨E2, hE2⟩ : ∃ E2, E2 = updE (fun i => l.getD i []) ents.length ents := ⟨_, rfl⟩
    have KE2 := Kept.mk hE2
    have Kl2 := Kept.mk (show E2.length = ents.length from by rw [hE2, updE_len])
    rw [← hE2]
    clear hE2
    generalize hn : ents.length = n at *
    have Kn := Kept.mk hn.symm
    have hn2 : n ≤ 2000 := he
    generalize hq : l.length = ln at *
    have Kq := Kept.mk hq.symm
    have hlnn : n = ln := Kll2.out.symm
    clear hn hq
    subst hlnn
    go_enter Try.func16, Try.ntmps16
    go_wp2_with fail
    generalize (w.alloc (.cells #[.int .i64 k, .string (strOf text), .slice eA n ec, .string (strOf tree), .slice pA pars.length pc, .string (strOf targ), .int .i64 of, .string (strOf name), .string (strOf who), .int .i64 when] 25)).alloc (.cells #[.int .i64 0, .string ⟨#[]⟩, .slice none 0 0, .string ⟨#[]⟩, .slice none 0 0, .string ⟨#[]⟩, .int .i64 0, .string ⟨#[]⟩, .string ⟨#[]⟩, .int .i64 0] 25) = w1 at *
    go_loopg [5, 6, 7] n (fun r s5 ov s7 wi => ∃ i : Nat, i + r = n ∧ s5 = .int .i64 (i : Int) ∧ s7 = .int .i64 (i : Int) ∧ Kept (BufS 3 wi w.heap.size 46 ov ((E2.take i).map entV) ∧ Ext w1 wi ∧ ∀ j ∈ own ov, w1.heap.size ≤ j))
    case atStart => exact ⟨0, by omega, rfl, rfl, Kept.mk ⟨by simpa using BufS.nil 3 w1 w.heap.size 46, Ext.refl _, by simp [own]⟩⟩
    case round =>
      obtain ⟨i, hr, rfl, rfl, KK⟩ := hrel
      have Kr := Kept.mk hr
      have hil : i ≤ n := by omega
      clear hr
      have Kl : Kept (((E2.take i).map entV).length = i) := Kept.mk (by rw [List.length_map, List.length_take, Kl2.out]; omega)
      obtain ⟨oA, oc, hov⟩ := KK.out.1.form
      rw [Kl.out] at hov
      subst hov
      have KBr := KB.out.ext KK.out.2.1
      have c0 := KBr.cell 0
      have c2 := KBr.cell 2
      simp only [List.getElem?_cons_zero, List.getElem?_cons_succ] at c0 c2
      clear KBr
      by_cases hlt : i < n
      · have hltI : (i : Int) < (n : Int) := by omega
        have hi2 : i < ents.length := by rw [← Kn.out]; exact hlt
        have hi3 : i < l.length := by rw [← Kq.out]; exact hlt
        obtain ⟨b, off, rfl, hbl, hc⟩ := KI.out.e.get (by decide) (i := i) hi2
        have s0 := KK.out.2.1.cell (hc 0 (.int .i64 ents[i].m) rfl)
        have s1 := KK.out.2.1.cell (hc 1 (.string (strOf ents[i].n)) rfl)
        have s2 := KK.out.2.1.cell (hc 2 (.string (strOf ents[i].i)) rfl)
        obtain ⟨b', off', rfl, hbl', hc'⟩ := KLb.out.rd.get (by decide) (i := i) hi3
        have s3 := KK.out.2.1.cell (hc' 0 (.string (strOf l[i])) rfl)
        rw [Nat.add_zero] at s0
        rw [Nat.add_zero, Nat.mul_one] at s3
        have Kst := Kept.mk (show E2.take (i + 1) = E2.take i ++ [{ ents[i] with i := l[i] }] from by
          have hi4 : i < E2.length := by rw [Kl2.out]; exact hlt
          rw [List.take_succ_eq_append_getElem hi4]
          congr 2
          simp only [KE2.out, updE, List.getElem_mapIdx]
          rw [if_pos hlt, List.getD_eq_getElem?_getD, List.getElem?_eq_getElem hi3]
          rfl)
        generalize ents[i] = x at s0 s1 s2 Kst
        generalize l[i] = y at s3 Kst
        clear hc hc' hi2 hi3
        have s3' := (Ext.alloc wr (.cells #[.int .i64 x.m, .string (strOf x.n), .string (strOf x.i)] 46)).cell s3
        have hEx := Ext.alloc wr (.cells #[.int .i64 x.m, .string (strOf x.n), .string (strOf y)] 46)
        have KEx := Kept.mk (KK.out.2.1.trans hEx)
        have KBx := Kept.mk (KK.out.1.ext hEx)
        have Kow := Kept.mk KK.out.2.2
        have hBw : w.heap.size ≤ (wr.alloc (.cells #[.int .i64 x.m, .string (strOf x.n), .string (strOf y)] 46)).heap.size := (KE.out.trans KEx.out).size
        clear KK hEx
        go_wp2_with (refine wpList_append_litS (P := Try.prog) (wr.alloc (.cells #[.int .i64 x.m, .string (strOf x.n), .string (strOf y)] 46)) rfl (.tmp 31) (.tmp 33) 22 rfl 3 (by decide) 46 iE _ Try.underlying22 hiE hzE hsE rfl w.heap.size (.slice oA i oc) ((E2.take i).map entV) rfl KBx.out [.int .i64 x.m, .string (strOf x.n), .string (strOf y)] rfl (by first | rfl | (rw [World.size_alloc]; rfl)) (by simp [Value.oneCell']) hBw (by rw [Kl.out]; simp only [maxLen]; omega) (by rw [Kl.out, hbE]; omega) ?_)
        intro v' w' hv' ht' ho'
        have KN2 := Kept.mk (show BufS 3 w' w.heap.size 46 v' ((E2.take (i + 1)).map entV) ∧ Ext w1 w' ∧ ∀ j ∈ own v', w1.heap.size ≤ j from ⟨by have h := hv'; rw [Kst.out, List.map_append]; (first | exact h | (rw [← List.map_take] at h; exact h)), Touch.below KEx.out ht' (fun j hj => Kow.out j hj) KEx.out.size, fun j hj => (ho' j hj).elim (fun h => Kow.out j h) (fun h => Nat.le_trans KEx.out.size (by first | exact h | (rw [World.size_alloc]; exact h)))⟩)
        obtain ⟨A', n', c', h'⟩ := BufS.form3 hv'
        subst h'
        clear hv' ht' ho' hBw
        go_wp2_with fail
        go_roundg (gk - 1)
        case measure => have := Kr.out; omega
        case rel => exact ⟨i + 1, by have := Kr.out; omega, by first | rfl | simp, by first | rfl | simp, KN2⟩
      · have hltI : ¬ (i : Int) < (n : Int) := by omega
        have Kall := Kept.mk (show E2.take i = E2 from List.take_of_length_le (by rw [Kl2.out]; omega))
        obtain rfl : n = i := by omega
        have KEx := Kept.mk KK.out.2.1
        have KV := Kept.mk (show BufS 3 wr w.heap.size 46 (.slice oA n oc) (E2.map entV) from by have h := KK.out.1; rw [Kall.out] at h; exact h)
        have Kow := Kept.mk (show ∀ j ∈ own (.slice oA n oc), w1.heap.size ≤ j from KK.out.2.2)
        have Kbz := KB.out.ext KEx.out
        have Krz := Kept.mk (KR.out.ext KEx.out)
        have f2 := Kbz.free 2
        have Kb2 := Kept.mk (Kbz.set 2 (.slice oA n oc))
        have hT := Touch.set wr ⟨w.heap.size, 2, none⟩ (.slice oA n oc)
        have c0' : (wr.setCell ⟨w.heap.size, 2, none⟩ (.slice oA n oc)).cell? ⟨w.heap.size, 0, none⟩ = some (.int .i64 k) := by rw [Kb2.out.cell]; rfl
        have Kr2 := Kept.mk (Krz.out.set_other ⟨w.heap.size, 2, none⟩ (.slice oA n oc) (by simp))
        have hEb := Touch.below (B := w.heap.size) (a := w) (KE.out.trans KEx.out) hT (fun j hj => by rw [List.mem_singleton] at hj; subst hj; exact Nat.le_refl _) (KE.out.trans KEx.out).size
        have Kfin := Kept.mk (show ∀ W, W = (wr.setCell ⟨w.heap.size, 2, none⟩ (.slice oA n oc)).setRow (w.heap.size + 1) [.int .i64 k, .string (strOf text), .slice oA n oc, .string (strOf tree), .slice pA pars.length pc, .string (strOf targ), .int .i64 of, .string (strOf name), .string (strOf who), .int .i64 when].toArray → BufS 3 W w.heap.size 46 (.slice oA n oc) (E2.map entV) ∧ Ext w W ∧ Blk W (w.heap.size + 1) 25 [.int .i64 k, .string (strOf text), .slice oA n oc, .string (strOf tree), .slice pA pars.length pc, .string (strOf targ), .int .i64 of, .string (strOf name), .string (strOf who), .int .i64 when] from fun W hW => by
          subst hW
          have hT2 := Touch.row (wr.setCell ⟨w.heap.size, 2, none⟩ (.slice oA n oc)) (w.heap.size + 1) [.int .i64 k, .string (strOf text), .slice oA n oc, .string (strOf tree), .slice pA pars.length pc, .string (strOf targ), .int .i64 of, .string (strOf name), .string (strOf who), .int .i64 when].toArray
          refine ⟨(KV.out.touch hT (fun j hj hm => by rw [List.mem_singleton] at hm; have := Kow.out j hj; rw [Ksz.out] at this; simp only at hm; omega)).touch hT2 (fun j hj hm => by rw [List.mem_singleton] at hm; have := Kow.out j hj; rw [Ksz.out] at this; omega), Touch.below hEb hT2 (fun j hj => by rw [List.mem_singleton] at hj; omega) hEb.size, Kr2.out.row _⟩)
        have KP := Kept.mk (fun (W : World) (h : Ext w W) => KIw.out.p.ext h)
        simp only [List.set_cons_succ, List.set_cons_zero] at Kb2
        clear KK hT Kbz hEb
        go_wp2_with (first | (refine wpList_load_blk (P := Try.prog) rfl 25 (.tmp 2) rfl w.heap.size rfl 25 _ Kb2.out _ Try.underlying25 rfl infoOb ?_) | (refine wpList_store_blk (P := Try.prog) rfl 25 (.tmp 4) (.tmp 56) rfl rfl (w.heap.size + 1) rfl 25 _ [.int .i64 k, .string (strOf text), .slice oA n oc, .string (strOf tree), .slice pA pars.length pc, .string (strOf targ), .int .i64 of, .string (strOf name), .string (strOf who), .int .i64 when] rfl Kr2.out rfl infoOb rfl ?_))
        obtain ⟨F1, F2, F3⟩ := Kfin.out _ rfl
        exact bodyPost_ret (v := _) (results_blk rfl _ _ (w.heap.size + 1) 25 _ _ rfl F3 Try.underlying25 rfl infoOb) rfl ⟨_, _, rfl, ⟨F1.rd, KP.out _ F2⟩, F2⟩
  · have hk2 : (k == 2) = false := by simpa using h2
    by_cases h3 : k = 3
    · have hk3 : (k == 3) = true := by simpa using h3
      have hk4 : (k == 4) = false := by rw [h3]; rfl
      have hl1 : l.length = pars.length + 1 := by rw [Kll.out, len3 h3]
      obtain ⟨l0, lt, rfl⟩ : ∃ l0 lt, l = l0 :: lt := by
        cases l with
        | nil => simp at hl1
        | cons a b => exact ⟨a, b, rfl⟩
      have hlt : lt.length = pars.length := by simpa using hl1
      have hu : updO ⟨k, text, ents, tree, pars, targ, of, name, who, when⟩ (fun i => (l0 :: lt).getD i []) (edgesP ⟨k, text, ents, tree, pars, targ, of, name, who, when⟩).length = ⟨k, text, ents, l0, lt, targ, of, name, who, when⟩ := by
        have e1 : updS (fun i => (l0 :: lt).getD i []) (pars.length + 1) pars = lt := by
          unfold updS
          apply List.ext_getElem
          · simp [hlt]
          · intro j g1 g2
            have hj : j < pars.length := by simpa using g1
            simp only [List.getElem_mapIdx]
            rw [if_pos (by omega), List.getD_eq_getElem?_getD, List.getElem?_cons_succ, List.getElem?_eq_getElem g2]
            rfl
        unfold updO; rw [if_neg h2, if_pos h3, len3 h3]
        simp only [e1]
        rfl
      rw [hu]
      have Klt := Kept.mk hlt
      have hpl : lt.length ≤ 2000 := by rw [hlt]; exact hp
      clear h2 h3 hu hl1 hlt Kll
      simp only [List.length_cons, List.map_cons] at *
      obtain ⟨lb, lo, rfl, -, hc⟩ := (show Rd 1 w _ ((l0 :: lt).map sV) from KLw.out.rd).get (by decide) (i := 0) (by simp)
      have s00 := hc 0 (.string (strOf l0)) rfl
      simp only [Nat.zero_mul, Nat.add_zero] at s00
      have hcut := KLw.out.cut 1 (by simp)
      simp only [Option.map_some, Addr.add_lit, Nat.mul_one, List.drop_succ_cons, List.drop_zero, Nat.add_sub_cancel] at hcut
      have hlc := KLw.out.len.2
      have hc1 : lt.length + 1 ≤ lc := hlc.1
      have hc2 : lc ≤ 9223372036854775807 := hlc.2
      clear hc hlc
      generalize hq : lt.length = lm at *
      have Kq := Kept.mk hq
      clear hq
      have h1I : (0 : Int) < ((lm : Int) + 1) := by omega
      have hc3 : (1 : Int) ≤ (lm : Int) + 1 := by omega
      have hc4 : (lm : Int) + 1 ≤ (lc : Int) := by omega
      have hc5 : (1 : Int) ≤ (lc : Int) := by omega
      have hb3 := Blk.new w 25 [.int .i64 k, .string (strOf text), .slice eA ents.length ec, .string (strOf l0), .slice pA pars.length pc, .string (strOf targ), .int .i64 of, .string (strOf name), .string (strOf who), .int .i64 when]
      have hE3 := Ext.alloc w (.cells #[.int .i64 k, .string (strOf text), .slice eA ents.length ec, .string (strOf l0), .slice pA pars.length pc, .string (strOf targ), .int .i64 of, .string (strOf name), .string (strOf who), .int .i64 when] 25)
      have hr3 := Blk.new (w.alloc (.cells #[.int .i64 k, .string (strOf text), .slice eA ents.length ec, .string (strOf l0), .slice pA pars.length pc, .string (strOf targ), .int .i64 of, .string (strOf name), .string (strOf who), .int .i64 when] 25)) 25 [.int .i64 0, .string ⟨#[]⟩, .slice none 0 0, .string ⟨#[]⟩, .slice none 0 0, .string ⟨#[]⟩, .int .i64 0, .string ⟨#[]⟩, .string ⟨#[]⟩, .int .i64 0]
      have hE4 := Ext.alloc (w.alloc (.cells #[.int .i64 k, .string (strOf text), .slice eA ents.length ec, .string (strOf l0), .slice pA pars.length pc, .string (strOf targ), .int .i64 of, .string (strOf name), .string (strOf who), .int .i64 when] 25)) (.cells #[.int .i64 0, .string ⟨#[]⟩, .slice none 0 0, .string ⟨#[]⟩, .slice none 0 0, .string ⟨#[]⟩, .int .i64 0, .string ⟨#[]⟩, .string ⟨#[]⟩, .int .i64 0] 25)
      rw [World.size_alloc] at hr3
      have KE3 := Kept.mk (hE3.trans hE4)
      have hs3 : ((w.alloc (.cells #[.int .i64 k, .string (strOf text), .slice eA ents.length ec, .string (strOf l0), .slice pA pars.length pc, .string (strOf targ), .int .i64 of, .string (strOf name), .string (strOf who), .int .i64 when] 25)).alloc (.cells #[.int .i64 0, .string ⟨#[]⟩, .slice none 0 0, .string ⟨#[]⟩, .slice none 0 0, .string ⟨#[]⟩, .int .i64 0, .string ⟨#[]⟩, .string ⟨#[]⟩, .int .i64 0] 25)).heap.size = w.heap.size + 2 := by simp
      have hE5 := Ext.alloc ((w.alloc (.cells #[.int .i64 k, .string (strOf text), .slice eA ents.length ec, .string (strOf l0), .slice pA pars.length pc, .string (strOf targ), .int .i64 of, .string (strOf name), .string (strOf who), .int .i64 when] 25)).alloc (.cells #[.int .i64 0, .string ⟨#[]⟩, .slice none 0 0, .string ⟨#[]⟩, .slice none 0 0, .string ⟨#[]⟩, .int .i64 0, .string ⟨#[]⟩, .string ⟨#[]⟩, .int .i64 0] 25)) (.cells #[] 9)
      have KLe := Kept.mk (show BufS 1 (((w.alloc (.cells #[.int .i64 k, .string (strOf text), .slice eA ents.length ec, .string (strOf l0), .slice pA pars.length pc, .string (strOf targ), .int .i64 of, .string (strOf name), .string (strOf who), .int .i64 when] 25)).alloc (.cells #[.int .i64 0, .string ⟨#[]⟩, .slice none 0 0, .string ⟨#[]⟩, .slice none 0 0, .string ⟨#[]⟩, .int .i64 0, .string ⟨#[]⟩, .string ⟨#[]⟩, .int .i64 0] 25)).alloc (.cells #[] 9)) (w.heap.size + 2) 9 (.slice (some ⟨w.heap.size + 2, 0, none⟩) 0 0) [] from by
        have h := BufS.lit 1 ((w.alloc (.cells #[.int .i64 k, .string (strOf text), .slice eA ents.length ec, .string (strOf l0), .slice pA pars.length pc, .string (strOf targ), .int .i64 of, .string (strOf name), .string (strOf who), .int .i64 when] 25)).alloc (.cells #[.int .i64 0, .string ⟨#[]⟩, .slice none 0 0, .string ⟨#[]⟩, .slice none 0 0, .string ⟨#[]⟩, .int .i64 0, .string ⟨#[]⟩, .string ⟨#[]⟩, .int .i64 0] 25)) 9 (w.heap.size + 2) (by simp) [] (by simp) (by simp [maxLen])
        rw [hs3] at h; exact h)
      have KE5 := Kept.mk (KE3.out.trans hE5)
      have KB5 := Kept.mk ((hb3.ext hE4).ext hE5)
      have KR5 := Kept.mk (hr3.ext hE5)
      have Kct := Kept.mk (hcut.ext KE5.out)
      have s0 := KE3.out.cell s00
      have s1 := KE.out.cell s00
      have hsz5 : (((w.alloc (.cells #[.int .i64 k, .string (strOf text), .slice eA ents.length ec, .string (strOf l0), .slice pA pars.length pc, .string (strOf targ), .int .i64 of, .string (strOf name), .string (strOf who), .int .i64 when] 25)).alloc (.cells #[.int .i64 0, .string ⟨#[]⟩, .slice none 0 0, .string ⟨#[]⟩, .slice none 0 0, .string ⟨#[]⟩, .int .i64 0, .string ⟨#[]⟩, .string ⟨#[]⟩, .int .i64 0] 25)).alloc (.cells #[] 9)).heap.size = w.heap.size + 3 := by simp
      have hB5 : w.heap.size + 2 ≤ (((w.alloc (.cells #[.int .i64 k, .string (strOf text), .slice eA ents.length ec, .string (strOf l0), .slice pA pars.length pc, .string (strOf targ), .int .i64 of, .string (strOf name), .string (strOf who), .int .i64 when] 25)).alloc (.cells #[.int .i64 0, .string ⟨#[]⟩, .slice none 0 0, .string ⟨#[]⟩, .slice none 0 0, .string ⟨#[]⟩, .int .i64 0, .string ⟨#[]⟩, .string ⟨#[]⟩, .int .i64 0] 25)).alloc (.cells #[] 9)).heap.size := by omega
      have Kone := Kept.mk (fun c (hc : c ∈ lt.map sV) => show c.length = 1 from by obtain ⟨s, _, rfl⟩ := List.mem_map.1 hc; rfl)
      have Kone2 := Kept.mk (fun c (hc : c ∈ lt.map sV) u (hu : u ∈ c) => show u.oneCell' = true from by obtain ⟨s, _, rfl⟩ := List.mem_map.1 hc; simp [sV] at hu; subst hu; rfl)
      have KP := Kept.mk (fun (W : World) (h : Ext w W) => KIw.out.ext h)
      clear hb3 hE3 hr3 hE4 hE5 hcut hs3 hsz5
      by_cases hl1 : lc = 1
      · rw [if_pos hl1] at Kct
        obtain rfl : lm = 0 := by omega
        subst hl1
        go_enter Try.func16, Try.ntmps16
        go_wp2_with (refine wpList_append_bufS (P := Try.prog) _ rfl (.tmp 44) (.tmp 46) 23 23 rfl 1 (by decide) 9 iS _ Try.underlying23 hiS hzS hsS rfl (w.heap.size + 2) (.slice (some ⟨w.heap.size + 2, 0, none⟩) 0 0) [] (by first | rfl | (simp; rfl)) KLe.out (.slice (some ⟨lb, lo, none⟩) 0 0) 0 (lt.map sV) Kone.out (by first | rfl | (simp; rfl)) (BufS.src (P := Try.prog) _ Kct.out (by decide) Try.underlying23 Kone2.out) hB5 (by simp only [List.length_nil, maxLen]; omega) (by rw [hbS]; simp only [List.length_nil]; omega) ?_)
        intro v' w' hv' ht' ho'
        have hgo : ∀ j ∈ own (.slice (some ⟨w.heap.size + 2, 0, none⟩) 0 0), j = w.heap.size + 2 := fun j hj => by simpa [own] using hj
        have KBz := Kept.mk (KB5.out.touch ht' (fun hm => by have := hgo _ hm; omega))
        have KRz := Kept.mk (KR5.out.touch ht' (fun hm => by have := hgo _ hm; omega))
        have KEz := Kept.mk (show Ext w w' from Touch.below KE5.out ht' (fun j hj => by have := hgo j hj; omega) KE5.out.size)
        have KV := Kept.mk (show BufS 1 w' (w.heap.size + 2) 9 v' (lt.map sV) from hv')
        obtain ⟨vA, vn, vc, hvf⟩ := BufS.form3 hv'
        subst hvf
        clear hv' ht' ho' hgo
        have f4 := KBz.out.free 4
        have c4 := KBz.out.cell 4
        simp only [List.getElem?_cons_zero, List.getElem?_cons_succ] at c4
        have hT4 := Touch.set w' ⟨w.heap.size, 4, none⟩ (.slice vA vn vc)
        have KB6 := Kept.mk (KBz.out.set 4 (.slice vA vn vc))
        have KR6 := Kept.mk (KRz.out.set_other ⟨w.heap.size, 4, none⟩ (.slice vA vn vc) (by simp))
        have KV6 := Kept.mk (KV.out.touch hT4 (fun j hj hm => by rw [List.mem_singleton] at hm; have := (KV.out.owns j hj).1; simp only at hm; omega))
        have KE6 := Kept.mk (Touch.below (B := w.heap.size) KEz.out hT4 (fun j hj => by rw [List.mem_singleton] at hj; simp only at hj; omega) KEz.out.size)
        simp only [List.set_cons_succ, List.set_cons_zero] at KB6
        have c0' : (w'.setCell ⟨w.heap.size, 4, none⟩ (.slice vA vn vc)).cell? ⟨w.heap.size, 0, none⟩ = some (.int .i64 k) := by rw [KB6.out.cell]; rfl
        have Kfin := Kept.mk (show ∀ W, W = (w'.setCell ⟨w.heap.size, 4, none⟩ (.slice vA vn vc)).setRow (w.heap.size + 1) [.int .i64 k, .string (strOf text), .slice eA ents.length ec, .string (strOf l0), .slice vA vn vc, .string (strOf targ), .int .i64 of, .string (strOf name), .string (strOf who), .int .i64 when].toArray → BufS 1 W (w.heap.size + 2) 9 (.slice vA vn vc) (lt.map sV) ∧ Ext w W ∧ Blk W (w.heap.size + 1) 25 [.int .i64 k, .string (strOf text), .slice eA ents.length ec, .string (strOf l0), .slice vA vn vc, .string (strOf targ), .int .i64 of, .string (strOf name), .string (strOf who), .int .i64 when] from fun W hW => by
          subst hW
          have hT6 := Touch.row (w'.setCell ⟨w.heap.size, 4, none⟩ (.slice vA vn vc)) (w.heap.size + 1) [.int .i64 k, .string (strOf text), .slice eA ents.length ec, .string (strOf l0), .slice vA vn vc, .string (strOf targ), .int .i64 of, .string (strOf name), .string (strOf who), .int .i64 when].toArray
          exact ⟨KV6.out.touch hT6 (fun j hj hm => by rw [List.mem_singleton] at hm; have := (KV.out.owns j hj).1; omega), Touch.below KE6.out hT6 (fun j hj => by rw [List.mem_singleton] at hj; omega) KE6.out.size, KR6.out.row _⟩)
        clear hT4
        go_wp2_with (first | (refine wpList_load_blk (P := Try.prog) rfl 25 (.tmp 2) rfl w.heap.size rfl 25 _ KB6.out _ Try.underlying25 rfl infoOb ?_) | (refine wpList_store_blk (P := Try.prog) rfl 25 (.tmp 4) (.tmp 56) rfl rfl (w.heap.size + 1) rfl 25 _ [.int .i64 k, .string (strOf text), .slice eA ents.length ec, .string (strOf l0), .slice vA vn vc, .string (strOf targ), .int .i64 of, .string (strOf name), .string (strOf who), .int .i64 when] rfl KR6.out rfl infoOb rfl ?_))
        obtain ⟨F1, F2, F3⟩ := Kfin.out _ rfl
        exact bodyPost_ret (v := _) (results_blk rfl _ _ (w.heap.size + 1) 25 _ _ rfl F3 Try.underlying25 rfl infoOb) rfl ⟨_, _, rfl, ⟨(KP.out _ F2).e, F1.rd⟩, F2⟩
      · rw [if_neg hl1] at Kct
        go_enter Try.func16, Try.ntmps16
        go_wp2_with (refine wpList_append_bufS (P := Try.prog) _ rfl (.tmp 44) (.tmp 46) 23 23 rfl 1 (by decide) 9 iS _ Try.underlying23 hiS hzS hsS rfl (w.heap.size + 2) (.slice (some ⟨w.heap.size + 2, 0, none⟩) 0 0) [] (by first | rfl | (simp; rfl)) KLe.out (.slice (some ⟨lb, lo + 1, none⟩) lm (lc - 1)) lm (lt.map sV) Kone.out (by first | rfl | (simp; rfl)) (BufS.src (P := Try.prog) _ Kct.out (by decide) Try.underlying23 Kone2.out) hB5 (by simp only [List.length_nil, maxLen]; omega) (by rw [hbS]; simp only [List.length_nil]; omega) ?_)
        intro v' w' hv' ht' ho'
        have hgo : ∀ j ∈ own (.slice (some ⟨w.heap.size + 2, 0, none⟩) 0 0), j = w.heap.size + 2 := fun j hj => by simpa [own] using hj
        have KBz := Kept.mk (KB5.out.touch ht' (fun hm => by have := hgo _ hm; omega))
        have KRz := Kept.mk (KR5.out.touch ht' (fun hm => by have := hgo _ hm; omega))
        have KEz := Kept.mk (show Ext w w' from Touch.below KE5.out ht' (fun j hj => by have := hgo j hj; omega) KE5.out.size)
        have KV := Kept.mk (show BufS 1 w' (w.heap.size + 2) 9 v' (lt.map sV) from hv')
        obtain ⟨vA, vn, vc, hvf⟩ := BufS.form3 hv'
        subst hvf
        clear hv' ht' ho' hgo
        have f4 := KBz.out.free 4
        have c4 := KBz.out.cell 4
        simp only [List.getElem?_cons_zero, List.getElem?_cons_succ] at c4
        have hT4 := Touch.set w' ⟨w.heap.size, 4, none⟩ (.slice vA vn vc)
        have KB6 := Kept.mk (KBz.out.set 4 (.slice vA vn vc))
        have KR6 := Kept.mk (KRz.out.set_other ⟨w.heap.size, 4, none⟩ (.slice vA vn vc) (by simp))
        have KV6 := Kept.mk (KV.out.touch hT4 (fun j hj hm => by rw [List.mem_singleton] at hm; have := (KV.out.owns j hj).1; simp only at hm; omega))
        have KE6 := Kept.mk (Touch.below (B := w.heap.size) KEz.out hT4 (fun j hj => by rw [List.mem_singleton] at hj; simp only at hj; omega) KEz.out.size)
        simp only [List.set_cons_succ, List.set_cons_zero] at KB6
        have c0' : (w'.setCell ⟨w.heap.size, 4, none⟩ (.slice vA vn vc)).cell? ⟨w.heap.size, 0, none⟩ = some (.int .i64 k) := by rw [KB6.out.cell]; rfl
        have Kfin := Kept.mk (show ∀ W, W = (w'.setCell ⟨w.heap.size, 4, none⟩ (.slice vA vn vc)).setRow (w.heap.size + 1) [.int .i64 k, .string (strOf text), .slice eA ents.length ec, .string (strOf l0), .slice vA vn vc, .string (strOf targ), .int .i64 of, .string (strOf name), .string (strOf who), .int .i64 when].toArray → BufS 1 W (w.heap.size + 2) 9 (.slice vA vn vc) (lt.map sV) ∧ Ext w W ∧ Blk W (w.heap.size + 1) 25 [.int .i64 k, .string (strOf text), .slice eA ents.length ec, .string (strOf l0), .slice vA vn vc, .string (strOf targ), .int .i64 of, .string (strOf name), .string (strOf who), .int .i64 when] from fun W hW => by
          subst hW
          have hT6 := Touch.row (w'.setCell ⟨w.heap.size, 4, none⟩ (.slice vA vn vc)) (w.heap.size + 1) [.int .i64 k, .string (strOf text), .slice eA ents.length ec, .string (strOf l0), .slice vA vn vc, .string (strOf targ), .int .i64 of, .string (strOf name), .string (strOf who), .int .i64 when].toArray
          exact ⟨KV6.out.touch hT6 (fun j hj hm => by rw [List.mem_singleton] at hm; have := (KV.out.owns j hj).1; omega), Touch.below KE6.out hT6 (fun j hj => by rw [List.mem_singleton] at hj; omega) KE6.out.size, KR6.out.row _⟩)
        clear hT4
        go_wp2_with (first | (refine wpList_load_blk (P := Try.prog) rfl 25 (.tmp 2) rfl w.heap.size rfl 25 _ KB6.out _ Try.underlying25 rfl infoOb ?_) | (refine wpList_store_blk (P := Try.prog) rfl 25 (.tmp 4) (.tmp 56) rfl rfl (w.heap.size + 1) rfl 25 _ [.int .i64 k, .string (strOf text), .slice eA ents.length ec, .string (strOf l0), .slice vA vn vc, .string (strOf targ), .int .i64 of, .string (strOf name), .string (strOf who), .int .i64 when] rfl KR6.out rfl infoOb rfl ?_))
        obtain ⟨F1, F2, F3⟩ := Kfin.out _ rfl
        exact bodyPost_ret (v := _) (results_blk rfl _ _ (w.heap.size + 1) 25 _ _ rfl F3 Try.underlying25 rfl infoOb) rfl ⟨_, _, rfl, ⟨(KP.out _ F2).e, F1.rd⟩, F2⟩
    · have hk3 : (k == 3) = false := by simpa using h3
      by_cases h4 : k = 4
      · have hk4 : (k == 4) = true := by simpa using h4
        have hl1 : l.length = 1 := by rw [Kll.out, len4 h4]
        obtain ⟨l0, rfl⟩ : ∃ l0, l = [l0] := List.length_eq_one_iff.1 hl1
        have hu : updO ⟨k, text, ents, tree, pars, targ, of, name, who, when⟩ (fun i => [l0].getD i []) (edgesP ⟨k, text, ents, tree, pars, targ, of, name, who, when⟩).length = ⟨k, text, ents, tree, pars, l0, of, name, who, when⟩ := by
          unfold updO; rw [if_neg h2, if_neg h3, if_pos h4, len4 h4]; rfl
        rw [hu]
        clear h2 h3 h4 hu hl1 Kll
        simp only [List.length_cons, List.length_nil] at *
        obtain ⟨lb, lo, rfl, -, hc⟩ := (show Rd 1 w _ ([l0].map sV) from KLw.out.rd).get (by decide) (i := 0) (by simp)
        have s00 := hc 0 (.string (strOf l0)) rfl
        simp only [Nat.zero_mul, Nat.add_zero] at s00
        clear hc
        have hb5 := Blk.new w 25 [.int .i64 k, .string (strOf text), .slice eA ents.length ec, .string (strOf tree), .slice pA pars.length pc, .string (strOf l0), .int .i64 of, .string (strOf name), .string (strOf who), .int .i64 when]
        have hE5 := Ext.alloc w (.cells #[.int .i64 k, .string (strOf text), .slice eA ents.length ec, .string (strOf tree), .slice pA pars.length pc, .string (strOf l0), .int .i64 of, .string (strOf name), .string (strOf who), .int .i64 when] 25)
        have hr5 := Blk.new (w.alloc (.cells #[.int .i64 k, .string (strOf text), .slice eA ents.length ec, .string (strOf tree), .slice pA pars.length pc, .string (strOf l0), .int .i64 of, .string (strOf name), .string (strOf who), .int .i64 when] 25)) 25 [.int .i64 0, .string ⟨#[]⟩, .slice none 0 0, .string ⟨#[]⟩, .slice none 0 0, .string ⟨#[]⟩, .int .i64 0, .string ⟨#[]⟩, .string ⟨#[]⟩, .int .i64 0]
        have hE6 := Ext.alloc (w.alloc (.cells #[.int .i64 k, .string (strOf text), .slice eA ents.length ec, .string (strOf tree), .slice pA pars.length pc, .string (strOf l0), .int .i64 of, .string (strOf name), .string (strOf who), .int .i64 when] 25)) (.cells #[.int .i64 0, .string ⟨#[]⟩, .slice none 0 0, .string ⟨#[]⟩, .slice none 0 0, .string ⟨#[]⟩, .int .i64 0, .string ⟨#[]⟩, .string ⟨#[]⟩, .int .i64 0] 25)
        rw [World.size_alloc] at hr5
        have KB5 := Kept.mk (hb5.ext hE6)
        have KR5 := Kept.mk hr5
        have KE5 := Kept.mk (hE5.trans hE6)
        have s0 := (hE5.trans hE6).cell s00
        have Kfin := Kept.mk (show ∀ W, W = ((w.alloc (.cells #[.int .i64 k, .string (strOf text), .slice eA ents.length ec, .string (strOf tree), .slice pA pars.length pc, .string (strOf l0), .int .i64 of, .string (strOf name), .string (strOf who), .int .i64 when] 25)).alloc (.cells #[.int .i64 0, .string ⟨#[]⟩, .slice none 0 0, .string ⟨#[]⟩, .slice none 0 0, .string ⟨#[]⟩, .int .i64 0, .string ⟨#[]⟩, .string ⟨#[]⟩, .int .i64 0] 25)).setRow (w.heap.size + 1) [.int .i64 k, .string (strOf text), .slice eA ents.length ec, .string (strOf tree), .slice pA pars.length pc, .string (strOf l0), .int .i64 of, .string (strOf name), .string (strOf who), .int .i64 when].toArray → Ext w W ∧ Blk W (w.heap.size + 1) 25 [.int .i64 k, .string (strOf text), .slice eA ents.length ec, .string (strOf tree), .slice pA pars.length pc, .string (strOf l0), .int .i64 of, .string (strOf name), .string (strOf who), .int .i64 when] from fun W hW => by
          subst hW
          exact ⟨Touch.below KE5.out (Touch.row _ (w.heap.size + 1) _) (fun j hj => by rw [List.mem_singleton] at hj; omega) KE5.out.size, KR5.out.row _⟩)
        have KP := Kept.mk (fun (W : World) (h : Ext w W) => KIw.out.ext h)
        have s1 := KE.out.cell s00
        clear hb5 hE5 hr5 hE6
        go_enter Try.func16, Try.ntmps16
        go_wp2_with (first | (refine wpList_load_blk (P := Try.prog) rfl 25 (.tmp 2) rfl w.heap.size rfl 25 _ KB5.out _ Try.underlying25 rfl infoOb ?_) | (refine wpList_store_blk (P := Try.prog) rfl 25 (.tmp 4) (.tmp 56) rfl rfl (w.heap.size + 1) rfl 25 _ [.int .i64 k, .string (strOf text), .slice eA ents.length ec, .string (strOf tree), .slice pA pars.length pc, .string (strOf l0), .int .i64 of, .string (strOf name), .string (strOf who), .int .i64 when] rfl KR5.out rfl infoOb rfl ?_))
        obtain ⟨F2, F3⟩ := Kfin.out _ rfl
        exact bodyPost_ret (v := _) (results_blk rfl _ _ (w.heap.size + 1) 25 _ _ rfl F3 Try.underlying25 rfl infoOb) rfl ⟨_, _, rfl, ⟨(KP.out _ F2).e, (KP.out _ F2).p⟩, F2⟩
      · have hk4 : (k == 4) = false := by simpa using h4
        have hu : updO ⟨k, text, ents, tree, pars, targ, of, name, who, when⟩ (fun i => l.getD i []) (edgesP ⟨k, text, ents, tree, pars, targ, of, name, who, when⟩).length = ⟨k, text, ents, tree, pars, targ, of, name, who, when⟩ := by
          unfold updO; rw [if_neg h2, if_neg h3, if_neg h4]
        rw [hu]
        clear h2 h3 h4 hu Kll
        have Kfin := Kept.mk (show ∀ W, W = ((w.alloc (.cells #[.int .i64 k, .string (strOf text), .slice eA ents.length ec, .string (strOf tree), .slice pA pars.length pc, .string (strOf targ), .int .i64 of, .string (strOf name), .string (strOf who), .int .i64 when] 25)).alloc (.cells #[.int .i64 0, .string ⟨#[]⟩, .slice none 0 0, .string ⟨#[]⟩, .slice none 0 0, .string ⟨#[]⟩, .int .i64 0, .string ⟨#[]⟩, .string ⟨#[]⟩, .int .i64 0] 25)).setRow (w.heap.size + 1) [.int .i64 k, .string (strOf text), .slice eA ents.length ec, .string (strOf tree), .slice pA pars.length pc, .string (strOf targ), .int .i64 of, .string (strOf name), .string (strOf who), .int .i64 when].toArray → Ext w W ∧ Blk W (w.heap.size + 1) 25 [.int .i64 k, .string (strOf text), .slice eA ents.length ec, .string (strOf tree), .slice pA pars.length pc, .string (strOf targ), .int .i64 of, .string (strOf name), .string (strOf who), .int .i64 when] from fun W hW => by
          subst hW
          exact ⟨Touch.below KE.out (Touch.row _ (w.heap.size + 1) _) (fun j hj => by rw [List.mem_singleton] at hj; omega) KE.out.size, KR.out.row _⟩)
        have KP := Kept.mk (fun (W : World) (h : Ext w W) => KIw.out.ext h)
        go_enter Try.func16, Try.ntmps16
        go_wp2_with (first | (refine wpList_load_blk (P := Try.prog) rfl 25 (.tmp 2) rfl w.heap.size rfl 25 _ KB.out _ Try.underlying25 rfl infoOb ?_) | (refine wpList_store_blk (P := Try.prog) rfl 25 (.tmp 4) (.tmp 56) rfl rfl (w.heap.size + 1) rfl 25 _ [.int .i64 k, .string (strOf text), .slice eA ents.length ec, .string (strOf tree), .slice pA pars.length pc, .string (strOf targ), .int .i64 of, .string (strOf name), .string (strOf who), .int .i64 when] rfl KR.out rfl infoOb rfl ?_))
        obtain ⟨F2, F3⟩ := Kfin.out _ rfl
        exact bodyPost_ret (v := _) (results_blk rfl _ _ (w.heap.size + 1) 25 _ _ rfl F3 Try.underlying25 rfl infoOb) rfl ⟨_, _, rfl, KP.out _ F2, F2⟩
end Edge
end Go.Proofs.Ytdjkcolceccclaa
