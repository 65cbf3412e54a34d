/- The law DiskPlays. No condition. -/
import Derived.Test.YtjphmjegfpdbeaaDiskRJ
import Derived.Deep.DeepCutAuto
import Derived.Deep.CutBlock
import Derived.Test.YtjphmjegfpdbeaaTail
namespace Go.Proofs.Ytjphmjegfpdbeaa
open Go.RowKit
namespace Disk
open Str
set_option linter.unusedSimpArgs false
set_option linter.unusedVariables false
structure PlayAt (w wi : World) (g q : Nat) (i : Nat) (d m : Dk) (lv rv : Value) (an ak : Int) : Prop where
  side : Side w wi g q d m lv rv an ak
  b : DkB i d
  nr : Nr d m
  ak : d.cnt ≠ 0 → ak = d.keep
/-- The count and the cut, behind Do. -/
theorem keepQ (m : Dk) (x : Eff) : (m.cnt = 0 → (doQ m x).2.cnt = 0) ∧ ((doQ m x).2.cnt ≠ 0 → (doQ m x).2.keep = m.keep) := by
  have hc : ∀ e : Dk, (e.cnt = 0 → (callP e).1.cnt = 0) ∧ ((callP e).1.cnt ≠ 0 → (callP e).1.keep = e.keep) := by
    intro e
    unfold callP
    split
    · exact ⟨fun h => h, fun _ => rfl⟩
    · split
      · exact ⟨fun _ => rfl, fun h => absurd rfl h⟩
      · rename_i h _
        exact ⟨fun h2 => absurd h2 h, fun _ => rfl⟩
  have hw : ((m.cnt = 0 → (waitP m x).2.cnt = 0) ∧ ((waitP m x).2.cnt ≠ 0 → (waitP m x).2.keep = m.keep)) := by
    unfold waitP
    split
    · exact ⟨fun h => h, fun _ => rfl⟩
    · split <;> exact hc (addP m x)
  unfold doQ
  split
  · exact ⟨fun h => h, fun _ => rfl⟩
  · split
    · exact ⟨fun h => h, fun _ => rfl⟩
    · split
      · exact ⟨fun h => h, fun _ => rfl⟩
      · exact hw
theorem keepC (e : Dk) : (e.cnt = 0 → (callP e).1.cnt = 0) ∧ ((callP e).1.cnt ≠ 0 → (callP e).1.keep = e.keep) := by
  unfold callP
  split
  · exact ⟨fun h => h, fun _ => rfl⟩
  · split
    · exact ⟨fun _ => rfl, fun h => absurd rfl h⟩
    · rename_i h _
      exact ⟨fun h2 => absurd h2 h, fun _ => rfl⟩
theorem keepS (m : Dk) : (m.cnt = 0 → (syncP m).2.cnt = 0) ∧ ((syncP m).2.cnt ≠ 0 → (syncP m).2.keep = m.keep) := by
  unfold syncP
  split
  · exact ⟨fun h => h, fun _ => rfl⟩
  · split <;> exact keepC m
set_option maxRecDepth 100000 in
set_option maxHeartbeats 64000000 in
theorem plays_law (w : World) (room : Int) (hwf : (Lit.int .i64 room).wf = true) (a : Option Addr) (len cap : Nat) (zs : List Act) (h : InActs w a len cap zs) :
    Calls Try.prog 5 #[.int .i64 room, .slice a len cap] w fun e w1 => e = .returned (.bool true) ∧ Below w.heap.size w w1 := by
  have hm : Try.prog.follows .mixedOrders = true := by kernel_rfl
  have hr := h.rd
  have hzl : len = zs.length := by have := h.1.1; rw [List.length_map] at this; exact this.symm
  have KR := Kept.mk hr
  have Kz := Kept.mk h.2
  have Kl := Kept.mk hzl
  have hlm : len ≤ 9223372036854775807 := by have := hr.le; rw [List.length_map] at this; omega
  have KAW := Kept.mk (awake_any w)
  have hrw : -9223372036854775808 ≤ room ∧ room ≤ 9223372036854775807 := by have := hwf; simp [Lit.wf, IntKind.min, IntKind.max, IntKind.signed, IntKind.bits] at this; omega
  have Krw := Kept.mk hrw
  clear hr h hzl hwf hrw
  go_enter Try.func5, Try.ntmps5
  go_wp2_with fail
  refine KAW.out.mono ?_
  rintro e w1 ⟨rfl, hE1⟩
  have KE1 := Kept.mk hE1
  clear hE1 KAW
  have KF := Kept.mk (few_any w1 (.slice a len cap) zs (KR.out.ext KE1.out) Kz.out)
  go_wp2_with fail
  refine KF.out.mono ?_
  rintro e w2 ⟨r, rfl, hfew, hE2⟩
  have KE2 := Kept.mk (KE1.out.trans hE2)
  clear hE2 KF
  cases r with
  | false =>
    clear hfew
    go_wp2_with fail
    go_ret
    exact ⟨rfl, KE2.out⟩
  | true =>
    have Kfew := Kept.mk (hfew rfl)
    clear hfew
    by_cases h01 : 0 ≤ room ∧ room ≤ 16777216
    · have KN := Kept.mk (new_at room h01.1 h01.2 w w2 KE2.out)
      have Kdc := Kept.mk (decide_eq_true h01)
      clear h01
      go_wp2_with fail
      refine KN.out.mono ?_
      rintro e w3 ⟨g, rfl, hA⟩
      have KA := Kept.mk hA
      have KN2 := Kept.mk (newR_any room w3)
      clear hA KN
      go_wp2_with fail
      rw [Kdc.out] at KN2
      refine KN2.out.mono ?_
      rintro e w4 ⟨rfl, hE4⟩
      clear KN2
      have hE5 := Ext.alloc w4 (.cells #[.int .i64 0, .slice none 0 0, .slice none 0 0, .bool false, .int .i64 0, .int .u64 0, .int .i64 0] 49)
      have KB := Kept.mk (Blk.new w4 49 [.int .i64 0, .slice none 0 0, .slice none 0 0, .bool false, .int .i64 0, .int .u64 0, .int .i64 0])
      have KA4 := Kept.mk ((KA.out.ext hE4).beside (P := [w4.heap.size]) hE5 (fun j hj => by rw [List.mem_singleton] at hj; subst hj; exact ⟨Nat.le_refl _, by rw [World.size_alloc]; exact Nat.lt_succ_self _⟩))
      have Kq := Kept.mk (show w.heap.size ≤ w4.heap.size from (KA.out.all.trans hE4).size)
      clear hE4 hE5 KA
      unfold rdV
      go_upto_region 7 with (first | (refine wpList_store_blk (P := Try.prog) rfl 49 (.tmp 7) (.tmp 33) rfl rfl w4.heap.size rfl 49 _ [.int .i64 (newP room).room, .slice none 0 0, .slice none 0 0, .bool (newP room).down, .int .i64 0, .int .u64 0, .int .i64 (newP room).cnt] rfl KB.out rfl infoRd rfl ?_))
      have KS : Kept (Side w ((w4.alloc (.cells #[.int .i64 0, .slice none 0 0, .slice none 0 0, .bool false, .int .i64 0, .int .u64 0, .int .i64 0] 49)).setRow w4.heap.size (rdV (newP room) (.slice none 0 0) (.slice none 0 0) 0 0).toArray) g w4.heap.size (newP room) (newP room) (.slice none 0 0) (.slice none 0 0) 0 0) := Kept.mk (by
        obtain ⟨D, h1, h2, h3⟩ := KA4.out
        have hq := h3 w4.heap.size (by simp)
        have ht := Touch.row (w4.alloc (.cells #[.int .i64 0, .slice none 0 0, .slice none 0 0, .bool false, .int .i64 0, .int .u64 0, .int .i64 0] 49)) w4.heap.size (rdV (newP room) (.slice none 0 0) (.slice none 0 0) 0 0).toArray
        exact ⟨⟨D, h1.touch ht (fun j hj hm => by rw [List.mem_singleton] at hm; subst hm; exact hq.1 hj), store_ext h2 Kq.out _, fun j hj => by simp [besideP, ownL, newP] at hj; subst hj; exact ⟨hq.1, Nat.lt_of_lt_of_le hq.2 ht.size⟩⟩, KB.out.row _, ⟨FilesR.nil _ _, RowsR.nil _ _⟩, Kq.out⟩)
      unfold rdV at KS
      generalize (w4.alloc (.cells #[.int .i64 0, .slice none 0 0, .slice none 0 0, .bool false, .int .i64 0, .int .u64 0, .int .i64 0] 49)).setRow w4.heap.size #[.int .i64 (newP room).room, .slice none 0 0, .slice none 0 0, .bool (newP room).down, .int .i64 0, .int .u64 0, .int .i64 (newP room).cnt] = w5 at *
      generalize w4.heap.size = q at *
      have KP : Kept (PlayAt w w5 g q 0 (newP room) (newP room) (.slice none 0 0) (.slice none 0 0) 0 0) := Kept.mk ⟨KS.out, DkB.new room Krw.out, Nr.new room, fun h => absurd rfl h⟩
      clear KS KB KA4 Kdc Kq Krw
      go_wp2_with fail
      go_loopg [9] len (fun r iv wi => ∃ (i : Nat) (d m : Dk) (lv rv : Value) (an ak : Int), i + r = len ∧ iv = .int .i64 (i : Int) ∧ Kept (PlayAt w wi g q i d m lv rv an ak))
      case atStart => exact ⟨0, _, _, _, _, _, _, by omega, rfl, KP⟩
      case round =>
        obtain ⟨i, d, m, lv, rv, an, ak, hq, rfl, KK⟩ := hrel
        have Kq := Kept.mk hq
        have hil : i ≤ len := by omega
        clear hq KP
        by_cases hlt : i < len
        · have hltI : (i : Int) < (len : Int) := by omega
          have hi2 : i < zs.length := by rw [← Kl.out]; exact hlt
          have Ki9 := Kept.mk (show i + 1 ≤ 1048570 from by have := Kfew.out.len; omega)
          obtain ⟨b, off, rfl, -, hc⟩ := KR.out.get (by decide) (i := i) hi2
          have hE := KK.out.side.all
          have c0 := hE.cell (hc 0 (.int .i64 zs[i].k) rfl)
          have c1 := hE.cell (hc 1 (.string (strOf zs[i].p)) rfl)
          have c2 := hE.cell (hc 2 (.string (strOf zs[i].t)) rfl)
          have c3 := hE.cell (hc 3 (.int .i64 zs[i].n) rfl)
          have c4 := hE.cell (hc 4 (.int .u64 zs[i].keep) rfl)
          rw [Nat.add_zero] at c0
          have Kok := Kept.mk (Kz.out zs[i] (List.getElem_mem hi2))
          have Ksz := Kept.mk (show zs[i].p.length ≤ SZ ∧ zs[i].t.length ≤ SZ from by have := Kfew.out.each zs[i] (List.getElem_mem hi2); simp only [SZ]; omega)
          generalize zs[i] = z at *
          obtain ⟨k, p, t, n, kp⟩ := z
          simp only at c0 c1 c2 c3 c4
          clear hc hE hi2
          have KAc := Kept.mk (fun W (hW : Ext wr W) => KK.out.side.act hW i KK.out.b (by have := Ki9.out; omega) ⟨k, p, t, n, kp⟩ Kok.out Ksz.out.1 Ksz.out.2)
          simp only [actV] at KAc
          obtain ⟨lA, ln, lc, rfl⟩ := KK.out.side.rd.l.form
          obtain ⟨rA, rc, hrv⟩ := KK.out.side.rd.r.form
          obtain ⟨rn, hrn⟩ : ∃ rn, rn = (m.rows.map effR).length := ⟨_, rfl⟩
          rw [← hrn] at hrv
          subst hrv
          obtain ⟨s, l, f, d', hact⟩ : ∃ s l f d', actP d ⟨k, p, t, n, kp⟩ = ((s, l, f), d') := ⟨_, _, _, _, rfl⟩
          have Kact := Kept.mk hact
          have Kb1 := Kept.mk (KK.out.b.act Kok.out Ksz.out.1 Ksz.out.2)
          have Knr := Kept.mk KK.out.nr
          have Kka := Kept.mk KK.out.ak
          have Kbd := Kept.mk KK.out.b
          simp only [hact] at KAc Kb1
          have Kqr := Kept.mk (show q < wr.heap.size from KK.out.side.blk.lt)
          clear KK hact hrn
          have Kbx := Kept.mk (Blk.new wr 33 [.int .i64 k, .string (strOf p), .string (strOf t), .int .i64 n, .int .u64 kp])
          have KEx := Kept.mk (Ext.alloc wr (.cells #[.int .i64 k, .string (strOf p), .string (strOf t), .int .i64 n, .int .u64 kp] 33))
          have Kbs := Kept.mk (show wr.heap.size < (wr.alloc (.cells #[.int .i64 k, .string (strOf p), .string (strOf t), .int .i64 n, .int .u64 kp] 33)).heap.size from by rw [World.size_alloc]; exact Nat.lt_succ_self _)
          have Kw6 := Kept.mk (show wr.heap.size + 1 = (wr.alloc (.cells #[.int .i64 k, .string (strOf p), .string (strOf t), .int .i64 n, .int .u64 kp] 33)).heap.size from (World.size_alloc _ _).symm)
          go_upto_region 15 with fail
          clear c0 c1 c2 c3 c4
          generalize hw6 : wr.alloc (.cells #[.int .i64 k, .string (strOf p), .string (strOf t), .int .i64 n, .int .u64 kp] 33) = w6 at *
          clear hw6
          generalize hxb : wr.heap.size = xb at Kbx Kbs ⊢
          have Kxb := Kept.mk hxb
          clear hxb
          have y0 := Kbx.out.cell 0
          have y1 := Kbx.out.cell 1
          have y2 := Kbx.out.cell 2
          have y3 := Kbx.out.cell 3
          have y4 := Kbx.out.cell 4
          simp only [List.getElem?_cons_zero, List.getElem?_cons_succ] at y0 y1 y2 y3 y4
          go_wp2_with fail
          refine (KAc.out w6 KEx.out).mono ?_
          rintro e w7 ⟨v, rfl, hbuf, hsd, hkp⟩
          obtain ⟨vA, vc, hv⟩ := hbuf.form
          rw [List.length_map] at hv
          subst hv
          have Kbuf := Kept.mk hbuf
          have Ksd := Kept.mk hsd
          have Kbx7 := Kept.mk (show Blk w7 xb 33 [.int .i64 k, .string (strOf p), .string (strOf t), .int .i64 n, .int .u64 kp] from (hkp xb (by rw [Kxb.out]; exact Nat.le_refl _) Kbs.out).trans Kbx.out)
          have Kqs := Kept.mk (show q < w6.heap.size from by rw [← show wr.heap.size + 1 = w6.heap.size from Kw6.out]; have := Kqr.out; omega)
          clear hbuf hsd hkp KAc y0 y1 y2 y3 y4 Kbx KEx Kbs
          have y0 := Kbx7.out.cell 0
          simp only [List.getElem?_cons_zero, List.getElem?_cons_succ] at y0
          go_upto_block 2 with fail
          trace_state
          go_cut [14, 15, 16] (fun s14 s15 s16 wx => ∃ (m2 : Dk) (lv2 rv2 : Value) (an2 ak2 : Int) (B : Option Addr) (bc : Nat), s14 = .string (strOf s) ∧ s15 = .int .i64 f ∧ s16 = .slice B l.length bc ∧ Kept (PlayAt w wx g q (i + 1) d' m2 lv2 rv2 an2 ak2 ∧ Rd 1 wx (.slice vA l.length vc) (l.map sV) ∧ Rd 1 wx (.slice B l.length bc) (l.map sV)))
          case first =>
            have y1 := Kbx7.out.cell 1
            have y2 := Kbx7.out.cell 2
            have y3 := Kbx7.out.cell 3
            have y4 := Kbx7.out.cell 4
            simp only [List.getElem?_cons_zero, List.getElem?_cons_succ] at y1 y2 y3 y4
            by_cases hk : k = 1
            · subst hk
              have hnr := Knr.out.do (a := ⟨1, p, t, n, kp⟩) (by simp) Ksz.out.1 Ksz.out.2
              simp only [Kact.out, show (1 : Int) - 1 = 0 from rfl] at hnr
              obtain ⟨h1, h2, h3, h4⟩ := hnr
              subst h1 h2 h3
              have Kn2 := Kept.mk h4
              clear h4
              obtain ⟨G, hG, hrd, hst, -⟩ := Ksd.out.doc
              have KD := Kept.mk (doR_any m i (Knr.out.b Kbd.out) (by have := Ki9.out; omega) ⟨0, p, t⟩ ⟨Ksz.out.1, Ksz.out.2, by simp⟩ 1 rfl _ _ an ak (fun h => by rw [Knr.out.keep]; exact Kka.out (by rw [← Knr.out.cnt]; exact h)) w7 hG hrd)
              have Kst := Kept.mk hst
              have Kqb := Kept.mk Ksd.out.blk
              clear hG hrd hst
              unfold rdV at KD Kqb
              unfold DoRE at KD
              go_wp2_with (first | (refine wpList_load_blk (P := Try.prog) rfl 49 (.tmp 7) rfl q rfl 49 _ Kqb.out _ Try.underlying49 rfl infoRd ?_))
              refine KD.out.mono ?_
              rintro e w8 ⟨lv2, rv2, rfl, hr2, hE8⟩
              obtain ⟨l2A, l2n, l2c, rfl⟩ := hr2.l.form
              obtain ⟨r2A, r2c, hrv⟩ := hr2.r.form
              obtain ⟨r2n, hrn⟩ : ∃ r2n, r2n = ((doQ m ⟨0, p, t⟩).2.rows.map effR).length := ⟨_, rfl⟩
              rw [← hrn] at hrv
              subst hrv
              have Kq8 := Kept.mk (Kqb.out.ext hE8)
              have KS2 := Kept.mk (Kst.out w8 _ _ _ an ak hE8 hr2)
              have Kka2 := Kept.mk (keepQ m ⟨0, p, t⟩)
              have Kb8 := Kept.mk ((Kbuf.out.ext hE8).touch (Touch.row w8 q (rdV (doQ m ⟨0, p, t⟩).2 (.slice l2A l2n l2c) (.slice r2A r2n r2c) an ak).toArray) (fun j hj hm => by rw [List.mem_singleton] at hm; subst hm; have := (Kbuf.out.owns j hj).1; have := Kqs.out; omega))
              clear hrn hr2 hE8 KD Kst Kqb
              unfold rdV at KS2 Kb8 ⊢
              generalize (doQ m ⟨0, p, t⟩).2 = m2 at *
              go_wp2_with (first | (refine wpList_store_blk (P := Try.prog) rfl 49 (.tmp 7) (.tmp 82) rfl rfl q rfl 49 _ [.int .i64 m2.room, .slice l2A l2n l2c, .slice r2A r2n r2c, .bool m2.down, .int .i64 an, .int .u64 ak, .int .i64 m2.cnt] rfl Kq8.out rfl infoRd rfl ?_))
              go_meet
              exact ⟨m2, _, _, an, ak, none, 0, by first | rfl | simp, by first | rfl | simp, by first | rfl | simp, Kept.mk ⟨⟨KS2.out, Kb1.out, Kn2.out, fun h => by rw [Kka.out (fun e => h (by rw [← Kn2.out.cnt]; exact Kka2.out.1 (by rw [Knr.out.cnt]; exact e)))]; rw [← Knr.out.keep, ← Kn2.out.keep]; exact (Kka2.out.2 (fun e => h (by rw [← Kn2.out.cnt]; exact e))).symm⟩, by simpa using buf_rd Kb8.out, (show Rd 1 _ (.slice none 0 0) ([] : List (List Value)) from Rd.nil _ _)⟩⟩
            · have hk1 : (k == 1) = false := by simpa using hk
              by_cases hk : k = 2
              · subst hk
                have hnr := Knr.out.do (a := ⟨2, p, t, n, kp⟩) (by simp) Ksz.out.1 Ksz.out.2
                simp only [Kact.out, show (2 : Int) - 1 = 1 from rfl] at hnr
                obtain ⟨h1, h2, h3, h4⟩ := hnr
                subst h1 h2 h3
                have Kn2 := Kept.mk h4
                clear h4
                obtain ⟨G, hG, hrd, hst, -⟩ := Ksd.out.doc
                have KD := Kept.mk (doR_any m i (Knr.out.b Kbd.out) (by have := Ki9.out; omega) ⟨1, p, t⟩ ⟨Ksz.out.1, Ksz.out.2, by simp⟩ 2 rfl _ _ an ak (fun h => by rw [Knr.out.keep]; exact Kka.out (by rw [← Knr.out.cnt]; exact h)) w7 hG hrd)
                have Kst := Kept.mk hst
                have Kqb := Kept.mk Ksd.out.blk
                clear hG hrd hst
                unfold rdV at KD Kqb
                unfold DoRE at KD
                go_wp2_with (first | (refine wpList_load_blk (P := Try.prog) rfl 49 (.tmp 7) rfl q rfl 49 _ Kqb.out _ Try.underlying49 rfl infoRd ?_))
                refine KD.out.mono ?_
                rintro e w8 ⟨lv2, rv2, rfl, hr2, hE8⟩
                obtain ⟨l2A, l2n, l2c, rfl⟩ := hr2.l.form
                obtain ⟨r2A, r2c, hrv⟩ := hr2.r.form
                obtain ⟨r2n, hrn⟩ : ∃ r2n, r2n = ((doQ m ⟨1, p, t⟩).2.rows.map effR).length := ⟨_, rfl⟩
                rw [← hrn] at hrv
                subst hrv
                have Kq8 := Kept.mk (Kqb.out.ext hE8)
                have KS2 := Kept.mk (Kst.out w8 _ _ _ an ak hE8 hr2)
                have Kka2 := Kept.mk (keepQ m ⟨1, p, t⟩)
                have Kb8 := Kept.mk ((Kbuf.out.ext hE8).touch (Touch.row w8 q (rdV (doQ m ⟨1, p, t⟩).2 (.slice l2A l2n l2c) (.slice r2A r2n r2c) an ak).toArray) (fun j hj hm => by rw [List.mem_singleton] at hm; subst hm; have := (Kbuf.out.owns j hj).1; have := Kqs.out; omega))
                clear hrn hr2 hE8 KD Kst Kqb
                unfold rdV at KS2 Kb8 ⊢
                generalize (doQ m ⟨1, p, t⟩).2 = m2 at *
                go_wp2_with (first | (refine wpList_store_blk (P := Try.prog) rfl 49 (.tmp 7) (.tmp 82) rfl rfl q rfl 49 _ [.int .i64 m2.room, .slice l2A l2n l2c, .slice r2A r2n r2c, .bool m2.down, .int .i64 an, .int .u64 ak, .int .i64 m2.cnt] rfl Kq8.out rfl infoRd rfl ?_))
                go_meet
                exact ⟨m2, _, _, an, ak, none, 0, by first | rfl | simp, by first | rfl | simp, by first | rfl | simp, Kept.mk ⟨⟨KS2.out, Kb1.out, Kn2.out, fun h => by rw [Kka.out (fun e => h (by rw [← Kn2.out.cnt]; exact Kka2.out.1 (by rw [Knr.out.cnt]; exact e)))]; rw [← Knr.out.keep, ← Kn2.out.keep]; exact (Kka2.out.2 (fun e => h (by rw [← Kn2.out.cnt]; exact e))).symm⟩, by simpa using buf_rd Kb8.out, (show Rd 1 _ (.slice none 0 0) ([] : List (List Value)) from Rd.nil _ _)⟩⟩
              · have hk2 : (k == 2) = false := by simpa using hk
                by_cases hk : k = 3
                · subst hk
                  have hnr := Knr.out.do (a := ⟨3, p, t, n, kp⟩) (by simp) Ksz.out.1 Ksz.out.2
                  simp only [Kact.out, show (3 : Int) - 1 = 2 from rfl] at hnr
                  obtain ⟨h1, h2, h3, h4⟩ := hnr
                  subst h1 h2 h3
                  have Kn2 := Kept.mk h4
                  clear h4
                  obtain ⟨G, hG, hrd, hst, -⟩ := Ksd.out.doc
                  have KD := Kept.mk (doR_any m i (Knr.out.b Kbd.out) (by have := Ki9.out; omega) ⟨2, p, t⟩ ⟨Ksz.out.1, Ksz.out.2, by simp⟩ 3 rfl _ _ an ak (fun h => by rw [Knr.out.keep]; exact Kka.out (by rw [← Knr.out.cnt]; exact h)) w7 hG hrd)
                  have Kst := Kept.mk hst
                  have Kqb := Kept.mk Ksd.out.blk
                  clear hG hrd hst
                  unfold rdV at KD Kqb
                  unfold DoRE at KD
                  go_wp2_with (first | (refine wpList_load_blk (P := Try.prog) rfl 49 (.tmp 7) rfl q rfl 49 _ Kqb.out _ Try.underlying49 rfl infoRd ?_))
                  refine KD.out.mono ?_
                  rintro e w8 ⟨lv2, rv2, rfl, hr2, hE8⟩
                  obtain ⟨l2A, l2n, l2c, rfl⟩ := hr2.l.form
                  obtain ⟨r2A, r2c, hrv⟩ := hr2.r.form
                  obtain ⟨r2n, hrn⟩ : ∃ r2n, r2n = ((doQ m ⟨2, p, t⟩).2.rows.map effR).length := ⟨_, rfl⟩
                  rw [← hrn] at hrv
                  subst hrv
                  have Kq8 := Kept.mk (Kqb.out.ext hE8)
                  have KS2 := Kept.mk (Kst.out w8 _ _ _ an ak hE8 hr2)
                  have Kka2 := Kept.mk (keepQ m ⟨2, p, t⟩)
                  have Kb8 := Kept.mk ((Kbuf.out.ext hE8).touch (Touch.row w8 q (rdV (doQ m ⟨2, p, t⟩).2 (.slice l2A l2n l2c) (.slice r2A r2n r2c) an ak).toArray) (fun j hj hm => by rw [List.mem_singleton] at hm; subst hm; have := (Kbuf.out.owns j hj).1; have := Kqs.out; omega))
                  clear hrn hr2 hE8 KD Kst Kqb
                  unfold rdV at KS2 Kb8 ⊢
                  generalize (doQ m ⟨2, p, t⟩).2 = m2 at *
                  go_wp2_with (first | (refine wpList_store_blk (P := Try.prog) rfl 49 (.tmp 7) (.tmp 82) rfl rfl q rfl 49 _ [.int .i64 m2.room, .slice l2A l2n l2c, .slice r2A r2n r2c, .bool m2.down, .int .i64 an, .int .u64 ak, .int .i64 m2.cnt] rfl Kq8.out rfl infoRd rfl ?_))
                  go_meet
                  exact ⟨m2, _, _, an, ak, none, 0, by first | rfl | simp, by first | rfl | simp, by first | rfl | simp, Kept.mk ⟨⟨KS2.out, Kb1.out, Kn2.out, fun h => by rw [Kka.out (fun e => h (by rw [← Kn2.out.cnt]; exact Kka2.out.1 (by rw [Knr.out.cnt]; exact e)))]; rw [← Knr.out.keep, ← Kn2.out.keep]; exact (Kka2.out.2 (fun e => h (by rw [← Kn2.out.cnt]; exact e))).symm⟩, by simpa using buf_rd Kb8.out, (show Rd 1 _ (.slice none 0 0) ([] : List (List Value)) from Rd.nil _ _)⟩⟩
                · have hk3 : (k == 3) = false := by simpa using hk
                  by_cases hk : k = 4
                  · subst hk
                    have ha : actP d ⟨4, p, t, n, kp⟩ = (([], [], (syncP d).1), (syncP d).2) := rfl
                    rw [Kact.out] at ha
                    injection ha with h1 hd
                    injection h1 with h1 h2
                    injection h2 with h2 h3
                    subst h1 h2 h3 hd
                    have hnr := Knr.out.sync
                    obtain ⟨h1, h2⟩ := hnr
                    have Kn2 := Kept.mk h2
                    obtain ⟨G, hG, hrd, hst, -⟩ := Ksd.out.doc
                    have KD := Kept.mk (syncR_any m i (Knr.out.b Kbd.out) (by have := Ki9.out; omega) _ _ an ak (fun h => by rw [Knr.out.keep]; exact Kka.out (by rw [← Knr.out.cnt]; exact h)) w7 hG hrd)
                    unfold SyncRE at KD
                    rw [h1] at KD
                    clear h1 h2
                    have Kst := Kept.mk hst
                    have Kqb := Kept.mk Ksd.out.blk
                    clear hG hrd hst
                    unfold rdV at KD Kqb
                    have Kka2 := Kept.mk (keepS m)
                    generalize (syncP d).1 = f at *
                    generalize (syncP d).2 = d' at *
                    go_wp2_with (first | (refine wpList_load_blk (P := Try.prog) rfl 49 (.tmp 7) rfl q rfl 49 _ Kqb.out _ Try.underlying49 rfl infoRd ?_))
                    refine KD.out.mono ?_
                    rintro e w8 ⟨lv2, rv2, rfl, hr2, hE8⟩
                    obtain ⟨l2A, l2n, l2c, rfl⟩ := hr2.l.form
                    obtain ⟨r2A, r2c, hrv⟩ := hr2.r.form
                    obtain ⟨r2n, hrn⟩ : ∃ r2n, r2n = ((syncP m).2.rows.map effR).length := ⟨_, rfl⟩
                    rw [← hrn] at hrv
                    subst hrv
                    have Kq8 := Kept.mk (Kqb.out.ext hE8)
                    have KS2 := Kept.mk (Kst.out w8 _ _ _ an ak hE8 hr2)
                    have Kb8 := Kept.mk ((Kbuf.out.ext hE8).touch (Touch.row w8 q (rdV (syncP m).2 (.slice l2A l2n l2c) (.slice r2A r2n r2c) an ak).toArray) (fun j hj hm => by rw [List.mem_singleton] at hm; subst hm; have := (Kbuf.out.owns j hj).1; have := Kqs.out; omega))
                    clear hrn hr2 hE8 KD Kst Kqb
                    unfold rdV at KS2 Kb8
                    generalize (syncP m).2 = m2 at *
                    go_wp2_with (first | (refine wpList_store_blk (P := Try.prog) rfl 49 (.tmp 7) (.tmp 89) rfl rfl q rfl 49 _ [.int .i64 m2.room, .slice l2A l2n l2c, .slice r2A r2n r2c, .bool m2.down, .int .i64 an, .int .u64 ak, .int .i64 m2.cnt] rfl Kq8.out rfl infoRd rfl ?_))
                    go_meet
                    exact ⟨m2, _, _, an, ak, none, 0, by first | rfl | simp, by first | rfl | simp, by first | rfl | simp, Kept.mk ⟨⟨KS2.out, Kb1.out, Kn2.out, fun h => by rw [Kka.out (fun e => h (by rw [← Kn2.out.cnt]; exact Kka2.out.1 (by rw [Knr.out.cnt]; exact e)))]; rw [← Knr.out.keep, ← Kn2.out.keep]; exact (Kka2.out.2 (fun e => h (by rw [← Kn2.out.cnt]; exact e))).symm⟩, by simpa using buf_rd Kb8.out, (show Rd 1 _ (.slice none 0 0) ([] : List (List Value)) from Rd.nil _ _)⟩⟩
                  · have hk4 : (k == 4) = false := by simpa using hk
                    by_cases hk : k = 5
                    · subst hk
                      have ha : actP d ⟨5, p, t, n, kp⟩ = (([], [], 0), armP d n kp) := rfl
                      rw [Kact.out] at ha
                      injection ha with h1 hd
                      injection h1 with h1 h2
                      injection h2 with h2 h3
                      subst h1 h2 h3 hd
                      have Kn2 := Kept.mk (Knr.out.arm n kp)
                      obtain ⟨G, hG, hrd, hst, -⟩ := Ksd.out.doc
                      have KD := Kept.mk (armR_any m _ _ an ak n kp w7 hrd)
                      unfold ArmRE at KD
                      have Kst := Kept.mk hst
                      have Kqb := Kept.mk Ksd.out.blk
                      have hrd0 := hrd
                      clear hG hrd hst
                      unfold rdV at KD Kqb
                      have Kgr := Kept.mk (fun W (hE : Ext w7 W) => hrd0.ext hE)
                      go_wp2_with (first | (refine wpList_load_blk (P := Try.prog) rfl 49 (.tmp 7) rfl q rfl 49 _ Kqb.out _ Try.underlying49 rfl infoRd ?_))
                      refine KD.out.mono ?_
                      rintro e w8 ⟨cn, rfl, hcn, hE8⟩
                      have Kq8 := Kept.mk (Kqb.out.ext hE8)
                      have KS2 := Kept.mk (Kst.out w8 { m with cnt := if n < 1 then 0 else n, keep := (armP d n kp).keep } _ _ n kp hE8 ⟨(Kgr.out w8 hE8).l, (Kgr.out w8 hE8).r⟩)
                      have Kb8 := Kept.mk ((Kbuf.out.ext hE8).touch (Touch.row w8 q (rdV { m with cnt := if n < 1 then 0 else n, keep := (armP d n kp).keep } (.slice lA ln lc) (.slice rA rn rc) n kp).toArray) (fun j hj hm => by rw [List.mem_singleton] at hm; subst hm; have := (Kbuf.out.owns j hj).1; have := Kqs.out; omega))
                      clear hE8 KD Kst Kqb Kgr
                      have Kak2 := Kept.mk (show (armP d n kp).cnt ≠ 0 → kp = (armP d n kp).keep from by unfold armP; split <;> intro h <;> first | exact absurd rfl h | rfl)
                      unfold rdV at KS2 Kb8
                      simp only at KS2 Kb8
                      rw [← hcn] at KS2 Kb8 Kn2
                      clear hcn
                      go_wp2_with (first | (refine wpList_store_blk (P := Try.prog) rfl 49 (.tmp 7) (.tmp 96) rfl rfl q rfl 49 _ [.int .i64 m.room, .slice lA ln lc, .slice rA rn rc, .bool m.down, .int .i64 n, .int .u64 kp, .int .i64 cn] rfl Kq8.out rfl infoRd rfl ?_))
                      go_meet
                      exact ⟨{ m with cnt := cn, keep := (armP d n kp).keep }, _, _, n, kp, none, 0, by first | rfl | simp, by first | rfl | simp, by first | rfl | simp, Kept.mk ⟨⟨KS2.out, Kb1.out, Kn2.out, Kak2.out⟩, by simpa using buf_rd Kb8.out, (show Rd 1 _ (.slice none 0 0) ([] : List (List Value)) from Rd.nil _ _)⟩⟩
                    · have hk5 : (k == 5) = false := by simpa using hk
                      by_cases hk : k = 6
                      · subst hk
                        have ha : actP d ⟨6, p, t, n, kp⟩ = (([], [], 0), startP d) := rfl
                        rw [Kact.out] at ha
                        injection ha with h1 hd
                        injection h1 with h1 h2
                        injection h2 with h2 h3
                        subst h1 h2 h3 hd
                        have Kn2 := Kept.mk Knr.out.start
                        obtain ⟨G, hG, hrd, -, hset⟩ := Ksd.out.doc
                        have KS2 := Kept.mk (hset { m with down := false } 3 (.bool false) rfl rfl rfl)
                        have Kb8 := Kept.mk (Kbuf.out.touch (Touch.set w7 ⟨q, 3, none⟩ (.bool false)) (fun j hj hm => by simp at hm; subst hm; have := (Kbuf.out.owns j hj).1; have := Kqs.out; omega))
                        have f3 := Ksd.out.blk.free 3
                        have z3 := Ksd.out.blk.cell 3
                        simp only [rdV, List.getElem?_cons_zero, List.getElem?_cons_succ] at z3
                        have Kak2 := Kept.mk (show (startP d).cnt ≠ 0 → ak = (startP d).keep from Kka.out)
                        clear hG hrd hset
                        go_wp2_with fail
                        go_meet
                        exact ⟨{ m with down := false }, _, _, an, ak, none, 0, by first | rfl | simp, by first | rfl | simp, by first | rfl | simp, Kept.mk ⟨⟨KS2.out, Kb1.out, Kn2.out, Kak2.out⟩, by simpa using buf_rd Kb8.out, (show Rd 1 _ (.slice none 0 0) ([] : List (List Value)) from Rd.nil _ _)⟩⟩
                      · have hk6 : (k == 6) = false := by simpa using hk
                        by_cases hk : k = 7
                        · subst hk
                          have ha : actP d ⟨7, p, t, n, kp⟩ = (((readP d p).1, [], (readP d p).2), d) := rfl
                          rw [Kact.out] at ha
                          injection ha with h1 hd
                          injection h1 with h1 h2
                          injection h2 with h2 h3
                          subst h2 hd
                          have z3 := Ksd.out.blk.cell 3
                          simp only [rdV, List.getElem?_cons_zero, List.getElem?_cons_succ] at z3
                          have Kdn := Kept.mk Knr.out.down
                          have Ksn := Kept.mk Knr.out.seen
                          cases hdn : m.down with
                          | true =>
                            have hrd : readP d' p = ([], 8) := by unfold readP; rw [← Kdn.out, hdn]; rfl
                            rw [hrd] at h1 h3
                            subst h1 h3
                            rw [hdn] at z3
                            clear hrd
                            go_wp2_with fail
                            go_meet
                            exact ⟨m, _, _, an, ak, none, 0, by first | rfl | simp, by first | rfl | simp, by first | rfl | simp, Kept.mk ⟨⟨Ksd.out.ext (Ext.refl _), Kb1.out, Knr.out, Kka.out⟩, (buf_rd Kbuf.out).ext (Ext.refl _), (show Rd 1 _ (.slice none 0 0) ([] : List (List Value)) from Rd.nil _ _)⟩⟩
                          | false =>
                            rw [hdn] at z3
                            have Kqb := Kept.mk Ksd.out.blk
                            have KSe := Kept.mk (fun W (hW : Ext w7 W) => seen_any (G := fun _ => True) m i (Knr.out.b Kbd.out) (by have := Ki9.out; omega) _ _ an ak W (fun _ _ => trivial) (Ksd.out.rd.ext hW))
                            unfold DoneE at KSe
                            have Kbd2 := Kept.mk ((Knr.out.b Kbd.out).seen.mono (show i ≤ 1048575 from by have := Ki9.out; omega))
                            unfold rdV at Kqb KSe
                            rw [hdn] at Kqb KSe
                            go_wp2_with fail
                            cases hg : getK (seenP m) p with
                            | none =>
                              have hrd : readP d' p = ([], 5) := by unfold readP; rw [← Kdn.out, hdn, if_neg (by decide), ← Ksn.out, hg]
                              rw [hrd] at h1 h3
                              subst h1 h3
                              have KFd := Kept.mk (fun W v (hf : FilesR (fun _ => True) (seenP m) W v) => (show Calls Try.prog 23 #[v, .string (strOf p)] W (fun e w' => e = .returned (.tuple #[.string (strOf []), .bool false]) ∧ W = w') from by have h := find_any (seenP m) v p W hf.1; unfold FindE at h; rw [hg] at h; exact h))
                              clear hrd hg
                              refine wp_region_calm Ext 10 ([] :: [(105, 0)] :: [] :: [(107, 2)] :: [(106, 1), (108, 3)] :: [(109, 4)] :: [(104, 5)] :: [(104, 5)] :: [(110, 6)] :: [(111, 7)] :: [])
                                ((105, 0) :: (106, 1) :: (107, 2) :: (108, 3) :: (109, 4) :: (104, 5) :: (110, 6) :: (111, 7) :: (17, 8) :: (18, 9) :: [])
                                (EqV ?nce0 :: (fun W u => FilesR (fun _ => True) (seenP m) W u) :: EqV ?nce2 :: EqV ?nce3 :: EqV ?nce4 :: EqV ?nce5 :: EqV ?nce6 :: EqV ?nce7 :: EqV ?nce8 :: EqV ?nce9 :: []) hm (by kernel_rfl) Ext.refl (fun _ _ _ => Ext.trans) Ext.drew
                                (MonoL.at (MonoL.eq _ (MonoL.cons (fun W W' u hR h => FilesR.ext h hR) (MonoL.eq _ (MonoL.eq _ (MonoL.eq _ (MonoL.eq _ (MonoL.eq _ (MonoL.eq _ (MonoL.eq _ (MonoL.eq _ (MonoL.nil)))))))))))) ?ncalmOps ?ncalmDone
                              case ncalmOps =>
                                intro vs
                                refine (CalmOps.cons ?_ (CalmOps.cons ?_ (CalmOps.cons ?_ (CalmOps.cons ?_ (CalmOps.cons ?_ (CalmOps.cons ?_ (CalmOps.cons ?_ (CalmOps.cons ?_ (CalmOps.cons ?_ (CalmOps.cons ?_ trivial))))))))))
                                · intro w8 hR hL; simp [Look, VAt, EqV] at hL; have Kb9 := Kept.mk (Kqb.out.ext hR); simp [Guarded, setAll, bare, hL]; go_wp2_with (first | (refine wpList_load_blk (P := Try.prog) rfl 49 (.tmp 7) rfl q rfl 49 _ Kb9.out _ Try.underlying49 rfl infoRd ?_)); exact CalmPost.mk (by first | (simp; done) | (simp; rfl) | rfl) rfl (Ext.refl _)
                                · intro w8 hR hL; simp [Look, VAt, EqV] at hL; have KT := Kept.mk (KSe.out w8 hR); simp [Guarded, setAll, bare, hL]; go_wp2_with fail; refine KT.out.mono ?_; rintro ee ww ⟨v7, rfl, hf, hE⟩; have Khf := Kept.mk hf; have KhE := Kept.mk hE; clear hf hE; go_wp2_with fail; exact CalmPost.mk (by first | (simp; done) | (simp; rfl) | rfl) Khf.out KhE.out
                                · intro w8 hR hL; simp [Look, VAt, EqV] at hL; simp [Guarded, setAll, bare, hL]; go_wp2_with fail; exact CalmPost.mk (by first | (simp; done) | (simp; rfl) | rfl) rfl (Ext.refl _)
                                · intro w8 hR hL; simp [Look, VAt, EqV] at hL; have q0 := hR.cell y1; simp [Guarded, setAll, bare, hL]; go_wp2_with fail; exact CalmPost.mk (by first | (simp; done) | (simp; rfl) | rfl) rfl (Ext.refl _)
                                · intro w8 hR hL; simp [Look, VAt, EqV] at hL; obtain ⟨h1, h3⟩ := hL; have KT := Kept.mk (KFd.out w8 _ h1); clear h1; simp [Guarded, setAll, bare, h3]; go_wp2_with fail; refine KT.out.mono ?_; rintro ee ww ⟨rfl, rfl⟩; go_wp2_with fail; exact CalmPost.mk (by first | (simp; done) | (simp; rfl) | rfl) rfl (Ext.refl _)
                                · intro w8 hR hL; simp [Look, VAt, EqV] at hL; simp [Guarded, setAll, bare, hL]; go_wp2_with fail; exact CalmPost.mk (by first | (simp; done) | (simp; rfl) | rfl) rfl (Ext.refl _)
                                · intro w8 hR hL; simp [Look, VAt, EqV] at hL; simp [Guarded, setAll, bare, hL]; go_wp2_with fail; exact CalmPost.mk (by first | (simp; done) | (simp; rfl) | rfl) rfl (Ext.refl _)
                                · intro w8 hR hL; simp [Look, VAt, EqV] at hL; simp [Guarded, setAll, bare, hL]; go_wp2_with fail; exact CalmPost.mk (by first | (simp; done) | (simp; rfl) | rfl) rfl (Ext.refl _)
                                · intro w8 hR hL; simp [Look, VAt, EqV] at hL; simp [Guarded, setAll, bare, hL]; go_wp2_with fail; exact CalmPost.mk (by first | (simp; done) | (simp; rfl) | rfl) rfl (Ext.refl _)
                                · intro w8 hR hL; simp [Look, VAt, EqV] at hL; simp [Guarded, setAll, bare, hL]; go_wp2_with fail; exact CalmPost.mk (by first | (simp; done) | (simp; rfl) | rfl) rfl (Ext.refl _)
                              case ncalmDone =>
                                intro vs w8 hR hL
                                simp [Look, VAt, EqV] at hL
                                obtain ⟨L0, L1, L2, L3, L4, L5, L6, L7, L8, L9⟩ := hL
                                simp [setAll, L0, L2, L3, L4, L5, L6, L7, L8, L9]
                                have KR8 := Kept.mk hR
                                clear L0 L1 L2 L3 L4 L5 L6 L7 L8 L9 hR y0 y1 y2 y3 y4 z3
                                generalize vs 1 = v1
                                clear vs
                                go_wp2_with fail
                                go_meet
                                exact ⟨m, _, _, an, ak, none, 0, by first | rfl | simp, by first | rfl | simp, by first | rfl | simp, Kept.mk ⟨⟨Ksd.out.ext KR8.out, Kb1.out, Knr.out, Kka.out⟩, (buf_rd Kbuf.out).ext KR8.out, (show Rd 1 _ (.slice none 0 0) ([] : List (List Value)) from Rd.nil _ _)⟩⟩
                            | some tt =>
                              have hrd : readP d' p = (tt, 0) := by unfold readP; rw [← Kdn.out, hdn, if_neg (by decide), ← Ksn.out, hg]
                              rw [hrd] at h1 h3
                              subst h1 h3
                              have KFd := Kept.mk (fun W v (hf : FilesR (fun _ => True) (seenP m) W v) => (show Calls Try.prog 23 #[v, .string (strOf p)] W (fun e w' => e = .returned (.tuple #[.string (strOf s), .bool true]) ∧ W = w') from by have h := find_any (seenP m) v p W hf.1; unfold FindE at h; rw [hg] at h; exact h))
                              clear hrd hg
                              refine wp_region_calm Ext 10 ([] :: [(105, 0)] :: [] :: [(107, 2)] :: [(106, 1), (108, 3)] :: [(109, 4)] :: [(104, 5)] :: [(104, 5)] :: [(110, 6)] :: [(111, 7)] :: [])
                                ((105, 0) :: (106, 1) :: (107, 2) :: (108, 3) :: (109, 4) :: (104, 5) :: (110, 6) :: (111, 7) :: (17, 8) :: (18, 9) :: [])
                                (EqV ?yce0 :: (fun W u => FilesR (fun _ => True) (seenP m) W u) :: EqV ?yce2 :: EqV ?yce3 :: EqV ?yce4 :: EqV ?yce5 :: EqV ?yce6 :: EqV ?yce7 :: EqV ?yce8 :: EqV ?yce9 :: []) hm (by kernel_rfl) Ext.refl (fun _ _ _ => Ext.trans) Ext.drew
                                (MonoL.at (MonoL.eq _ (MonoL.cons (fun W W' u hR h => FilesR.ext h hR) (MonoL.eq _ (MonoL.eq _ (MonoL.eq _ (MonoL.eq _ (MonoL.eq _ (MonoL.eq _ (MonoL.eq _ (MonoL.eq _ (MonoL.nil)))))))))))) ?ycalmOps ?ycalmDone
                              case ycalmOps =>
                                intro vs
                                refine (CalmOps.cons ?_ (CalmOps.cons ?_ (CalmOps.cons ?_ (CalmOps.cons ?_ (CalmOps.cons ?_ (CalmOps.cons ?_ (CalmOps.cons ?_ (CalmOps.cons ?_ (CalmOps.cons ?_ (CalmOps.cons ?_ trivial))))))))))
                                · intro w8 hR hL; simp [Look, VAt, EqV] at hL; have Kb9 := Kept.mk (Kqb.out.ext hR); simp [Guarded, setAll, bare, hL]; go_wp2_with (first | (refine wpList_load_blk (P := Try.prog) rfl 49 (.tmp 7) rfl q rfl 49 _ Kb9.out _ Try.underlying49 rfl infoRd ?_)); exact CalmPost.mk (by first | (simp; done) | (simp; rfl) | rfl) rfl (Ext.refl _)
                                · intro w8 hR hL; simp [Look, VAt, EqV] at hL; have KT := Kept.mk (KSe.out w8 hR); simp [Guarded, setAll, bare, hL]; go_wp2_with fail; refine KT.out.mono ?_; rintro ee ww ⟨v7, rfl, hf, hE⟩; have Khf := Kept.mk hf; have KhE := Kept.mk hE; clear hf hE; go_wp2_with fail; exact CalmPost.mk (by first | (simp; done) | (simp; rfl) | rfl) Khf.out KhE.out
                                · intro w8 hR hL; simp [Look, VAt, EqV] at hL; simp [Guarded, setAll, bare, hL]; go_wp2_with fail; exact CalmPost.mk (by first | (simp; done) | (simp; rfl) | rfl) rfl (Ext.refl _)
                                · intro w8 hR hL; simp [Look, VAt, EqV] at hL; have q0 := hR.cell y1; simp [Guarded, setAll, bare, hL]; go_wp2_with fail; exact CalmPost.mk (by first | (simp; done) | (simp; rfl) | rfl) rfl (Ext.refl _)
                                · intro w8 hR hL; simp [Look, VAt, EqV] at hL; obtain ⟨h1, h3⟩ := hL; have KT := Kept.mk (KFd.out w8 _ h1); clear h1; simp [Guarded, setAll, bare, h3]; go_wp2_with fail; refine KT.out.mono ?_; rintro ee ww ⟨rfl, rfl⟩; go_wp2_with fail; exact CalmPost.mk (by first | (simp; done) | (simp; rfl) | rfl) rfl (Ext.refl _)
                                · intro w8 hR hL; simp [Look, VAt, EqV] at hL; simp [Guarded, setAll, bare, hL]; go_wp2_with fail; exact CalmPost.mk (by first | (simp; done) | (simp; rfl) | rfl) rfl (Ext.refl _)
                                · intro w8 hR hL; simp [Look, VAt, EqV] at hL; simp [Guarded, setAll, bare, hL]; go_wp2_with fail; exact CalmPost.mk (by first | (simp; done) | (simp; rfl) | rfl) rfl (Ext.refl _)
                                · intro w8 hR hL; simp [Look, VAt, EqV] at hL; simp [Guarded, setAll, bare, hL]; go_wp2_with fail; exact CalmPost.mk (by first | (simp; done) | (simp; rfl) | rfl) rfl (Ext.refl _)
                                · intro w8 hR hL; simp [Look, VAt, EqV] at hL; simp [Guarded, setAll, bare, hL]; go_wp2_with fail; exact CalmPost.mk (by first | (simp; done) | (simp; rfl) | rfl) rfl (Ext.refl _)
                                · intro w8 hR hL; simp [Look, VAt, EqV] at hL; simp [Guarded, setAll, bare, hL]; go_wp2_with fail; exact CalmPost.mk (by first | (simp; done) | (simp; rfl) | rfl) rfl (Ext.refl _)
                              case ycalmDone =>
                                intro vs w8 hR hL
                                simp [Look, VAt, EqV] at hL
                                obtain ⟨L0, L1, L2, L3, L4, L5, L6, L7, L8, L9⟩ := hL
                                simp [setAll, L0, L2, L3, L4, L5, L6, L7, L8, L9]
                                have KR8 := Kept.mk hR
                                clear L0 L1 L2 L3 L4 L5 L6 L7 L8 L9 hR y0 y1 y2 y3 y4 z3
                                generalize vs 1 = v1
                                clear vs
                                go_wp2_with fail
                                go_meet
                                exact ⟨m, _, _, an, ak, none, 0, by first | rfl | simp, by first | rfl | simp, by first | rfl | simp, Kept.mk ⟨⟨Ksd.out.ext KR8.out, Kb1.out, Knr.out, Kka.out⟩, (buf_rd Kbuf.out).ext KR8.out, (show Rd 1 _ (.slice none 0 0) ([] : List (List Value)) from Rd.nil _ _)⟩⟩
                        · have hk7 : (k == 7) = false := by simpa using hk
                          by_cases hk : k = 8
                          · subst hk
                            have ha : actP d ⟨8, p, t, n, kp⟩ = (([], listD d p, 0), d) := rfl
                            rw [Kact.out] at ha
                            injection ha with h1 hd
                            injection h1 with h1 h2
                            injection h2 with h2 h3
                            subst h1 h3 hd
                            have z3 := Ksd.out.blk.cell 3
                            simp only [rdV, List.getElem?_cons_zero, List.getElem?_cons_succ] at z3
                            have Kdn := Kept.mk Knr.out.down
                            have Ksn := Kept.mk Knr.out.seen
                            cases hdn : m.down with
                            | true =>
                              have hrd : listD d' p = [] := by unfold listD; rw [← Kdn.out, hdn]; rfl
                              rw [hrd] at h2
                              subst h2
                              rw [hdn] at z3
                              clear hrd
                              go_wp2_with fail
                              go_meet
                              exact ⟨m, _, _, an, ak, none, 0, by first | rfl | simp, by first | rfl | simp, by first | rfl | simp, Kept.mk ⟨⟨Ksd.out.ext (Ext.refl _), Kb1.out, Knr.out, Kka.out⟩, (buf_rd Kbuf.out).ext (Ext.refl _), (show Rd 1 _ (.slice none 0 0) ([] : List (List Value)) from Rd.nil _ _)⟩⟩
                            | false =>
                              have hrd : listD d' p = listP (seenP m) p := by unfold listD; rw [← Kdn.out, hdn, if_neg (by decide), ← Ksn.out]
                              rw [hrd] at h2
                              rw [hdn] at z3
                              clear hrd
                              have Kqb := Kept.mk Ksd.out.blk
                              have KSe := Kept.mk (fun W (hW : Ext w7 W) => seen_any (G := fun _ => True) m i (Knr.out.b Kbd.out) (by have := Ki9.out; omega) _ _ an ak W (fun _ _ => trivial) (Ksd.out.rd.ext hW))
                              unfold DoneE at KSe
                              have Kbd2 := Kept.mk ((Knr.out.b Kbd.out).seen.mono (show i ≤ 1048575 from by have := Ki9.out; omega))
                              unfold rdV at Kqb KSe
                              rw [hdn] at Kqb KSe
                              go_wp2_with fail
                              obtain ⟨xw, hxw⟩ : ∃ xw, xw = w7.heap.size := ⟨_, rfl⟩
                              have Kxw := Kept.mk hxw
                              clear hxw
                              subst h2
                              refine wp_region_calm Ext 6 ([] :: [(119, 0)] :: [] :: [(121, 2)] :: [(120, 1), (122, 3)] :: [(123, 4)] :: [])
                                ((119, 0) :: (120, 1) :: (121, 2) :: (122, 3) :: (123, 4) :: (16, 5) :: [])
                                (EqV ?lce0 :: (fun W u => FilesR (fun _ => True) (seenP m) W u) :: EqV ?lce2 :: EqV ?lce3 :: (fun W u => Buf W xw 9 u ((listP (seenP m) p).map tV)) :: (fun W u => Buf W xw 9 u ((listP (seenP m) p).map tV)) :: []) hm (by kernel_rfl) Ext.refl (fun _ _ _ => Ext.trans) Ext.drew
                                (MonoL.at (MonoL.eq _ (MonoL.cons (fun W W' u hR h => FilesR.ext h hR) (MonoL.eq _ (MonoL.eq _ (MonoL.cons (fun W W' u hR h => Buf.ext h hR) (MonoL.cons (fun W W' u hR h => Buf.ext h hR) (MonoL.nil)))))))) ?lcalmOps ?lcalmDone
                              case lcalmOps =>
                                intro vs
                                refine (CalmOps.cons ?_ (CalmOps.cons ?_ (CalmOps.cons ?_ (CalmOps.cons ?_ (CalmOps.cons ?_ (CalmOps.cons ?_ trivial))))))
                                · intro w8 hR hL; simp [Look, VAt, EqV] at hL; have Kb9 := Kept.mk (Kqb.out.ext hR); simp [Guarded, setAll, bare, hL]; go_wp2_with (first | (refine wpList_load_blk (P := Try.prog) rfl 49 (.tmp 7) rfl q rfl 49 _ Kb9.out _ Try.underlying49 rfl infoRd ?_)); exact CalmPost.mk (by first | (simp; done) | (simp; rfl) | rfl) rfl (Ext.refl _)
                                · intro w8 hR hL; simp [Look, VAt, EqV] at hL; have KT := Kept.mk (KSe.out w8 hR); simp [Guarded, setAll, bare, hL]; go_wp2_with fail; refine KT.out.mono ?_; rintro ee ww ⟨v7, rfl, hf, hE⟩; have Khf := Kept.mk hf; have KhE := Kept.mk hE; clear hf hE; go_wp2_with fail; exact CalmPost.mk (by first | (simp; done) | (simp; rfl) | rfl) Khf.out KhE.out
                                · intro w8 hR hL; simp [Look, VAt, EqV] at hL; simp [Guarded, setAll, bare, hL]; go_wp2_with fail; exact CalmPost.mk (by first | (simp; done) | (simp; rfl) | rfl) rfl (Ext.refl _)
                                · intro w8 hR hL; simp [Look, VAt, EqV] at hL; have q0 := hR.cell y1; simp [Guarded, setAll, bare, hL]; go_wp2_with fail; exact CalmPost.mk (by first | (simp; done) | (simp; rfl) | rfl) rfl (Ext.refl _)
                                · intro w8 hR hL; simp [Look, VAt, EqV] at hL; obtain ⟨h1, h3⟩ := hL; have KT := Kept.mk (listR_any (seenP m) Kbd2.out p (by have := Ksz.out.1; simp only [SZ] at this; omega) _ w8 h1.1); unfold ListRE at KT; have KRs := Kept.mk (show xw ≤ w8.heap.size from by rw [Kxw.out]; exact hR.size); clear h1; simp [Guarded, setAll, bare, h3]; go_wp2_with fail; refine KT.out.mono ?_; rintro ee ww ⟨v7, rfl, hf, hE⟩; have Khf := Kept.mk (hf.lower KRs.out); have KhE := Kept.mk hE; clear hf hE; go_wp2_with fail; exact CalmPost.mk (by first | (simp; done) | (simp; rfl) | rfl) Khf.out KhE.out
                                · intro w8 hR hL; simp [Look, VAt, EqV] at hL; have KL := Kept.mk hL; clear hL; simp [Guarded, setAll, bare]; go_wp2_with fail; exact CalmPost.mk (by first | (simp; done) | (simp; rfl) | rfl) KL.out (Ext.refl _)
                              case lcalmDone =>
                                intro vs w8 hR hL
                                simp [Look, VAt, EqV] at hL
                                obtain ⟨L0, L1, L2, L3, L4, L5⟩ := hL
                                obtain ⟨oA, oc, hv5⟩ := L5.form
                                rw [List.length_map] at hv5
                                have KO := Kept.mk (buf_rd L5)
                                rw [hv5] at KO
                                simp [setAll, L0, L2, L3, hv5]
                                have KR8 := Kept.mk hR
                                clear L0 L1 L2 L3 L4 L5 hR hv5 y0 y1 y2 y3 y4 z3
                                generalize vs 1 = v1
                                generalize vs 4 = v4
                                clear vs
                                go_wp2_with fail
                                go_meet
                                exact ⟨m, _, _, an, ak, oA, oc, by first | rfl | simp, by first | rfl | simp, by first | rfl | simp, Kept.mk ⟨⟨Ksd.out.ext KR8.out, Kb1.out, Knr.out, Kka.out⟩, (buf_rd Kbuf.out).ext KR8.out, KO.out⟩⟩
                          · have hk8 : (k == 8) = false := by simpa using hk
                            have ha : actP d ⟨k, p, t, n, kp⟩ = (([], [], 0), d) := by unfold actP; simp only [if_neg (show ¬ k = 1 by assumption), if_neg (show ¬ k = 2 by assumption), if_neg (show ¬ k = 3 by assumption), if_neg (show ¬ k = 4 by assumption), if_neg (show ¬ k = 5 by assumption), if_neg (show ¬ k = 6 by assumption), if_neg (show ¬ k = 7 by assumption), if_neg (show ¬ k = 8 by assumption)]
                            rw [Kact.out] at ha
                            injection ha with h1 hd
                            injection h1 with h1 h2
                            injection h2 with h2 h3
                            subst h1 h2 h3 hd
                            go_wp2_with fail
                            go_meet
                            exact ⟨m, _, _, an, ak, none, 0, by first | rfl | simp, by first | rfl | simp, by first | rfl | simp, Kept.mk ⟨⟨Ksd.out.ext (Ext.refl _), Kb1.out, Knr.out, Kka.out⟩, (buf_rd Kbuf.out).ext (Ext.refl _), (show Rd 1 _ (.slice none 0 0) ([] : List (List Value)) from Rd.nil _ _)⟩⟩
          case rest =>
            obtain ⟨m2, lv2, rv2, an2, ak2, B, bc, rfl, rfl, rfl, hcut⟩ := hcut
            have KC := Kept.mk hcut.out
            clear hcut
            obtain ⟨l2A, l2n, l2c, rfl⟩ := KC.out.1.side.rd.l.form
            obtain ⟨r2A, r2c, hrv⟩ := KC.out.1.side.rd.r.form
            rw [List.length_map, KC.out.1.nr.len] at hrv
            subst hrv
            have Kdn := Kept.mk KC.out.1.nr.down
            have z3 := KC.out.1.side.blk.cell 3
            simp only [rdV, List.getElem?_cons_zero, List.getElem?_cons_succ] at z3
            have KSd := Kept.mk (fun W (hW : Ext wc W) => KC.out.1.side.ext hW)
            have Kb2 := Kept.mk KC.out.1.b
            have Kn2 := Kept.mk KC.out.1.nr
            have Kk2 := Kept.mk KC.out.1.ak
            have Kra := Kept.mk (fun W (hW : Ext wc W) => KC.out.2.1.ext hW)
            have Krb := Kept.mk (fun W (hW : Ext wc W) => KC.out.2.2.ext hW)
            have Ktk : Kept (takenD d' = if d'.down then 0 else takenP (seenP d')) := Kept.mk rfl
            have htk2 : takenD d' ≤ 4503599627370496 := by
              rw [Ktk.out]
              split
              · omega
              · exact Nat.le_trans Kb2.out.seen.taken (by have := Ki9.out; omega)
            generalize hNN : d'.rows.length = N at *
            have KNN := Kept.mk hNN
            clear hNN
            cases hdn : m2.down with
            | true =>
              have KT0 := Kept.mk (show takenD d' = 0 from by rw [Ktk.out, ← Kdn.out, hdn]; rfl)
              have Kdd := Kept.mk (show d'.down = true from by rw [← Kdn.out, hdn])
              rw [hdn] at z3
              have KEw := Kept.mk (Ext.refl wc)
              have Kqc := Kept.mk KC.out.1.side.blk
              clear KC Ktk hdn Kbx7 y0 Ksd Kbuf Kact
              clear htk2
              go_upto_region 42 with fail
              have Kdw := Kept.mk (fun W (hW : Ext wc W) => (show Calls Try.prog 27 #[.pointer (some ⟨g, 0, none⟩)] W (fun e w' => e = .returned (.bool true) ∧ W = w') from by have h := down_at (KSd.out W hW).at1.at0; rw [Kdd.out] at h; exact h))
              have Kwt := Kept.mk (fun W (hW : Ext wc W) => waiting_at (KSd.out W hW).at1.at0)
              rw [KNN.out] at Kwt
              have Ktn := Kept.mk (fun W (hW : Ext wc W) => taken_at (KSd.out W hW).at1.at0 (i + 1) Kb2.out (by have := Ki9.out; omega))
              rw [KT0.out] at Ktn
              have z3 := (Kqc.out.ext KEw.out).cell 3
              have z2 := (Kqc.out.ext KEw.out).cell 2
              simp only [rdV, List.getElem?_cons_zero, List.getElem?_cons_succ] at z3 z2
              rw [show m2.down = true from by rw [Kdn.out]; exact Kdd.out] at z3
              refine wp_region_calm Ext 35 ([] :: [] :: [(130, 0), (131, 1)] :: [(132, 2)] :: [(133, 3)] :: [(133, 3)] :: [(134, 4), (135, 5), (133, 3)] :: [(133, 3), (136, 6)] :: [(137, 7)] :: [(138, 8)] :: [(138, 8)] :: [(139, 9), (140, 10), (138, 8)] :: [(141, 11), (138, 8)] :: [(138, 8), (142, 12)] :: [(143, 13)] :: [(144, 14)] :: [(145, 15), (144, 14)] :: [(144, 14)] :: [(147, 17), (144, 14)] :: [(146, 16), (148, 18), (144, 14)] :: [(144, 14), (149, 19)] :: [(150, 20)] :: [(151, 21)] :: [(152, 22), (151, 21)] :: [(151, 21)] :: [(154, 24), (151, 21)] :: [(155, 25), (151, 21)] :: [(153, 23), (156, 26), (151, 21)] :: [(151, 21), (157, 27)] :: [(158, 28)] :: [(159, 29)] :: [(160, 30), (159, 29)] :: [(159, 29)] :: [(161, 31), (162, 32), (159, 29)] :: [(159, 29), (163, 33)] :: [])
                ((130, 0) :: (131, 1) :: (132, 2) :: (133, 3) :: (134, 4) :: (135, 5) :: (136, 6) :: (137, 7) :: (138, 8) :: (139, 9) :: (140, 10) :: (141, 11) :: (142, 12) :: (143, 13) :: (144, 14) :: (145, 15) :: (146, 16) :: (147, 17) :: (148, 18) :: (149, 19) :: (150, 20) :: (151, 21) :: (152, 22) :: (153, 23) :: (154, 24) :: (155, 25) :: (156, 26) :: (157, 27) :: (158, 28) :: (159, 29) :: (160, 30) :: (161, 31) :: (162, 32) :: (163, 33) :: (164, 34) :: [])
                (EqV ?tce0 :: EqV ?tce1 :: EqV (.bool false) :: EqV (.bool false) :: EqV ?tce4 :: EqV ?tce5 :: EqV (.bool false) :: EqV (.bool false) :: EqV (.bool false) :: EqV ?tce9 :: EqV ?tce10 :: EqV (.bool true) :: EqV (.bool false) :: EqV (.bool false) :: EqV (.bool false) :: EqV ?tce15 :: EqV ?tce16 :: EqV ?tce17 :: EqV ?tce18 :: EqV (.bool false) :: EqV (.bool false) :: EqV (.bool false) :: EqV ?tce22 :: EqV ?tce23 :: EqV ?tce24 :: EqV ?tce25 :: EqV ?tce26 :: EqV (.bool false) :: EqV (.bool false) :: EqV (.bool false) :: EqV ?tce30 :: EqV ?tce31 :: EqV ?tce32 :: EqV (.bool false) :: EqV (.bool false) :: []) hm (by kernel_rfl) Ext.refl (fun _ _ _ => Ext.trans) Ext.drew
                (MonoL.at (MonoL.eq _ (MonoL.eq _ (MonoL.eq _ (MonoL.eq _ (MonoL.eq _ (MonoL.eq _ (MonoL.eq _ (MonoL.eq _ (MonoL.eq _ (MonoL.eq _ (MonoL.eq _ (MonoL.eq _ (MonoL.eq _ (MonoL.eq _ (MonoL.eq _ (MonoL.eq _ (MonoL.eq _ (MonoL.eq _ (MonoL.eq _ (MonoL.eq _ (MonoL.eq _ (MonoL.eq _ (MonoL.eq _ (MonoL.eq _ (MonoL.eq _ (MonoL.eq _ (MonoL.eq _ (MonoL.eq _ (MonoL.eq _ (MonoL.eq _ (MonoL.eq _ (MonoL.eq _ (MonoL.eq _ (MonoL.eq _ (MonoL.eq _ (MonoL.nil))))))))))))))))))))))))))))))))))))) ?tcalmOps ?tcalmDone
              case tcalmOps =>
                intro vs
                refine (CalmOps.cons ?_ (CalmOps.cons ?_ (CalmOps.cons ?_ (CalmOps.cons ?_ (CalmOps.cons ?_ (CalmOps.cons ?_ (CalmOps.cons ?_ (CalmOps.cons ?_ (CalmOps.cons ?_ (CalmOps.cons ?_ (CalmOps.cons ?_ (CalmOps.cons ?_ (CalmOps.cons ?_ (CalmOps.cons ?_ (CalmOps.cons ?_ (CalmOps.cons ?_ (CalmOps.cons ?_ (CalmOps.cons ?_ (CalmOps.cons ?_ (CalmOps.cons ?_ (CalmOps.cons ?_ (CalmOps.cons ?_ (CalmOps.cons ?_ (CalmOps.cons ?_ (CalmOps.cons ?_ (CalmOps.cons ?_ (CalmOps.cons ?_ (CalmOps.cons ?_ (CalmOps.cons ?_ (CalmOps.cons ?_ (CalmOps.cons ?_ (CalmOps.cons ?_ (CalmOps.cons ?_ (CalmOps.cons ?_ (CalmOps.cons ?_ trivial)))))))))))))))))))))))))))))))))))
                · intro w5x hR hL; simp [Look, VAt, EqV] at hL; simp [Guarded, setAll, bare, hL]; go_wp2_with fail; exact CalmPost.mk (by first | (simp; done) | (simp; rfl) | rfl) rfl (Ext.refl _)
                · intro w5x hR hL; simp [Look, VAt, EqV] at hL; simp [Guarded, setAll, bare, hL]; go_wp2_with fail; exact CalmPost.mk (by first | (simp; done) | (simp; rfl) | rfl) rfl (Ext.refl _)
                · intro w5x hR hL; simp [Look, VAt, EqV] at hL; have qs := str_same s; simp [Guarded, setAll, bare, hL]; go_wp2_with fail; exact CalmPost.mk (by first | (simp; done) | (simp; rfl) | rfl) rfl (Ext.refl _)
                · intro w5x hR hL; simp [Look, VAt, EqV] at hL; simp [Guarded, setAll, bare, hL]; go_wp2_with fail; exact CalmPost.mk (by first | (simp; done) | (simp; rfl) | rfl) rfl (Ext.refl _)
                · intro w5x hR hL; simp [Look, VAt, EqV] at hL; simp [Guarded, setAll, bare, hL]; go_wp2_with fail; exact CalmPost.mk (by first | (simp; done) | (simp; rfl) | rfl) rfl (Ext.refl _)
                · intro w5x hR hL; simp [Look, VAt, EqV] at hL; simp [Guarded, setAll, bare, hL]; go_wp2_with fail; exact CalmPost.mk (by first | (simp; done) | (simp; rfl) | rfl) rfl (Ext.refl _)
                · intro w5x hR hL; simp [Look, VAt, EqV] at hL; simp [Guarded, setAll, bare, hL]; go_wp2_with fail; exact CalmPost.mk (by first | (simp; done) | (simp; rfl) | rfl) rfl (Ext.refl _)
                · intro w5x hR hL; simp [Look, VAt, EqV] at hL; simp [Guarded, setAll, bare, hL]; go_wp2_with fail; exact CalmPost.mk (by first | (simp; done) | (simp; rfl) | rfl) rfl (Ext.refl _)
                · intro w5x hR hL; simp [Look, VAt, EqV] at hL; simp [Guarded, setAll, bare, hL]; go_wp2_with fail; exact CalmPost.mk (by first | (simp; done) | (simp; rfl) | rfl) rfl (Ext.refl _)
                · intro w5x hR hL; simp [Look, VAt, EqV] at hL; simp [Guarded, setAll, bare, hL]; go_wp2_with fail; exact CalmPost.mk (by first | (simp; done) | (simp; rfl) | rfl) rfl (Ext.refl _)
                · intro w5x hR hL; simp [Look, VAt, EqV] at hL; simp [Guarded, setAll, bare, hL]; go_wp2_with fail; exact CalmPost.mk (by first | (simp; done) | (simp; rfl) | rfl) rfl (Ext.refl _)
                · intro w5x hR hL; simp [Look, VAt, EqV] at hL; have KT := Kept.mk (texts_any l _ _ w5x (Kra.out w5x (KEw.out.trans hR)) (Krb.out w5x (KEw.out.trans hR))); simp [Guarded, setAll, bare, hL]; go_wp2_with fail; refine KT.out.mono ?_; rintro ee ww ⟨rfl, hE⟩; go_wp2_with fail; exact CalmPost.mk (by first | (simp; done) | (simp; rfl) | rfl) rfl hE
                · intro w5x hR hL; simp [Look, VAt, EqV] at hL; simp [Guarded, setAll, bare, hL]; go_wp2_with fail; exact CalmPost.mk (by first | (simp; done) | (simp; rfl) | rfl) rfl (Ext.refl _)
                · intro w5x hR hL; simp [Look, VAt, EqV] at hL; simp [Guarded, setAll, bare, hL]; go_wp2_with fail; exact CalmPost.mk (by first | (simp; done) | (simp; rfl) | rfl) rfl (Ext.refl _)
                · intro w5x hR hL; simp [Look, VAt, EqV] at hL; simp [Guarded, setAll, bare, hL]; go_wp2_with fail; exact CalmPost.mk (by first | (simp; done) | (simp; rfl) | rfl) rfl (Ext.refl _)
                · intro w5x hR hL; simp [Look, VAt, EqV] at hL; simp [Guarded, setAll, bare, hL]; go_wp2_with fail; exact CalmPost.mk (by first | (simp; done) | (simp; rfl) | rfl) rfl (Ext.refl _)
                · intro w5x hR hL; simp [Look, VAt, EqV] at hL; have KT := Kept.mk ((Kdw.out w5x (KEw.out.trans hR))); simp [Guarded, setAll, bare, hL]; go_wp2_with fail; refine KT.out.mono ?_; rintro ee ww ⟨rfl, rfl⟩; go_wp2_with fail; exact CalmPost.mk (by first | (simp; done) | (simp; rfl) | rfl) rfl (Ext.refl _)
                · intro w5x hR hL; simp [Look, VAt, EqV] at hL; simp [Guarded, setAll, bare, hL]; go_wp2_with fail; exact CalmPost.mk (by first | (simp; done) | (simp; rfl) | rfl) rfl (Ext.refl _)
                · intro w5x hR hL; simp [Look, VAt, EqV] at hL; have q0 := hR.cell z3; simp [Guarded, setAll, bare, hL]; go_wp2_with fail; exact CalmPost.mk (by first | (simp; done) | (simp; rfl) | rfl) rfl (Ext.refl _)
                · intro w5x hR hL; simp [Look, VAt, EqV] at hL; simp [Guarded, setAll, bare, hL]; go_wp2_with fail; exact CalmPost.mk (by first | (simp; done) | (simp; rfl) | rfl) rfl (Ext.refl _)
                · intro w5x hR hL; simp [Look, VAt, EqV] at hL; simp [Guarded, setAll, bare, hL]; go_wp2_with fail; exact CalmPost.mk (by first | (simp; done) | (simp; rfl) | rfl) rfl (Ext.refl _)
                · intro w5x hR hL; simp [Look, VAt, EqV] at hL; simp [Guarded, setAll, bare, hL]; go_wp2_with fail; exact CalmPost.mk (by first | (simp; done) | (simp; rfl) | rfl) rfl (Ext.refl _)
                · intro w5x hR hL; simp [Look, VAt, EqV] at hL; simp [Guarded, setAll, bare, hL]; go_wp2_with fail; exact CalmPost.mk (by first | (simp; done) | (simp; rfl) | rfl) rfl (Ext.refl _)
                · intro w5x hR hL; simp [Look, VAt, EqV] at hL; have KT := Kept.mk ((Kwt.out w5x (KEw.out.trans hR))); simp [Guarded, setAll, bare, hL]; go_wp2_with fail; refine KT.out.mono ?_; rintro ee ww ⟨rfl, rfl⟩; go_wp2_with fail; exact CalmPost.mk (by first | (simp; done) | (simp; rfl) | rfl) rfl (Ext.refl _)
                · intro w5x hR hL; simp [Look, VAt, EqV] at hL; simp [Guarded, setAll, bare, hL]; go_wp2_with fail; exact CalmPost.mk (by first | (simp; done) | (simp; rfl) | rfl) rfl (Ext.refl _)
                · intro w5x hR hL; simp [Look, VAt, EqV] at hL; have q0 := hR.cell z2; simp [Guarded, setAll, bare, hL]; go_wp2_with fail; exact CalmPost.mk (by first | (simp; done) | (simp; rfl) | rfl) rfl (Ext.refl _)
                · intro w5x hR hL; simp [Look, VAt, EqV] at hL; simp [Guarded, setAll, bare, hL]; go_wp2_with fail; exact CalmPost.mk (by first | (simp; done) | (simp; rfl) | rfl) rfl (Ext.refl _)
                · intro w5x hR hL; simp [Look, VAt, EqV] at hL; simp [Guarded, setAll, bare, hL]; go_wp2_with fail; exact CalmPost.mk (by first | (simp; done) | (simp; rfl) | rfl) rfl (Ext.refl _)
                · intro w5x hR hL; simp [Look, VAt, EqV] at hL; simp [Guarded, setAll, bare, hL]; go_wp2_with fail; exact CalmPost.mk (by first | (simp; done) | (simp; rfl) | rfl) rfl (Ext.refl _)
                · intro w5x hR hL; simp [Look, VAt, EqV] at hL; simp [Guarded, setAll, bare, hL]; go_wp2_with fail; exact CalmPost.mk (by first | (simp; done) | (simp; rfl) | rfl) rfl (Ext.refl _)
                · intro w5x hR hL; simp [Look, VAt, EqV] at hL; simp [Guarded, setAll, bare, hL]; go_wp2_with fail; exact CalmPost.mk (by first | (simp; done) | (simp; rfl) | rfl) rfl (Ext.refl _)
                · intro w5x hR hL; simp [Look, VAt, EqV] at hL; have KT := Kept.mk ((Ktn.out w5x (KEw.out.trans hR))); simp [Guarded, setAll, bare, hL]; go_wp2_with fail; refine KT.out.mono ?_; rintro ee ww ⟨rfl, hE⟩; go_wp2_with fail; exact CalmPost.mk (by first | (simp; done) | (simp; rfl) | rfl) rfl hE
                · intro w5x hR hL; simp [Look, VAt, EqV] at hL; simp [Guarded, setAll, bare, hL]; go_wp2_with fail; exact CalmPost.mk (by first | (simp; done) | (simp; rfl) | rfl) rfl (Ext.refl _)
                · intro w5x hR hL; simp [Look, VAt, EqV] at hL; simp [Guarded, setAll, bare, hL]; go_wp2_with fail; exact CalmPost.mk (by first | (simp; done) | (simp; rfl) | rfl) rfl (Ext.refl _)
                · intro w5x hR hL; simp [Look, VAt, EqV] at hL; simp [Guarded, setAll, bare, hL]; go_wp2_with fail; exact CalmPost.mk (by first | (simp; done) | (simp; rfl) | rfl) rfl (Ext.refl _)
              case tcalmDone =>
                intro vs w8x hR hL
                simp [Look, VAt, EqV] at hL
                obtain ⟨L0, L1, L2, L3, L4, L5, L6, L7, L8, L9, L10, L11, L12, L13, L14, L15, L16, L17, L18, L19, L20, L21, L22, L23, L24, L25, L26, L27, L28, L29, L30, L31, L32, L33, L34⟩ := hL
                simp [setAll, L0, L1, L2, L3, L4, L5, L6, L7, L8, L9, L10, L11, L12, L13, L14, L15, L16, L17, L18, L19, L20, L21, L22, L23, L24, L25, L26, L27, L28, L29, L30, L31, L32, L33, L34]
                have KPn := Kept.mk (show PlayAt w w8x g q (i + 1) d' m2 _ _ an2 ak2 from ⟨KSd.out w8x (KEw.out.trans hR), Kb2.out, Kn2.out, Kk2.out⟩)
                clear L0 L1 L2 L3 L4 L5 L6 L7 L8 L9 L10 L11 L12 L13 L14 L15 L16 L17 L18 L19 L20 L21 L22 L23 L24 L25 L26 L27 L28 L29 L30 L31 L32 L33 L34 hR z2 z3 vs
                go_wp2_with fail
                go_roundg (gk - 1)
                case measure => have := Kq.out; omega
                case rel => exact ⟨i + 1, d', m2, _, _, an2, ak2, by have := Kq.out; omega, by first | rfl | simp, KPn⟩
            | false =>
              have KT0 := Kept.mk (show takenD d' = takenP (seenP m2) from by rw [Ktk.out, ← Kdn.out, hdn, if_neg (by decide), Kn2.out.seen])
              have Kdd := Kept.mk (show d'.down = false from by rw [← Kdn.out, hdn])
              have Kqc := Kept.mk KC.out.1.side.blk
              have KSe := Kept.mk (seen_any (G := fun _ => True) m2 (i + 1) (Kn2.out.b Kb2.out) (by have := Ki9.out; omega) _ _ an2 ak2 wc (fun _ _ => trivial) KC.out.1.side.rd)
              unfold DoneE at KSe
              have Kbd2 := Kept.mk ((Kn2.out.b Kb2.out).seen)
              unfold rdV at Kqc KSe
              rw [hdn] at z3 Kqc KSe
              clear KC Ktk hdn Kbx7 y0 Ksd Kbuf Kact
              go_upto_region 41 with fail
              go_wp2_with (first | (refine wpList_load_blk (P := Try.prog) rfl 49 (.tmp 7) rfl q rfl 49 _ Kqc.out _ Try.underlying49 rfl infoRd ?_))
              refine KSe.out.mono ?_
              rintro e w8 ⟨v8, rfl, hf, hE8⟩
              have KT := Kept.mk (takenR_any (seenP m2) (i + 1) Kbd2.out (by have := Ki9.out; omega) v8 w8 hf.1)
              have KEw0 := Kept.mk hE8
              obtain ⟨v8A, v8n, v8c, hv8⟩ := hf.form
              subst hv8
              clear hf hE8 KSe z3
              rw [KT0.out] at htk2
              generalize takenP (seenP m2) = T at *
              go_wp2_with fail
              refine KT.out.mono ?_
              rintro e w9 ⟨rfl, hE9⟩
              have KEw := Kept.mk (KEw0.out.trans hE9)
              clear hE9 KT KEw0 htk2
              go_upto_region 42 with fail
              have Kdw := Kept.mk (fun W (hW : Ext wc W) => (show Calls Try.prog 27 #[.pointer (some ⟨g, 0, none⟩)] W (fun e w' => e = .returned (.bool false) ∧ W = w') from by have h := down_at (KSd.out W hW).at1.at0; rw [Kdd.out] at h; exact h))
              have Kwt := Kept.mk (fun W (hW : Ext wc W) => waiting_at (KSd.out W hW).at1.at0)
              rw [KNN.out] at Kwt
              have Ktn := Kept.mk (fun W (hW : Ext wc W) => taken_at (KSd.out W hW).at1.at0 (i + 1) Kb2.out (by have := Ki9.out; omega))
              rw [KT0.out] at Ktn
              have z3 := (Kqc.out.ext KEw.out).cell 3
              have z2 := (Kqc.out.ext KEw.out).cell 2
              simp only [rdV, List.getElem?_cons_zero, List.getElem?_cons_succ] at z3 z2
              refine wp_region_calm Ext 35 ([] :: [] :: [(130, 0), (131, 1)] :: [(132, 2)] :: [(133, 3)] :: [(133, 3)] :: [(134, 4), (135, 5), (133, 3)] :: [(133, 3), (136, 6)] :: [(137, 7)] :: [(138, 8)] :: [(138, 8)] :: [(139, 9), (140, 10), (138, 8)] :: [(141, 11), (138, 8)] :: [(138, 8), (142, 12)] :: [(143, 13)] :: [(144, 14)] :: [(145, 15), (144, 14)] :: [(144, 14)] :: [(147, 17), (144, 14)] :: [(146, 16), (148, 18), (144, 14)] :: [(144, 14), (149, 19)] :: [(150, 20)] :: [(151, 21)] :: [(152, 22), (151, 21)] :: [(151, 21)] :: [(154, 24), (151, 21)] :: [(155, 25), (151, 21)] :: [(153, 23), (156, 26), (151, 21)] :: [(151, 21), (157, 27)] :: [(158, 28)] :: [(159, 29)] :: [(160, 30), (159, 29)] :: [(159, 29)] :: [(161, 31), (162, 32), (159, 29)] :: [(159, 29), (163, 33)] :: [])
                ((130, 0) :: (131, 1) :: (132, 2) :: (133, 3) :: (134, 4) :: (135, 5) :: (136, 6) :: (137, 7) :: (138, 8) :: (139, 9) :: (140, 10) :: (141, 11) :: (142, 12) :: (143, 13) :: (144, 14) :: (145, 15) :: (146, 16) :: (147, 17) :: (148, 18) :: (149, 19) :: (150, 20) :: (151, 21) :: (152, 22) :: (153, 23) :: (154, 24) :: (155, 25) :: (156, 26) :: (157, 27) :: (158, 28) :: (159, 29) :: (160, 30) :: (161, 31) :: (162, 32) :: (163, 33) :: (164, 34) :: [])
                (EqV ?fce0 :: EqV ?fce1 :: EqV (.bool false) :: EqV (.bool false) :: EqV ?fce4 :: EqV ?fce5 :: EqV (.bool false) :: EqV (.bool false) :: EqV (.bool false) :: EqV ?fce9 :: EqV ?fce10 :: EqV (.bool true) :: EqV (.bool false) :: EqV (.bool false) :: EqV (.bool false) :: EqV ?fce15 :: EqV ?fce16 :: EqV ?fce17 :: EqV ?fce18 :: EqV (.bool false) :: EqV (.bool false) :: EqV (.bool false) :: EqV ?fce22 :: EqV ?fce23 :: EqV ?fce24 :: EqV ?fce25 :: EqV ?fce26 :: EqV (.bool false) :: EqV (.bool false) :: EqV (.bool false) :: EqV ?fce30 :: EqV ?fce31 :: EqV ?fce32 :: EqV (.bool false) :: EqV (.bool false) :: []) hm (by kernel_rfl) Ext.refl (fun _ _ _ => Ext.trans) Ext.drew
                (MonoL.at (MonoL.eq _ (MonoL.eq _ (MonoL.eq _ (MonoL.eq _ (MonoL.eq _ (MonoL.eq _ (MonoL.eq _ (MonoL.eq _ (MonoL.eq _ (MonoL.eq _ (MonoL.eq _ (MonoL.eq _ (MonoL.eq _ (MonoL.eq _ (MonoL.eq _ (MonoL.eq _ (MonoL.eq _ (MonoL.eq _ (MonoL.eq _ (MonoL.eq _ (MonoL.eq _ (MonoL.eq _ (MonoL.eq _ (MonoL.eq _ (MonoL.eq _ (MonoL.eq _ (MonoL.eq _ (MonoL.eq _ (MonoL.eq _ (MonoL.eq _ (MonoL.eq _ (MonoL.eq _ (MonoL.eq _ (MonoL.eq _ (MonoL.eq _ (MonoL.nil))))))))))))))))))))))))))))))))))))) ?fcalmOps ?fcalmDone
              case fcalmOps =>
                intro vs
                refine (CalmOps.cons ?_ (CalmOps.cons ?_ (CalmOps.cons ?_ (CalmOps.cons ?_ (CalmOps.cons ?_ (CalmOps.cons ?_ (CalmOps.cons ?_ (CalmOps.cons ?_ (CalmOps.cons ?_ (CalmOps.cons ?_ (CalmOps.cons ?_ (CalmOps.cons ?_ (CalmOps.cons ?_ (CalmOps.cons ?_ (CalmOps.cons ?_ (CalmOps.cons ?_ (CalmOps.cons ?_ (CalmOps.cons ?_ (CalmOps.cons ?_ (CalmOps.cons ?_ (CalmOps.cons ?_ (CalmOps.cons ?_ (CalmOps.cons ?_ (CalmOps.cons ?_ (CalmOps.cons ?_ (CalmOps.cons ?_ (CalmOps.cons ?_ (CalmOps.cons ?_ (CalmOps.cons ?_ (CalmOps.cons ?_ (CalmOps.cons ?_ (CalmOps.cons ?_ (CalmOps.cons ?_ (CalmOps.cons ?_ (CalmOps.cons ?_ trivial)))))))))))))))))))))))))))))))))))
                · intro w5x hR hL; simp [Look, VAt, EqV] at hL; simp [Guarded, setAll, bare, hL]; go_wp2_with fail; exact CalmPost.mk (by first | (simp; done) | (simp; rfl) | rfl) rfl (Ext.refl _)
                · intro w5x hR hL; simp [Look, VAt, EqV] at hL; simp [Guarded, setAll, bare, hL]; go_wp2_with fail; exact CalmPost.mk (by first | (simp; done) | (simp; rfl) | rfl) rfl (Ext.refl _)
                · intro w5x hR hL; simp [Look, VAt, EqV] at hL; have qs := str_same s; simp [Guarded, setAll, bare, hL]; go_wp2_with fail; exact CalmPost.mk (by first | (simp; done) | (simp; rfl) | rfl) rfl (Ext.refl _)
                · intro w5x hR hL; simp [Look, VAt, EqV] at hL; simp [Guarded, setAll, bare, hL]; go_wp2_with fail; exact CalmPost.mk (by first | (simp; done) | (simp; rfl) | rfl) rfl (Ext.refl _)
                · intro w5x hR hL; simp [Look, VAt, EqV] at hL; simp [Guarded, setAll, bare, hL]; go_wp2_with fail; exact CalmPost.mk (by first | (simp; done) | (simp; rfl) | rfl) rfl (Ext.refl _)
                · intro w5x hR hL; simp [Look, VAt, EqV] at hL; simp [Guarded, setAll, bare, hL]; go_wp2_with fail; exact CalmPost.mk (by first | (simp; done) | (simp; rfl) | rfl) rfl (Ext.refl _)
                · intro w5x hR hL; simp [Look, VAt, EqV] at hL; simp [Guarded, setAll, bare, hL]; go_wp2_with fail; exact CalmPost.mk (by first | (simp; done) | (simp; rfl) | rfl) rfl (Ext.refl _)
                · intro w5x hR hL; simp [Look, VAt, EqV] at hL; simp [Guarded, setAll, bare, hL]; go_wp2_with fail; exact CalmPost.mk (by first | (simp; done) | (simp; rfl) | rfl) rfl (Ext.refl _)
                · intro w5x hR hL; simp [Look, VAt, EqV] at hL; simp [Guarded, setAll, bare, hL]; go_wp2_with fail; exact CalmPost.mk (by first | (simp; done) | (simp; rfl) | rfl) rfl (Ext.refl _)
                · intro w5x hR hL; simp [Look, VAt, EqV] at hL; simp [Guarded, setAll, bare, hL]; go_wp2_with fail; exact CalmPost.mk (by first | (simp; done) | (simp; rfl) | rfl) rfl (Ext.refl _)
                · intro w5x hR hL; simp [Look, VAt, EqV] at hL; simp [Guarded, setAll, bare, hL]; go_wp2_with fail; exact CalmPost.mk (by first | (simp; done) | (simp; rfl) | rfl) rfl (Ext.refl _)
                · intro w5x hR hL; simp [Look, VAt, EqV] at hL; have KT := Kept.mk (texts_any l _ _ w5x (Kra.out w5x (KEw.out.trans hR)) (Krb.out w5x (KEw.out.trans hR))); simp [Guarded, setAll, bare, hL]; go_wp2_with fail; refine KT.out.mono ?_; rintro ee ww ⟨rfl, hE⟩; go_wp2_with fail; exact CalmPost.mk (by first | (simp; done) | (simp; rfl) | rfl) rfl hE
                · intro w5x hR hL; simp [Look, VAt, EqV] at hL; simp [Guarded, setAll, bare, hL]; go_wp2_with fail; exact CalmPost.mk (by first | (simp; done) | (simp; rfl) | rfl) rfl (Ext.refl _)
                · intro w5x hR hL; simp [Look, VAt, EqV] at hL; simp [Guarded, setAll, bare, hL]; go_wp2_with fail; exact CalmPost.mk (by first | (simp; done) | (simp; rfl) | rfl) rfl (Ext.refl _)
                · intro w5x hR hL; simp [Look, VAt, EqV] at hL; simp [Guarded, setAll, bare, hL]; go_wp2_with fail; exact CalmPost.mk (by first | (simp; done) | (simp; rfl) | rfl) rfl (Ext.refl _)
                · intro w5x hR hL; simp [Look, VAt, EqV] at hL; simp [Guarded, setAll, bare, hL]; go_wp2_with fail; exact CalmPost.mk (by first | (simp; done) | (simp; rfl) | rfl) rfl (Ext.refl _)
                · intro w5x hR hL; simp [Look, VAt, EqV] at hL; have KT := Kept.mk ((Kdw.out w5x (KEw.out.trans hR))); simp [Guarded, setAll, bare, hL]; go_wp2_with fail; refine KT.out.mono ?_; rintro ee ww ⟨rfl, rfl⟩; go_wp2_with fail; exact CalmPost.mk (by first | (simp; done) | (simp; rfl) | rfl) rfl (Ext.refl _)
                · intro w5x hR hL; simp [Look, VAt, EqV] at hL; simp [Guarded, setAll, bare, hL]; go_wp2_with fail; exact CalmPost.mk (by first | (simp; done) | (simp; rfl) | rfl) rfl (Ext.refl _)
                · intro w5x hR hL; simp [Look, VAt, EqV] at hL; have q0 := hR.cell z3; simp [Guarded, setAll, bare, hL]; go_wp2_with fail; exact CalmPost.mk (by first | (simp; done) | (simp; rfl) | rfl) rfl (Ext.refl _)
                · intro w5x hR hL; simp [Look, VAt, EqV] at hL; simp [Guarded, setAll, bare, hL]; go_wp2_with fail; exact CalmPost.mk (by first | (simp; done) | (simp; rfl) | rfl) rfl (Ext.refl _)
                · intro w5x hR hL; simp [Look, VAt, EqV] at hL; simp [Guarded, setAll, bare, hL]; go_wp2_with fail; exact CalmPost.mk (by first | (simp; done) | (simp; rfl) | rfl) rfl (Ext.refl _)
                · intro w5x hR hL; simp [Look, VAt, EqV] at hL; simp [Guarded, setAll, bare, hL]; go_wp2_with fail; exact CalmPost.mk (by first | (simp; done) | (simp; rfl) | rfl) rfl (Ext.refl _)
                · intro w5x hR hL; simp [Look, VAt, EqV] at hL; simp [Guarded, setAll, bare, hL]; go_wp2_with fail; exact CalmPost.mk (by first | (simp; done) | (simp; rfl) | rfl) rfl (Ext.refl _)
                · intro w5x hR hL; simp [Look, VAt, EqV] at hL; have KT := Kept.mk ((Kwt.out w5x (KEw.out.trans hR))); simp [Guarded, setAll, bare, hL]; go_wp2_with fail; refine KT.out.mono ?_; rintro ee ww ⟨rfl, rfl⟩; go_wp2_with fail; exact CalmPost.mk (by first | (simp; done) | (simp; rfl) | rfl) rfl (Ext.refl _)
                · intro w5x hR hL; simp [Look, VAt, EqV] at hL; simp [Guarded, setAll, bare, hL]; go_wp2_with fail; exact CalmPost.mk (by first | (simp; done) | (simp; rfl) | rfl) rfl (Ext.refl _)
                · intro w5x hR hL; simp [Look, VAt, EqV] at hL; have q0 := hR.cell z2; simp [Guarded, setAll, bare, hL]; go_wp2_with fail; exact CalmPost.mk (by first | (simp; done) | (simp; rfl) | rfl) rfl (Ext.refl _)
                · intro w5x hR hL; simp [Look, VAt, EqV] at hL; simp [Guarded, setAll, bare, hL]; go_wp2_with fail; exact CalmPost.mk (by first | (simp; done) | (simp; rfl) | rfl) rfl (Ext.refl _)
                · intro w5x hR hL; simp [Look, VAt, EqV] at hL; simp [Guarded, setAll, bare, hL]; go_wp2_with fail; exact CalmPost.mk (by first | (simp; done) | (simp; rfl) | rfl) rfl (Ext.refl _)
                · intro w5x hR hL; simp [Look, VAt, EqV] at hL; simp [Guarded, setAll, bare, hL]; go_wp2_with fail; exact CalmPost.mk (by first | (simp; done) | (simp; rfl) | rfl) rfl (Ext.refl _)
                · intro w5x hR hL; simp [Look, VAt, EqV] at hL; simp [Guarded, setAll, bare, hL]; go_wp2_with fail; exact CalmPost.mk (by first | (simp; done) | (simp; rfl) | rfl) rfl (Ext.refl _)
                · intro w5x hR hL; simp [Look, VAt, EqV] at hL; simp [Guarded, setAll, bare, hL]; go_wp2_with fail; exact CalmPost.mk (by first | (simp; done) | (simp; rfl) | rfl) rfl (Ext.refl _)
                · intro w5x hR hL; simp [Look, VAt, EqV] at hL; have KT := Kept.mk ((Ktn.out w5x (KEw.out.trans hR))); simp [Guarded, setAll, bare, hL]; go_wp2_with fail; refine KT.out.mono ?_; rintro ee ww ⟨rfl, hE⟩; go_wp2_with fail; exact CalmPost.mk (by first | (simp; done) | (simp; rfl) | rfl) rfl hE
                · intro w5x hR hL; simp [Look, VAt, EqV] at hL; simp [Guarded, setAll, bare, hL]; go_wp2_with fail; exact CalmPost.mk (by first | (simp; done) | (simp; rfl) | rfl) rfl (Ext.refl _)
                · intro w5x hR hL; simp [Look, VAt, EqV] at hL; simp [Guarded, setAll, bare, hL]; go_wp2_with fail; exact CalmPost.mk (by first | (simp; done) | (simp; rfl) | rfl) rfl (Ext.refl _)
                · intro w5x hR hL; simp [Look, VAt, EqV] at hL; simp [Guarded, setAll, bare, hL]; go_wp2_with fail; exact CalmPost.mk (by first | (simp; done) | (simp; rfl) | rfl) rfl (Ext.refl _)
              case fcalmDone =>
                intro vs w8x hR hL
                simp [Look, VAt, EqV] at hL
                obtain ⟨L0, L1, L2, L3, L4, L5, L6, L7, L8, L9, L10, L11, L12, L13, L14, L15, L16, L17, L18, L19, L20, L21, L22, L23, L24, L25, L26, L27, L28, L29, L30, L31, L32, L33, L34⟩ := hL
                simp [setAll, L0, L1, L2, L3, L4, L5, L6, L7, L8, L9, L10, L11, L12, L13, L14, L15, L16, L17, L18, L19, L20, L21, L22, L23, L24, L25, L26, L27, L28, L29, L30, L31, L32, L33, L34]
                have KPn := Kept.mk (show PlayAt w w8x g q (i + 1) d' m2 _ _ an2 ak2 from ⟨KSd.out w8x (KEw.out.trans hR), Kb2.out, Kn2.out, Kk2.out⟩)
                clear L0 L1 L2 L3 L4 L5 L6 L7 L8 L9 L10 L11 L12 L13 L14 L15 L16 L17 L18 L19 L20 L21 L22 L23 L24 L25 L26 L27 L28 L29 L30 L31 L32 L33 L34 hR z2 z3 vs
                go_wp2_with fail
                go_roundg (gk - 1)
                case measure => have := Kq.out; omega
                case rel => exact ⟨i + 1, d', m2, _, _, an2, ak2, by have := Kq.out; omega, by first | rfl | simp, KPn⟩
        · have hltI : ¬ (i : Int) < (len : Int) := by omega
          have KEe := Kept.mk KK.out.side.all
          go_wp2_with fail
          go_ret
          exact ⟨rfl, KEe.out⟩
    · have Kdc := Kept.mk (decide_eq_false h01)
      have KN := Kept.mk (new_bad room (by omega) w2)
      have KN2 := Kept.mk (newR_any room w2)
      clear h01
      go_wp2_with fail
      refine KN.out.mono ?_
      rintro e w3 ⟨rfl, rfl⟩
      clear KN
      rw [Kdc.out] at KN2
      go_wp2_with fail
      refine KN2.out.mono ?_
      rintro e w4 ⟨rfl, hE4⟩
      have hE5 := Ext.alloc w4 (.cells #[.int .i64 0, .slice none 0 0, .slice none 0 0, .bool false, .int .i64 0, .int .u64 0, .int .i64 0] 49)
      have KB := Kept.mk (Blk.new w4 49 [.int .i64 0, .slice none 0 0, .slice none 0 0, .bool false, .int .i64 0, .int .u64 0, .int .i64 0])
      have Kq := Kept.mk (show w.heap.size ≤ w4.heap.size from (KE2.out.trans hE4).size)
      have KE5 := Kept.mk (store_ext ((KE2.out.trans hE4).trans hE5) Kq.out [.int .i64 (newP room).room, .slice none 0 0, .slice none 0 0, .bool (newP room).down, .int .i64 0, .int .u64 0, .int .i64 (newP room).cnt].toArray)
      clear hE4 hE5 KN2
      unfold rdV
      go_upto_region 7 with (first | (refine wpList_store_blk (P := Try.prog) rfl 49 (.tmp 7) (.tmp 33) rfl rfl w4.heap.size rfl 49 _ [.int .i64 (newP room).room, .slice none 0 0, .slice none 0 0, .bool (newP room).down, .int .i64 0, .int .u64 0, .int .i64 (newP room).cnt] rfl KB.out rfl infoRd rfl ?_))
      generalize (w4.alloc (.cells #[.int .i64 0, .slice none 0 0, .slice none 0 0, .bool false, .int .i64 0, .int .u64 0, .int .i64 0] 49)).setRow w4.heap.size #[.int .i64 (newP room).room, .slice none 0 0, .slice none 0 0, .bool (newP room).down, .int .i64 0, .int .u64 0, .int .i64 (newP room).cnt] = w5 at *
      generalize w4.heap.size = q at *
      clear KB
      go_wp2_with fail
      go_ret
      exact ⟨rfl, KE5.out⟩
end Disk
end Go.Proofs.Ytjphmjegfpdbeaa
