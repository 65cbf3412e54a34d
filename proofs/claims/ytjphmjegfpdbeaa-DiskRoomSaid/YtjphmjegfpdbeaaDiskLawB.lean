/- The law DiskRoom. No condition. -/
import Derived.Test.YtjphmjegfpdbeaaDiskLawA
namespace Go.Proofs.Ytjphmjegfpdbeaa
open Go.RowKit
namespace Disk
open Str
set_option linter.unusedSimpArgs false
set_option linter.unusedVariables false
structure RoomAt (w wi : World) (g : Nat) (room : Int) (i : Nat) (d : Dk) : Prop where
  at0 : At0 w wi g d
  b : DkB i d
  j : Jr d
  r : d.room = room
set_option maxRecDepth 100000 in
set_option maxHeartbeats 16000000 in
theorem room_law (w : World) (room : Int) (hwf : (Lit.int .i64 room).wf = true) (a : Option Addr) (len cap : Nat) (zs : List Act) (h : InActs w a len cap zs) :
    Calls Try.prog 4 #[.int .i64 room, .slice a len cap] w fun e w1 => e = .returned (.bool true) ∧ Below w.heap.size w w1 := by
  have hr := h.rd
  have hzl : len = zs.length := by have := h.1.1; rw [List.length_map] at this; exact this.symm
  have KR := Kept.mk hr
  have Kz := Kept.mk h.2
  have Kl := Kept.mk hzl
  have hlm : len ≤ 9223372036854775807 := by have := hr.le; rw [List.length_map] at this; omega
  have KAW := Kept.mk (awake_any w)
  have hrw : -9223372036854775808 ≤ room ∧ room ≤ 9223372036854775807 := by have := hwf; simp [Lit.wf, IntKind.min, IntKind.max, IntKind.signed, IntKind.bits] at this; omega
  clear hr h hzl hwf
  go_enter Try.func4, Try.ntmps4
  go_wp2_with fail
  refine KAW.out.mono ?_
  rintro e w1 ⟨rfl, hE1⟩
  have KE1 := Kept.mk hE1
  clear hE1 KAW
  have KF := Kept.mk (few_any w1 (.slice a len cap) zs (KR.out.ext KE1.out) Kz.out)
  go_wp2_with fail
  refine KF.out.mono ?_
  rintro e w2 ⟨r, rfl, hfew, hE2⟩
  have KE2 := Kept.mk (KE1.out.trans hE2)
  clear hE2 KF
  cases r with
  | false =>
    clear hfew
    go_wp2_with fail
    go_ret
    exact ⟨rfl, KE2.out⟩
  | true =>
    have Kfew := Kept.mk (hfew rfl)
    clear hfew
    by_cases h0 : room < 0
    · go_wp2_with fail
      go_ret
      exact ⟨rfl, KE2.out⟩
    · by_cases h1 : 1048576 < room
      · have h1I : (1048576 : Int) < room := h1
        go_wp2_with fail
        go_ret
        exact ⟨rfl, KE2.out⟩
      · have h1I : ¬ (1048576 : Int) < room := h1
        have KN := Kept.mk (new_at room (by omega) (by omega) w w2 KE2.out)
        have Kroom := Kept.mk (show 0 ≤ room by omega)
        go_wp2_with fail
        refine KN.out.mono ?_
        rintro e w3 ⟨g, rfl, hA⟩
        have KA : Kept (RoomAt w w3 g room 0 (newP room)) := Kept.mk ⟨hA, DkB.new room hrw, room_new room Kroom.out, rfl⟩
        clear hA KN
        go_wp2_with fail
        go_loopg [7] len (fun q iv wi => ∃ (i : Nat) (d : Dk), i + q = len ∧ iv = .int .i64 (i : Int) ∧ Kept (RoomAt w wi g room i d))
        case atStart => exact ⟨0, _, by omega, rfl, KA⟩
        case round =>
          obtain ⟨i, d, hq, rfl, KK⟩ := hrel
          have Kq := Kept.mk hq
          have hil : i ≤ len := by omega
          clear hq KA
          by_cases hlt : i < len
          · have hltI : (i : Int) < (len : Int) := by omega
            have hi2 : i < zs.length := by rw [← Kl.out]; exact hlt
            have Ki9 := Kept.mk (show i + 1 ≤ 1048576 from by have := Kfew.out.len; omega)
            obtain ⟨b, off, rfl, -, hc⟩ := KR.out.get (by decide) (i := i) hi2
            have hE := KK.out.at0.all
            have c0 := hE.cell (hc 0 (.int .i64 zs[i].k) rfl)
            have c1 := hE.cell (hc 1 (.string (strOf zs[i].p)) rfl)
            have c2 := hE.cell (hc 2 (.string (strOf zs[i].t)) rfl)
            have c3 := hE.cell (hc 3 (.int .i64 zs[i].n) rfl)
            have c4 := hE.cell (hc 4 (.int .u64 zs[i].keep) rfl)
            rw [Nat.add_zero] at c0
            have Kok := Kept.mk (Kz.out zs[i] (List.getElem_mem hi2))
            have Ksz := Kept.mk (show zs[i].p.length ≤ SZ ∧ zs[i].t.length ≤ SZ from by have := Kfew.out.each zs[i] (List.getElem_mem hi2); simp only [SZ]; omega)
            generalize zs[i] = z at *
            obtain ⟨k, p, t, n, kp⟩ := z
            simp only at c0 c1 c2 c3 c4
            clear hc hE hi2
            by_cases hk1 : k < 1
            · have Kn : Kept (RoomAt w wr g room (i + 1) d) := Kept.mk ⟨KK.out.at0, KK.out.b.mono (by omega), KK.out.j, KK.out.r⟩
              go_wp2_with fail
              go_roundg (gk - 1)
              case measure => have := Kq.out; omega
              case rel => exact ⟨i + 1, d, by have := Kq.out; omega, by first | rfl | simp, Kn⟩
            · by_cases hk4 : 4 < k
              · have hk4I : (4 : Int) < k := hk4
                have Kn : Kept (RoomAt w wr g room (i + 1) d) := Kept.mk ⟨KK.out.at0, KK.out.b.mono (by omega), KK.out.j, KK.out.r⟩
                go_wp2_with fail
                go_roundg (gk - 1)
                case measure => have := Kq.out; omega
                case rel => exact ⟨i + 1, d, by have := Kq.out; omega, by first | rfl | simp, Kn⟩
              · have hk4I : ¬ (4 : Int) < k := hk4
                have KT := Kept.mk (taken_at KK.out.at0 i KK.out.b (by have := Ki9.out; omega))
                have Kst := Kept.mk (room_step KK.out.j KK.out.b.upSeen ⟨k, p, t, n, kp⟩ (by simp only; omega) (by simp only; omega))
                have Ktd := Kept.mk (show takenD d = takenP (seenP d) from by unfold takenD; rw [KK.out.j.up]; rfl)
                have Kle0 := Kept.mk KK.out.j.le
                have htb : takenP (seenP d) ≤ 4503599627370496 := Nat.le_trans KK.out.b.seen.taken (by have := Ki9.out; omega)
                have KAc := Kept.mk (fun W (hW : Ext wr W) => act_at (KK.out.at0.ext hW) i KK.out.b Ki9.out ⟨k, p, t, n, kp⟩ Kok.out Ksz.out.1 Ksz.out.2)
                have Kb1 := Kept.mk (KK.out.b.act Kok.out Ksz.out.1 Ksz.out.2)
                have Krm := Kept.mk KK.out.r
                have Kex := Kept.mk (fun W (hW : Ext wr W) => KK.out.at0.ext hW)
                simp only [actV] at KAc
                clear KK
                rw [Ktd.out] at KT
                go_wp2_with fail
                refine KT.out.mono ?_
                rintro e w4 ⟨rfl, hE4⟩
                have KE4 := Kept.mk hE4
                have d0 := hE4.cell c0
                have d1 := hE4.cell c1
                have d2 := hE4.cell c2
                have d3 := hE4.cell c3
                have d4 := hE4.cell c4
                clear hE4 KT c0 c1 c2 c3 c4
                generalize hT0 : takenP (seenP d) = T0 at *
                have KT0 := Kept.mk hT0
                clear hT0
                go_wp2_with fail
                refine (KAc.out w4 KE4.out).mono ?_
                rintro e w5 ⟨v, rfl, hbuf, hA⟩
                obtain ⟨vA, vc, hv⟩ := hbuf.form
                subst hv
                have KA5 := Kept.mk hA
                clear hbuf hA KAc d0 d1 d2 d3 d4 KE4
                have Ktd1 := Kept.mk (show takenD (actP d ⟨k, p, t, n, kp⟩).2 = takenP (seenP (actP d ⟨k, p, t, n, kp⟩).2) from by unfold takenD; rw [Kst.out.1.up]; rfl)
                have Keq := Kept.mk (show (actP d ⟨k, p, t, n, kp⟩).1.2.2 = 7 → takenP (seenP (actP d ⟨k, p, t, n, kp⟩).2) = T0 ∧ k ≤ 2 from fun h => by
                  obtain ⟨q1, q2⟩ := Kst.out.2.2.1 h
                  exact ⟨by rw [q1, KT0.out], q2⟩)
                have Kle1 := Kept.mk (show (takenP (seenP (actP d ⟨k, p, t, n, kp⟩).2) : Int) ≤ room from by have := Kst.out.1.le; rw [Kst.out.2.1, Krm.out] at this; exact this)
                have Klt1 := Kept.mk Kst.out.2.2.2
                have Kn1 := Kept.mk (fun W (hA : At0 w W g (actP d ⟨k, p, t, n, kp⟩).2) => (show RoomAt w W g room (i + 1) (actP d ⟨k, p, t, n, kp⟩).2 from ⟨hA, Kb1.out, Kst.out.1, by rw [Kst.out.2.1]; exact Krm.out⟩))
                have KT5 := Kept.mk (fun W (hA : At0 w W g (actP d ⟨k, p, t, n, kp⟩).2) => taken_at hA (i + 1) Kb1.out Ki9.out)
                rw [Ktd1.out] at KT5
                generalize (actP d ⟨k, p, t, n, kp⟩).1.2.2 = f at *
                generalize (actP d ⟨k, p, t, n, kp⟩).2 = d' at *
                have htb1 : takenP (seenP d') ≤ 4503599627370496 := Nat.le_trans Kb1.out.seen.taken (by have := Ki9.out; omega)
                have hle1 : ¬ room < (takenP (seenP d') : Int) := by have := Kle1.out; omega
                generalize takenP (seenP d') = T1 at *
                generalize (actP d ⟨k, p, t, n, kp⟩).1.1 = sx at *
                by_cases hf7 : f = 7
                · obtain ⟨q1, q2⟩ := Keq.out hf7
                  subst q1
                  subst hf7
                  have hk2 : ¬ (2 : Int) < k := by omega
                  have hk3 : (k == 3) = false := by simp; omega
                  clear Keq Klt1
                  go_wp2_with fail
                  refine (KT5.out w5 KA5.out).mono ?_
                  rintro e w6 ⟨rfl, hE6⟩
                  have KA6 := Kept.mk (KA5.out.ext hE6)
                  clear hE6
                  go_wp2_with fail
                  refine (KT5.out w6 KA6.out).mono ?_
                  rintro e w7 ⟨rfl, hE7⟩
                  have KA7 := Kept.mk (KA6.out.ext hE7)
                  clear hE7
                  go_wp2_with fail
                  go_roundg (gk - 1)
                  case measure => have := Kq.out; omega
                  case rel => exact ⟨i + 1, d', by have := Kq.out; omega, by first | rfl | simp, Kept.mk (Kn1.out w7 KA7.out)⟩
                · have hf7b : (f == 7) = false := by simpa using hf7
                  by_cases hk3 : k = 3
                  · subst hk3
                    by_cases hf0 : f = 0
                    · have hlt1 := Klt1.out rfl hf0
                      subst hf0
                      have hlt1I : ¬ (T0 : Int) ≤ (T1 : Int) := by omega
                      clear Keq Klt1
                      go_wp2_with fail
                      refine (KT5.out w5 KA5.out).mono ?_
                      rintro e w6 ⟨rfl, hE6⟩
                      have KA6 := Kept.mk (KA5.out.ext hE6)
                      clear hE6
                      go_wp2_with fail
                      refine (KT5.out w6 KA6.out).mono ?_
                      rintro e w7 ⟨rfl, hE7⟩
                      have KA7 := Kept.mk (KA6.out.ext hE7)
                      clear hE7
                      go_wp2_with fail
                      go_roundg (gk - 1)
                      case measure => have := Kq.out; omega
                      case rel => exact ⟨i + 1, d', by have := Kq.out; omega, by first | rfl | simp, Kept.mk (Kn1.out w7 KA7.out)⟩
                    · have hf0b : (f == 0) = false := by simpa using hf0
                      clear Keq Klt1
                      go_wp2_with fail
                      refine (KT5.out w5 KA5.out).mono ?_
                      rintro e w6 ⟨rfl, hE6⟩
                      have KA6 := Kept.mk (KA5.out.ext hE6)
                      clear hE6
                      go_wp2_with fail
                      go_roundg (gk - 1)
                      case measure => have := Kq.out; omega
                      case rel => exact ⟨i + 1, d', by have := Kq.out; omega, by first | rfl | simp, Kept.mk (Kn1.out w6 KA6.out)⟩
                  · have hk3b : (k == 3) = false := by simpa using hk3
                    clear Keq Klt1
                    go_wp2_with fail
                    refine (KT5.out w5 KA5.out).mono ?_
                    rintro e w6 ⟨rfl, hE6⟩
                    have KA6 := Kept.mk (KA5.out.ext hE6)
                    clear hE6
                    go_wp2_with fail
                    go_roundg (gk - 1)
                    case measure => have := Kq.out; omega
                    case rel => exact ⟨i + 1, d', by have := Kq.out; omega, by first | rfl | simp, Kept.mk (Kn1.out w6 KA6.out)⟩
          · have hltI : ¬ (i : Int) < (len : Int) := by omega
            by_cases hr0 : 0 < room
            · have KEe := Kept.mk KK.out.at0.all
              go_wp2_with fail
              go_ret
              exact ⟨rfl, KEe.out⟩
            · have Kn0 := Kept.mk (room_none KK.out.j (by rw [KK.out.r]; omega))
              have KL := Kept.mk (list_at KK.out.at0 i KK.out.b (by have := Kfew.out.len; have := Kl.out; omega) [] (by simp))
              go_wp2_with fail
              refine KL.out.mono ?_
              rintro e w4 ⟨v, rfl, hb, hE4⟩
              obtain ⟨lA, lc, hv⟩ := hb.form
              rw [Kn0.out] at hv
              simp only [List.map_nil, List.length_nil] at hv
              subst hv
              have KEe := Kept.mk (KK.out.at0.all.trans hE4)
              clear hb hE4 KL
              go_wp2_with fail
              go_ret
              exact ⟨rfl, KEe.out⟩
end Disk
end Go.Proofs.Ytjphmjegfpdbeaa
