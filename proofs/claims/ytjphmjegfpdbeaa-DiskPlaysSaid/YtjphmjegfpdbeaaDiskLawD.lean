/- The law DiskMoves. No condition. -/
import Derived.Test.YtjphmjegfpdbeaaDiskLawC
import Derived.Test.YtjphmjegfpdbeaaDiskBeside
namespace Go.Proofs.Ytjphmjegfpdbeaa
open Go.RowKit
namespace Disk
open Str
set_option linter.unusedSimpArgs false
set_option linter.unusedVariables false
set_option maxRecDepth 100000 in
theorem texts_any (l : List S) (a b : Value) (w : World) (ha : Rd 1 w a (l.map sV)) (hb : Rd 1 w b (l.map sV)) :
    Calls Try.prog 18 #[a, b] w fun e w' => e = .returned (.bool true) ∧ Ext w w' := by
  obtain ⟨aA, ac, rfl⟩ := ha.form
  obtain ⟨bA, bc, rfl⟩ := hb.form
  rw [List.length_map] at *
  have hle := ha.le
  rw [List.length_map] at hle
  have Ka := Kept.mk ha
  have Kb := Kept.mk hb
  clear ha hb
  obtain ⟨n, hn⟩ : ∃ n, n = l.length := ⟨_, rfl⟩
  have Kn := Kept.mk hn
  rw [← hn] at Ka Kb hle ⊢
  clear hn
  go_enter Try.func18, Try.ntmps18
  go_wp2_with fail
  go_loopg [5] n (fun r iv wi => ∃ i : Nat, i + r = n ∧ iv = .int .i64 (i : Int) ∧ Kept (Ext w wi))
  case atStart => exact ⟨0, by omega, rfl, Kept.mk (Ext.refl _)⟩
  case round =>
    obtain ⟨i, hr, rfl, KE⟩ := hrel
    have Kr := Kept.mk hr
    have hil : i ≤ n := by omega
    clear hr
    by_cases hlt : i < n
    · have hltI : (i : Int) < (n : Int) := by omega
      have hi2 : i < l.length := by rw [← Kn.out]; exact hlt
      obtain ⟨b1, o1, rfl, hb1, hc1⟩ := Ka.out.get (by decide) (i := i) hi2
      obtain ⟨b2, o2, rfl, hb2, hc2⟩ := Kb.out.get (by decide) (i := i) hi2
      have s1 := KE.out.cell (hc1 0 (.string (strOf l[i])) rfl)
      have s2 := KE.out.cell (hc2 0 (.string (strOf l[i])) rfl)
      generalize l[i] = x at s1 s2
      rw [Nat.add_zero, Nat.mul_one] at s1 s2
      clear hc1 hc2
      go_wp2_with fail
      go_quiet (fail)
      have KE2 := Kept.mk (KE.out.trans (Ext.drewN wr nq))
      clear s1 s2
      go_wp2_with fail
      go_roundg (gk - 1)
      case measure => have := Kr.out; omega
      case rel => exact ⟨i + 1, by have := Kr.out; omega, by first | rfl | simp, KE2⟩
    · have hltI : ¬ (i : Int) < (n : Int) := by omega
      go_wp2_with fail
      go_ret
      exact ⟨rfl, KE.out⟩
theorem buf_rd {w : World} {B : Nat} {e : TypeId} {v : Value} {l : List S} (h : Buf w B e v (l.map tV)) : Rd 1 w v (l.map sV) := by
  have := h.rd
  rwa [tV_rows] at this
/-- The same is seen. -/
structure SameD (d d' : Dk) (m : Nat) : Prop where
  rd : ∀ p, readP d' p = readP d p
  ls : ∀ p, listD d' p = listD d p
  tk : takenD d' = takenD d
  b : DkB m d'
theorem same_d {d d' : Dk} {m : Nat} (h : seenP d' = seenP d) (hd : d'.down = d.down) (hb : DkB m d') : SameD d d' m := by
  obtain ⟨h1, h2, h3⟩ := same_seen h hd
  exact ⟨h1, h2, h3, hb⟩
structure MovAt (w wi : World) (g : Nat) (i : Nat) (d : Dk) : Prop where
  at0 : At0 w wi g d
  b : DkB i d
  j : Jr d
  o : Jo d
set_option maxRecDepth 100000 in
set_option maxHeartbeats 16000000 in
theorem moves_law (w : World) (a : Option Addr) (len cap : Nat) (zs : List Act) (h : InActs w a len cap zs) (pa pb tx : S) (hpa : pa.length ≤ 9223372036854775807) (hpb : pb.length ≤ 9223372036854775807) (htx : tx.length ≤ 9223372036854775807) :
    Calls Try.prog 3 #[.slice a len cap, .string (strOf pa), .string (strOf pb), .string (strOf tx)] w fun e w1 => e = .returned (.bool true) ∧ Below w.heap.size w w1 := by
  have hr := h.rd
  have hzl : len = zs.length := by have := h.1.1; rw [List.length_map] at this; exact this.symm
  have KR := Kept.mk hr
  have Kz := Kept.mk h.2
  have Kl := Kept.mk hzl
  have hlm : len ≤ 9223372036854775807 := by have := hr.le; rw [List.length_map] at this; omega
  have KAW := Kept.mk (awake_any w)
  have za : (strOf pa).size = pa.length := strOf_size pa
  have zb : (strOf pb).size = pb.length := strOf_size pb
  have zt : (strOf tx).size = tx.length := strOf_size tx
  clear hr h hzl
  go_enter Try.func3, Try.ntmps3
  go_wp2_with fail
  refine KAW.out.mono ?_
  rintro e w1 ⟨rfl, hE1⟩
  have KE1 := Kept.mk hE1
  clear hE1 KAW
  have KF := Kept.mk (few_any w1 (.slice a len cap) zs (KR.out.ext KE1.out) Kz.out)
  go_wp2_with fail
  refine KF.out.mono ?_
  rintro e w2 ⟨r, rfl, hfew, hE2⟩
  have KE2 := Kept.mk (KE1.out.trans hE2)
  clear hE2 KF
  cases r with
  | false =>
    clear hfew
    go_wp2_with fail
    go_ret
    exact ⟨rfl, KE2.out⟩
  | true =>
    have Kfew := Kept.mk (hfew rfl)
    clear hfew
    by_cases l1 : (300 : Int) < (pa.length : Int)
    · go_wp2_with fail
      go_ret
      exact ⟨rfl, KE2.out⟩
    by_cases l2 : (300 : Int) < (pb.length : Int)
    · go_wp2_with fail
      go_ret
      exact ⟨rfl, KE2.out⟩
    by_cases l3 : (1000 : Int) < (tx.length : Int)
    · go_wp2_with fail
      go_ret
      exact ⟨rfl, KE2.out⟩
    have KN := Kept.mk (new_at 1048576 (by omega) (by omega) w w2 KE2.out)
    have Ksz := Kept.mk (show pa.length ≤ SZ ∧ pb.length ≤ SZ ∧ tx.length ≤ SZ from by simp only [SZ]; omega)
    go_wp2_with fail
    refine KN.out.mono ?_
    rintro e w3 ⟨g, rfl, hA⟩
    have KA : Kept (MovAt w w3 g 0 (newP 1048576)) := Kept.mk ⟨hA, DkB.new 1048576 (by decide), room_new 1048576 (by decide), by simp [Jo, newP, seenP]⟩
    clear hA KN
    go_wp2_with fail
    go_loopg [11] len (fun q iv wi => ∃ (i : Nat) (d : Dk), i + q = len ∧ iv = .int .i64 (i : Int) ∧ Kept (MovAt w wi g i d))
    case atStart => exact ⟨0, _, by omega, rfl, KA⟩
    case round =>
      obtain ⟨i, d, hq, rfl, KK⟩ := hrel
      have Kq := Kept.mk hq
      have hil : i ≤ len := by omega
      clear hq KA
      by_cases hlt : i < len
      · have hltI : (i : Int) < (len : Int) := by omega
        have hi2 : i < zs.length := by rw [← Kl.out]; exact hlt
        have Ki9 := Kept.mk (show i + 1 ≤ 1048576 from by have := Kfew.out.len; omega)
        obtain ⟨b, off, rfl, -, hc⟩ := KR.out.get (by decide) (i := i) hi2
        have hE := KK.out.at0.all
        have c0 := hE.cell (hc 0 (.int .i64 zs[i].k) rfl)
        have c1 := hE.cell (hc 1 (.string (strOf zs[i].p)) rfl)
        have c2 := hE.cell (hc 2 (.string (strOf zs[i].t)) rfl)
        have c3 := hE.cell (hc 3 (.int .i64 zs[i].n) rfl)
        have c4 := hE.cell (hc 4 (.int .u64 zs[i].keep) rfl)
        rw [Nat.add_zero] at c0
        have Kok := Kept.mk (Kz.out zs[i] (List.getElem_mem hi2))
        have Ksq := Kept.mk (show zs[i].p.length ≤ SZ ∧ zs[i].t.length ≤ SZ from by have := Kfew.out.each zs[i] (List.getElem_mem hi2); simp only [SZ]; omega)
        generalize zs[i] = z at *
        obtain ⟨k, p, t, n, kp⟩ := z
        simp only at c0 c1 c2 c3 c4
        clear hc hE hi2
        by_cases hk1 : (1 : Int) ≤ k
        · by_cases hk4 : k ≤ 4
          · have hk4I : k ≤ (4 : Int) := hk4
            have Kst := Kept.mk (room_step KK.out.j KK.out.b.upSeen ⟨k, p, t, n, kp⟩ (by simp only; omega) (by simp only; omega))
            have Kso := Kept.mk (jo_step KK.out.j KK.out.o ⟨k, p, t, n, kp⟩ (by simp only; omega) (by simp only; omega))
            have KAc := Kept.mk (act_at KK.out.at0 i KK.out.b Ki9.out ⟨k, p, t, n, kp⟩ Kok.out Ksq.out.1 Ksq.out.2)
            have Kb1 := Kept.mk (KK.out.b.act Kok.out Ksq.out.1 Ksq.out.2)
            simp only [actV] at KAc
            clear KK
            go_wp2_with fail
            refine KAc.out.mono ?_
            rintro e w5 ⟨v, rfl, hbuf, hA⟩
            obtain ⟨vA, vc, hv⟩ := hbuf.form
            subst hv
            have Kn : Kept (MovAt w w5 g (i + 1) (actP d ⟨k, p, t, n, kp⟩).2) := Kept.mk ⟨hA, Kb1.out, Kst.out.1, Kso.out⟩
            clear hbuf hA KAc c0 c1 c2 c3 c4
            generalize (actP d ⟨k, p, t, n, kp⟩).1.2.2 = f at *
            generalize (actP d ⟨k, p, t, n, kp⟩).1.1 = sx at *
            go_wp2_with fail
            go_roundg (gk - 1)
            case measure => have := Kq.out; omega
            case rel => exact ⟨i + 1, _, by have := Kq.out; omega, by first | rfl | simp, Kn⟩
          · have hk4I : ¬ k ≤ (4 : Int) := hk4
            have Kn : Kept (MovAt w wr g (i + 1) d) := Kept.mk ⟨KK.out.at0, KK.out.b.mono (by omega), KK.out.j, KK.out.o⟩
            go_wp2_with fail
            go_roundg (gk - 1)
            case measure => have := Kq.out; omega
            case rel => exact ⟨i + 1, d, by have := Kq.out; omega, by first | rfl | simp, Kn⟩
        · have Kn : Kept (MovAt w wr g (i + 1) d) := Kept.mk ⟨KK.out.at0, KK.out.b.mono (by omega), KK.out.j, KK.out.o⟩
          go_wp2_with fail
          go_roundg (gk - 1)
          case measure => have := Kq.out; omega
          case rel => exact ⟨i + 1, d, by have := Kq.out; omega, by first | rfl | simp, Kn⟩
      · have hltI : ¬ (i : Int) < (len : Int) := by omega
        have Ki9 := Kept.mk (show i ≤ 300 from by have := Kfew.out.len; have := Kl.out; omega)
        have KL := Kept.mk (list_at KK.out.at0 i KK.out.b (by have := Ki9.out; omega) [] (by simp))
        go_wp2_with fail
        refine KL.out.mono ?_
        rintro e w4 ⟨v1, rfl, hbl, hE4⟩
        obtain ⟨lA, lc, hv1⟩ := hbl.form
        subst hv1
        obtain ⟨ll, hll⟩ : ∃ ll, ll = (listD d []).length := ⟨_, rfl⟩
        have Kll := Kept.mk hll
        rw [List.length_map, ← hll] at hbl ⊢
        have KLs := Kept.mk hbl
        have KA4 := Kept.mk (KK.out.at0.beside (P := own (.slice lA ll lc)) hE4 (fun j hj => hbl.owns j hj))
        clear hbl hE4 KL hll
        have KT := Kept.mk (taken_at KA4.out.at0 i KK.out.b (by have := Ki9.out; omega))
        have htb : takenD d ≤ 4503599627370496 := by
          unfold takenD
          split
          · omega
          · exact Nat.le_trans KK.out.b.seen.taken (by have := Ki9.out; omega)
        obtain ⟨T, hT⟩ : ∃ T, T = takenD d := ⟨_, rfl⟩
        have Ktk := Kept.mk hT.symm
        rw [← hT] at KT htb
        clear hT
        go_wp2_with fail
        refine KT.out.mono ?_
        rintro e w5 ⟨rfl, hE5⟩
        have KA5 := Kept.mk (KA4.out.ext hE5)
        have KLs5 := Kept.mk (KLs.out.ext hE5)
        clear hE5 KT KA4 KLs
        have KLs := KLs5
        clear KLs5
        have KRa := Kept.mk (read_at KA5.out.at0 pa)
        have KRb := Kept.mk (read_at KA5.out.at0 pb)
        have Kj := Kept.mk KK.out.j
        have Kjo := Kept.mk KK.out.o
        have Kbb := Kept.mk KK.out.b
        have Kup := Kept.mk KK.out.b.upSeen
        have Klen := Kept.mk (show (seenP d).length ≤ 4096 from by have := KK.out.b.seen.len; have := Ki9.out; omega)
        have KSd := Kept.mk (show SameD d d (i + 2) from same_d rfl rfl (Kbb.out.mono (by omega)))
        clear KK
        rcases read_two Kj.out.up pa with hf | hf
        · obtain ⟨old, hga, hra⟩ := read_some Kj.out.up hf
          rw [hra] at KRa
          clear hf
          have Kra := Kept.mk hra
          have Kga := Kept.mk hga
          clear hra hga
          go_wp2_with fail
          refine KRa.out.mono ?_
          rintro e wq ⟨rfl, rfl⟩
          clear KRa
          rcases read_two Kj.out.up pb with hg | hg
          · obtain ⟨oldb, hgb, hrb⟩ := read_some Kj.out.up hg
            rw [hrb] at KRb
            clear hg hgb hrb
            go_wp2_with fail
            refine KRb.out.mono ?_
            rintro e wq ⟨rfl, rfl⟩
            clear KRb
            have KSame := KSd
            have KRe := Kept.mk (read_at KA5.out.at0 pa)
            rw [KSame.out.rd, Kra.out] at KRe
            go_wp2_with fail
            refine KRe.out.mono ?_
            rintro e wq ⟨rfl, rfl⟩
            clear KRe
            have KLe := Kept.mk (list_at KA5.out.at0 (i + 2) KSame.out.b (by have := Ki9.out; omega) [] (by simp))
            go_wp2_with fail
            refine KLe.out.mono ?_
            rintro e we1 ⟨v2, rfl, hbl, hEl⟩
            rw [KSame.out.ls] at hbl
            obtain ⟨l2A, l2c, hv2⟩ := hbl.form
            subst hv2
            have Kx := Kept.mk (texts_any (listD d []) _ _ we1 (buf_rd hbl) (buf_rd (KLs.out.ext hEl)))
            have Ke1 := Kept.mk (KA5.out.ext hEl)
            rw [List.length_map, ← Kll.out] at Kx ⊢
            clear hbl hEl KLe
            go_wp2_with fail
            refine Kx.out.mono ?_
            rintro e we2 ⟨rfl, hE⟩
            have Ke2 := Kept.mk (Ke1.out.ext hE)
            clear hE Kx
            have KTe := Kept.mk (taken_at Ke2.out.at0 (i + 2) KSame.out.b (by have := Ki9.out; omega))
            rw [KSame.out.tk, Ktk.out] at KTe
            go_wp2_with fail
            refine KTe.out.mono ?_
            rintro e we3 ⟨rfl, hE⟩
            have Ke3 := Kept.mk (Ke2.out.ext hE)
            clear hE KTe
            go_wp2_with fail
            go_ret
            exact ⟨rfl, Ke3.out.at0.all⟩
          · obtain ⟨hgb, hrb⟩ := read_none Kj.out.up hg
            rw [hrb] at KRb
            have Kgb := Kept.mk hgb
            clear hg hgb hrb
            go_wp2_with fail
            refine KRb.out.mono ?_
            rintro e wq ⟨rfl, rfl⟩
            clear KRb
            have KM := Kept.mk (rename_at1 KA5.out i Kbb.out (by have := Ki9.out; omega) pa pb Ksz.out.1 Ksz.out.2.1)
            rcases rename_or Kj.out.cnt Kj.out.up pa pb with ⟨cc, hcc, hrn⟩ | ⟨hrn, hok⟩
            · have KSame := KSd
              rw [hrn] at KM
              have hccb : (cc == 0) = false := by simpa using hcc
              clear hrn hcc
              go_wp2_with fail
              refine KM.out.mono ?_
              rintro e w6 ⟨rfl, hA, hX⟩
              have KA6 : Kept (At1 w w6 g d (own (.slice lA ll lc))) := Kept.mk hA
              have KL6 := Kept.mk (keep_buf KLs.out hX)
              clear hA hX KM KA5 KLs
              have KA5 := KA6
              have KLs := KL6
              clear KA6 KL6
              have KRe := Kept.mk (read_at KA5.out.at0 pa)
              rw [KSame.out.rd, Kra.out] at KRe
              go_wp2_with fail
              refine KRe.out.mono ?_
              rintro e wq ⟨rfl, rfl⟩
              clear KRe
              have KLe := Kept.mk (list_at KA5.out.at0 (i + 2) KSame.out.b (by have := Ki9.out; omega) [] (by simp))
              go_wp2_with fail
              refine KLe.out.mono ?_
              rintro e we1 ⟨v2, rfl, hbl, hEl⟩
              rw [KSame.out.ls] at hbl
              obtain ⟨l2A, l2c, hv2⟩ := hbl.form
              subst hv2
              have Kx := Kept.mk (texts_any (listD d []) _ _ we1 (buf_rd hbl) (buf_rd (KLs.out.ext hEl)))
              have Ke1 := Kept.mk (KA5.out.ext hEl)
              rw [List.length_map, ← Kll.out] at Kx ⊢
              clear hbl hEl KLe
              go_wp2_with fail
              refine Kx.out.mono ?_
              rintro e we2 ⟨rfl, hE⟩
              have Ke2 := Kept.mk (Ke1.out.ext hE)
              clear hE Kx
              have KTe := Kept.mk (taken_at Ke2.out.at0 (i + 2) KSame.out.b (by have := Ki9.out; omega))
              rw [KSame.out.tk, Ktk.out] at KTe
              go_wp2_with fail
              refine KTe.out.mono ?_
              rintro e we3 ⟨rfl, hE⟩
              have Ke3 := Kept.mk (Ke2.out.ext hE)
              clear hE KTe
              go_wp2_with fail
              go_ret
              exact ⟨rfl, Ke3.out.at0.all⟩
            · obtain ⟨q1, q2, q3⟩ := there_back Kj.out Kup.out Kjo.out Klen.out Kga.out Kgb.out hrn
              rw [hrn] at KM
              have Kq1 := Kept.mk q1
              have Kq2 := Kept.mk q2
              have Kb1 : Kept (DkB (i + 1) (addP d ⟨1, pa, pb⟩)) := Kept.mk (Kbb.out.add ⟨Ksz.out.1, Ksz.out.2.1, .inr (.inl rfl)⟩)
              have KSame : Kept (SameD d (addP (addP d ⟨1, pa, pb⟩) ⟨1, pb, pa⟩) (i + 2)) := Kept.mk (same_d q3 rfl (Kb1.out.add ⟨Ksz.out.2.1, Ksz.out.1, .inr (.inl rfl)⟩))
              clear hrn q1 q2 q3
              generalize addP (addP d ⟨1, pa, pb⟩) ⟨1, pb, pa⟩ = d2 at *
              generalize addP d ⟨1, pa, pb⟩ = d1 at *
              go_wp2_with fail
              refine KM.out.mono ?_
              rintro e w6 ⟨rfl, hA, hX⟩
              have KA6 : Kept (At1 w w6 g d1 (own (.slice lA ll lc))) := Kept.mk hA
              have KL6 := Kept.mk (keep_buf KLs.out hX)
              have KR6 := Kept.mk (read_at KA6.out.at0 pb)
              rw [Kq1.out] at KR6
              clear hA hX KM KA5 KLs
              go_wp2_with fail
              refine KR6.out.mono ?_
              rintro e wq ⟨rfl, rfl⟩
              have KM := Kept.mk (rename_at1 KA6.out (i + 1) Kb1.out (by have := Ki9.out; omega) pb pa Ksz.out.2.1 Ksz.out.1)
              rw [Kq2.out] at KM
              clear KR6
              go_wp2_with fail
              refine KM.out.mono ?_
              rintro e w7 ⟨rfl, hA, hX⟩
              have KA5 : Kept (At1 w w7 g d2 (own (.slice lA ll lc))) := Kept.mk hA
              have KLs := Kept.mk (keep_buf KL6.out hX)
              clear hA hX KM KA6 KL6
              have KRe := Kept.mk (read_at KA5.out.at0 pa)
              rw [KSame.out.rd, Kra.out] at KRe
              go_wp2_with fail
              refine KRe.out.mono ?_
              rintro e wq ⟨rfl, rfl⟩
              clear KRe
              have KLe := Kept.mk (list_at KA5.out.at0 (i + 2) KSame.out.b (by have := Ki9.out; omega) [] (by simp))
              go_wp2_with fail
              refine KLe.out.mono ?_
              rintro e we1 ⟨v2, rfl, hbl, hEl⟩
              rw [KSame.out.ls] at hbl
              obtain ⟨l2A, l2c, hv2⟩ := hbl.form
              subst hv2
              have Kx := Kept.mk (texts_any (listD d []) _ _ we1 (buf_rd hbl) (buf_rd (KLs.out.ext hEl)))
              have Ke1 := Kept.mk (KA5.out.ext hEl)
              rw [List.length_map, ← Kll.out] at Kx ⊢
              clear hbl hEl KLe
              go_wp2_with fail
              refine Kx.out.mono ?_
              rintro e we2 ⟨rfl, hE⟩
              have Ke2 := Kept.mk (Ke1.out.ext hE)
              clear hE Kx
              have KTe := Kept.mk (taken_at Ke2.out.at0 (i + 2) KSame.out.b (by have := Ki9.out; omega))
              rw [KSame.out.tk, Ktk.out] at KTe
              go_wp2_with fail
              refine KTe.out.mono ?_
              rintro e we3 ⟨rfl, hE⟩
              have Ke3 := Kept.mk (Ke2.out.ext hE)
              clear hE KTe
              go_wp2_with fail
              go_ret
              exact ⟨rfl, Ke3.out.at0.all⟩
        · obtain ⟨hga, hra⟩ := read_none Kj.out.up hf
          rw [hra] at KRa
          clear hf
          have Kra := Kept.mk hra
          have Kga := Kept.mk hga
          clear hra hga
          go_wp2_with fail
          refine KRa.out.mono ?_
          rintro e wq ⟨rfl, rfl⟩
          clear KRa
          generalize (readP d pb).1 = rb1 at *
          generalize (readP d pb).2 = rb2 at *
          go_wp2_with fail
          refine KRb.out.mono ?_
          rintro e wq ⟨rfl, rfl⟩
          clear KRb
          have KM := Kept.mk (write_at1 KA5.out i Kbb.out (by have := Ki9.out; omega) pa tx Ksz.out.1 Ksz.out.2.2)
          rcases write_or Kj.out.cnt Kj.out.up pa tx with ⟨cc, hcc, hrn⟩ | ⟨hrn, hok⟩
          · have KSame := KSd
            rw [hrn] at KM
            have hccb : (cc == 0) = false := by simpa using hcc
            clear hrn hcc
            go_wp2_with fail
            refine KM.out.mono ?_
            rintro e w6 ⟨rfl, hA, hX⟩
            have KA6 : Kept (At1 w w6 g d (own (.slice lA ll lc))) := Kept.mk hA
            have KL6 := Kept.mk (keep_buf KLs.out hX)
            clear hA hX KM KA5 KLs
            have KA5 := KA6
            have KLs := KL6
            clear KA6 KL6
            have KRe := Kept.mk (read_at KA5.out.at0 pa)
            rw [KSame.out.rd, Kra.out] at KRe
            go_wp2_with fail
            refine KRe.out.mono ?_
            rintro e wq ⟨rfl, rfl⟩
            clear KRe
            have KLe := Kept.mk (list_at KA5.out.at0 (i + 2) KSame.out.b (by have := Ki9.out; omega) [] (by simp))
            go_wp2_with fail
            refine KLe.out.mono ?_
            rintro e we1 ⟨v2, rfl, hbl, hEl⟩
            rw [KSame.out.ls] at hbl
            obtain ⟨l2A, l2c, hv2⟩ := hbl.form
            subst hv2
            have Kx := Kept.mk (texts_any (listD d []) _ _ we1 (buf_rd hbl) (buf_rd (KLs.out.ext hEl)))
            have Ke1 := Kept.mk (KA5.out.ext hEl)
            rw [List.length_map, ← Kll.out] at Kx ⊢
            clear hbl hEl KLe
            go_wp2_with fail
            refine Kx.out.mono ?_
            rintro e we2 ⟨rfl, hE⟩
            have Ke2 := Kept.mk (Ke1.out.ext hE)
            clear hE Kx
            have KTe := Kept.mk (taken_at Ke2.out.at0 (i + 2) KSame.out.b (by have := Ki9.out; omega))
            rw [KSame.out.tk, Ktk.out] at KTe
            go_wp2_with fail
            refine KTe.out.mono ?_
            rintro e we3 ⟨rfl, hE⟩
            have Ke3 := Kept.mk (Ke2.out.ext hE)
            clear hE KTe
            go_wp2_with fail
            go_ret
            exact ⟨rfl, Ke3.out.at0.all⟩
          · obtain ⟨q1, q2, q3, q4⟩ := write_gone (t := tx) Kj.out Kup.out Kga.out
            rw [hrn] at KM
            rw [Ktk.out] at q2
            have Kq1 := Kept.mk q1
            have Kq2 := Kept.mk q2
            have Kq3 := Kept.mk q3
            have Kb1 : Kept (DkB (i + 1) (addP d ⟨0, pa, tx⟩)) := Kept.mk (Kbb.out.add ⟨Ksz.out.1, Ksz.out.2.2, .inl rfl⟩)
            have KSame : Kept (SameD d (addP (addP d ⟨0, pa, tx⟩) ⟨2, pa, []⟩) (i + 2)) := Kept.mk (same_d q4 rfl (Kb1.out.add ⟨Ksz.out.1, Nat.zero_le _, .inr (.inr rfl)⟩))
            clear hrn q1 q2 q3 q4
            generalize addP (addP d ⟨0, pa, tx⟩) ⟨2, pa, []⟩ = d2 at *
            generalize addP d ⟨0, pa, tx⟩ = d1 at *
            go_wp2_with fail
            refine KM.out.mono ?_
            rintro e w6 ⟨rfl, hA, hX⟩
            have KA6 : Kept (At1 w w6 g d1 (own (.slice lA ll lc))) := Kept.mk hA
            have KL6 := Kept.mk (keep_buf KLs.out hX)
            have KR6 := Kept.mk (read_at KA6.out.at0 pa)
            rw [Kq1.out] at KR6
            clear hA hX KM KA5 KLs
            go_wp2_with fail
            refine KR6.out.mono ?_
            rintro e wq ⟨rfl, rfl⟩
            have KT6 := Kept.mk (taken_at KA6.out.at0 (i + 1) Kb1.out (by have := Ki9.out; omega))
            rw [Kq2.out] at KT6
            clear KR6
            have hsum : ((T + pa.length + tx.length : Nat) : Int) = (T : Int) + (pa.length : Int) + (tx.length : Int) := by push_cast; rfl
            rw [hsum] at KT6
            clear hsum
            go_wp2_with fail
            refine KT6.out.mono ?_
            rintro e w7 ⟨rfl, hE⟩
            have KA7 := Kept.mk (KA6.out.ext hE)
            have KL7 := Kept.mk (KL6.out.ext hE)
            clear hE KT6 KA6 KL6
            have KM := Kept.mk (remove_at1 KA7.out (i + 1) Kb1.out (by have := Ki9.out; omega) pa Ksz.out.1)
            rw [Kq3.out] at KM
            go_wp2_with fail
            refine KM.out.mono ?_
            rintro e w8 ⟨rfl, hA, hX⟩
            have KA5 : Kept (At1 w w8 g d2 (own (.slice lA ll lc))) := Kept.mk hA
            have KLs := Kept.mk (keep_buf KL7.out hX)
            clear hA hX KM KA7 KL7
            have KRe := Kept.mk (read_at KA5.out.at0 pa)
            rw [KSame.out.rd, Kra.out] at KRe
            go_wp2_with fail
            refine KRe.out.mono ?_
            rintro e wq ⟨rfl, rfl⟩
            clear KRe
            have KLe := Kept.mk (list_at KA5.out.at0 (i + 2) KSame.out.b (by have := Ki9.out; omega) [] (by simp))
            go_wp2_with fail
            refine KLe.out.mono ?_
            rintro e we1 ⟨v2, rfl, hbl, hEl⟩
            rw [KSame.out.ls] at hbl
            obtain ⟨l2A, l2c, hv2⟩ := hbl.form
            subst hv2
            have Kx := Kept.mk (texts_any (listD d []) _ _ we1 (buf_rd hbl) (buf_rd (KLs.out.ext hEl)))
            have Ke1 := Kept.mk (KA5.out.ext hEl)
            rw [List.length_map, ← Kll.out] at Kx ⊢
            clear hbl hEl KLe
            go_wp2_with fail
            refine Kx.out.mono ?_
            rintro e we2 ⟨rfl, hE⟩
            have Ke2 := Kept.mk (Ke1.out.ext hE)
            clear hE Kx
            have KTe := Kept.mk (taken_at Ke2.out.at0 (i + 2) KSame.out.b (by have := Ki9.out; omega))
            rw [KSame.out.tk, Ktk.out] at KTe
            go_wp2_with fail
            refine KTe.out.mono ?_
            rintro e we3 ⟨rfl, hE⟩
            have Ke3 := Kept.mk (Ke2.out.ext hE)
            clear hE KTe
            go_wp2_with fail
            go_ret
            exact ⟨rfl, Ke3.out.at0.all⟩
theorem moves_frame (w : World) (a : Option Addr) (len cap : Nat) (zs : List Act) (h : InActs w a len cap zs) (b1 : ByteArray) (h1 : b1.size ≤ maxLen) (b2 : ByteArray) (h2 : b2.size ≤ maxLen) (b3 : ByteArray) (h3 : b3.size ≤ maxLen) :
    Calls Try.prog 3 #[.slice a len cap, .string b1, .string b2, .string b3] w fun e w1 => e = .returned (.bool true) ∧ Below w.heap.size w w1 := by
  have := moves_law w a len cap zs h b1.data.toList b2.data.toList b3.data.toList (by rw [Array.length_toList]; exact h1) (by rw [Array.length_toList]; exact h2) (by rw [Array.length_toList]; exact h3)
  rwa [strOf_self, strOf_self, strOf_self] at this
end Disk
end Go.Proofs.Ytjphmjegfpdbeaa
