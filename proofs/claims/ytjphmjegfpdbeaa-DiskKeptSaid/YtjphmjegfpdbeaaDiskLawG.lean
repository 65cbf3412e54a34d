/- The law DiskKept. No condition. -/
import Derived.Test.YtjphmjegfpdbeaaDiskM
namespace Go.Proofs.Ytjphmjegfpdbeaa
open Go.RowKit
namespace Disk
open Str
set_option linter.unusedSimpArgs false
set_option linter.unusedVariables false
set_option maxRecDepth 100000 in
set_option maxHeartbeats 32000000 in
theorem kept_law (w : World) (a : Option Addr) (len cap : Nat) (zs : List Act) (h : InActs w a len cap zs) (a2 : Option Addr) (len2 cap2 : Nat) (zs2 : List Act) (h2 : InActs w a2 len2 cap2 zs2) (cn ck : Int) (u : Unit) (hcut : InCut w cn ck u) :
    Calls Try.prog 6 #[.slice a len cap, .slice a2 len2 cap2, .agg #[.int .i64 cn, .int .u64 ck]] w fun e w1 => e = .returned (.bool true) ∧ Below w.heap.size w w1 := by
  have hm : Try.prog.follows .mixedOrders = true := by kernel_rfl
  have hmm := @run_makeMap Try.prog
  have hr := h.rd
  have hzl : len = zs.length := by have := h.1.1; rw [List.length_map] at this; exact this.symm
  have KR := Kept.mk hr
  have Kz := Kept.mk h.2
  have Kl := Kept.mk hzl
  have hlm : len ≤ 9223372036854775807 := by have := hr.le; rw [List.length_map] at this; omega
  have hr2 := h2.rd
  have hzl2 : len2 = zs2.length := by have := h2.1.1; rw [List.length_map] at this; exact this.symm
  have KR2 := Kept.mk hr2
  have Kz2 := Kept.mk h2.2
  have Kl2 := Kept.mk hzl2
  have hlm2 : len2 ≤ 9223372036854775807 := by have := hr2.le; rw [List.length_map] at this; omega
  have Kcw := Kept.mk hcut
  have hE0 := Ext.alloc w (.cells #[.int .i64 cn, .int .u64 ck] 31)
  have KE0 := Kept.mk hE0
  have Kcut0 := Kept.mk (Blk.new w 31 [.int .i64 cn, .int .u64 ck])
  clear hr h hzl hr2 h2 hzl2 hcut hE0
  go_enter Try.func6, Try.ntmps6
  go_upto_region 1 with (fail)
  have Kcb0 := Kept.mk (Nat.le_refl w.heap.size)
  generalize hcb : w.heap.size = cb at Kcut0 ⊢
  have Kcb := Kept.mk (show w.heap.size ≤ cb from by rw [hcb]; exact Nat.le_refl _)
  generalize w.alloc (.cells #[.int .i64 cn, .int .u64 ck] 31) = w0 at *
  have Kcbe := Kept.mk hcb
  clear Kcb0 hcb
  have KAW := Kept.mk (awake_any w0)
  go_wp2_with fail
  refine KAW.out.mono ?_
  rintro e w1 ⟨rfl, hE1⟩
  have KE1 := Kept.mk (KE0.out.trans hE1)
  have Kcut1 := Kept.mk (Kcut0.out.ext hE1)
  clear hE1 KAW
  have KF := Kept.mk (few_any w1 (.slice a len cap) zs (KR.out.ext KE1.out) Kz.out)
  go_wp2_with fail
  refine KF.out.mono ?_
  rintro e w2 ⟨r, rfl, hfew, hE2⟩
  have KE2 := Kept.mk (KE1.out.trans hE2)
  have Kcut2 := Kept.mk (Kcut1.out.ext hE2)
  clear hE2 KF
  cases r with
  | false =>
    clear hfew
    go_wp2_with fail
    go_ret
    exact ⟨rfl, KE2.out⟩
  | true =>
  have Kfew := Kept.mk (hfew rfl)
  clear hfew
  have KF := Kept.mk (few_any w2 (.slice a2 len2 cap2) zs2 (KR2.out.ext KE2.out) Kz2.out)
  go_wp2_with fail
  refine KF.out.mono ?_
  rintro e w3 ⟨r, rfl, hfew, hE3⟩
  have KE3 := Kept.mk (KE2.out.trans hE3)
  have Kcut3 := Kept.mk (Kcut2.out.ext hE3)
  clear hE3 KF
  cases r with
  | false =>
    clear hfew
    go_wp2_with fail
    go_ret
    exact ⟨rfl, KE3.out⟩
  | true =>
  have Kfew2 := Kept.mk (hfew rfl)
  clear hfew
  have KN := Kept.mk (new_any 100000 (by omega) (by omega) w3)
  go_wp2_with fail
  refine KN.out.mono ?_
  rintro e w4 ⟨g, D4, rfl, hd4, hE4⟩
  have KA : Kept (SyAt w w4 g 0 (newP 100000) [cb] [] ∧ Blk w4 cb 31 [.int .i64 cn, .int .u64 ck]) := Kept.mk ⟨⟨by
    obtain ⟨q1, bl, bs, v, q2, q3⟩ := hd4
    have hz := KE3.out.size
    exact ⟨D4, ⟨q1, bl, bs, v, q2, ⟨q3.fl, q3.fs, q3.wb.lower hz, q3.dl, q3.ds, q3.dv, q3.ne, fun j hj => ⟨Nat.le_trans hz (q3.lo j hj).1, (q3.lo j hj).2⟩⟩⟩, KE3.out.trans hE4, fun j hj => by
      rw [List.mem_singleton] at hj
      subst hj
      exact ⟨fun hmm => by have := (q3.lo _ hmm).1; have := Kcut3.out.lt; omega, Nat.lt_of_lt_of_le Kcut3.out.lt hE4.size⟩⟩, DkB.new 100000 (by decide), ⟨rfl, rfl⟩, rfl⟩, Kcut3.out.ext hE4⟩
  clear hd4 hE4 KN
  go_wp2_with fail
  go_loopg [9] len (fun q iv wi => ∃ (i : Nat) (d : Dk), i + q = len ∧ iv = .int .i64 (i : Int) ∧ Kept (SyAt w wi g i d [cb] [] ∧ Blk wi cb 31 [.int .i64 cn, .int .u64 ck]))
  case atStart => exact ⟨0, _, by omega, rfl, KA⟩
  case round =>
    obtain ⟨i, d, hq, rfl, KK⟩ := hrel
    have Kq := Kept.mk hq
    have hil : i ≤ len := by omega
    clear hq KA
    by_cases hlt : i < len
    · have hltI : (i : Int) < (len : Int) := by omega
      have hi2 : i < zs.length := by rw [← Kl.out]; exact hlt
      have Ki9 := Kept.mk (show i + 1 ≤ 1048576 from by have := Kfew.out.len; omega)
      obtain ⟨b, off, rfl, -, hc⟩ := KR.out.get (by decide) (i := i) hi2
      have hE := KK.out.1.at1.at0.all
      have c0 := hE.cell (hc 0 (.int .i64 zs[i].k) rfl)
      have c1 := hE.cell (hc 1 (.string (strOf zs[i].p)) rfl)
      have c2 := hE.cell (hc 2 (.string (strOf zs[i].t)) rfl)
      have c3 := hE.cell (hc 3 (.int .i64 zs[i].n) rfl)
      have c4 := hE.cell (hc 4 (.int .u64 zs[i].keep) rfl)
      rw [Nat.add_zero] at c0
      have Kok := Kept.mk (Kz.out zs[i] (List.getElem_mem hi2))
      have Ksq := Kept.mk (show zs[i].p.length ≤ SZ ∧ zs[i].t.length ≤ SZ from by have := Kfew.out.each zs[i] (List.getElem_mem hi2); simp only [SZ]; omega)
      generalize zs[i] = z at *
      obtain ⟨k, p, t, n, kp⟩ := z
      simp only at c0 c1 c2 c3 c4
      clear hc hE hi2
      by_cases hk1 : (1 : Int) ≤ k
      · by_cases hk4 : k ≤ 3
        · have hk4I : k ≤ (3 : Int) := hk4
          have Kst := Kept.mk (ju_step KK.out.1.j ⟨k, p, t, n, kp⟩ (by simp only; omega) (by simp only; omega))
          have KAc := Kept.mk (act_at1 KK.out.1.at1 i KK.out.1.b Ki9.out ⟨k, p, t, n, kp⟩ Kok.out Ksq.out.1 Ksq.out.2)
          have Kb1 := Kept.mk (KK.out.1.b.act Kok.out Ksq.out.1 Ksq.out.2)
          have Kll := Kept.mk KK.out.1.l
          have Kcc := Kept.mk KK.out.2
          simp only [actV] at KAc
          clear KK
          go_wp2_with fail
          refine KAc.out.mono ?_
          rintro e w7 ⟨v, rfl, hbuf, hA, hKB⟩
          obtain ⟨vA, vc, hv⟩ := hbuf.form
          subst hv
          have Kn : Kept (SyAt w w7 g (i + 1) (actP d ⟨k, p, t, n, kp⟩).2 [cb] [] ∧ Blk w7 cb 31 [.int .i64 cn, .int .u64 ck]) := Kept.mk ⟨⟨hA, Kb1.out.mono (by omega), Kst.out.1, by rw [Kst.out.2]; exact Kll.out⟩, keep_blk Kcc.out hKB (by simp)⟩
          clear hbuf hA hKB KAc c0 c1 c2 c3 c4
          generalize (actP d ⟨k, p, t, n, kp⟩).1.2.2 = f at *
          generalize (actP d ⟨k, p, t, n, kp⟩).1.1 = sx at *
          go_wp2_with fail
          go_roundg (gk - 1)
          case measure => have := Kq.out; omega
          case rel => exact ⟨i + 1, _, by have := Kq.out; omega, by first | rfl | simp, Kn⟩
        · have hk4I : ¬ k ≤ (3 : Int) := hk4
          have Kn : Kept (SyAt w wr g (i + 1) d [cb] [] ∧ Blk wr cb 31 [.int .i64 cn, .int .u64 ck]) := Kept.mk ⟨⟨KK.out.1.at1, KK.out.1.b.mono (by omega), KK.out.1.j, KK.out.1.l⟩, KK.out.2⟩
          go_wp2_with fail
          go_roundg (gk - 1)
          case measure => have := Kq.out; omega
          case rel => exact ⟨i + 1, d, by have := Kq.out; omega, by first | rfl | simp, Kn⟩
      · have Kn : Kept (SyAt w wr g (i + 1) d [cb] [] ∧ Blk wr cb 31 [.int .i64 cn, .int .u64 ck]) := Kept.mk ⟨⟨KK.out.1.at1, KK.out.1.b.mono (by omega), KK.out.1.j, KK.out.1.l⟩, KK.out.2⟩
        go_wp2_with fail
        go_roundg (gk - 1)
        case measure => have := Kq.out; omega
        case rel => exact ⟨i + 1, d, by have := Kq.out; omega, by first | rfl | simp, Kn⟩
    · have hltI : ¬ (i : Int) < (len : Int) := by omega
      have Kib := Kept.mk (show i ≤ 300 from by have := Kfew.out.len; have := Kl.out; omega)
      have Kat := Kept.mk KK.out.1.at1
      have Kbd := Kept.mk KK.out.1.b
      have Kju := Kept.mk KK.out.1.j
      have Kcu := Kept.mk KK.out.2
      have KS := Kept.mk (sync_at1 Kat.out i Kbd.out (by have := Kib.out; omega))
      rw [sync0 Kju.out.cnt Kju.out.up] at KS
      have Kb0 := Kept.mk (show DkB i ({ d with lies := seenP d, rows := [] } : Dk) from by have := Kbd.out.sync; rwa [sync0 Kju.out.cnt Kju.out.up] at this)
      have Kj0 := Kept.mk (show Ju ({ d with lies := seenP d, rows := [] } : Dk) from ⟨Kju.out.cnt, Kju.out.up⟩)
      have Kl0 := Kept.mk (show seenP ({ d with lies := seenP d, rows := [] } : Dk) = ({ d with lies := seenP d, rows := [] } : Dk).lies ∧ ({ d with lies := seenP d, rows := [] } : Dk).rows = [] from ⟨rfl, rfl⟩)
      generalize ({ d with lies := seenP d, rows := [] } : Dk) = d0 at *
      clear KK Kat Kbd Kju
      go_wp2_with fail
      refine KS.out.mono ?_
      rintro e w5 ⟨rfl, hA, hK⟩
      have KA5 := Kept.mk hA
      have Kcu5 := Kept.mk (keep_blk Kcu.out hK (by simp))
      clear hA KS hK Kcu
      obtain ⟨i0, hi0⟩ : ∃ i0, i0 = i := ⟨_, rfl⟩
      have Kib0 := Kept.mk (show i0 ≤ 300 from by rw [hi0]; exact Kib.out)
      rw [← hi0] at Kb0
      clear hi0 Kib
      go_upto_region 16 with (fail)
      have KA6 := Kept.mk (KA5.out.add (Ext.alloc w5 (.map #[] 0)) (Nat.le_refl w5.heap.size) (by simp))
      have Kcu6 := Kept.mk (Kcu5.out.ext (Ext.alloc w5 (.map #[] 0)))
      have Kmo6 := Kept.mk (MapOf.made (kv := strK) (ev := strK) (α := S) (β := S) w5)
      have Kbo := Kept.mk (show w.heap.size ≤ w5.heap.size ∧ w5.heap.size < (w5.alloc (.map #[] 0)).heap.size from ⟨KA5.out.at0.all.size, by simp⟩)
      generalize w5.heap.size = bo at *
      generalize w5.alloc (.map #[] 0) = w6 at *
      clear KA5 Kcu5
      have Kkeys := Kept.mk (list_keys Kj0.out.up)
      have KLd := Kept.mk (list_at KA6.out.at0 i0 Kb0.out (by have := Kib0.out; omega) [] (by simp))
      go_wp2_with fail
      refine KLd.out.mono ?_
      rintro e w7 ⟨v1, rfl, hb1, hE⟩
      rw [Kkeys.out] at hb1
      obtain ⟨lA, lc, hv1⟩ := hb1.form
      subst hv1
      obtain ⟨ll, hll⟩ : ∃ ll, ll = (seenP d0).length := ⟨_, rfl⟩
      have Kll := Kept.mk hll
      have hllb : ll ≤ 1048576 := by rw [hll]; exact Nat.le_trans Kb0.out.seen.len (by have := Kib0.out; omega)
      rw [List.length_map, List.length_map, ← hll] at hb1 ⊢
      have Kb := Kept.mk hb1
      have KA7 := Kept.mk (KA6.out.ext hE)
      have Kcu7 := Kept.mk (Kcu6.out.ext hE)
      have Kmo7 := Kept.mk (Kmo6.out.ext hE)
      have Kbo7 := Kept.mk (show bo < w7.heap.size from Nat.lt_of_lt_of_le Kbo.out.2 hE.size)
      clear hb1 hE KLd KA6 Kcu6 Kmo6 hll
      go_upto_region 18 with (fail)
      have hX := Ext.alloc w7 (.map #[] 0)
      have KA8 := Kept.mk (KA7.out.add hX (Nat.le_refl w7.heap.size) (by simp))
      have KB8 : Kept (Kst w (w7.alloc (.map #[] 0)) g [w7.heap.size, bo, cb] cb bo w7.heap.size cn ck i0 d0 [] []) := Kept.mk
        ⟨KA8.out, Kb0.out, Kcu7.out.ext hX, Kmo7.out.ext hX, MapOf.made w7, by have := Kbo7.out; omega, by simp, by simp, by simp, by
          intro j hj
          have h1 := KA7.out.at0.all.size
          have h2 := Kbo.out.1
          have h3 := Kcb.out
          simp only [List.mem_cons, List.not_mem_nil, or_false] at hj
          rcases hj with rfl | rfl | rfl <;> omega⟩
      have Kb8 := Kept.mk (Kb.out.ext hX)
      clear hX KA8 KA7 Kcu7 Kmo7 Kb
      generalize w7.heap.size = bw at *
      generalize w7.alloc (.map #[] 0) = w8 at *
      go_wp2_with fail
      go_loopg [13] ll (fun q iv wi => ∃ (i : Nat) (lw : List (S × Bool)), i + q = ll ∧ iv = .int .i64 (i : Int) ∧ Kept (Kst w wi g [bw, bo, cb] cb bo bw cn ck i0 d0 ((seenP d0).take i) lw ∧ (∀ f ∈ (seenP d0).take i, inP lw f.2) ∧ Buf wi w6.heap.size 9 (.slice lA ll lc) (((seenP d0).map (·.1)).map tV)))
      case atStart => exact ⟨0, [], by omega, rfl, Kept.mk ⟨KB8.out, by simp, Kb8.out⟩⟩
      case round =>
        obtain ⟨i, lw, hq, rfl, KK⟩ := hrel
        have Kq := Kept.mk hq
        have hil : i ≤ ll := by omega
        clear hq KB8 Kb8
        by_cases hlt : i < ll
        · have hltI : (i : Int) < (ll : Int) := by omega
          have hi2 : i < (seenP d0).length := by rw [← Kll.out]; exact hlt
          have hi3 : i < ((seenP d0).map (·.1)).length := by rw [List.length_map]; exact hi2
          obtain ⟨b, off, rfl, -, hc⟩ := (buf_rd KK.out.2.2).get (by decide) (i := i) hi3
          have s0 := hc 0 (.string (strOf ((seenP d0).map (·.1))[i])) rfl
          rw [Nat.add_zero, Nat.mul_one] at s0
          rw [List.getElem_map] at s0
          have KRd := Kept.mk (fun W (hW : Ext wr W) => read_at (KK.out.1.at1.at0.ext hW) ((seenP d0)[i]).1)
          rw [read_at_i Kj0.out.up Kb0.out.upSeen hi2] at KRd
          have Ktk := Kept.mk (show (seenP d0).take (i + 1) = (seenP d0).take i ++ [(seenP d0)[i]] from List.take_succ_eq_append_getElem hi2)
          have Knew := Kept.mk (take_new Kb0.out.upSeen hi2)
          generalize (seenP d0)[i] = f at *
          obtain ⟨p, t⟩ := f
          simp only at s0 KRd
          clear hc hi2 hi3
          have KK9 := Kept.mk (KK.out.1.ext (Ext.drew wr))
          have Kb9 := Kept.mk (KK.out.2.2.ext (Ext.drew wr))
          have s9 := (Ext.drew wr).cell s0
          obtain ⟨wa, hrun, hma, hta, hsa⟩ := KK9.out.mo.put (P := Try.prog) keySok Try.underlying64 p t
          simp only [strK] at hrun
          have s10 : wa.cell? ⟨b, off + i, none⟩ = some (.string (strOf p)) := hta.cell s9 (fun hm => by
              rw [List.mem_singleton] at hm
              simp only at hm
              subst hm
              obtain ⟨es, cc, hbk, _⟩ := KK9.out.mo
              simp [World.cell?, hbk] at s9)
          have Kma := Kept.mk hma
          have Kta := Kept.mk hta
          clear hma hta hsa
          go_wp2_with fail
          go_region_held_law (fun w' => w'.cell? ⟨b, off + i, none⟩ = some (.string (strOf p)))
            (first | with_reducible exact s0 | with_reducible exact s9 | with_reducible exact s10)
            ((refine (KRd.out wr.drew (Ext.drew wr)).mono ?_; rintro ee ww ⟨rfl, rfl⟩))
          all_goals
            have hma := Kma.out
            have hta := Kta.out
            rw [put_snoc (f := (p, t)) Knew.out, ← Ktk.out] at hma
            have KKa := Kept.mk (KK9.out.putO hma hta)
            have Kba := Kept.mk (buf_map Kb9.out KK9.out.mo hta)
            have hl := hma.look (P := Try.prog) keySok Try.underlying64 (zeroS wa) p
            rw [show getK ((seenP d0).take (i + 1)) p = some t from by
              rw [Ktk.out, ← put_snoc (f := (p, t)) Knew.out, getK_put, if_pos rfl]] at hl
            simp only [Option.map_some, Option.getD_some, strK] at hl
            clear hma hta s9 s0 hrun KK9 Kb9 Kma Kta
            go_wp2_with (at_mapUpdate; refine wpList_put_of (kv := strK) (ev := boolK) wa rfl (.tmp 97) (.tmp 103) (.const (.bool true)) 65 rfl 9 4 keySok Try.underlying65 bw lw KKa.out.mw rfl t true rfl rfl ?_)
            intro wb hmb htb hsb
            have Kn : Kept (Kst w wb g [bw, bo, cb] cb bo bw cn ck i0 d0 ((seenP d0).take (i + 1)) (putK lw t true) ∧ (∀ f ∈ (seenP d0).take (i + 1), inP (putK lw t true) f.2) ∧ Buf wb w6.heap.size 9 (.slice (some ⟨b, off, none⟩) ll lc) (((seenP d0).map (·.1)).map tV)) := Kept.mk
              ⟨KKa.out.putW hmb htb, fun f hf => by
                rw [Ktk.out, List.mem_append, List.mem_singleton] at hf
                rcases hf with hf | rfl
                · exact inP_more t (KK.out.2.1 f hf)
                · exact inP_put lw t t (.inr rfl), buf_map Kba.out KKa.out.mw htb⟩
            clear hmb htb hsb hl s10 KKa Kba KK
            go_wp2_with fail
            go_roundg (gk - 1)
            case measure => have := Kq.out; omega
            case rel => exact ⟨i + 1, _, by have := Kq.out; omega, by first | rfl | simp, Kn⟩
        · have hltI : ¬ (i : Int) < (ll : Int) := by omega
          have Kall := Kept.mk (show (seenP d0).take i = seenP d0 from List.take_of_length_le (by rw [← Kll.out]; omega))
          have K1 := Kept.mk (show Kst w wr g [bw, bo, cb] cb bo bw cn ck i0 d0 (seenP d0) lw from by have := KK.out.1; rwa [Kall.out] at this)
          have KW1 := Kept.mk (show ∀ f ∈ seenP d0, inP lw f.2 from by have := KK.out.2.1; rwa [Kall.out] at this)
          clear KK Kall
          go_upto_region 24 with (fail)
          have hX := Ext.alloc wr (.map #[] 0)
          have KA8 := Kept.mk (K1.out.at1.add hX (Nat.le_refl wr.heap.size) (by simp))
          have hbw := K1.out.mw.lt
          have hbo := K1.out.mo.lt
          have hlo := K1.out.lo_
          have hsz := K1.out.at1.at0.all.size
          have KB8 : Kept (Kst w (wr.alloc (.map #[] 0)) g [wr.heap.size, bw, bo, cb] cb bo bw cn ck i0 d0 (seenP d0) lw ∧ MapOf strK boolK (wr.alloc (.map #[] 0)) wr.heap.size ([] : List (S × Bool)) ∧ bo ≠ wr.heap.size ∧ bw ≠ wr.heap.size) := Kept.mk
            ⟨⟨KA8.out, K1.out.b, K1.out.cut.ext hX, K1.out.mo.ext hX, K1.out.mw.ext hX, K1.out.ne, by simp, by simp, by simp, fun j hj => by
              rcases List.mem_cons.1 hj with rfl | hj
              · exact hsz
              · exact hlo j hj⟩, MapOf.made wr, by omega, by omega⟩
          clear hX KA8 hbw hbo hlo hsz K1
          generalize wr.heap.size = bt at *
          generalize wr.alloc (.map #[] 0) = w8 at *
          have c0 := KB8.out.1.cut.cell 0
          have c1 := KB8.out.1.cut.cell 1
          simp only [List.getElem?_cons_zero, List.getElem?_cons_succ] at c0 c1
          have KAr := Kept.mk (arm_at1 KB8.out.1.at1 cn ck)
          go_wp2_with fail
          refine KAr.out.mono ?_
          rintro e w9 ⟨rfl, hA, hK⟩
          have KC9 : Kept (Kst w w9 g [bt, bw, bo, cb] cb bo bw cn ck (i0 + 0) (armP d0 cn ck) (seenP d0) lw ∧ MapOf strK boolK w9 bt ([] : List (S × Bool)) ∧ Jk lw [] (seenP d0) (armP d0 cn ck)) := Kept.mk
            ⟨KB8.out.1.disk hA hK (KB8.out.1.b.arm cn ck Kcw.out.1.2 Kcw.out.2), keep_mapOf KB8.out.2.1 hK (by simp), jk_arm ⟨⟨by rw [← Kl0.out.1]; exact Kb0.out.upSeen, by rw [← Kl0.out.1]; exact KW1.out, fun q _ => by rw [← Kl0.out.1]⟩, by rw [Kl0.out.2]; simp, fun _ => Kl0.out.2⟩ cn ck⟩
          have Kbt := Kept.mk KB8.out.2.2
          clear hA hK KAr KB8 c0 c1 KW1
          have Kob := Kept.mk (show Up (seenP d0) from Kb0.out.upSeen)
          generalize seenP d0 = L0 at *
          generalize armP d0 cn ck = d1 at *
          go_wp2_with fail
          go_loopg [15] len2 (fun q iv wi => ∃ (i : Nat) (d : Dk) (lw lt : List (S × Bool)), i + q = len2 ∧ iv = .int .i64 (i : Int) ∧ Kept (Kst w wi g [bt, bw, bo, cb] cb bo bw cn ck (i0 + i) d L0 lw ∧ MapOf strK boolK wi bt lt ∧ Jk lw lt L0 d))
          case atStart => exact ⟨0, _, _, _, by omega, rfl, KC9⟩
          case round =>
            obtain ⟨i2, d, lw, lt, hq, rfl, KK⟩ := hrel
            have Kq := Kept.mk hq
            have hil2 : i2 ≤ len2 := by omega
            clear hq KC9
            have KDn := Kept.mk (down_at KK.out.1.at1.at0)
            cases hdn : d.down with
            | true =>
              rw [hdn] at KDn
              have Kdd := Kept.mk hdn
              clear hdn
              have Kib2 := Kept.mk (show i0 + i2 ≤ 600 from by have := Kfew2.out.len; have := Kl2.out; have := Kib0.out; omega)
              by_cases hlt2 : i2 < len2
              · have hltJ : (i2 : Int) < (len2 : Int) := by omega
                go_wp2_with fail
                refine KDn.out.mono ?_
                rintro e wq ⟨rfl, rfl⟩
                go_wp2_with fail
                refine KDn.out.mono ?_
                rintro e wq ⟨rfl, rfl⟩
                clear KDn
                obtain ⟨e1, e2, e3⟩ := jk_seen KK.out.2.2 Kdd.out
                have Ke1 := Kept.mk e1
                have Ke2 := Kept.mk e2
                have Ke3 := Kept.mk e3
                have KG := Kept.mk KK.out.2.2.g
                have KSt := Kept.mk (start_at1 KK.out.1.at1)
                have Kb3 := Kept.mk KK.out.1.b.start
                clear e1 e2 e3
                go_wp2_with fail
                refine KSt.out.mono ?_
                rintro e wb ⟨rfl, hA, hK⟩
                have K5 := Kept.mk (KK.out.1.disk hA hK Kb3.out)
                have KT5 := Kept.mk (keep_mapOf KK.out.2.1 hK (by simp))
                have Kg3 : Kept (Good lw lt L0 (seenP (startP d))) := Kept.mk (by rw [Ke1.out]; exact KG.out)
                clear hA hK KSt KK Ke1 KG
                generalize startP d = d3 at *
                have Kkeys3 := Kept.mk (list_keys Ke2.out)
                have KLd := Kept.mk (list_at K5.out.at1.at0 (i0 + i2) Kb3.out (by have := Kib2.out; omega) [] (by simp))
                go_wp2_with fail
                refine KLd.out.mono ?_
                rintro e wc ⟨v5, rfl, hb5, hE5⟩
                rw [Kkeys3.out] at hb5
                obtain ⟨nA, nc, hv5⟩ := hb5.form
                subst hv5
                obtain ⟨nl, hnl⟩ : ∃ nl, nl = (seenP d3).length := ⟨_, rfl⟩
                have Knl := Kept.mk hnl
                have hnlb : nl ≤ 1048576 := by rw [hnl]; exact Nat.le_trans Kb3.out.seen.len (by have := Kib2.out; omega)
                rw [List.length_map, List.length_map, ← hnl] at hb5 ⊢
                have Kb5 := Kept.mk hb5
                have K6 := Kept.mk (K5.out.ext hE5)
                have KT6 := Kept.mk (KT5.out.ext hE5)
                clear hb5 hE5 KLd K5 KT5 hnl
                go_wp2_with fail
                go_loopg [18] nl (fun q iv wi => ∃ i : Nat, i + q = nl ∧ iv = .int .i64 (i : Int) ∧ Kept (Ext wc wi))
                case atStart => exact ⟨0, by omega, rfl, Kept.mk (Ext.refl _)⟩
                case round =>
                  obtain ⟨j, hq3, rfl, KE⟩ := hrel
                  have Kq3 := Kept.mk hq3
                  have hjl : j ≤ nl := by omega
                  clear hq3
                  by_cases hlt3 : j < nl
                  · have hltK : (j : Int) < (nl : Int) := by omega
                    have hj2 : j < (seenP d3).length := by rw [← Knl.out]; exact hlt3
                    have hj3 : j < ((seenP d3).map (·.1)).length := by rw [List.length_map]; exact hj2
                    obtain ⟨b, off, rfl, -, hc⟩ := (buf_rd Kb5.out).get (by decide) (i := j) hj3
                    have s0 := KE.out.cell (hc 0 (.string (strOf ((seenP d3).map (·.1))[j])) rfl)
                    rw [Nat.add_zero, Nat.mul_one, List.getElem_map] at s0
                    have KR1 := Kept.mk (read_at (K6.out.at1.at0.ext KE.out) ((seenP d3)[j]).1)
                    rw [read_at_i Ke2.out Kb3.out.upSeen hj2] at KR1
                    have hin := Kg3.out.t _ (List.getElem_mem hj2)
                    generalize (seenP d3)[j] = f at *
                    obtain ⟨p, t⟩ := f
                    simp only at s0 KR1 hin
                    have hl := (K6.out.mw.ext KE.out).look (P := Try.prog) keySok Try.underlying65 (zeroB wr) t
                    rw [show getK lw t = some true from hin] at hl
                    simp only [Option.map_some, Option.getD_some, strK, boolK] at hl
                    clear hc hin hj2 hj3
                    go_wp2_with fail
                    refine KR1.out.mono ?_
                    rintro e wq ⟨rfl, rfl⟩
                    clear KR1
                    go_wp2_with fail
                    go_roundg (gk - 1)
                    case measure => have := Kq3.out; omega
                    case rel => exact ⟨j + 1, by have := Kq3.out; omega, by first | rfl | simp, KE⟩
                  · have hltK : ¬ (j : Int) < (nl : Int) := by omega
                    have K7 := Kept.mk (K6.out.ext KE.out)
                    have KT7 := Kept.mk (KT6.out.ext KE.out)
                    clear K6 KT6 Kb5
                    go_wp2_with (refine wpList_range_of (kv := strK) (ev := strK) wr rfl (.tmp 183) 64 rfl 9 9 Try.underlying64 bo L0 K7.out.mo rfl ?_)
                    intro wd hi hE hs
                    have hbt := KT7.out.lt
                    have KI : Kept (IterOf strK strK wd bo wr.heap.size L0 L0 ∧ At1 w wd g d3 [wr.heap.size] ∧ MapOf strK boolK wd bt lt) := Kept.mk
                      ⟨hi, K7.out.at1.at0.beside hE (fun j hj => by rw [List.mem_singleton] at hj; subst hj; omega), KT7.out.ext hE⟩
                    have Kir := Kept.mk (show w.heap.size ≤ wr.heap.size ∧ bt < wr.heap.size from ⟨K7.out.at1.at0.all.size, hbt⟩)
                    have Kmem := Kept.mk (show ∀ f ∈ L0, getK L0 f.1 = some f.2 from fun f hf => getK_of_mem Kob.out.nodup hf)
                    clear hi hE hs hbt K7 KT7
                    generalize wr.heap.size = ir at *
                    go_wp2_with fail
                    go_loopg [21] L0.length (fun q u21 wi => ∃ todo : List F, todo.length = q ∧ (∀ f ∈ todo, f ∈ L0) ∧ Kept (IterOf strK strK wi bo ir L0 todo ∧ At1 w wi g d3 [ir] ∧ MapOf strK boolK wi bt lt))
                    case atStart => exact ⟨L0, rfl, fun f hf => hf, KI⟩
                    case round =>
                      obtain ⟨todo, hr4, hsub, KJ⟩ := hrel
                      have Kr4 := Kept.mk hr4
                      have Ksub := Kept.mk hsub
                      clear hr4 hsub KI
                      go_wp2_with (refine wpList_next_of (kv := strK) (ev := strK) wr rfl (.tmp 184) rfl bo ir L0 todo KJ.out.1 rfl ?_ ?_)
                      · intro h0
                        clear h0
                        have KWt := Kept.mk (waiting_at KJ.out.2.1.at0)
                        rw [Ke3.out] at KWt
                        have KEe := Kept.mk KJ.out.2.1.at0.all
                        go_wp2_with fail
                        refine KWt.out.mono ?_
                        rintro e wq ⟨rfl, rfl⟩
                        go_wp2_with fail
                        go_ret
                        exact ⟨rfl, KEe.out⟩
                      · intro pr p t post w' htd hi' hT hsz hent
                        have Kin := Kept.mk (Kmem.out (p, t) (Ksub.out _ (by rw [htd]; simp)))
                        have Kq4 := Kept.mk (show todo.length = (pr ++ post).length + 1 from by rw [htd]; simp; omega)
                        have Ksub2 := Kept.mk (show ∀ f ∈ pr ++ post, f ∈ L0 from fun f hf => Ksub.out f (by rw [htd]; simp only [List.mem_append, List.mem_cons] at hf ⊢; rcases hf with h | h; exact .inl h; exact .inr (.inr h)))
                        have KJ2 : Kept (IterOf strK strK w' bo ir L0 (pr ++ post) ∧ At1 w w' g d3 [ir] ∧ MapOf strK boolK w' bt lt) := Kept.mk
                          ⟨hi', KJ.out.2.1.touchP hT (fun j hj => ⟨hj, by rw [List.mem_singleton] at hj; subst hj; exact Kir.out.1⟩), KJ.out.2.2.touch hT (by have := Kir.out.2; simp; omega)⟩
                        have KR1 := Kept.mk (read_at KJ2.out.2.1.at0 p)
                        have hl := KJ2.out.2.2.look (P := Try.prog) keySok Try.underlying65 (zeroB w') p
                        have hl2 := KJ2.out.1.map.look (P := Try.prog) keySok Try.underlying64 (zeroS w') p
                        rw [show getK L0 p = some t from Kin.out] at hl2
                        rw [show ((getK lt p).map boolK).getD (.bool false) = .bool ((getK lt p).getD false) from by cases getK lt p <;> rfl] at hl
                        simp only [Option.map_some, Option.getD_some, strK] at hl hl2 hent ⊢
                        have Kun : Kept ((getK lt p).getD false = false → readP d3 p = (t, 0)) := Kept.mk (fun hf => by
                          have hn : ¬ inP lt p := fun hh => by unfold inP at hh; rw [hh] at hf; cases hf
                          have hg := (Kg3.out.p p hn).trans Kin.out
                          unfold readP
                          rw [Ke2.out, if_neg (by decide), hg])
                        clear hi' hT hsz htd KJ
                        cases htb : (getK lt p).getD false with
                        | true =>
                          rw [htb] at hl
                          clear htb Kun
                          generalize (readP d3 p).1 = r1 at *
                          generalize (readP d3 p).2 = r2 at *
                          go_wp2_with fail
                          refine KR1.out.mono ?_
                          rintro e wq ⟨rfl, rfl⟩
                          clear KR1
                          go_wp2_with fail
                          go_roundg (gk - 1)
                          case measure => have := Kr4.out; have := Kq4.out; omega
                          case rel => exact ⟨pr ++ post, by have := Kr4.out; have := Kq4.out; omega, Ksub2.out, KJ2⟩
                        | false =>
                          rw [htb] at hl
                          rw [Kun.out htb] at KR1
                          clear htb Kun
                          go_wp2_with fail
                          refine KR1.out.mono ?_
                          rintro e wq ⟨rfl, rfl⟩
                          clear KR1
                          go_wp2_with fail
                          go_roundg (gk - 1)
                          case measure => have := Kr4.out; have := Kq4.out; omega
                          case rel => exact ⟨pr ++ post, by have := Kr4.out; have := Kq4.out; omega, Ksub2.out, KJ2⟩
              · have hltJ : ¬ (i2 : Int) < (len2 : Int) := by omega
                go_wp2_with fail
                refine KDn.out.mono ?_
                rintro e wq ⟨rfl, rfl⟩
                clear KDn
                obtain ⟨e1, e2, e3⟩ := jk_seen KK.out.2.2 Kdd.out
                have Ke1 := Kept.mk e1
                have Ke2 := Kept.mk e2
                have Ke3 := Kept.mk e3
                have KG := Kept.mk KK.out.2.2.g
                have KSt := Kept.mk (start_at1 KK.out.1.at1)
                have Kb3 := Kept.mk KK.out.1.b.start
                clear e1 e2 e3
                go_wp2_with fail
                refine KSt.out.mono ?_
                rintro e wb ⟨rfl, hA, hK⟩
                have K5 := Kept.mk (KK.out.1.disk hA hK Kb3.out)
                have KT5 := Kept.mk (keep_mapOf KK.out.2.1 hK (by simp))
                have Kg3 : Kept (Good lw lt L0 (seenP (startP d))) := Kept.mk (by rw [Ke1.out]; exact KG.out)
                clear hA hK KSt KK Ke1 KG
                generalize startP d = d3 at *
                have Kkeys3 := Kept.mk (list_keys Ke2.out)
                have KLd := Kept.mk (list_at K5.out.at1.at0 (i0 + i2) Kb3.out (by have := Kib2.out; omega) [] (by simp))
                go_wp2_with fail
                refine KLd.out.mono ?_
                rintro e wc ⟨v5, rfl, hb5, hE5⟩
                rw [Kkeys3.out] at hb5
                obtain ⟨nA, nc, hv5⟩ := hb5.form
                subst hv5
                obtain ⟨nl, hnl⟩ : ∃ nl, nl = (seenP d3).length := ⟨_, rfl⟩
                have Knl := Kept.mk hnl
                have hnlb : nl ≤ 1048576 := by rw [hnl]; exact Nat.le_trans Kb3.out.seen.len (by have := Kib2.out; omega)
                rw [List.length_map, List.length_map, ← hnl] at hb5 ⊢
                have Kb5 := Kept.mk hb5
                have K6 := Kept.mk (K5.out.ext hE5)
                have KT6 := Kept.mk (KT5.out.ext hE5)
                clear hb5 hE5 KLd K5 KT5 hnl
                go_wp2_with fail
                go_loopg [18] nl (fun q iv wi => ∃ i : Nat, i + q = nl ∧ iv = .int .i64 (i : Int) ∧ Kept (Ext wc wi))
                case atStart => exact ⟨0, by omega, rfl, Kept.mk (Ext.refl _)⟩
                case round =>
                  obtain ⟨j, hq3, rfl, KE⟩ := hrel
                  have Kq3 := Kept.mk hq3
                  have hjl : j ≤ nl := by omega
                  clear hq3
                  by_cases hlt3 : j < nl
                  · have hltK : (j : Int) < (nl : Int) := by omega
                    have hj2 : j < (seenP d3).length := by rw [← Knl.out]; exact hlt3
                    have hj3 : j < ((seenP d3).map (·.1)).length := by rw [List.length_map]; exact hj2
                    obtain ⟨b, off, rfl, -, hc⟩ := (buf_rd Kb5.out).get (by decide) (i := j) hj3
                    have s0 := KE.out.cell (hc 0 (.string (strOf ((seenP d3).map (·.1))[j])) rfl)
                    rw [Nat.add_zero, Nat.mul_one, List.getElem_map] at s0
                    have KR1 := Kept.mk (read_at (K6.out.at1.at0.ext KE.out) ((seenP d3)[j]).1)
                    rw [read_at_i Ke2.out Kb3.out.upSeen hj2] at KR1
                    have hin := Kg3.out.t _ (List.getElem_mem hj2)
                    generalize (seenP d3)[j] = f at *
                    obtain ⟨p, t⟩ := f
                    simp only at s0 KR1 hin
                    have hl := (K6.out.mw.ext KE.out).look (P := Try.prog) keySok Try.underlying65 (zeroB wr) t
                    rw [show getK lw t = some true from hin] at hl
                    simp only [Option.map_some, Option.getD_some, strK, boolK] at hl
                    clear hc hin hj2 hj3
                    go_wp2_with fail
                    refine KR1.out.mono ?_
                    rintro e wq ⟨rfl, rfl⟩
                    clear KR1
                    go_wp2_with fail
                    go_roundg (gk - 1)
                    case measure => have := Kq3.out; omega
                    case rel => exact ⟨j + 1, by have := Kq3.out; omega, by first | rfl | simp, KE⟩
                  · have hltK : ¬ (j : Int) < (nl : Int) := by omega
                    have K7 := Kept.mk (K6.out.ext KE.out)
                    have KT7 := Kept.mk (KT6.out.ext KE.out)
                    clear K6 KT6 Kb5
                    go_wp2_with (refine wpList_range_of (kv := strK) (ev := strK) wr rfl (.tmp 183) 64 rfl 9 9 Try.underlying64 bo L0 K7.out.mo rfl ?_)
                    intro wd hi hE hs
                    have hbt := KT7.out.lt
                    have KI : Kept (IterOf strK strK wd bo wr.heap.size L0 L0 ∧ At1 w wd g d3 [wr.heap.size] ∧ MapOf strK boolK wd bt lt) := Kept.mk
                      ⟨hi, K7.out.at1.at0.beside hE (fun j hj => by rw [List.mem_singleton] at hj; subst hj; omega), KT7.out.ext hE⟩
                    have Kir := Kept.mk (show w.heap.size ≤ wr.heap.size ∧ bt < wr.heap.size from ⟨K7.out.at1.at0.all.size, hbt⟩)
                    have Kmem := Kept.mk (show ∀ f ∈ L0, getK L0 f.1 = some f.2 from fun f hf => getK_of_mem Kob.out.nodup hf)
                    clear hi hE hs hbt K7 KT7
                    generalize wr.heap.size = ir at *
                    go_wp2_with fail
                    go_loopg [21] L0.length (fun q u21 wi => ∃ todo : List F, todo.length = q ∧ (∀ f ∈ todo, f ∈ L0) ∧ Kept (IterOf strK strK wi bo ir L0 todo ∧ At1 w wi g d3 [ir] ∧ MapOf strK boolK wi bt lt))
                    case atStart => exact ⟨L0, rfl, fun f hf => hf, KI⟩
                    case round =>
                      obtain ⟨todo, hr4, hsub, KJ⟩ := hrel
                      have Kr4 := Kept.mk hr4
                      have Ksub := Kept.mk hsub
                      clear hr4 hsub KI
                      go_wp2_with (refine wpList_next_of (kv := strK) (ev := strK) wr rfl (.tmp 184) rfl bo ir L0 todo KJ.out.1 rfl ?_ ?_)
                      · intro h0
                        clear h0
                        have KWt := Kept.mk (waiting_at KJ.out.2.1.at0)
                        rw [Ke3.out] at KWt
                        have KEe := Kept.mk KJ.out.2.1.at0.all
                        go_wp2_with fail
                        refine KWt.out.mono ?_
                        rintro e wq ⟨rfl, rfl⟩
                        go_wp2_with fail
                        go_ret
                        exact ⟨rfl, KEe.out⟩
                      · intro pr p t post w' htd hi' hT hsz hent
                        have Kin := Kept.mk (Kmem.out (p, t) (Ksub.out _ (by rw [htd]; simp)))
                        have Kq4 := Kept.mk (show todo.length = (pr ++ post).length + 1 from by rw [htd]; simp; omega)
                        have Ksub2 := Kept.mk (show ∀ f ∈ pr ++ post, f ∈ L0 from fun f hf => Ksub.out f (by rw [htd]; simp only [List.mem_append, List.mem_cons] at hf ⊢; rcases hf with h | h; exact .inl h; exact .inr (.inr h)))
                        have KJ2 : Kept (IterOf strK strK w' bo ir L0 (pr ++ post) ∧ At1 w w' g d3 [ir] ∧ MapOf strK boolK w' bt lt) := Kept.mk
                          ⟨hi', KJ.out.2.1.touchP hT (fun j hj => ⟨hj, by rw [List.mem_singleton] at hj; subst hj; exact Kir.out.1⟩), KJ.out.2.2.touch hT (by have := Kir.out.2; simp; omega)⟩
                        have KR1 := Kept.mk (read_at KJ2.out.2.1.at0 p)
                        have hl := KJ2.out.2.2.look (P := Try.prog) keySok Try.underlying65 (zeroB w') p
                        have hl2 := KJ2.out.1.map.look (P := Try.prog) keySok Try.underlying64 (zeroS w') p
                        rw [show getK L0 p = some t from Kin.out] at hl2
                        rw [show ((getK lt p).map boolK).getD (.bool false) = .bool ((getK lt p).getD false) from by cases getK lt p <;> rfl] at hl
                        simp only [Option.map_some, Option.getD_some, strK] at hl hl2 hent ⊢
                        have Kun : Kept ((getK lt p).getD false = false → readP d3 p = (t, 0)) := Kept.mk (fun hf => by
                          have hn : ¬ inP lt p := fun hh => by unfold inP at hh; rw [hh] at hf; cases hf
                          have hg := (Kg3.out.p p hn).trans Kin.out
                          unfold readP
                          rw [Ke2.out, if_neg (by decide), hg])
                        clear hi' hT hsz htd KJ
                        cases htb : (getK lt p).getD false with
                        | true =>
                          rw [htb] at hl
                          clear htb Kun
                          generalize (readP d3 p).1 = r1 at *
                          generalize (readP d3 p).2 = r2 at *
                          go_wp2_with fail
                          refine KR1.out.mono ?_
                          rintro e wq ⟨rfl, rfl⟩
                          clear KR1
                          go_wp2_with fail
                          go_roundg (gk - 1)
                          case measure => have := Kr4.out; have := Kq4.out; omega
                          case rel => exact ⟨pr ++ post, by have := Kr4.out; have := Kq4.out; omega, Ksub2.out, KJ2⟩
                        | false =>
                          rw [htb] at hl
                          rw [Kun.out htb] at KR1
                          clear htb Kun
                          go_wp2_with fail
                          refine KR1.out.mono ?_
                          rintro e wq ⟨rfl, rfl⟩
                          clear KR1
                          go_wp2_with fail
                          go_roundg (gk - 1)
                          case measure => have := Kr4.out; have := Kq4.out; omega
                          case rel => exact ⟨pr ++ post, by have := Kr4.out; have := Kq4.out; omega, Ksub2.out, KJ2⟩
            | false =>
              rw [hdn] at KDn
              have Kdd := Kept.mk hdn
              clear hdn
              by_cases hlt2 : i2 < len2
              · have hltJ : (i2 : Int) < (len2 : Int) := by omega
                have hi2 : i2 < zs2.length := by rw [← Kl2.out]; exact hlt2
                have Ki9 := Kept.mk (show i0 + i2 + 1 ≤ 1048576 from by have := Kfew2.out.len; have := Kib0.out; omega)
                obtain ⟨b, off, rfl, -, hc⟩ := KR2.out.get (by decide) (i := i2) hi2
                have hE := KK.out.1.at1.at0.all
                have c0 := hE.cell (hc 0 (.int .i64 zs2[i2].k) rfl)
                have c1 := hE.cell (hc 1 (.string (strOf zs2[i2].p)) rfl)
                have c2 := hE.cell (hc 2 (.string (strOf zs2[i2].t)) rfl)
                have c3 := hE.cell (hc 3 (.int .i64 zs2[i2].n) rfl)
                have c4 := hE.cell (hc 4 (.int .u64 zs2[i2].keep) rfl)
                rw [Nat.add_zero] at c0
                have Kok := Kept.mk (Kz2.out zs2[i2] (List.getElem_mem hi2))
                have Ksq := Kept.mk (show zs2[i2].p.length ≤ SZ ∧ zs2[i2].t.length ≤ SZ from by have := Kfew2.out.each zs2[i2] (List.getElem_mem hi2); simp only [SZ]; omega)
                generalize zs2[i2] = z at *
                obtain ⟨k, p, t, n, kp⟩ := z
                simp only at c0 c1 c2 c3 c4
                clear hc hE hi2
                go_wp2_with fail
                refine KDn.out.mono ?_
                rintro e wq ⟨rfl, rfl⟩
                clear KDn
                go_upto_region 29 with (fail)
                have hX := Ext.alloc wr (.cells #[.int .i64 k, .string (strOf p), .string (strOf t), .int .i64 n, .int .u64 kp] 33)
                have Kx := Kept.mk (show Blk (wr.alloc (.cells #[.int .i64 k, .string (strOf p), .string (strOf t), .int .i64 n, .int .u64 kp] 33)) wr.heap.size 33 [.int .i64 k, .string (strOf p), .string (strOf t), .int .i64 n, .int .u64 kp] from Blk.new wr _ _)
                have K2 := Kept.mk (KK.out.1.ext hX)
                have KT2 := Kept.mk (KK.out.2.1.ext hX)
                have KJ2 := Kept.mk KK.out.2.2
                clear hX c0 c1 c2 c3 c4 KK
                generalize wr.heap.size = xg at *
                generalize wr.alloc (.cells #[.int .i64 k, .string (strOf p), .string (strOf t), .int .i64 n, .int .u64 kp] 33) = wx at *
                have x0 := Kx.out.cell 0
                have x1 := Kx.out.cell 1
                have x2 := Kx.out.cell 2
                simp only [List.getElem?_cons_zero, List.getElem?_cons_succ] at x0 x1 x2
                by_cases hk1 : k < 1
                · have Kn : Kept (Kst w wx g [bt, bw, bo, cb] cb bo bw cn ck (i0 + (i2 + 1)) d L0 lw ∧ MapOf strK boolK wx bt lt ∧ Jk lw lt L0 d) := Kept.mk ⟨⟨K2.out.at1, K2.out.b.mono (by omega), K2.out.cut, K2.out.mo, K2.out.mw, K2.out.ne, K2.out.pc, K2.out.po, K2.out.pw, K2.out.lo_⟩, KT2.out, KJ2.out⟩
                  go_wp2_with fail
                  go_roundg (gk - 1)
                  case measure => have := Kq.out; omega
                  case rel => exact ⟨i2 + 1, d, lw, lt, by have := Kq.out; omega, by first | rfl | simp, Kn⟩
                by_cases hk3 : (3 : Int) < k
                · have Kn : Kept (Kst w wx g [bt, bw, bo, cb] cb bo bw cn ck (i0 + (i2 + 1)) d L0 lw ∧ MapOf strK boolK wx bt lt ∧ Jk lw lt L0 d) := Kept.mk ⟨⟨K2.out.at1, K2.out.b.mono (by omega), K2.out.cut, K2.out.mo, K2.out.mw, K2.out.ne, K2.out.pc, K2.out.po, K2.out.pw, K2.out.lo_⟩, KT2.out, KJ2.out⟩
                  go_wp2_with fail
                  go_roundg (gk - 1)
                  case measure => have := Kq.out; omega
                  case rel => exact ⟨i2 + 1, d, lw, lt, by have := Kq.out; omega, by first | rfl | simp, Kn⟩
                go_wp2_with (at_mapUpdate; refine wpList_put_of (kv := strK) (ev := boolK) wx rfl (.tmp 131) (.tmp 133) (.const (.bool true)) 65 rfl 9 4 keySok Try.underlying65 bt lt KT2.out rfl p true rfl rfl ?_)
                intro wy hmy hty hsy
                have K3 := Kept.mk (K2.out.putT KT2.out (by simp) Kbt.out.1 Kbt.out.2 hty)
                have KT3 := Kept.mk hmy
                have Kx3 := Kept.mk (Kx.out.touch hty (by rw [List.mem_singleton]; exact blk_map Kx.out KT2.out))
                have KJ3 := Kept.mk (KJ2.out.more (fun x h => h) (fun x h => inP_more p h))
                have Kip := Kept.mk (inP_put lt p p (.inr rfl))
                clear hmy hty hsy x0 x1 x2 K2 KT2 KJ2 Kx
                generalize putK lt p true = lt2 at *
                have x0 := Kx3.out.cell 0
                have x1 := Kx3.out.cell 1
                have x2 := Kx3.out.cell 2
                have x3 := Kx3.out.cell 3
                have x4 := Kx3.out.cell 4
                simp only [List.getElem?_cons_zero, List.getElem?_cons_succ] at x0 x1 x2 x3 x4
                rcases (show k = 1 ∨ k = 2 ∨ k = 3 by omega) with hkk | hkk | hkk
                · subst hkk
                  go_wp2_with (at_mapUpdate; refine wpList_put_of (kv := strK) (ev := boolK) wy rfl (.tmp 137) (.tmp 139) (.const (.bool true)) 65 rfl 9 4 keySok Try.underlying65 bw lw K3.out.mw rfl t true rfl rfl ?_)
                  intro wz hmz htz hsz
                  have K4 := Kept.mk (K3.out.putW hmz htz)
                  have KT4 := Kept.mk (KT3.out.touch htz (by rw [List.mem_singleton]; exact Ne.symm Kbt.out.2))
                  have Kx4 := Kept.mk (Kx3.out.touch htz (by rw [List.mem_singleton]; exact blk_map Kx3.out K3.out.mw))
                  have KJ4 := Kept.mk (KJ3.out.more (fun x h => inP_more t h) (fun x h => h))
                  have KStp := Kept.mk (jk_step KJ4.out Kdd.out ⟨1, p, t, n, kp⟩ (by simp) (by simp) Kip.out (fun _ => inP_put lw t t (.inr rfl)) (fun h => by simp at h))
                  clear hmz htz hsz x0 x1 x2 x3 x4 K3 KT3 KJ3 Kx3 KJ4
                  generalize putK lw t true = lw2 at *
                  have x0 := Kx4.out.cell 0
                  have x1 := Kx4.out.cell 1
                  have x2 := Kx4.out.cell 2
                  have x3 := Kx4.out.cell 3
                  have x4 := Kx4.out.cell 4
                  simp only [List.getElem?_cons_zero, List.getElem?_cons_succ] at x0 x1 x2 x3 x4
                  have KAc := Kept.mk (act_at1 K4.out.at1 (i0 + i2) K4.out.b Ki9.out ⟨1, p, t, n, kp⟩ Kok.out Ksq.out.1 Ksq.out.2)
                  have Kb1 := Kept.mk (K4.out.b.act Kok.out Ksq.out.1 Ksq.out.2)
                  simp only [actV] at KAc
                  go_wp2_with fail
                  refine KAc.out.mono ?_
                  rintro e w7 ⟨v, rfl, hbuf, hA, hKB⟩
                  obtain ⟨vA, vc, hv⟩ := hbuf.form
                  subst hv
                  have Kn : Kept (Kst w w7 g [bt, bw, bo, cb] cb bo bw cn ck (i0 + (i2 + 1)) (actP d ⟨1, p, t, n, kp⟩).2 L0 lw2 ∧ MapOf strK boolK w7 bt lt2 ∧ Jk lw2 lt2 L0 (actP d ⟨1, p, t, n, kp⟩).2) := Kept.mk ⟨K4.out.disk hA hKB (Kb1.out.mono (by omega)), keep_mapOf KT4.out hKB (by simp), KStp.out⟩
                  clear hbuf hA hKB KAc x0 x1 x2 x3 x4 K4 KT4 Kx4 KStp
                  generalize (actP d ⟨1, p, t, n, kp⟩).1.2.2 = f at *
                  generalize (actP d ⟨1, p, t, n, kp⟩).1.1 = sx at *
                  go_wp2_with fail
                  go_roundg (gk - 1)
                  case measure => have := Kq.out; omega
                  case rel => exact ⟨i2 + 1, _, _, _, by have := Kq.out; omega, by first | rfl | simp, Kn⟩
                · subst hkk
                  go_wp2_with (at_mapUpdate; refine wpList_put_of (kv := strK) (ev := boolK) wy rfl (.tmp 143) (.tmp 145) (.const (.bool true)) 65 rfl 9 4 keySok Try.underlying65 bt lt2 KT3.out rfl t true rfl rfl ?_)
                  intro wz hmz htz hsz
                  have K4 := Kept.mk (K3.out.putT KT3.out (by simp) Kbt.out.1 Kbt.out.2 htz)
                  have KT4 := Kept.mk hmz
                  have Kx4 := Kept.mk (Kx3.out.touch htz (by rw [List.mem_singleton]; exact blk_map Kx3.out KT3.out))
                  have KJ4 := Kept.mk (KJ3.out.more (fun x h => h) (fun x h => inP_more t h))
                  have KStp := Kept.mk (jk_step KJ4.out Kdd.out ⟨2, p, t, n, kp⟩ (by simp) (by simp) (inP_more t Kip.out) (fun h => by simp at h) (fun _ => inP_put lt2 t t (.inr rfl)))
                  clear hmz htz hsz x0 x1 x2 x3 x4 K3 KT3 KJ3 Kx3 KJ4
                  generalize putK lt2 t true = lt3 at *
                  have x0 := Kx4.out.cell 0
                  have x1 := Kx4.out.cell 1
                  have x2 := Kx4.out.cell 2
                  have x3 := Kx4.out.cell 3
                  have x4 := Kx4.out.cell 4
                  simp only [List.getElem?_cons_zero, List.getElem?_cons_succ] at x0 x1 x2 x3 x4
                  have KAc := Kept.mk (act_at1 K4.out.at1 (i0 + i2) K4.out.b Ki9.out ⟨2, p, t, n, kp⟩ Kok.out Ksq.out.1 Ksq.out.2)
                  have Kb1 := Kept.mk (K4.out.b.act Kok.out Ksq.out.1 Ksq.out.2)
                  simp only [actV] at KAc
                  go_wp2_with fail
                  refine KAc.out.mono ?_
                  rintro e w7 ⟨v, rfl, hbuf, hA, hKB⟩
                  obtain ⟨vA, vc, hv⟩ := hbuf.form
                  subst hv
                  have Kn : Kept (Kst w w7 g [bt, bw, bo, cb] cb bo bw cn ck (i0 + (i2 + 1)) (actP d ⟨2, p, t, n, kp⟩).2 L0 lw ∧ MapOf strK boolK w7 bt lt3 ∧ Jk lw lt3 L0 (actP d ⟨2, p, t, n, kp⟩).2) := Kept.mk ⟨K4.out.disk hA hKB (Kb1.out.mono (by omega)), keep_mapOf KT4.out hKB (by simp), KStp.out⟩
                  clear hbuf hA hKB KAc x0 x1 x2 x3 x4 K4 KT4 Kx4 KStp
                  generalize (actP d ⟨2, p, t, n, kp⟩).1.2.2 = f at *
                  generalize (actP d ⟨2, p, t, n, kp⟩).1.1 = sx at *
                  go_wp2_with fail
                  go_roundg (gk - 1)
                  case measure => have := Kq.out; omega
                  case rel => exact ⟨i2 + 1, _, _, _, by have := Kq.out; omega, by first | rfl | simp, Kn⟩
                · subst hkk
                  have K4 := K3
                  have KT4 := KT3
                  have Kx4 := Kx3
                  have KStp := Kept.mk (jk_step KJ3.out Kdd.out ⟨3, p, t, n, kp⟩ (by simp) (by simp) Kip.out (fun h => by simp at h) (fun h => by simp at h))
                  clear x0 x1 x2 x3 x4 K3 KT3 KJ3 Kx3
                  have x0 := Kx4.out.cell 0
                  have x1 := Kx4.out.cell 1
                  have x2 := Kx4.out.cell 2
                  have x3 := Kx4.out.cell 3
                  have x4 := Kx4.out.cell 4
                  simp only [List.getElem?_cons_zero, List.getElem?_cons_succ] at x0 x1 x2 x3 x4
                  have KAc := Kept.mk (act_at1 K4.out.at1 (i0 + i2) K4.out.b Ki9.out ⟨3, p, t, n, kp⟩ Kok.out Ksq.out.1 Ksq.out.2)
                  have Kb1 := Kept.mk (K4.out.b.act Kok.out Ksq.out.1 Ksq.out.2)
                  simp only [actV] at KAc
                  go_wp2_with fail
                  refine KAc.out.mono ?_
                  rintro e w7 ⟨v, rfl, hbuf, hA, hKB⟩
                  obtain ⟨vA, vc, hv⟩ := hbuf.form
                  subst hv
                  have Kn : Kept (Kst w w7 g [bt, bw, bo, cb] cb bo bw cn ck (i0 + (i2 + 1)) (actP d ⟨3, p, t, n, kp⟩).2 L0 lw ∧ MapOf strK boolK w7 bt lt2 ∧ Jk lw lt2 L0 (actP d ⟨3, p, t, n, kp⟩).2) := Kept.mk ⟨K4.out.disk hA hKB (Kb1.out.mono (by omega)), keep_mapOf KT4.out hKB (by simp), KStp.out⟩
                  clear hbuf hA hKB KAc x0 x1 x2 x3 x4 K4 KT4 Kx4 KStp
                  generalize (actP d ⟨3, p, t, n, kp⟩).1.2.2 = f at *
                  generalize (actP d ⟨3, p, t, n, kp⟩).1.1 = sx at *
                  go_wp2_with fail
                  go_roundg (gk - 1)
                  case measure => have := Kq.out; omega
                  case rel => exact ⟨i2 + 1, _, _, _, by have := Kq.out; omega, by first | rfl | simp, Kn⟩
              · have hltJ : ¬ (i2 : Int) < (len2 : Int) := by omega
                have Kib2 := Kept.mk (show i0 + i2 ≤ 600 from by have := Kfew2.out.len; have := Kl2.out; have := Kib0.out; omega)
                have q0 := KK.out.1.cut.cell 1
                simp only [List.getElem?_cons_zero, List.getElem?_cons_succ] at q0
                obtain ⟨q1, q2, q3⟩ := jk_cut KK.out.2.2 Kdd.out ck
                have Kq1 := Kept.mk q1
                have KAr := Kept.mk (arm_at1 KK.out.1.at1 1 ck)
                have Kb1 := Kept.mk (KK.out.1.b.arm 1 ck (by decide) Kcw.out.2)
                have Kb2 := Kept.mk Kb1.out.sync
                have Kj2 := Kept.mk (And.intro q2 q3)
                clear q1 q2 q3
                go_wp2_with fail
                refine KDn.out.mono ?_
                rintro e wq ⟨rfl, rfl⟩
                clear KDn
                go_wp2_with fail
                refine KAr.out.mono ?_
                rintro e w9 ⟨rfl, hA, hK⟩
                have K9 := Kept.mk (KK.out.1.disk hA hK Kb1.out)
                have KT9 := Kept.mk (keep_mapOf KK.out.2.1 hK (by simp))
                clear hA hK KAr KK q0
                have KSy := Kept.mk (sync_at1 K9.out.at1 (i0 + i2) Kb1.out (by have := Kib2.out; omega))
                rw [Kq1.out] at KSy
                generalize (syncP (armP d 1 ck)).2 = d2 at *
                go_wp2_with fail
                refine KSy.out.mono ?_
                rintro e wa ⟨rfl, hA, hK⟩
                have KK : Kept (Kst w wa g [bt, bw, bo, cb] cb bo bw cn ck (i0 + i2) d2 L0 lw ∧ MapOf strK boolK wa bt lt ∧ Jk lw lt L0 d2) := Kept.mk ⟨K9.out.disk hA hK Kb2.out, keep_mapOf KT9.out hK (by simp), Kj2.out.1⟩
                clear hA hK KSy K9 KT9 Kdd
                have Kdd := Kept.mk Kj2.out.2
                obtain ⟨e1, e2, e3⟩ := jk_seen KK.out.2.2 Kdd.out
                have Ke1 := Kept.mk e1
                have Ke2 := Kept.mk e2
                have Ke3 := Kept.mk e3
                have KG := Kept.mk KK.out.2.2.g
                have KSt := Kept.mk (start_at1 KK.out.1.at1)
                have Kb3 := Kept.mk KK.out.1.b.start
                clear e1 e2 e3
                go_wp2_with fail
                refine KSt.out.mono ?_
                rintro e wb ⟨rfl, hA, hK⟩
                have K5 := Kept.mk (KK.out.1.disk hA hK Kb3.out)
                have KT5 := Kept.mk (keep_mapOf KK.out.2.1 hK (by simp))
                have Kg3 : Kept (Good lw lt L0 (seenP (startP d2))) := Kept.mk (by rw [Ke1.out]; exact KG.out)
                clear hA hK KSt KK Ke1 KG
                generalize startP d2 = d3 at *
                have Kkeys3 := Kept.mk (list_keys Ke2.out)
                have KLd := Kept.mk (list_at K5.out.at1.at0 (i0 + i2) Kb3.out (by have := Kib2.out; omega) [] (by simp))
                go_wp2_with fail
                refine KLd.out.mono ?_
                rintro e wc ⟨v5, rfl, hb5, hE5⟩
                rw [Kkeys3.out] at hb5
                obtain ⟨nA, nc, hv5⟩ := hb5.form
                subst hv5
                obtain ⟨nl, hnl⟩ : ∃ nl, nl = (seenP d3).length := ⟨_, rfl⟩
                have Knl := Kept.mk hnl
                have hnlb : nl ≤ 1048576 := by rw [hnl]; exact Nat.le_trans Kb3.out.seen.len (by have := Kib2.out; omega)
                rw [List.length_map, List.length_map, ← hnl] at hb5 ⊢
                have Kb5 := Kept.mk hb5
                have K6 := Kept.mk (K5.out.ext hE5)
                have KT6 := Kept.mk (KT5.out.ext hE5)
                clear hb5 hE5 KLd K5 KT5 hnl
                go_wp2_with fail
                go_loopg [18] nl (fun q iv wi => ∃ i : Nat, i + q = nl ∧ iv = .int .i64 (i : Int) ∧ Kept (Ext wc wi))
                case atStart => exact ⟨0, by omega, rfl, Kept.mk (Ext.refl _)⟩
                case round =>
                  obtain ⟨j, hq3, rfl, KE⟩ := hrel
                  have Kq3 := Kept.mk hq3
                  have hjl : j ≤ nl := by omega
                  clear hq3
                  by_cases hlt3 : j < nl
                  · have hltK : (j : Int) < (nl : Int) := by omega
                    have hj2 : j < (seenP d3).length := by rw [← Knl.out]; exact hlt3
                    have hj3 : j < ((seenP d3).map (·.1)).length := by rw [List.length_map]; exact hj2
                    obtain ⟨b, off, rfl, -, hc⟩ := (buf_rd Kb5.out).get (by decide) (i := j) hj3
                    have s0 := KE.out.cell (hc 0 (.string (strOf ((seenP d3).map (·.1))[j])) rfl)
                    rw [Nat.add_zero, Nat.mul_one, List.getElem_map] at s0
                    have KR1 := Kept.mk (read_at (K6.out.at1.at0.ext KE.out) ((seenP d3)[j]).1)
                    rw [read_at_i Ke2.out Kb3.out.upSeen hj2] at KR1
                    have hin := Kg3.out.t _ (List.getElem_mem hj2)
                    generalize (seenP d3)[j] = f at *
                    obtain ⟨p, t⟩ := f
                    simp only at s0 KR1 hin
                    have hl := (K6.out.mw.ext KE.out).look (P := Try.prog) keySok Try.underlying65 (zeroB wr) t
                    rw [show getK lw t = some true from hin] at hl
                    simp only [Option.map_some, Option.getD_some, strK, boolK] at hl
                    clear hc hin hj2 hj3
                    go_wp2_with fail
                    refine KR1.out.mono ?_
                    rintro e wq ⟨rfl, rfl⟩
                    clear KR1
                    go_wp2_with fail
                    go_roundg (gk - 1)
                    case measure => have := Kq3.out; omega
                    case rel => exact ⟨j + 1, by have := Kq3.out; omega, by first | rfl | simp, KE⟩
                  · have hltK : ¬ (j : Int) < (nl : Int) := by omega
                    have K7 := Kept.mk (K6.out.ext KE.out)
                    have KT7 := Kept.mk (KT6.out.ext KE.out)
                    clear K6 KT6 Kb5
                    go_wp2_with (refine wpList_range_of (kv := strK) (ev := strK) wr rfl (.tmp 183) 64 rfl 9 9 Try.underlying64 bo L0 K7.out.mo rfl ?_)
                    intro wd hi hE hs
                    have hbt := KT7.out.lt
                    have KI : Kept (IterOf strK strK wd bo wr.heap.size L0 L0 ∧ At1 w wd g d3 [wr.heap.size] ∧ MapOf strK boolK wd bt lt) := Kept.mk
                      ⟨hi, K7.out.at1.at0.beside hE (fun j hj => by rw [List.mem_singleton] at hj; subst hj; omega), KT7.out.ext hE⟩
                    have Kir := Kept.mk (show w.heap.size ≤ wr.heap.size ∧ bt < wr.heap.size from ⟨K7.out.at1.at0.all.size, hbt⟩)
                    have Kmem := Kept.mk (show ∀ f ∈ L0, getK L0 f.1 = some f.2 from fun f hf => getK_of_mem Kob.out.nodup hf)
                    clear hi hE hs hbt K7 KT7
                    generalize wr.heap.size = ir at *
                    go_wp2_with fail
                    go_loopg [21] L0.length (fun q u21 wi => ∃ todo : List F, todo.length = q ∧ (∀ f ∈ todo, f ∈ L0) ∧ Kept (IterOf strK strK wi bo ir L0 todo ∧ At1 w wi g d3 [ir] ∧ MapOf strK boolK wi bt lt))
                    case atStart => exact ⟨L0, rfl, fun f hf => hf, KI⟩
                    case round =>
                      obtain ⟨todo, hr4, hsub, KJ⟩ := hrel
                      have Kr4 := Kept.mk hr4
                      have Ksub := Kept.mk hsub
                      clear hr4 hsub KI
                      go_wp2_with (refine wpList_next_of (kv := strK) (ev := strK) wr rfl (.tmp 184) rfl bo ir L0 todo KJ.out.1 rfl ?_ ?_)
                      · intro h0
                        clear h0
                        have KWt := Kept.mk (waiting_at KJ.out.2.1.at0)
                        rw [Ke3.out] at KWt
                        have KEe := Kept.mk KJ.out.2.1.at0.all
                        go_wp2_with fail
                        refine KWt.out.mono ?_
                        rintro e wq ⟨rfl, rfl⟩
                        go_wp2_with fail
                        go_ret
                        exact ⟨rfl, KEe.out⟩
                      · intro pr p t post w' htd hi' hT hsz hent
                        have Kin := Kept.mk (Kmem.out (p, t) (Ksub.out _ (by rw [htd]; simp)))
                        have Kq4 := Kept.mk (show todo.length = (pr ++ post).length + 1 from by rw [htd]; simp; omega)
                        have Ksub2 := Kept.mk (show ∀ f ∈ pr ++ post, f ∈ L0 from fun f hf => Ksub.out f (by rw [htd]; simp only [List.mem_append, List.mem_cons] at hf ⊢; rcases hf with h | h; exact .inl h; exact .inr (.inr h)))
                        have KJ2 : Kept (IterOf strK strK w' bo ir L0 (pr ++ post) ∧ At1 w w' g d3 [ir] ∧ MapOf strK boolK w' bt lt) := Kept.mk
                          ⟨hi', KJ.out.2.1.touchP hT (fun j hj => ⟨hj, by rw [List.mem_singleton] at hj; subst hj; exact Kir.out.1⟩), KJ.out.2.2.touch hT (by have := Kir.out.2; simp; omega)⟩
                        have KR1 := Kept.mk (read_at KJ2.out.2.1.at0 p)
                        have hl := KJ2.out.2.2.look (P := Try.prog) keySok Try.underlying65 (zeroB w') p
                        have hl2 := KJ2.out.1.map.look (P := Try.prog) keySok Try.underlying64 (zeroS w') p
                        rw [show getK L0 p = some t from Kin.out] at hl2
                        rw [show ((getK lt p).map boolK).getD (.bool false) = .bool ((getK lt p).getD false) from by cases getK lt p <;> rfl] at hl
                        simp only [Option.map_some, Option.getD_some, strK] at hl hl2 hent ⊢
                        have Kun : Kept ((getK lt p).getD false = false → readP d3 p = (t, 0)) := Kept.mk (fun hf => by
                          have hn : ¬ inP lt p := fun hh => by unfold inP at hh; rw [hh] at hf; cases hf
                          have hg := (Kg3.out.p p hn).trans Kin.out
                          unfold readP
                          rw [Ke2.out, if_neg (by decide), hg])
                        clear hi' hT hsz htd KJ
                        cases htb : (getK lt p).getD false with
                        | true =>
                          rw [htb] at hl
                          clear htb Kun
                          generalize (readP d3 p).1 = r1 at *
                          generalize (readP d3 p).2 = r2 at *
                          go_wp2_with fail
                          refine KR1.out.mono ?_
                          rintro e wq ⟨rfl, rfl⟩
                          clear KR1
                          go_wp2_with fail
                          go_roundg (gk - 1)
                          case measure => have := Kr4.out; have := Kq4.out; omega
                          case rel => exact ⟨pr ++ post, by have := Kr4.out; have := Kq4.out; omega, Ksub2.out, KJ2⟩
                        | false =>
                          rw [htb] at hl
                          rw [Kun.out htb] at KR1
                          clear htb Kun
                          go_wp2_with fail
                          refine KR1.out.mono ?_
                          rintro e wq ⟨rfl, rfl⟩
                          clear KR1
                          go_wp2_with fail
                          go_roundg (gk - 1)
                          case measure => have := Kr4.out; have := Kq4.out; omega
                          case rel => exact ⟨pr ++ post, by have := Kr4.out; have := Kq4.out; omega, Ksub2.out, KJ2⟩
end Disk
end Go.Proofs.Ytjphmjegfpdbeaa
