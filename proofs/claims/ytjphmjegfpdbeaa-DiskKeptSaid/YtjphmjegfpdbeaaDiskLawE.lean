/- The law DiskSynced. No condition. -/
import Derived.Test.YtjphmjegfpdbeaaDiskLawD
import Derived.Test.YtjphmjegfpdbeaaDiskL
namespace Go.Proofs.Ytjphmjegfpdbeaa
open Go.RowKit
namespace Disk
open Str
set_option linter.unusedSimpArgs false
set_option linter.unusedVariables false
theorem arm_at1 {w wi : World} {g : Nat} {d : Dk} {P : List Nat} (h : At1 w wi g d P) (c k : Int) :
    Calls Try.prog 30 #[.pointer (some ⟨g, 0, none⟩), .agg #[.int .i64 c, .int .u64 k]] wi fun e w' => e = .returned (.tuple #[]) ∧ At1 w w' g (armP d c k) P ∧ KeepB P wi w' := by
  obtain ⟨D, h1, h2⟩ := h.step
  exact (arm_any wi _ D g d h1 c k).mono fun e w' ⟨he, ha⟩ => ⟨he, h2 _ _ ha⟩
theorem start_at1 {w wi : World} {g : Nat} {d : Dk} {P : List Nat} (h : At1 w wi g d P)  :
    Calls Try.prog 31 #[.pointer (some ⟨g, 0, none⟩)] wi fun e w' => e = .returned (.tuple #[]) ∧ At1 w w' g (startP d) P ∧ KeepB P wi w' := by
  obtain ⟨D, h1, h2⟩ := h.step
  exact (start_any wi _ D g d h1).mono fun e w' ⟨he, ha⟩ => ⟨he, h2 _ _ ha⟩
theorem act_at1 {w wi : World} {g : Nat} {d : Dk} {P : List Nat} (h : At1 w wi g d P) (n : Nat) (hb : DkB n d) (hn : n + 1 ≤ 1048576) (a : Act) (ha : ActOk a) (hp : a.p.length ≤ SZ) (ht : a.t.length ≤ SZ) :
    Calls Try.prog 11 #[.pointer (some ⟨g, 0, none⟩), .agg (actV a).toArray] wi fun e w' => ∃ v, e = .returned (.tuple #[.string (strOf (actP d a).1.1), v, .int .i64 (actP d a).1.2.2]) ∧ Buf w' wi.heap.size 9 v ((actP d a).1.2.1.map tV) ∧ At1 w w' g (actP d a).2 P ∧ KeepB P wi w' := by
  obtain ⟨D, h1, h2⟩ := h.step
  exact (act_any wi _ D g d n a h1 hb hn ha hp ht).mono fun e w' ⟨v, he, hb, ha⟩ => ⟨v, he, hb, h2 _ _ ha⟩
theorem keep_bufS {s : Nat} {w w' : World} {B : Nat} {e : TypeId} {v : Value} {css : List (List Value)} {P : List Nat} (h : BufS s w B e v css) (k : KeepB P w w') (hP : ∀ j ∈ own v, j ∈ P) : BufS s w' B e v css := by
  obtain ⟨A, cap, rfl, h1, h2, h3, h4, h5⟩ := h
  refine ⟨A, cap, rfl, h1, h2, h3, fun j hj => ⟨(h4 j hj).1, Nat.lt_of_lt_of_le (h4 j hj).2 k.size⟩, ?_⟩
  rcases h5 with h5 | ⟨b, off, cs, rfl, ⟨fz, hb, hf⟩, h6, h7⟩
  · exact .inl h5
  · exact .inr ⟨b, off, cs, rfl, ⟨fz, (k.block b (hP b (by simp [own]))).trans hb, hf⟩, h6, h7⟩
theorem keep_map {w w' : World} {b : Nat} {L : List F} {P : List Nat} (h : FMap w b L) (k : KeepB P w w') (hP : b ∈ P) : FMap w' b L := by
  obtain ⟨h1, l, h2, h3⟩ := h
  exact ⟨h1, l, h2.block (k.block b hP), h3⟩
/-- The other disk stays as it was. -/
theorem DkAt.keep {w w' : World} {B : Nat} {D : List Nat} {g : Nat} {d : Dk} (h : DkAt w B D g d) (k : KeepB D w w') : DkAt w' B D g d := by
  obtain ⟨hg, bl, bs, v, h1, h2⟩ := h
  exact ⟨hg, bl, bs, v, (k.block g hg).trans h1, keep_map h2.fl k h2.dl, keep_map h2.fs k h2.ds, keep_bufS h2.wb k h2.dv, h2.dl, h2.ds, h2.dv, h2.ne, fun j hj => ⟨(h2.lo j hj).1, Nat.lt_of_lt_of_le (h2.lo j hj).2 k.size⟩⟩
/-- Up, and no cut armed. -/
structure Ju (d : Dk) : Prop where
  cnt : d.cnt = 0
  up : d.down = false
theorem ju_step {d : Dk} (h : Ju d) (a : Act) (h1 : 1 ≤ a.k) (h3 : a.k ≤ 3) : Ju (actP d a).2 ∧ (actP d a).2.lies = d.lies := by
  rcases (show a.k = 1 ∨ a.k = 2 ∨ a.k = 3 by omega) with hk | hk | hk
  · have e : actP d a = (([], [], (writeP d a.p a.t).1), (writeP d a.p a.t).2) := by unfold actP; rw [if_pos hk]
    rw [e]
    rcases write_or h.cnt h.up a.p a.t with ⟨c, _, e2⟩ | ⟨e2, h2⟩ <;> rw [e2] <;> exact ⟨⟨h.cnt, h.up⟩, rfl⟩
  · have e : actP d a = (([], [], (renameP d a.p a.t).1), (renameP d a.p a.t).2) := by unfold actP; rw [if_neg (by omega), if_pos hk]
    rw [e]
    rcases rename_or h.cnt h.up a.p a.t with ⟨c, _, e2⟩ | ⟨e2, h2⟩ <;> rw [e2] <;> exact ⟨⟨h.cnt, h.up⟩, rfl⟩
  · have e : actP d a = (([], [], (removeP d a.p).1), (removeP d a.p).2) := by unfold actP; rw [if_neg (by omega), if_neg (by omega), if_pos hk]
    rw [e]
    rcases remove_or h.cnt h.up a.p with ⟨_, e2⟩ | ⟨_, e2⟩ <;> rw [e2] <;> exact ⟨⟨h.cnt, h.up⟩, rfl⟩
theorem keep_none (b : Nat → Bool) (hb : ∀ i, b i = false) : ∀ (rs : List Eff) (i : Nat) (l : List F), keepP b i rs l = l
  | [], _, _ => rfl
  | e :: r, i, l => by
    unfold keepP
    rw [hb i, if_neg (by decide)]
    exact keep_none b hb r (i + 1) l
/-- A sync at which the power fails, nothing kept. -/
theorem sync_cut {d : Dk} (h : Ju d) : (syncP (armP d 1 0)).1 = 8 ∧ seenP (startP (syncP (armP d 1 0)).2) = d.lies ∧ (startP (syncP (armP d 1 0)).2).down = false := by
  have e1 : armP d 1 0 = { d with cnt := 1, keep := 0 } := rfl
  have e2 : callP (armP d 1 0) = (failP (armP d 1 0), true) := by rw [e1]; rfl
  have e3 : syncP (armP d 1 0) = (8, failP (armP d 1 0)) := by
    unfold syncP
    rw [if_neg (by rw [e1]; simp only; rw [h.up]; decide), e2]
    rfl
  rw [e3]
  refine ⟨rfl, ?_, rfl⟩
  show (failP (armP d 1 0)).lies = d.lies
  unfold failP
  rw [e1]
  exact keep_none _ bit_zero _ _ _
theorem read_list {d : Dk} (hd : d.down = false) {p : S} (h : p ∈ listD d []) : ∃ t, readP d p = (t, 0) := by
  unfold listD at h
  rw [hd, if_neg (by decide)] at h
  unfold listP at h
  have h1 := (List.mem_filter.1 h).1
  obtain ⟨f, hf, rfl⟩ := List.mem_map.1 h1
  unfold readP
  rw [hd, if_neg (by decide)]
  cases hg : getK (seenP d) f.1 with
  | none =>
    rw [getK_none] at hg
    exact absurd (List.mem_map.2 ⟨f, hf, rfl⟩) hg
  | some t => exact ⟨t, rfl⟩
/-- Behind some acts, beside other blocks. -/
structure SyAt (w wi : World) (g : Nat) (i : Nat) (d : Dk) (P : List Nat) (L : List F) : Prop where
  at1 : At1 w wi g d P
  b : DkB i d
  j : Ju d
  l : L = d.lies
set_option maxRecDepth 100000 in
set_option maxHeartbeats 16000000 in
theorem synced_law (w : World) (a : Option Addr) (len cap : Nat) (zs : List Act) (h : InActs w a len cap zs) (a2 : Option Addr) (len2 cap2 : Nat) (zs2 : List Act) (h2 : InActs w a2 len2 cap2 zs2) :
    Calls Try.prog 7 #[.slice a len cap, .slice a2 len2 cap2] w fun e w1 => e = .returned (.bool true) ∧ Below w.heap.size w w1 := by
  have hr := h.rd
  have hzl : len = zs.length := by have := h.1.1; rw [List.length_map] at this; exact this.symm
  have KR := Kept.mk hr
  have Kz := Kept.mk h.2
  have Kl := Kept.mk hzl
  have hlm : len ≤ 9223372036854775807 := by have := hr.le; rw [List.length_map] at this; omega
  have hr2 := h2.rd
  have hzl2 : len2 = zs2.length := by have := h2.1.1; rw [List.length_map] at this; exact this.symm
  have KR2 := Kept.mk hr2
  have Kz2 := Kept.mk h2.2
  have Kl2 := Kept.mk hzl2
  have hlm2 : len2 ≤ 9223372036854775807 := by have := hr2.le; rw [List.length_map] at this; omega
  have KAW := Kept.mk (awake_any w)
  clear hr h hzl hr2 h2 hzl2
  go_enter Try.func7, Try.ntmps7
  go_wp2_with fail
  refine KAW.out.mono ?_
  rintro e w1 ⟨rfl, hE1⟩
  have KE1 := Kept.mk hE1
  clear hE1 KAW
  have KF := Kept.mk (few_any w1 (.slice a len cap) zs (KR.out.ext KE1.out) Kz.out)
  go_wp2_with fail
  refine KF.out.mono ?_
  rintro e w2 ⟨r, rfl, hfew, hE2⟩
  have KE2 := Kept.mk (KE1.out.trans hE2)
  clear hE2 KF
  cases r with
  | false =>
    clear hfew
    go_wp2_with fail
    go_ret
    exact ⟨rfl, KE2.out⟩
  | true =>
  have Kfew := Kept.mk (hfew rfl)
  clear hfew
  have KF := Kept.mk (few_any w2 (.slice a2 len2 cap2) zs2 (KR2.out.ext KE2.out) Kz2.out)
  go_wp2_with fail
  refine KF.out.mono ?_
  rintro e w3 ⟨r, rfl, hfew, hE3⟩
  have KE3 := Kept.mk (KE2.out.trans hE3)
  clear hE3 KF
  cases r with
  | false =>
    clear hfew
    go_wp2_with fail
    go_ret
    exact ⟨rfl, KE3.out⟩
  | true =>
  have Kfew2 := Kept.mk (hfew rfl)
  clear hfew
  have KN := Kept.mk (new_at 100000 (by omega) (by omega) w w3 KE3.out)
  go_wp2_with fail
  refine KN.out.mono ?_
  rintro e w4 ⟨g, rfl, hA⟩
  have KA : Kept (SyAt w w4 g 0 (newP 100000) [] []) := Kept.mk ⟨hA.beside (Ext.refl _) (by simp), DkB.new 100000 (by decide), ⟨rfl, rfl⟩, rfl⟩
  clear hA KN
  go_wp2_with fail
  go_loopg [7] len (fun q iv wi => ∃ (i : Nat) (d : Dk), i + q = len ∧ iv = .int .i64 (i : Int) ∧ Kept (SyAt w wi g i d [] []))
  case atStart => exact ⟨0, _, by omega, rfl, KA⟩
  case round =>
    obtain ⟨i, d, hq, rfl, KK⟩ := hrel
    have Kq := Kept.mk hq
    have hil : i ≤ len := by omega
    clear hq KA
    by_cases hlt : i < len
    · have hltI : (i : Int) < (len : Int) := by omega
      have hi2 : i < zs.length := by rw [← Kl.out]; exact hlt
      have Ki9 := Kept.mk (show i + 1 ≤ 1048576 from by have := Kfew.out.len; omega)
      obtain ⟨b, off, rfl, -, hc⟩ := KR.out.get (by decide) (i := i) hi2
      have hE := KK.out.at1.at0.all
      have c0 := hE.cell (hc 0 (.int .i64 zs[i].k) rfl)
      have c1 := hE.cell (hc 1 (.string (strOf zs[i].p)) rfl)
      have c2 := hE.cell (hc 2 (.string (strOf zs[i].t)) rfl)
      have c3 := hE.cell (hc 3 (.int .i64 zs[i].n) rfl)
      have c4 := hE.cell (hc 4 (.int .u64 zs[i].keep) rfl)
      rw [Nat.add_zero] at c0
      have Kok := Kept.mk (Kz.out zs[i] (List.getElem_mem hi2))
      have Ksq := Kept.mk (show zs[i].p.length ≤ SZ ∧ zs[i].t.length ≤ SZ from by have := Kfew.out.each zs[i] (List.getElem_mem hi2); simp only [SZ]; omega)
      generalize zs[i] = z at *
      obtain ⟨k, p, t, n, kp⟩ := z
      simp only at c0 c1 c2 c3 c4
      clear hc hE hi2
      by_cases hk1 : (1 : Int) ≤ k
      · by_cases hk4 : k ≤ 3
        · have hk4I : k ≤ (3 : Int) := hk4
          have Kst := Kept.mk (ju_step KK.out.j ⟨k, p, t, n, kp⟩ (by simp only; omega) (by simp only; omega))
          have KAc := Kept.mk (act_at1 KK.out.at1 i KK.out.b Ki9.out ⟨k, p, t, n, kp⟩ Kok.out Ksq.out.1 Ksq.out.2)
          have Kb1 := Kept.mk (KK.out.b.act Kok.out Ksq.out.1 Ksq.out.2)
          have Kll := Kept.mk KK.out.l
          simp only [actV] at KAc
          clear KK
          go_wp2_with fail
          refine KAc.out.mono ?_
          rintro e w7 ⟨v, rfl, hbuf, hA, hKB⟩
          obtain ⟨vA, vc, hv⟩ := hbuf.form
          subst hv
          have Kn : Kept (SyAt w w7 g (i + 1) (actP d ⟨k, p, t, n, kp⟩).2 [] []) := Kept.mk ⟨hA, Kb1.out.mono (by omega), Kst.out.1, by rw [Kst.out.2]; exact Kll.out⟩
          clear hbuf hA hKB KAc c0 c1 c2 c3 c4
          generalize (actP d ⟨k, p, t, n, kp⟩).1.2.2 = f at *
          generalize (actP d ⟨k, p, t, n, kp⟩).1.1 = sx at *
          go_wp2_with fail
          go_roundg (gk - 1)
          case measure => have := Kq.out; omega
          case rel => exact ⟨i + 1, _, by have := Kq.out; omega, by first | rfl | simp, Kn⟩
        · have hk4I : ¬ k ≤ (3 : Int) := hk4
          have Kn : Kept (SyAt w wr g (i + 1) d [] []) := Kept.mk ⟨KK.out.at1, KK.out.b.mono (by omega), KK.out.j, KK.out.l⟩
          go_wp2_with fail
          go_roundg (gk - 1)
          case measure => have := Kq.out; omega
          case rel => exact ⟨i + 1, d, by have := Kq.out; omega, by first | rfl | simp, Kn⟩
      · have Kn : Kept (SyAt w wr g (i + 1) d [] []) := Kept.mk ⟨KK.out.at1, KK.out.b.mono (by omega), KK.out.j, KK.out.l⟩
        go_wp2_with fail
        go_roundg (gk - 1)
        case measure => have := Kq.out; omega
        case rel => exact ⟨i + 1, d, by have := Kq.out; omega, by first | rfl | simp, Kn⟩
    · have hltI : ¬ (i : Int) < (len : Int) := by omega
      have Kib := Kept.mk (show i ≤ 300 from by have := Kfew.out.len; have := Kl.out; omega)
      have Kat := Kept.mk KK.out.at1.at0
      have Kbd := Kept.mk KK.out.b
      have Kju := Kept.mk KK.out.j
      have KS := Kept.mk (sync_at Kat.out i Kbd.out (by have := Kib.out; omega))
      rw [sync0 Kju.out.cnt Kju.out.up] at KS
      have Kb0 := Kept.mk (show DkB i ({ d with lies := seenP d, rows := [] } : Dk) from by have := Kbd.out.sync; rwa [sync0 Kju.out.cnt Kju.out.up] at this)
      have Kj0 := Kept.mk (show Ju ({ d with lies := seenP d, rows := [] } : Dk) from ⟨Kju.out.cnt, Kju.out.up⟩)
      have Kl0 := Kept.mk (show seenP ({ d with lies := seenP d, rows := [] } : Dk) = ({ d with lies := seenP d, rows := [] } : Dk).lies from rfl)
      generalize ({ d with lies := seenP d, rows := [] } : Dk) = d0 at *
      clear KK Kat Kbd Kju
      go_wp2_with fail
      refine KS.out.mono ?_
      rintro e w5 ⟨rfl, hA⟩
      have KA5 := Kept.mk hA
      clear hA KS
      have KC := Kept.mk (copy_at KA5.out i Kb0.out (by have := Kib.out; omega))
      go_wp2_with fail
      refine KC.out.mono ?_
      rintro e w6 ⟨gc, Dc, rfl, hdc, hE6⟩
      obtain ⟨Bc, hBc⟩ : ∃ Bc, Bc = w5.heap.size := ⟨_, rfl⟩
      rw [← hBc] at hdc
      obtain ⟨i0, hi0⟩ : ∃ i0, i0 = i := ⟨_, rfl⟩
      have Kib0 := Kept.mk (show i0 ≤ 300 from by rw [hi0]; exact Kib.out)
      rw [← hi0] at Kb0
      have KA : Kept (SyAt w w6 g (i0 + 0) d0 Dc d0.lies ∧ DkAt w6 Bc Dc gc d0) := Kept.mk ⟨⟨KA5.out.beside hE6 (fun j hj => by rw [← hBc]; exact hdc.lt j hj), Kb0.out, Kj0.out, rfl⟩, hdc⟩
      clear hdc hE6 KC hi0 Kib hBc KA5
      go_wp2_with fail
      go_loopg [9] len2 (fun q iv wi => ∃ (i : Nat) (d : Dk), i + q = len2 ∧ iv = .int .i64 (i : Int) ∧ Kept (SyAt w wi g (i0 + i) d Dc d0.lies ∧ DkAt wi Bc Dc gc d0))
      case atStart => exact ⟨0, _, by omega, rfl, KA⟩
      case round =>
        obtain ⟨i, d, hq, rfl, KK⟩ := hrel
        have Kq := Kept.mk hq
        have hil : i ≤ len2 := by omega
        clear hq KA
        by_cases hlt : i < len2
        · have hltI : (i : Int) < (len2 : Int) := by omega
          have hi2 : i < zs2.length := by rw [← Kl2.out]; exact hlt
          have Ki9 := Kept.mk (show (i0 + i) + 1 ≤ 1048576 from by have := Kfew2.out.len; have := Kib0.out; omega)
          obtain ⟨b, off, rfl, -, hc⟩ := KR2.out.get (by decide) (i := i) hi2
          have hE := KK.out.1.at1.at0.all
          have c0 := hE.cell (hc 0 (.int .i64 zs2[i].k) rfl)
          have c1 := hE.cell (hc 1 (.string (strOf zs2[i].p)) rfl)
          have c2 := hE.cell (hc 2 (.string (strOf zs2[i].t)) rfl)
          have c3 := hE.cell (hc 3 (.int .i64 zs2[i].n) rfl)
          have c4 := hE.cell (hc 4 (.int .u64 zs2[i].keep) rfl)
          rw [Nat.add_zero] at c0
          have Kok := Kept.mk (Kz2.out zs2[i] (List.getElem_mem hi2))
          have Ksq := Kept.mk (show zs2[i].p.length ≤ SZ ∧ zs2[i].t.length ≤ SZ from by have := Kfew2.out.each zs2[i] (List.getElem_mem hi2); simp only [SZ]; omega)
          generalize zs2[i] = z at *
          obtain ⟨k, p, t, n, kp⟩ := z
          simp only at c0 c1 c2 c3 c4
          clear hc hE hi2
          by_cases hk1 : (1 : Int) ≤ k
          · by_cases hk4 : k ≤ 3
            · have hk4I : k ≤ (3 : Int) := hk4
              have Kst := Kept.mk (ju_step KK.out.1.j ⟨k, p, t, n, kp⟩ (by simp only; omega) (by simp only; omega))
              have KAc := Kept.mk (act_at1 KK.out.1.at1 (i0 + i) KK.out.1.b Ki9.out ⟨k, p, t, n, kp⟩ Kok.out Ksq.out.1 Ksq.out.2)
              have Kb1 := Kept.mk (KK.out.1.b.act Kok.out Ksq.out.1 Ksq.out.2)
              have Kll := Kept.mk KK.out.1.l
              have Kcc := Kept.mk KK.out.2
              simp only [actV] at KAc
              clear KK
              go_wp2_with fail
              refine KAc.out.mono ?_
              rintro e w7 ⟨v, rfl, hbuf, hA, hKB⟩
              obtain ⟨vA, vc, hv⟩ := hbuf.form
              subst hv
              have Kn : Kept (SyAt w w7 g (i0 + (i + 1)) (actP d ⟨k, p, t, n, kp⟩).2 Dc d0.lies ∧ DkAt w7 Bc Dc gc d0) := Kept.mk ⟨⟨hA, Kb1.out.mono (by omega), Kst.out.1, by rw [Kst.out.2]; exact Kll.out⟩, Kcc.out.keep hKB⟩
              clear hbuf hA hKB KAc c0 c1 c2 c3 c4
              generalize (actP d ⟨k, p, t, n, kp⟩).1.2.2 = f at *
              generalize (actP d ⟨k, p, t, n, kp⟩).1.1 = sx at *
              go_wp2_with fail
              go_roundg (gk - 1)
              case measure => have := Kq.out; omega
              case rel => exact ⟨i + 1, _, by have := Kq.out; omega, by first | rfl | simp, Kn⟩
            · have hk4I : ¬ k ≤ (3 : Int) := hk4
              have Kn : Kept (SyAt w wr g (i0 + (i + 1)) d Dc d0.lies ∧ DkAt wr Bc Dc gc d0) := Kept.mk ⟨⟨KK.out.1.at1, KK.out.1.b.mono (by omega), KK.out.1.j, KK.out.1.l⟩, KK.out.2⟩
              go_wp2_with fail
              go_roundg (gk - 1)
              case measure => have := Kq.out; omega
              case rel => exact ⟨i + 1, d, by have := Kq.out; omega, by first | rfl | simp, Kn⟩
          · have Kn : Kept (SyAt w wr g (i0 + (i + 1)) d Dc d0.lies ∧ DkAt wr Bc Dc gc d0) := Kept.mk ⟨⟨KK.out.1.at1, KK.out.1.b.mono (by omega), KK.out.1.j, KK.out.1.l⟩, KK.out.2⟩
            go_wp2_with fail
            go_roundg (gk - 1)
            case measure => have := Kq.out; omega
            case rel => exact ⟨i + 1, d, by have := Kq.out; omega, by first | rfl | simp, Kn⟩
        · have hltI : ¬ (i : Int) < (len2 : Int) := by omega
          have Kib := Kept.mk (show i0 + i ≤ 600 from by have := Kfew2.out.len; have := Kl2.out; have := Kib0.out; omega)
          have Kc := Kept.mk KK.out.2
          have Kbd := Kept.mk KK.out.1.b
          have Kju := Kept.mk KK.out.1.j
          have Kll := Kept.mk KK.out.1.l
          obtain ⟨q1, q2, q3⟩ := sync_cut Kju.out
          have Kq1 := Kept.mk q1
          have Kq3 := Kept.mk q3
          have KL0 := Kept.mk (show seenP (startP (syncP (armP d 1 0)).2) = seenP d0 from by
            rw [q2, Kl0.out]
            exact Kll.out.symm)
          have Kar := Kept.mk (arm_at1 KK.out.1.at1 1 0)
          have Kb1 := Kept.mk (Kbd.out.arm 1 0 (by decide) (by decide))
          have Kb2 := Kept.mk Kb1.out.sync
          have Kb3 := Kept.mk Kb1.out.sync.start
          have Kj0u := Kept.mk Kj0.out.up
          clear KK q1 q2 q3
          go_wp2_with fail
          refine Kar.out.mono ?_
          rintro e w8 ⟨rfl, hA, hK⟩
          have KA8 := Kept.mk hA
          have Kc8 := Kept.mk (Kc.out.keep hK)
          clear hA hK Kar Kc
          have KS := Kept.mk (sync_at1 KA8.out (i0 + i) Kb1.out (by have := Kib.out; omega))
          rw [Kq1.out] at KS
          have KSt := Kept.mk (fun W (h : At1 w W g (syncP (armP d 1 0)).2 Dc) => start_at1 h)
          generalize startP (syncP (armP d 1 0)).2 = d3 at *
          generalize (syncP (armP d 1 0)).2 = d2 at *
          go_wp2_with fail
          refine KS.out.mono ?_
          rintro e w9 ⟨rfl, hA, hK⟩
          have KA9 := Kept.mk hA
          have Kc9 := Kept.mk (Kc8.out.keep hK)
          clear hA hK KS KA8 Kc8
          have KD := Kept.mk (down_any w9 Bc Dc gc d0 Kc9.out)
          rw [Kj0u.out] at KD
          go_wp2_with fail
          refine KD.out.mono ?_
          rintro e wq ⟨rfl, rfl⟩
          clear KD
          go_wp2_with fail
          refine (KSt.out w9 KA9.out).mono ?_
          rintro e wa ⟨rfl, hA, hK⟩
          have KAa := Kept.mk hA.at0
          have Kca := Kept.mk (Kc9.out.keep hK)
          clear hA hK KA9 Kc9 KSt
          obtain ⟨e1, e2, e3⟩ := same_seen KL0.out (Kq3.out.trans Kj0u.out.symm)
          have Kr := Kept.mk e1
          have Kls := Kept.mk e2
          have Ktk := Kept.mk e3
          clear e1 e2 e3
          have KLd := Kept.mk (list_at KAa.out (i0 + i) Kb3.out (by have := Kib.out; omega) [] (by simp))
          go_wp2_with fail
          refine KLd.out.mono ?_
          rintro e wb ⟨v1, rfl, hb1, hE⟩
          rw [Kls.out] at hb1
          obtain ⟨lA, lc, hv1⟩ := hb1.form
          subst hv1
          obtain ⟨ll, hll⟩ : ∃ ll, ll = (listD d0 []).length := ⟨_, rfl⟩
          have Kll2 := Kept.mk hll
          rw [List.length_map, ← hll] at hb1 ⊢
          have Kb := Kept.mk hb1
          have KAb := Kept.mk (KAa.out.ext hE)
          have Kcb := Kept.mk (Kca.out.ext hE)
          have hllb : ll ≤ 9223372036854775807 := by have := (buf_rd hb1).le; rw [List.length_map] at this; omega
          clear hb1 hE KLd KAa Kca hll
          have KLc := Kept.mk (list_any wb Bc Dc gc d0 i0 [] Kcb.out Kb0.out (by have := Kib0.out; omega) (by simp))
          go_wp2_with fail
          refine KLc.out.mono ?_
          rintro e wc ⟨v2, rfl, hb2, hE⟩
          obtain ⟨l2A, l2c, hv2⟩ := hb2.form
          subst hv2
          have Kx := Kept.mk (texts_any (listD d0 []) _ _ wc (buf_rd (Kb.out.ext hE)) (buf_rd hb2))
          rw [List.length_map, ← Kll2.out] at Kx ⊢
          have KAc := Kept.mk (KAb.out.ext hE)
          have Kcc := Kept.mk (Kcb.out.ext hE)
          have Kbc := Kept.mk (Kb.out.ext hE)
          clear hb2 hE KLc KAb Kcb Kb
          go_wp2_with fail
          refine Kx.out.mono ?_
          rintro e wd ⟨rfl, hE⟩
          have KAd := Kept.mk (KAc.out.ext hE)
          have Kcd := Kept.mk (Kcc.out.ext hE)
          have Kbd2 := Kept.mk (Kbc.out.ext hE)
          clear hE Kx KAc Kcc Kbc
          have KT := Kept.mk (taken_at KAd.out (i0 + i) Kb3.out (by have := Kib.out; omega))
          rw [Ktk.out] at KT
          have htb : takenD d0 ≤ 4503599627370496 := by
            unfold takenD
            split
            · omega
            · exact Nat.le_trans Kb0.out.seen.taken (by have := Kib0.out; omega)
          generalize hT : takenD d0 = T at *
          have KTc := Kept.mk (fun W (hW : Ext wd W) => takenD_any W Bc Dc gc d0 i0 (Kcd.out.ext hW) Kb0.out (by have := Kib0.out; omega))
          rw [hT] at KTc
          clear hT
          go_wp2_with fail
          refine KT.out.mono ?_
          rintro e we ⟨rfl, hE⟩
          have KAe := Kept.mk (KAd.out.ext hE)
          have KEe := Kept.mk hE
          clear hE KT
          go_wp2_with fail
          refine (KTc.out we KEe.out).mono ?_
          rintro e wf ⟨rfl, hE⟩
          have KAf := Kept.mk (KAe.out.ext hE)
          have Kcf := Kept.mk (Kcd.out.ext (KEe.out.trans hE))
          have Kbf := Kept.mk (Kbd2.out.ext (KEe.out.trans hE))
          clear hE KTc KAe KAd Kcd Kbd2 KEe
          go_wp2_with fail
          go_loopg [11] ll (fun q iv wi => ∃ i : Nat, i + q = ll ∧ iv = .int .i64 (i : Int) ∧ Kept (Ext wf wi))
          case atStart => exact ⟨0, by omega, rfl, Kept.mk (Ext.refl _)⟩
          case round =>
            obtain ⟨j, hq, rfl, KE⟩ := hrel
            have Kq := Kept.mk hq
            have hjl : j ≤ ll := by omega
            clear hq
            by_cases hlt : j < ll
            · have hltI : (j : Int) < (ll : Int) := by omega
              have hj2 : j < (listD d0 []).length := by rw [← Kll2.out]; exact hlt
              obtain ⟨b, off, rfl, -, hc⟩ := (buf_rd Kbf.out).get (by decide) (i := j) hj2
              have s0 := KE.out.cell (hc 0 (.string (strOf (listD d0 [])[j])) rfl)
              rw [Nat.add_zero, Nat.mul_one] at s0
              obtain ⟨t, ht⟩ := read_list Kj0u.out (List.getElem_mem hj2)
              generalize (listD d0 [])[j] = x at *
              have KR1 := Kept.mk (read_at (KAf.out.ext KE.out) x)
              have KR2 := Kept.mk (read_any wr Bc Dc gc d0 x (Kcf.out.ext KE.out))
              rw [Kr.out, ht] at KR1
              rw [ht] at KR2
              clear hc ht
              go_wp2_with fail
              refine KR1.out.mono ?_
              rintro e wq ⟨rfl, rfl⟩
              go_wp2_with fail
              refine KR2.out.mono ?_
              rintro e wq ⟨rfl, rfl⟩
              clear KR1 KR2 s0
              go_wp2_with fail
              go_roundg (gk - 1)
              case measure => have := Kq.out; omega
              case rel => exact ⟨j + 1, by have := Kq.out; omega, by first | rfl | simp, KE⟩
            · have hltI : ¬ (j : Int) < (ll : Int) := by omega
              have KEe := Kept.mk (KAf.out.all.trans KE.out)
              go_wp2_with fail
              go_ret
              exact ⟨rfl, KEe.out⟩
end Disk
end Go.Proofs.Ytjphmjegfpdbeaa
