/- The document's Do, kind 2. No condition. -/
import Derived.Test.YtjphmjegfpdbeaaDiskRI1
import Derived.Test.YtjphmjegfpdbeaaDiskF
import Derived.Test.YtjphmjegfpdbeaaTail
namespace Go.Proofs.Ytjphmjegfpdbeaa
open Go.RowKit
namespace Disk
open Str
set_option linter.unusedSimpArgs false
set_option linter.unusedVariables false
set_option maxRecDepth 100000 in
set_option maxHeartbeats 64000000 in
theorem doR_2 {G : Nat → Prop} (d : Dk) (n : Nat) (hb : DkB n d) (hn : n ≤ 1048574) (p t : S) (hx : EffB ⟨2, p, t⟩) (lv rv : Value) (an ak : Int) (hak : d.cnt ≠ 0 → ak = d.keep) (w : World) (hG : ∀ j, w.heap.size ≤ j → G j) (h : RdIn G w d lv rv) : Calls Try.prog 20 #[.agg (rdV d lv rv an ak).toArray, .agg #[.int .i64 3, .string (strOf p), .string (strOf t)]] w (DoRE G w d ⟨2, p, t⟩ an ak) := by
  have KG := Kept.mk hG
  clear hG
  have hm : Try.prog.follows .mixedOrders = true := by kernel_rfl
  have KR := Kept.mk h
  have Kx0 := Kept.mk hx
  have Kb := Kept.mk hb
  have Kn := Kept.mk hn
  have Kak := Kept.mk hak
  have KS := Kept.mk (fun w1 (hE : Ext w w1) => seen_any d n hb (by omega) lv rv an ak w1 (good_ext KG.out hE) (h.ext hE))
  obtain ⟨A, nn, c, rfl⟩ := h.l.form
  obtain ⟨B, cb, hrv⟩ := h.r.form
  rw [List.length_map] at hrv
  subst hrv
  obtain ⟨m, hmm⟩ : ∃ m, m = d.rows.length := ⟨_, rfl⟩
  have Km := Kept.mk hmm
  rw [← hmm] at KR KS ⊢
  obtain ⟨dn, hdn⟩ : ∃ dn, dn = d.down := ⟨_, rfl⟩
  have Kdn := Kept.mk hdn
  have KP := Kept.mk (show d.down = false → doQ d ⟨2, p, t⟩ = (if getK (seenP d) p = none then (5, d) else waitP d ⟨2, p, t⟩) from fun h => by unfold doQ; simp [h])
  have KPd := Kept.mk (show d.down = true → doQ d ⟨2, p, t⟩ = (8, d) from fun h => by unfold doQ; simp [h])
  unfold rdV at KS ⊢
  rw [← hdn] at KS ⊢
  clear h hb hak hmm hn hdn hx
  have hE1 := Ext.alloc w (.cells #[.int .i64 d.room, .slice A nn c, .slice B m cb, .bool dn, .int .i64 an, .int .u64 ak, .int .i64 d.cnt] 49)
  have hE2 := Ext.alloc (w.alloc (.cells #[.int .i64 d.room, .slice A nn c, .slice B m cb, .bool dn, .int .i64 an, .int .u64 ak, .int .i64 d.cnt] 49)) (.cells #[.int .i64 3, .string (strOf p), .string (strOf t)] 55)
  have hE3 := Ext.alloc ((w.alloc (.cells #[.int .i64 d.room, .slice A nn c, .slice B m cb, .bool dn, .int .i64 an, .int .u64 ak, .int .i64 d.cnt] 49)).alloc (.cells #[.int .i64 3, .string (strOf p), .string (strOf t)] 55)) (.cells #[.int .i64 0, .slice none 0 0, .slice none 0 0, .bool false, .int .i64 0, .int .u64 0, .int .i64 0] 49)
  have hb1 := ((Blk.new w 49 [.int .i64 d.room, .slice A nn c, .slice B m cb, .bool dn, .int .i64 an, .int .u64 ak, .int .i64 d.cnt]).ext hE2).ext hE3
  have hb2 := (Blk.new (w.alloc (.cells #[.int .i64 d.room, .slice A nn c, .slice B m cb, .bool dn, .int .i64 an, .int .u64 ak, .int .i64 d.cnt] 49)) 55 [.int .i64 3, .string (strOf p), .string (strOf t)]).ext hE3
  have hb3 := Blk.new ((w.alloc (.cells #[.int .i64 d.room, .slice A nn c, .slice B m cb, .bool dn, .int .i64 an, .int .u64 ak, .int .i64 d.cnt] 49)).alloc (.cells #[.int .i64 3, .string (strOf p), .string (strOf t)] 55)) 49 [.int .i64 0, .slice none 0 0, .slice none 0 0, .bool false, .int .i64 0, .int .u64 0, .int .i64 0]
  have hsz : (((w.alloc (.cells #[.int .i64 d.room, .slice A nn c, .slice B m cb, .bool dn, .int .i64 an, .int .u64 ak, .int .i64 d.cnt] 49)).alloc (.cells #[.int .i64 3, .string (strOf p), .string (strOf t)] 55)).alloc (.cells #[.int .i64 0, .slice none 0 0, .slice none 0 0, .bool false, .int .i64 0, .int .u64 0, .int .i64 0] 49)).heap.size = w.heap.size + 3 := by rw [World.size_alloc, World.size_alloc, World.size_alloc]
  rw [World.size_alloc] at hb2
  rw [World.size_alloc, World.size_alloc] at hb3
  have KE := Kept.mk ((hE1.trans hE2).trans hE3)
  have Kx := Kept.mk hb1
  have Ke := Kept.mk hb2
  have Kr := Kept.mk hb3
  have Ksz := Kept.mk hsz
  clear hE1 hE2 hE3 hb1 hb2 hb3 hsz
  unfold DoRE
  go_enter Try.func20, Try.ntmps20
  go_upto_region 1 with (fail)
  have Kg := Kept.mk (show w.heap.size ≤ w.heap.size from Nat.le_refl _)
  generalize hxg : w.heap.size = xg at Kx Kr Ke Ksz Kg ⊢
  have Kxg := Kept.mk hxg
  clear hxg Kg
  generalize ((w.alloc (.cells #[.int .i64 d.room, .slice A nn c, .slice B m cb, .bool dn, .int .i64 an, .int .u64 ak, .int .i64 d.cnt] 49)).alloc (.cells #[.int .i64 3, .string (strOf p), .string (strOf t)] 55)).alloc (.cells #[.int .i64 0, .slice none 0 0, .slice none 0 0, .bool false, .int .i64 0, .int .u64 0, .int .i64 0] 49) = w1 at *
  have x3 := Kx.out.cell 3
  have e0 := Ke.out.cell 0
  have e1 := Ke.out.cell 1
  have e2 := Ke.out.cell 2
  simp only [List.getElem?_cons_zero, List.getElem?_cons_succ] at x3 e0 e1 e2
  cases dn with
  | true =>
    have KP0 := Kept.mk (show doQ d ⟨2, p, t⟩ = (8, d) from KPd.out Kdn.out.symm)
    have Krow := Kept.mk (Kr.out.row [.int .i64 d.room, .slice A nn c, .slice B m cb, .bool true, .int .i64 an, .int .u64 ak, .int .i64 d.cnt])
    have KEf := Kept.mk (store_ext KE.out (by rw [Kxg.out]; omega) (g := xg + 1 + 1) [.int .i64 d.room, .slice A nn c, .slice B m cb, .bool true, .int .i64 an, .int .u64 ak, .int .i64 d.cnt].toArray)
    clear KP KPd KS
    go_wp2_with (first | (refine wpList_load_blk (P := Try.prog) rfl 49 (.tmp 2) rfl xg rfl 49 _ Kx.out _ Try.underlying49 rfl infoRd ?_) | (refine wpList_store_blk (P := Try.prog) rfl 49 (.tmp 4) (.tmp 14) rfl rfl (xg + 1 + 1) rfl 49 _ [.int .i64 d.room, .slice A nn c, .slice B m cb, .bool true, .int .i64 an, .int .u64 ak, .int .i64 d.cnt] rfl Kr.out rfl infoRd rfl ?_))
    exact bodyPost_ret (v := _) (results_blk_slot rfl _ _ (xg + 1 + 1) 49 _ _ _ rfl rfl Krow.out Try.underlying49 rfl infoRd) rfl ⟨.slice A nn c, .slice B m cb, by rw [KP0.out]; show _ = Ending.returned (.tuple #[.agg (rdV d (.slice A nn c) (.slice B m cb) an ak).toArray, .int .i64 8]); unfold rdV; rw [← Kdn.out]; rfl, by rw [KP0.out]; exact KR.out.ext KEf.out, KEf.out⟩
  | false =>
    go_wp2_with (first | (refine wpList_load_blk (P := Try.prog) rfl 49 (.tmp 2) rfl xg rfl 49 _ Kx.out _ Try.underlying49 rfl infoRd ?_))
    refine (KS.out w1 KE.out).mono ?_
    rintro e w3 ⟨lv3, rfl, hf3, hE3⟩
    have KF := Kept.mk (find_any (seenP d) lv3 p w3 hf3.1)
    obtain ⟨A3, n3, c3, rfl⟩ := hf3.form
    have Kf3 := Kept.mk hf3
    have Kx3 := Kept.mk (Kx.out.ext hE3)
    have Kr3 := Kept.mk (Kr.out.ext hE3)
    have Ke3 := Kept.mk (Ke.out.ext hE3)
    have KE3 := Kept.mk (KE.out.trans hE3)
    have Ks3 := Kept.mk (show xg + 3 ≤ w3.heap.size ∧ w.heap.size ≤ xg from ⟨by have h1 := hE3.size; rw [Ksz.out] at h1; exact h1, by rw [Kxg.out]; exact Nat.le_refl _⟩)
    clear x3 e0 e1 e2 hE3 hf3 Kx Kr Ke KE Ksz KS
    have e0 := Ke3.out.cell 0
    have e1 := Ke3.out.cell 1
    have e2 := Ke3.out.cell 2
    simp only [List.getElem?_cons_zero, List.getElem?_cons_succ] at e0 e1 e2
    go_wp2_with fail
    have KPf := Kept.mk (KP.out Kdn.out.symm)
    clear KP KPd
    have KD := Kept.mk (done_any (seenP d) (Nat.le_trans Kb.out.seen.len (by have := Kn.out; omega)) (.slice A3 n3 c3) ⟨2, p, t⟩ (by simp) 3 rfl w3 (good_ext KG.out KE3.out) Kf3.out)
    have Kb9 := Kept.mk (Kb.out.seen.done Kx0.out)
    unfold FindE at KF
    generalize hgk : getK (seenP d) p = gg at KF KPf
    clear hgk
    refine KF.out.mono ?_
    rintro e w4 ⟨rfl, rfl⟩
    clear KF
    cases gg with
    | none =>
      have KP0 := Kept.mk (show doQ d ⟨2, p, t⟩ = (5, d) from by rw [KPf.out]; simp)
      have Krow := Kept.mk (Kr3.out.row [.int .i64 d.room, .slice A nn c, .slice B m cb, .bool false, .int .i64 an, .int .u64 ak, .int .i64 d.cnt])
      have KEf := Kept.mk (store_ext KE3.out (by have := Ks3.out; omega) (g := xg + 1 + 1) [.int .i64 d.room, .slice A nn c, .slice B m cb, .bool false, .int .i64 an, .int .u64 ak, .int .i64 d.cnt].toArray)
      clear KPf KD
      go_upto_region 8 with (fail)
      go_wp2_with (first | (refine wpList_load_blk (P := Try.prog) rfl 49 (.tmp 2) rfl xg rfl 49 _ Kx3.out _ Try.underlying49 rfl infoRd ?_) | (refine wpList_store_blk (P := Try.prog) rfl 49 (.tmp 4) (.tmp 52) rfl rfl (xg + 1 + 1) rfl 49 _ [.int .i64 d.room, .slice A nn c, .slice B m cb, .bool false, .int .i64 an, .int .u64 ak, .int .i64 d.cnt] rfl Kr3.out rfl infoRd rfl ?_))
      exact bodyPost_ret (v := _) (results_blk_slot rfl _ _ (xg + 1 + 1) 49 _ _ _ rfl rfl Krow.out Try.underlying49 rfl infoRd) rfl ⟨.slice A nn c, .slice B m cb, by rw [KP0.out]; show _ = Ending.returned (.tuple #[.agg (rdV d (.slice A nn c) (.slice B m cb) an ak).toArray, .int .i64 5]); unfold rdV; rw [← Kdn.out]; rfl, by rw [KP0.out]; exact KR.out.ext KEf.out, KEf.out⟩
    | some tt =>
      have KW := Kept.mk (show doQ d ⟨2, p, t⟩ = waitP d ⟨2, p, t⟩ from by rw [KPf.out]; simp)
      clear KPf
      go_upto_region 9 with (fail)
      go_wp2_with (first | (refine wpList_load_blk (P := Try.prog) rfl 55 (.tmp 3) rfl (xg + 1) rfl 55 _ Ke3.out _ Try.underlying55 rfl infoEffR ?_))
      refine KD.out.mono ?_
      rintro e w5 ⟨lv9, rfl, hf9, hE5⟩
      obtain ⟨A9, n9, c9, rfl⟩ := hf9.form
      have Kx5 := Kept.mk (Kx3.out.ext hE5)
      have Kr5 := Kept.mk (Kr3.out.ext hE5)
      have Ke5 := Kept.mk (Ke3.out.ext hE5)
      have KE5 := Kept.mk (KE3.out.trans hE5)
      have Ks5 := Kept.mk (show xg + 3 ≤ w5.heap.size ∧ w.heap.size ≤ xg from ⟨Nat.le_trans Ks3.out.1 hE5.size, Ks3.out.2⟩)
      have Kf9 := Kept.mk hf9
      have Kn9 := Kept.mk (show n9 = (doneP (seenP d) ⟨2, p, t⟩).length from by obtain ⟨A0, c0, h0⟩ := Rd.form hf9.1; injection h0 with h1 h2 h3; rw [List.length_map] at h2; exact h2)
      clear e0 e1 e2 hE5 hf9 Kx3 Kr3 Ke3 KE3 Ks3 KD Kf3
      have x0 := Kx5.out.cell 0
      have e0 := Ke5.out.cell 0
      simp only [List.getElem?_cons_zero, List.getElem?_cons_succ] at x0 e0
      have Kfull : Kept (fullP d ⟨2, p, t⟩ = decide ((2 : Int) ≠ 2 ∧ (4096 < (doneP (seenP d) ⟨2, p, t⟩).length ∨ d.room < (takenP (doneP (seenP d) ⟨2, p, t⟩) : Int)))) := Kept.mk rfl
      have htk : takenP (doneP (seenP d) ⟨2, p, t⟩) ≤ 4503599627370496 := Nat.le_trans Kb9.out.taken (by have := Kn.out; omega)
      have Ktk := Kept.mk (fun W (hW : Ext w5 W) => takenR_any _ (n + 1) Kb9.out (by have := Kn.out; omega) _ W (Kf9.out.ext hW).1)
      generalize hq2 : takenP (doneP (seenP d) ⟨2, p, t⟩) = qt at Kfull htk Ktk
      rw [← Kn9.out] at Kfull
      clear hq2
      go_wp2_with fail
      have KF := Kept.mk (show fullP d ⟨2, p, t⟩ = false from by rw [Kfull.out]; simp)
      clear Kfull
      refine wp_region_calm Ext 15 ([] :: [(56, 0)] :: [(57, 1)] :: [(58, 2)] :: [(59, 3)] :: [(60, 4), (59, 3)] :: [(61, 5), (59, 3)] :: [(62, 6), (59, 3)] :: [(63, 7)] :: [(64, 8), (63, 7)] :: [(63, 7)] :: [(66, 10), (63, 7)] :: [(65, 9), (67, 11), (63, 7)] :: [(63, 7), (68, 12), (59, 3)] :: [(59, 3), (69, 13)] :: [])
        ((56, 0) :: (57, 1) :: (58, 2) :: (59, 3) :: (60, 4) :: (61, 5) :: (62, 6) :: (63, 7) :: (64, 8) :: (65, 9) :: (66, 10) :: (67, 11) :: (68, 12) :: (69, 13) :: (70, 14) :: [])
        (EqV ?ace0 :: EqV ?ace1 :: EqV ?ace2 :: EqV ?ace3 :: EqV ?ace4 :: EqV ?ace5 :: EqV ?ace6 :: EqV ?ace7 :: EqV ?ace8 :: EqV ?ace9 :: EqV ?ace10 :: EqV ?ace11 :: EqV ?ace12 :: EqV ?ace13 :: EqV ?ace14 :: []) hm (by kernel_rfl) Ext.refl (fun _ _ _ => Ext.trans) Ext.drew
        (MonoL.at (MonoL.eq _ (MonoL.eq _ (MonoL.eq _ (MonoL.eq _ (MonoL.eq _ (MonoL.eq _ (MonoL.eq _ (MonoL.eq _ (MonoL.eq _ (MonoL.eq _ (MonoL.eq _ (MonoL.eq _ (MonoL.eq _ (MonoL.eq _ (MonoL.eq _ (MonoL.nil))))))))))))))))) ?acalmOps ?acalmDone
      case acalmOps =>
        intro vs
        refine (CalmOps.cons ?_ (CalmOps.cons ?_ (CalmOps.cons ?_ (CalmOps.cons ?_ (CalmOps.cons ?_ (CalmOps.cons ?_ (CalmOps.cons ?_ (CalmOps.cons ?_ (CalmOps.cons ?_ (CalmOps.cons ?_ (CalmOps.cons ?_ (CalmOps.cons ?_ (CalmOps.cons ?_ (CalmOps.cons ?_ (CalmOps.cons ?_ trivial)))))))))))))))
        · intro w6 hR hL; simp [Look, VAt, EqV] at hL; simp [Guarded, setAll, bare, hL]; go_wp2_with fail; exact CalmPost.mk (by first | (simp; done) | (simp; rfl) | rfl) rfl (Ext.refl _)
        · intro w6 hR hL; simp [Look, VAt, EqV] at hL; have q0 := hR.cell e0; simp [Guarded, setAll, bare, hL]; go_wp2_with fail; exact CalmPost.mk (by first | (simp; done) | (simp; rfl) | rfl) rfl (Ext.refl _)
        · intro w6 hR hL; simp [Look, VAt, EqV] at hL; simp [Guarded, setAll, bare, hL]; go_wp2_with fail; exact CalmPost.mk (by first | (simp; done) | (simp; rfl) | rfl) rfl (Ext.refl _)
        · intro w6 hR hL; simp [Look, VAt, EqV] at hL; simp [Guarded, setAll, bare, hL]; go_wp2_with fail; exact CalmPost.mk (by first | (simp; done) | (simp; rfl) | rfl) rfl (Ext.refl _)
        · intro w6 hR hL; simp [Look, VAt, EqV] at hL; first | (simp [Guarded, setAll, bare, hL, VAt, EqV, undef_no]; done) | (simp [Guarded, setAll, bare, hL, VAt, EqV, undef_no]; rfl)
        · intro w6 hR hL; simp [Look, VAt, EqV] at hL; first | (simp [Guarded, setAll, bare, hL, VAt, EqV, undef_no]; done) | (simp [Guarded, setAll, bare, hL, VAt, EqV, undef_no]; rfl)
        · intro w6 hR hL; simp [Look, VAt, EqV] at hL; first | (simp [Guarded, setAll, bare, hL, VAt, EqV, undef_no]; done) | (simp [Guarded, setAll, bare, hL, VAt, EqV, undef_no]; rfl)
        · intro w6 hR hL; simp [Look, VAt, EqV] at hL; first | (simp [Guarded, setAll, bare, hL, VAt, EqV, undef_no]; done) | (simp [Guarded, setAll, bare, hL, VAt, EqV, undef_no]; rfl)
        · intro w6 hR hL; simp [Look, VAt, EqV] at hL; first | (simp [Guarded, setAll, bare, hL, VAt, EqV, undef_no]; done) | (simp [Guarded, setAll, bare, hL, VAt, EqV, undef_no]; rfl)
        · intro w6 hR hL; simp [Look, VAt, EqV] at hL; first | (simp [Guarded, setAll, bare, hL, VAt, EqV, undef_no]; done) | (simp [Guarded, setAll, bare, hL, VAt, EqV, undef_no]; rfl)
        · intro w6 hR hL; simp [Look, VAt, EqV] at hL; first | (simp [Guarded, setAll, bare, hL, VAt, EqV, undef_no]; done) | (simp [Guarded, setAll, bare, hL, VAt, EqV, undef_no]; rfl)
        · intro w6 hR hL; simp [Look, VAt, EqV] at hL; first | (simp [Guarded, setAll, bare, hL, VAt, EqV, undef_no]; done) | (simp [Guarded, setAll, bare, hL, VAt, EqV, undef_no]; rfl)
        · intro w6 hR hL; simp [Look, VAt, EqV] at hL; first | (simp [Guarded, setAll, bare, hL, VAt, EqV, undef_no]; done) | (simp [Guarded, setAll, bare, hL, VAt, EqV, undef_no]; rfl)
        · intro w6 hR hL; simp [Look, VAt, EqV] at hL; first | (simp [Guarded, setAll, bare, hL, VAt, EqV, undef_no]; done) | (simp [Guarded, setAll, bare, hL, VAt, EqV, undef_no]; rfl)
        · intro w6 hR hL; simp [Look, VAt, EqV] at hL; simp [Guarded, setAll, bare, hL]; go_wp2_with fail; exact CalmPost.mk (by first | (simp; done) | (simp; rfl) | rfl) rfl (Ext.refl _)
      case acalmDone =>
        intro vs w6 hR hL
        simp [Look, VAt, EqV] at hL
        obtain ⟨L0, L1, L2, L3, L4, L5, L6, L7, L8, L9, L10, L11, L12, L13, L14⟩ := hL
        simp [setAll, L0, L1, L2, L3, L4, L5, L6, L7, L8, L9, L10, L11, L12, L13, L14]
        have KR6 := Kept.mk hR
        clear hR
        clear L0 L1 L2 L3 L4 L5 L6 L7 L8 L9 L10 L11 L12 L13 L14
        have Kx6 := Kept.mk (Kx5.out.ext KR6.out)
        have Kr6 := Kept.mk (Kr5.out.ext KR6.out)
        have Ke6 := Kept.mk (Ke5.out.ext KR6.out)
        have KE6 := Kept.mk (KE5.out.trans KR6.out)
        have Ks6 := Kept.mk (show xg + 3 ≤ w6.heap.size ∧ w.heap.size ≤ xg from ⟨Nat.le_trans Ks5.out.1 KR6.out.size, Ks5.out.2⟩)
        clear x0 e0 Kx5 Kr5 Ke5 KE5 Ks5 KR6 Ktk
        have KP1 := Kept.mk (show doQ d ⟨2, p, t⟩ = if (callP (addP d ⟨2, p, t⟩)).2 then (8, (callP (addP d ⟨2, p, t⟩)).1) else (0, (callP (addP d ⟨2, p, t⟩)).1) from by rw [KW.out]; unfold waitP; rw [if_neg (by rw [KF.out]; decide)])
        clear KW KF
        go_upto_region 12 with (fail)
        obtain ⟨iE, hiE, hzE, hsE, hbE⟩ := infoEffE
        have x2 := Kx6.out.cell 2
        have e0 := Ke6.out.cell 0
        have e1 := Ke6.out.cell 1
        have e2 := Ke6.out.cell 2
        simp only [List.getElem?_cons_zero, List.getElem?_cons_succ] at x2 e0 e1 e2
        have KR6 := Kept.mk (KR.out.ext KE6.out)
        have Kmb := Kept.mk (show m ≤ 1048574 from by rw [Km.out]; exact Nat.le_trans Kb.out.rows Kn.out)
        have Klen := Kept.mk (show (d.rows.map effR).length = m from by rw [List.length_map]; exact Km.out.symm)
        obtain ⟨xb, hxb⟩ : ∃ xb, xb = w6.heap.size := ⟨_, rfl⟩
        have Kxb := Kept.mk hxb
        clear hxb
        refine wp_region_calm Ext 6 ([] :: [] :: [(73, 1)] :: [(72, 0), (74, 2)] :: [] :: [(76, 4)] :: [])
          ((72, 0) :: (73, 1) :: (74, 2) :: (75, 3) :: (76, 4) :: (77, 5) :: [])
          (NilS xb :: EqV ?gce1 :: EqV ?gce2 :: (fun W u => BufS 3 W xb 55 u (d.rows.map effR)) :: EqV ?gce4 :: (fun W u => BufS 3 W xb 55 u [effR ⟨2, p, t⟩]) :: []) hm (by kernel_rfl) Ext.refl (fun _ _ _ => Ext.trans) Ext.drew
          (MonoL.at (MonoL.cons (fun W W' u hR h => NilS.ext hR h) (MonoL.eq _ (MonoL.eq _ (MonoL.cons (fun W W' u hR h => BufS.ext h hR) (MonoL.eq _ (MonoL.cons (fun W W' u hR h => BufS.ext h hR) (MonoL.nil)))))))) ?gcalmOps ?gcalmDone
        case gcalmOps =>
          intro vs
          refine (CalmOps.cons ?_ (CalmOps.cons ?_ (CalmOps.cons ?_ (CalmOps.cons ?_ (CalmOps.cons ?_ (CalmOps.cons ?_ trivial))))))
          · intro w7 hR hL; simp [Look, VAt, EqV] at hL; simp [Guarded, setAll, bare, hL]; go_wp2_with fail; exact CalmPost.mk (by first | (simp; done) | (simp; rfl) | rfl) (NilS.new (by rw [Kxb.out]; exact hR.size)) (Ext.alloc _ _)
          · intro w7 hR hL; simp [Look, VAt, EqV] at hL; simp [Guarded, setAll, bare, hL]; go_wp2_with fail; exact CalmPost.mk (by first | (simp; done) | (simp; rfl) | rfl) rfl (Ext.refl _)
          · intro w7 hR hL; simp [Look, VAt, EqV] at hL; have q0 := hR.cell x2; simp [Guarded, setAll, bare, hL]; go_wp2_with fail; exact CalmPost.mk (by first | (simp; done) | (simp; rfl) | rfl) rfl (Ext.refl _)
          · intro w7 hR hL; simp [Look, VAt, EqV] at hL; obtain ⟨h0, h2⟩ := hL; obtain ⟨nA, hn, hnA⟩ := h0; have Krf := Kept.mk (KR6.out.r.ext hR); have Ksz := Kept.mk (show xb ≤ w7.heap.size from by rw [Kxb.out]; exact hR.size); have KnA := Kept.mk hnA; simp [Guarded, setAll, bare, hn, h2]; clear hn h2 hnA; go_wp2_with (refine wpList_copyT (P := Try.prog) w7 rfl (.tmp 72) (.tmp 74) 47 47 rfl 3 (by decide) 55 iE _ Try.underlying47 hiE hzE hsE (by rfl) xb nA rfl KnA.out (.slice B m cb) m (d.rows.map effR) (effR_each _) rfl (Rd.src (P := Try.prog) Krf.out.1 (by decide) Try.underlying47 (effR_one _)) Ksz.out (by have := Kmb.out; simp only [maxLen]; omega) (by have := Kmb.out; rw [hbE]; omega) ?_); intro v1 w8 hV1 hE1; have KV1 := Kept.mk hV1; have KE1 := Kept.mk hE1; clear hV1 hE1; go_wp2_with fail; exact CalmPost.mk (by first | (simp; done) | (simp; rfl) | rfl) KV1.out KE1.out
          · intro w7 hR hL; simp [Look, VAt, EqV] at hL; have q0 := hR.cell e0; have q1 := hR.cell e1; have q2 := hR.cell e2; simp [Guarded, setAll, bare, hL]; go_wp2_with fail; exact CalmPost.mk (by first | (simp; done) | (simp; rfl) | rfl) rfl (Ext.refl _)
          · intro w7 hR hL; simp [Look, VAt, EqV] at hL; simp [Guarded, setAll, bare, hL]; go_wp2_with fail; exact CalmPost.mk (by first | (simp; done) | (simp; rfl) | rfl) (BufS.lit 3 w7 55 xb (by rw [Kxb.out]; exact hR.size) [effR ⟨2, p, t⟩] (by simp [effR]) (by simp [maxLen])) (Ext.alloc _ _)
        case gcalmDone =>
          intro vs w7 hR hL
          simp [Look, VAt, EqV] at hL
          obtain ⟨⟨n0, h0, -⟩, L1, L2, L3, L4, L5⟩ := hL
          obtain ⟨uA, un, uc, h3⟩ := BufS.form3 L3
          obtain ⟨qA, qn, qc, h5⟩ := BufS.form3 L5
          rw [h3] at L3
          rw [h5] at L5
          have hqn : qn = 1 := (BufS.len L5).1
          subst hqn
          have KU := Kept.mk L3
          have KQ := Kept.mk L5
          have KR7 := Kept.mk hR
          simp [setAll, h0, L1, L2, h3, L4, h5]
          clear h0 h3 h5 L1 L2 L3 L4 L5 hR x2 e0 e1 e2
          clear vs
          have Kx7 := Kept.mk (Kx6.out.ext KR7.out)
          have Kr7 := Kept.mk (Kr6.out.ext KR7.out)
          have KE7 := Kept.mk (KE6.out.trans KR7.out)
          have Ks7 := Kept.mk (show xg + 3 ≤ xb ∧ w.heap.size ≤ xg ∧ xb ≤ w7.heap.size from ⟨by rw [Kxb.out]; exact Ks6.out.1, Ks6.out.2, by rw [Kxb.out]; exact KR7.out.size⟩)
          have Kow := Kept.mk (show ∀ j ∈ own (Value.slice uA un uc), xb ≤ j from fun j hj => (KU.out.owns j hj).1)
          clear Kx6 Kr6 KE6 Ks6 Ke6 KR6 KR7
          go_wp2_with (refine wpList_append_bufS (P := Try.prog) w7 rfl (.tmp 75) (.tmp 77) 47 47 rfl 3 (by decide) 55 iE _ Try.underlying47 hiE hzE hsE (by rfl) xb (.slice uA un uc) (d.rows.map effR) rfl KU.out (.slice qA 1 qc) 1 [effR ⟨2, p, t⟩] (by simp [effR]) rfl (BufS.src (P := Try.prog) _ KQ.out (by decide) Try.underlying47 (by simp [effR, Value.oneCell'])) Ks7.out.2.2 (by rw [Klen.out]; have := Kmb.out; simp only [maxLen]; omega) (by rw [Klen.out, hbE]; have := Kmb.out; omega) ?_)
          intro v2 w8 hV2 hT2 ho2
          obtain ⟨vA, vn, vc, hv2⟩ := BufS.form3 hV2
          subst hv2
          have Kx8 := Kept.mk (Kx7.out.touch hT2 (fun h => by have := Kow.out _ h; have := Ks7.out; omega))
          have Kr8 := Kept.mk (Kr7.out.touch hT2 (fun h => by have := Kow.out _ h; have := Ks7.out; omega))
          have KE8 := Kept.mk (show Ext w w8 from Touch.below KE7.out hT2 (fun j hj => by have := Kow.out j hj; have := Ks7.out; omega) KE7.out.size)
          have KV8 := Kept.mk hV2
          have hxg9 : w.heap.size ≤ xg := Ks7.out.2.1
          have Kx9 := Kept.mk (Kx8.out.set 2 (.slice vA vn vc))
          simp only [List.set_cons_zero, List.set_cons_succ] at Kx9
          have Kr9 := Kept.mk (Kr8.out.set_other ⟨xg, 2, none⟩ (.slice vA vn vc) (by show _ ≠ xg; omega))
          have KE9 := Kept.mk (cell_ext KE8.out hxg9 2 (.slice vA vn vc))
          have KV9 := Kept.mk (BufS.touch KV8.out (Touch.set w8 ⟨xg, 2, none⟩ (.slice vA vn vc)) (fun j hj => by have := (KV8.out.owns j hj).1; have := Ks7.out; simp; omega))
          have Ks9 := Kept.mk (show xg + 3 ≤ (w8.setCell ⟨xg, 2, none⟩ (.slice vA vn vc)).heap.size ∧ w.heap.size ≤ xg from ⟨by have h1 := hT2.size; have h2 := (Touch.set w8 ⟨xg, 2, none⟩ (.slice vA vn vc)).size; have := Ks7.out; omega, hxg9⟩)
          have Kwb := Kept.mk (show w.heap.size ≤ xb from by have := Ks7.out; omega)
          have c2 := Kx8.out.cell 2
          have f2 := Kx8.out.free 2
          simp only [List.getElem?_cons_zero, List.getElem?_cons_succ] at c2
          clear hV2 hT2 ho2 hxg9 Kx7 Kr7 KE7 KU KQ Kow
          go_upto_region 13 with (fail)
          clear c2 f2 Kx8 Kr8 KE8 KV8 Ks7
          generalize w8.setCell ⟨xg, 2, none⟩ (.slice vA vn vc) = w9 at *
          have KRd9 := Kept.mk (show RdIn G w9 (addP d ⟨2, p, t⟩) (.slice A nn c) (.slice vA vn vc) from ⟨KR.out.l.ext KE9.out, RowsR.of (b := w.heap.size) (show BufS 3 w9 xb 55 (.slice vA vn vc) ((addP d ⟨2, p, t⟩).rows.map effR) from by have h := KV9.out; simpa [addP] using h) KG.out Kwb.out⟩)
          have KC := Kept.mk (callR_any (addP d ⟨2, p, t⟩) (n + 1) (Kb.out.add Kx0.out) (by have := Kn.out; omega) _ _ an ak (fun h => Kak.out h) w9 (good_ext KG.out KE9.out) KRd9.out)
          have Ked := Kept.mk (show (addP d ⟨2, p, t⟩).down = false from Kdn.out.symm)
          obtain ⟨d3, f3, hc3⟩ : ∃ d3 f3, callP (addP d ⟨2, p, t⟩) = (d3, f3) := ⟨_, _, rfl⟩
          have KP2 := Kept.mk (show doQ d ⟨2, p, t⟩ = if f3 then (8, d3) else (0, d3) from by rw [KP1.out, hc3])
          have Khc := Kept.mk hc3
          have KC2 := Kept.mk (show Calls Try.prog 40 #[.agg #[.int .i64 d.room, .slice A nn c, .slice vA vn vc, .bool false, .int .i64 an, .int .u64 ak, .int .i64 d.cnt]] w9 (CallRE G w9 (addP d ⟨2, p, t⟩) an ak) from by
            have h := KC.out
            unfold rdV at h
            rw [Ked.out] at h
            exact h)
          clear hc3 KP1 KC Ked KV9 KRd9
          go_wp2_with (first | (refine wpList_load_blk (P := Try.prog) rfl 49 (.tmp 2) rfl xg rfl 49 _ Kx9.out _ Try.underlying49 rfl infoRd ?_))
          refine KC2.out.mono ?_
          rintro e w10 h10
          clear KC2
          simp only [CallRE, Khc.out] at h10
          obtain ⟨lv3, rv3, rfl, hr3, hE3⟩ := h10
          clear Khc
          obtain ⟨A3', n3', c3', rfl⟩ := hr3.l.form
          obtain ⟨B3, cb3, hrv3⟩ := hr3.r.form
          obtain ⟨m3, hm3⟩ : ∃ m3, m3 = (d3.rows.map effR).length := ⟨_, rfl⟩
          rw [← hm3] at hrv3
          subst hrv3
          unfold rdV
          have hs3 := hE3.size
          have hK1 := (Kx9.out.ext hE3).ext (Ext.alloc w10 (.cells #[.int .i64 0, .slice none 0 0, .slice none 0 0, .bool false, .int .i64 0, .int .u64 0, .int .i64 0] 49))
          have hK2 := (Kr9.out.ext hE3).ext (Ext.alloc w10 (.cells #[.int .i64 0, .slice none 0 0, .slice none 0 0, .bool false, .int .i64 0, .int .u64 0, .int .i64 0] 49))
          have hK3 := Blk.new w10 49 [.int .i64 0, .slice none 0 0, .slice none 0 0, .bool false, .int .i64 0, .int .u64 0, .int .i64 0]
          have hK4 := (KE9.out.trans hE3).trans (Ext.alloc w10 (.cells #[.int .i64 0, .slice none 0 0, .slice none 0 0, .bool false, .int .i64 0, .int .u64 0, .int .i64 0] 49))
          have hKs := Ks9.out
          have Kr4 := Kept.mk (hK2.row_other (g := w10.heap.size) [.int .i64 d3.room, .slice A3' n3' c3', .slice B3 m3 cb3, .bool d3.down, .int .i64 an, .int .u64 ak, .int .i64 d3.cnt].toArray (by omega))
          have Kh4 := Kept.mk (hK3.row [.int .i64 d3.room, .slice A3' n3' c3', .slice B3 m3 cb3, .bool d3.down, .int .i64 an, .int .u64 ak, .int .i64 d3.cnt])
          have KE4 := Kept.mk (store_ext hK4 (g := w10.heap.size) (by omega) [.int .i64 d3.room, .slice A3' n3' c3', .slice B3 m3 cb3, .bool d3.down, .int .i64 an, .int .u64 ak, .int .i64 d3.cnt].toArray)
          have KR4 := Kept.mk (hr3.ext (store_ext (Ext.alloc w10 (.cells #[.int .i64 0, .slice none 0 0, .slice none 0 0, .bool false, .int .i64 0, .int .u64 0, .int .i64 0] 49)) (g := w10.heap.size) (Nat.le_refl _) [.int .i64 d3.room, .slice A3' n3' c3', .slice B3 m3 cb3, .bool d3.down, .int .i64 an, .int .u64 ak, .int .i64 d3.cnt].toArray))
          have Kn3 := Kept.mk hK3
          have Khg := Kept.mk (show w.heap.size ≤ xg from hKs.2)
          clear hr3 hE3 hm3 hs3 hK1 hK2 hK4 hKs hK3 Kx9 Kr9 KE9 Ks9
          go_upto_region 14 with (first | (refine wpList_store_blk (P := Try.prog) rfl 49 (.tmp 10) (.tmp 83) rfl rfl w10.heap.size rfl 49 _ [.int .i64 d3.room, .slice A3' n3' c3', .slice B3 m3 cb3, .bool d3.down, .int .i64 an, .int .u64 ak, .int .i64 d3.cnt] rfl Kn3.out rfl infoRd rfl ?_))
          clear Kn3
          generalize (w10.alloc (.cells #[.int .i64 0, .slice none 0 0, .slice none 0 0, .bool false, .int .i64 0, .int .u64 0, .int .i64 0] 49)).setRow w10.heap.size #[.int .i64 d3.room, .slice A3' n3' c3', .slice B3 m3 cb3, .bool d3.down, .int .i64 an, .int .u64 ak, .int .i64 d3.cnt] = w11 at *
          generalize w10.heap.size = hg at *
          have Krow := Kept.mk (Kr4.out.row [.int .i64 d3.room, .slice A3' n3' c3', .slice B3 m3 cb3, .bool d3.down, .int .i64 an, .int .u64 ak, .int .i64 d3.cnt])
          have KEf := Kept.mk (store_ext KE4.out (by have := Khg.out; omega) (g := xg + 1 + 1) [.int .i64 d3.room, .slice A3' n3' c3', .slice B3 m3 cb3, .bool d3.down, .int .i64 an, .int .u64 ak, .int .i64 d3.cnt].toArray)
          have KRf := Kept.mk (KR4.out.apart Kr4.out dry0 (Touch.row w11 (xg + 1 + 1) [.int .i64 d3.room, .slice A3' n3' c3', .slice B3 m3 cb3, .bool d3.down, .int .i64 an, .int .u64 ak, .int .i64 d3.cnt].toArray))
          cases f3 with
          | true =>
            have KP0 := Kept.mk (show doQ d ⟨2, p, t⟩ = (8, d3) from by rw [KP2.out]; rfl)
            clear KP2
            go_wp2_with (first | (refine wpList_load_blk (P := Try.prog) rfl 49 (.tmp 10) rfl hg rfl 49 _ Kh4.out _ Try.underlying49 rfl infoRd ?_) | (refine wpList_store_blk (P := Try.prog) rfl 49 (.tmp 4) (.tmp 86) rfl rfl (xg + 1 + 1) rfl 49 _ [.int .i64 d3.room, .slice A3' n3' c3', .slice B3 m3 cb3, .bool d3.down, .int .i64 an, .int .u64 ak, .int .i64 d3.cnt] rfl Kr4.out rfl infoRd rfl ?_))
            exact bodyPost_ret (v := _) (results_blk_slot rfl _ _ (xg + 1 + 1) 49 _ _ _ rfl rfl Krow.out Try.underlying49 rfl infoRd) rfl ⟨_, _, by rw [KP0.out]; rfl, by rw [KP0.out]; exact KRf.out, KEf.out⟩
          | false =>
            have KP0 := Kept.mk (show doQ d ⟨2, p, t⟩ = (0, d3) from by rw [KP2.out]; rfl)
            clear KP2
            go_wp2_with (first | (refine wpList_load_blk (P := Try.prog) rfl 49 (.tmp 10) rfl hg rfl 49 _ Kh4.out _ Try.underlying49 rfl infoRd ?_) | (refine wpList_store_blk (P := Try.prog) rfl 49 (.tmp 4) (.tmp 87) rfl rfl (xg + 1 + 1) rfl 49 _ [.int .i64 d3.room, .slice A3' n3' c3', .slice B3 m3 cb3, .bool d3.down, .int .i64 an, .int .u64 ak, .int .i64 d3.cnt] rfl Kr4.out rfl infoRd rfl ?_))
            exact bodyPost_ret (v := _) (results_blk_slot rfl _ _ (xg + 1 + 1) 49 _ _ _ rfl rfl Krow.out Try.underlying49 rfl infoRd) rfl ⟨_, _, by rw [KP0.out]; rfl, by rw [KP0.out]; exact KRf.out, KEf.out⟩
end Disk
end Go.Proofs.Ytjphmjegfpdbeaa
