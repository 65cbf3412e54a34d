/- The document's with. No condition. -/
import Derived.Test.YtjphmjegfpdbeaaDiskRA
import Derived.Deep.RegionHeldLaw
namespace Go.Proofs.Ytjphmjegfpdbeaa
open Go.RowKit
namespace Disk
open Str
set_option linter.unusedSimpArgs false
set_option linter.unusedVariables false
/-- How many come ahead. -/
def posF (L : List F) (x : S) : Nat := (L.takeWhile fun f => decide (f.1 < x)).length
theorem posF_le (L : List F) (x : S) : posF L x ≤ L.length := (List.takeWhile_prefix _).length_le
theorem insF_pos (f : F) : ∀ L : List F, insF f L = L.take (posF L f.1) ++ [f] ++ L.drop (posF L f.1)
  | [] => rfl
  | y :: r => by
    unfold insF posF
    by_cases h : y.1 < f.1
    · rw [if_pos h, List.takeWhile_cons, if_pos (by simpa using h), insF_pos f r]
      rfl
    · rw [if_neg h, List.takeWhile_cons, if_neg (by simpa using h)]
      rfl
theorem posF_lt {L : List F} {x : S} {k : Nat} (hk : k < posF L x) (hl : k < L.length) : L[k].1 < x := by
  have hm : (L.takeWhile fun f => decide (f.1 < x))[k]'hk ∈ L.takeWhile fun f => decide (f.1 < x) := List.getElem_mem _
  have h2 := List.all_eq_true.1 (List.all_takeWhile (p := fun f : F => decide (f.1 < x)) (l := L)) _ hm
  have h3 := (List.takeWhile_prefix (fun f : F => decide (f.1 < x)) (l := L)).getElem hk
  rw [h3] at h2
  exact of_decide_eq_true h2
theorem posF_at {x : S} : ∀ {L : List F} (h : posF L x < L.length), ¬ (L[posF L x]).1 < x
  | [], h => by simp at h
  | y :: r, h => by
    by_cases hy : y.1 < x
    · have e : posF (y :: r) x = posF r x + 1 := by unfold posF; rw [List.takeWhile_cons, if_pos (by simpa using hy)]; rfl
      have h2 : posF r x < r.length := by rw [e] at h; simpa using h
      have := posF_at h2
      intro hc
      simp only [e, List.getElem_cons_succ] at hc
      exact this hc
    · have e : posF (y :: r) x = 0 := by unfold posF; rw [List.takeWhile_cons, if_neg (by simpa using hy)]; rfl
      intro hc
      simp only [e, List.getElem_cons_zero] at hc
      exact hy hc
set_option maxRecDepth 100000 in
set_option maxHeartbeats 16000000 in
theorem with_any (L : List F) (hL : L.length ≤ 1048575) (v : Value) (xp xt : S) (w : World) (h : Rd 2 w v (L.map fV)) : Calls Try.prog 50 #[v, .agg #[.string (strOf xp), .string (strOf xt)]] w (FilesE w (withP L (xp, xt))) := by
  obtain ⟨iF, hiF, hzF, hsF, hbF⟩ := infoFile
  have hE := Ext.alloc w (.cells #[.string (strOf xp), .string (strOf xt)] 83)
  have KE := Kept.mk hE
  have Kx := Kept.mk (show Blk (w.alloc (.cells #[.string (strOf xp), .string (strOf xt)] 83)) w.heap.size 83 [.string (strOf xp), .string (strOf xt)] from Blk.new w _ _)
  have KW := Kept.mk (without_any L (by omega) v xp _ (h.ext hE))
  have Kdl := Kept.mk (len_drop L xp)
  have KP : Kept (withP L (xp, xt) = insF (xp, xt) (dropP L xp)) := Kept.mk rfl
  rw [KP.out]
  unfold FilesE
  clear h hE KP
  unfold WithoutE at KW
  go_enter Try.func50, Try.ntmps50
  go_upto_region 1 with (fail)
  generalize w.heap.size = xg at Kx ⊢
  generalize w.alloc (.cells #[.string (strOf xp), .string (strOf xt)] 83) = w1 at *
  have x0 := Kx.out.cell 0
  have x1 := Kx.out.cell 1
  simp only [List.getElem?_cons_zero, List.getElem?_cons_succ] at x0 x1
  go_wp2_with fail
  refine KW.out.mono ?_
  rintro e wo ⟨lv, rfl, hb, hE2, hnil⟩
  obtain ⟨oA, oc, hlv⟩ := hb.form
  subst hlv
  have KEw := Kept.mk (KE.out.trans hE2)
  have Kxo := Kept.mk (Kx.out.ext hE2)
  generalize hLD : dropP L xp = LD at *
  have KLD := Kept.mk hLD
  clear hLD
  rw [List.length_map] at hb hnil ⊢
  obtain ⟨m, hm⟩ : ∃ m, m = LD.length := ⟨_, rfl⟩
  have Km := Kept.mk hm
  rw [← hm] at hb hnil ⊢
  have hmb : m ≤ 1048575 := by have := Kdl.out; omega
  have KKo := Kept.mk (hb.lower KE.out.size)
  have Knil := Kept.mk hnil
  obtain ⟨p, hp⟩ : ∃ p, p = posF LD xp := ⟨_, rfl⟩
  have Kp := Kept.mk hp
  have hpm : p ≤ m := by rw [hp, hm]; exact posF_le _ _
  have Kins2p := Kept.mk (insF_pos (xp, xt) LD)
  have Kout : Kept (∀ k (hk : k < LD.length), ∃ ob oo, oA = some ⟨ob, oo, none⟩ ∧ wo.cell? ⟨ob, oo + k * 2, none⟩ = some (.string (strOf LD[k].1))) := Kept.mk (fun k hk => by
    obtain ⟨ob, oo, h1, -, h2⟩ := KKo.out.rd.get (by decide) (i := k) hk
    have h3 := h2 0 (.string (strOf LD[k].1)) rfl
    rw [Nat.add_zero] at h3
    exact ⟨ob, oo, h1, h3⟩)
  clear hb hE2 hnil hp hm x0 x1 KW Kx
  have x0 := Kxo.out.cell 0
  have x1 := Kxo.out.cell 1
  simp only [List.getElem?_cons_zero, List.getElem?_cons_succ] at x0 x1
  go_wp2_with fail
  go_loopg [5] p (fun r kv wi => ∃ k : Nat, k + r = p ∧ kv = .int .i64 (k : Int) ∧ Kept (Ext wo wi))
  case atStart => exact ⟨0, by omega, rfl, Kept.mk (Ext.refl _)⟩
  case round =>
    obtain ⟨k, hrk, rfl, KEk⟩ := hrel
    have Krk := Kept.mk hrk
    have hkp : k ≤ p := by omega
    clear hrk
    have s1 := KEk.out.cell x0
    have s9 := KEk.out.cell x1
    by_cases hk : k < p
    · have hk3 : k < LD.length := by rw [← Km.out]; omega
      have hlt := posF_lt (L := LD) (x := xp) (k := k) (by rw [← Kp.out]; exact hk) hk3
      obtain ⟨ob, oo, rfl, hcy⟩ := Kout.out k hk3
      have s2 := KEk.out.cell hcy
      have q1 := less_yes hlt
      have hkI : (k : Int) < (m : Int) := by omega
      clear hlt hcy
      go_wp2_with fail
      go_quiet (fail)
      have KEk2 := Kept.mk (KEk.out.trans (Ext.drewN wr nq))
      clear s1 s2 s9 q1
      go_wp2_with fail
      go_roundg (gk - 1)
      case measure => have := Krk.out; omega
      case rel => exact ⟨k + 1, by have := Krk.out; omega, by first | rfl | simp, KEk2⟩
    · obtain rfl : k = p := by omega
      have Kins2 := Kept.mk (show insF (xp, xt) LD = LD.take k ++ [(xp, xt)] ++ LD.drop k from by rw [Kins2p.out]; rw [← Kp.out])
      have hkn : k ≤ m := by omega
      by_cases hkm : k < m
      · have hkI : (k : Int) < (m : Int) := by omega
        have hk3 : k < LD.length := by rw [← Km.out]; exact hkm
        obtain ⟨ob, oo, rfl, hcy⟩ := Kout.out k hk3
        have s2 := KEk.out.cell hcy
        have hnl : ¬ LD[k].1 < xp := by have := posF_at (L := LD) (x := xp) (by rw [← Kp.out]; exact hk3); simpa only [← Kp.out] using this
        have q1 := less_not hnl
        clear hcy hnl
        go_wp2_with fail
        go_quiet (fail)
        have KEk3 := Kept.mk (KEk.out.trans (Ext.drewN wr nq))
        have s0 := (Ext.drewN wr nq).cell s1
        have s8 := (Ext.drewN wr nq).cell s9
        clear s1 s2 s9 q1
        have s1 := s8
        clear s8
        generalize wr.drewN nq = wx at *
        have hcap : m ≤ oc := KKo.out.len.2.1
        have h63 : oc ≤ 9223372036854775807 := KKo.out.len.2.2
        have hkc : k ≤ oc := by omega
        have hk0 : (0 : Int) ≤ (k : Int) := by omega
        have hk1 : (k : Int) ≤ (oc : Int) := by omega
        have hk2 : (k : Int) ≤ (m : Int) := by omega
        have hk4 : (m : Int) ≤ (oc : Int) := by omega
        have KFr := Kept.mk ((KKo.out.front k (by rw [List.length_map, ← Km.out]; exact hkn)).ext KEk3.out)
        have hcut := (KKo.out.cut k (by rw [List.length_map, ← Km.out]; exact hkn)).ext KEk3.out
        simp only [Option.map_some, Addr.add_lit] at hcut
        go_wp2_with fail
        have Kct := Kept.mk hcut
        clear hcut
        have Kc2 := Kept.mk (show ∀ c ∈ (LD.map fV).drop k, c.length = 2 from fun c hc => by obtain ⟨ff, _, rfl⟩ := List.mem_map.1 (List.mem_of_mem_drop hc); rfl)
        have Kc4 := Kept.mk (show ∀ c ∈ (LD.map fV).drop k, ∀ u ∈ c, u.oneCell' = true from fun c hc => fV_one LD c (List.mem_of_mem_drop hc))
        have Klt := Kept.mk (show ((LD.map fV).take k).length = k from by rw [List.length_take, List.length_map, ← Km.out]; omega)
        have Kl2 := Kept.mk (show ((LD.map fV).take k ++ [[Value.string (strOf xp), .string (strOf xt)]]).length = k + 1 from by rw [List.length_append, Klt.out]; rfl)
        have Knew := Kept.mk (show (LD.map fV).take k ++ [[Value.string (strOf xp), .string (strOf xt)]] ++ (LD.map fV).drop k = (insF (xp, xt) LD).map fV from by
          rw [Kins2.out, List.map_append, List.map_append, List.map_take, List.map_drop]; rfl)
        have Kc1 := Kept.mk (show ∀ c ∈ (LD.map fV).take k, c.length = 2 from fun c hc => by obtain ⟨ff, _, rfl⟩ := List.mem_map.1 (List.mem_of_mem_take hc); rfl)
        have Kc3 := Kept.mk (show ∀ c ∈ (LD.map fV).take k, ∀ u ∈ c, u.oneCell' = true from fun c hc => fV_one LD c (List.mem_of_mem_take hc))
        have KL1 := Kept.mk (fun (W : World) (h : W.heap = wx.heap) => (show Blk (W.alloc (.cells #[.string (strOf xp), .string (strOf xt)] 83)) wx.heap.size 83 [.string (strOf xp), .string (strOf xt)] from by rw [← h]; exact Blk.new W _ _))
        have KL2 := Kept.mk (fun (W : World) (h : W.heap = (wx.alloc (.cells #[] 83)).heap) => (show Blk (W.alloc (.cells #[.string (strOf xp), .string (strOf xt)] 83)) (wx.heap.size + 1) 83 [.string (strOf xp), .string (strOf xt)] from by
          have h2 := Blk.new W 83 [.string (strOf xp), .string (strOf xt)]
          rw [h, World.size_alloc] at h2; exact h2))
        go_region_held_law (fun w' => w'.cell? ⟨xg, 0, none⟩ = some (.string (strOf xp)) ∧ w'.cell? ⟨xg, 1, none⟩ = some (.string (strOf xt)))
          (first
            | with_reducible exact ⟨s0, s1⟩
            | (refine ⟨Ext.cell ?_ s0, Ext.cell ?_ s1⟩ <;> (with_reducible repeat (first | exact Ext.refl _ | exact hEq1 | exact hEq2 | exact hEq3 | refine Ext.trans ?_ (Ext.drew _) | refine Ext.trans ?_ (Ext.alloc _ _))); done))
          ((first
            | (refine step_copyS (P := Try.prog) _ (by rfl) (.tmp 26) (.tmp 29) 46 46 (by rfl) 2 (by decide) 83 iF _ Try.underlying46 hiF hzF hsF (by rfl) wx.heap.size _ (by rfl) (by intro a' ha'; injection ha' with ha'; subst ha'; constructor <;> (first | (simp; done) | (simp; omega))) (.slice (some ⟨ob, oo, none⟩) k oc) k ((LD.map fV).take k) Kc1.out (by rfl) (BufS.src (P := Try.prog) _ (KFr.out.ext (by with_reducible repeat (first | exact Ext.refl _ | refine Ext.trans ?_ (Ext.drew _) | refine Ext.trans ?_ (Ext.alloc _ _)))) (by decide) Try.underlying46 Kc3.out) (by first | (simp; done) | (simp; omega) | omega) (by simp only [maxLen]; omega) (by rw [hbF]; omega) ?_; intro v1 w1 hV1 hE1 ho1; have hEq1 : Ext wx w1 := Ext.trans (by with_reducible repeat (first | exact Ext.refl _ | refine Ext.trans ?_ (Ext.drew _) | refine Ext.trans ?_ (Ext.alloc _ _))) hE1)
            | (refine step_addS (P := Try.prog) _ (by rfl) (.tmp 30) (.tmp 32) 46 46 (by rfl) 2 (by decide) 83 iF _ Try.underlying46 hiF hzF hsF (by rfl) wx.heap.size v1 ((LD.map fV).take k) (by rfl) (hV1.ext (by with_reducible repeat (first | exact Ext.refl _ | refine Ext.trans ?_ (Ext.drew _) | refine Ext.trans ?_ (Ext.alloc _ _)))) _ 1 [[.string (strOf xp), .string (strOf xt)]] (by simp) (by rfl) (by first | exact src_lit (by decide) Try.underlying46 (by rfl) (by simp [Value.oneCell']) (KL1.out wx rfl) (by with_reducible repeat (first | exact Ext.refl _ | refine Ext.trans ?_ (Ext.drew _) | refine Ext.trans ?_ (Ext.alloc _ _) | refine Ext.trans ?_ hE1)) | exact src_lit (by decide) Try.underlying46 (by rfl) (by simp [Value.oneCell']) (KL1.out wx.drew rfl) (by with_reducible repeat (first | exact Ext.refl _ | refine Ext.trans ?_ (Ext.drew _) | refine Ext.trans ?_ (Ext.alloc _ _) | refine Ext.trans ?_ hE1)) | exact src_lit (by decide) Try.underlying46 (by rfl) (by simp [Value.oneCell']) (KL2.out (wx.alloc (.cells #[] 83)) rfl) (by with_reducible repeat (first | exact Ext.refl _ | refine Ext.trans ?_ (Ext.drew _) | refine Ext.trans ?_ (Ext.alloc _ _) | refine Ext.trans ?_ hE1)) | exact src_lit (by decide) Try.underlying46 (by rfl) (by simp [Value.oneCell']) (KL2.out (wx.alloc (.cells #[] 83)).drew rfl) (by with_reducible repeat (first | exact Ext.refl _ | refine Ext.trans ?_ (Ext.drew _) | refine Ext.trans ?_ (Ext.alloc _ _) | refine Ext.trans ?_ hE1)) | exact src_lit (by decide) Try.underlying46 (by rfl) (by simp [Value.oneCell']) (KL2.out (wx.drew.alloc (.cells #[] 83)) rfl) (by with_reducible repeat (first | exact Ext.refl _ | refine Ext.trans ?_ (Ext.drew _) | refine Ext.trans ?_ (Ext.alloc _ _) | refine Ext.trans ?_ hE1)) | exact src_lit (by decide) Try.underlying46 (by rfl) (by simp [Value.oneCell']) (KL2.out (wx.drew.alloc (.cells #[] 83)).drew rfl) (by with_reducible repeat (first | exact Ext.refl _ | refine Ext.trans ?_ (Ext.drew _) | refine Ext.trans ?_ (Ext.alloc _ _) | refine Ext.trans ?_ hE1)) | exact src_lit (by decide) Try.underlying46 (by rfl) (by simp [Value.oneCell']) (Blk.new w1 _ _) (by with_reducible repeat (first | exact Ext.refl _ | refine Ext.trans ?_ (Ext.drew _) | refine Ext.trans ?_ (Ext.alloc _ _) | refine Ext.trans ?_ hE1)) | exact src_lit (by decide) Try.underlying46 (by rfl) (by simp [Value.oneCell']) (Blk.new w1.drew _ _) (by with_reducible repeat (first | exact Ext.refl _ | refine Ext.trans ?_ (Ext.drew _) | refine Ext.trans ?_ (Ext.alloc _ _) | refine Ext.trans ?_ hE1))) (by have := Ext.size hEq1; first | (simp; done) | (simp; omega) | omega) (by rw [Klt.out]; simp only [maxLen]; omega) (by rw [Klt.out, hbF]; omega) ?_; intro v2 w2 hV2 hE2; have hEq2 : Ext wx w2 := Below.trans (show Ext wx _ from (by with_reducible repeat (first | exact Ext.refl _ | exact hEq1 | refine Ext.trans ?_ (Ext.drew _) | refine Ext.trans ?_ (Ext.alloc _ _)))) hE2)
            | (refine step_addS (P := Try.prog) _ (by rfl) (.tmp 33) (.tmp 36) 46 46 (by rfl) 2 (by decide) 83 iF _ Try.underlying46 hiF hzF hsF (by rfl) wx.heap.size v2 ((LD.map fV).take k ++ [[.string (strOf xp), .string (strOf xt)]]) (by rfl) (hV2.ext (by with_reducible repeat (first | exact Ext.refl _ | refine Ext.trans ?_ (Ext.drew _) | refine Ext.trans ?_ (Ext.alloc _ _)))) (Value.slice (if oc = k then some ⟨ob, oo, none⟩ else some ⟨ob, oo + k * 2, none⟩) (m - k) (oc - k)) (m - k) ((LD.map fV).drop k) Kc2.out (by rfl) (BufS.src (P := Try.prog) _ (Kct.out.ext (by with_reducible repeat (first | exact Ext.refl _ | exact hEq2 | refine Ext.trans ?_ (Ext.drew _) | refine Ext.trans ?_ (Ext.alloc _ _)))) (by decide) Try.underlying46 Kc4.out) (by have := Ext.size hEq2; first | (simp; done) | (simp; omega) | omega) (by rw [Kl2.out]; simp only [maxLen]; omega) (by rw [Kl2.out, hbF]; omega) ?_; intro v3 w3 hV3 hE3; have hEq3 : Ext wx w3 := Below.trans (show Ext wx _ from (by with_reducible repeat (first | exact Ext.refl _ | exact hEq2 | refine Ext.trans ?_ (Ext.drew _) | refine Ext.trans ?_ (Ext.alloc _ _)))) hE3)))
        all_goals
          go_wp2_with fail
          all_goals
            obtain ⟨rA, rn, rc, hv3⟩ := BufS.form3 hV3
            subst hv3
            have KR3 := Kept.mk (show BufS 2 _ w.heap.size 83 (.slice rA rn rc) ((insF (xp, xt) LD).map fV) from by have h := hV3; rw [Knew.out] at h; exact h.lower (KEw.out.trans KEk3.out).size)
            have KE3 := Kept.mk (show Ext w _ from KEw.out.trans (KEk3.out.trans hEq3))
            clear hV3
            go_wp2_with fail
            go_ret
            refine ⟨_, rfl, ?_, KE3.out⟩
            rw [KLD.out]
            first | exact KR3.out | (simp; exact KR3.out) | (simp [Array.getD]; exact KR3.out)
      · have hkI : ¬ (k : Int) < (m : Int) := by omega
        have hdI : decide ((k : Int) < (m : Int)) = false := by simpa using hkI
        by_cases hm0 : m = 0
        · have hn0 : Value.slice oA m oc = .slice none 0 0 := Knil.out (List.eq_nil_of_length_eq_zero (by rw [← Km.out]; exact hm0))
          injection hn0 with e1 e2 e3
          subst e1 e3
          obtain rfl : k = 0 := by omega
          have hLD : LD = [] := List.eq_nil_of_length_eq_zero (by rw [← Km.out]; exact hm0)
          have Kins3 := Kept.mk (show insF (xp, xt) LD = [(xp, xt)] from by rw [Kins2.out, hLD]; rfl)
          clear hLD
          subst hm0
          go_wp2_with fail
          go_quiet (fail)
          have KEk3 := Kept.mk (KEk.out.trans (Ext.drewN wr nq))
          have s0 := (Ext.drewN wr nq).cell s1
          have s8 := (Ext.drewN wr nq).cell s9
          clear s1 s9
          have s1 := s8
          clear s8
          generalize wr.drewN nq = wx at *
          have KFr := Kept.mk (BufS.nil 2 wx w.heap.size 83)
          go_wp2_with fail
          have Kc1 := Kept.mk (show ∀ c ∈ ([] : List (List Value)), c.length = 2 from by simp)
          have KcS := Kept.mk (show ∀ c ∈ ([] : List (List Value)), ∀ u ∈ c, u.oneCell' = true from by simp)
          have Klt := Kept.mk (show ([] : List (List Value)).length = 0 from rfl)
          have Kl2 := Kept.mk (show (([] : List (List Value)) ++ [[Value.string (strOf xp), .string (strOf xt)]]).length = 0 + 1 from rfl)
          have Knew := Kept.mk (show ([] : List (List Value)) ++ [[Value.string (strOf xp), .string (strOf xt)]] ++ [] = (insF (xp, xt) LD).map fV from by rw [Kins3.out]; rfl)
          have KL1 := Kept.mk (fun (W : World) (h : W.heap = wx.heap) => (show Blk (W.alloc (.cells #[.string (strOf xp), .string (strOf xt)] 83)) wx.heap.size 83 [.string (strOf xp), .string (strOf xt)] from by rw [← h]; exact Blk.new W _ _))
          have KL2 := Kept.mk (fun (W : World) (h : W.heap = (wx.alloc (.cells #[] 83)).heap) => (show Blk (W.alloc (.cells #[.string (strOf xp), .string (strOf xt)] 83)) (wx.heap.size + 1) 83 [.string (strOf xp), .string (strOf xt)] from by
            have h2 := Blk.new W 83 [.string (strOf xp), .string (strOf xt)]
            rw [h, World.size_alloc] at h2; exact h2))
          go_region_held_law (fun w' => w'.cell? ⟨xg, 0, none⟩ = some (.string (strOf xp)) ∧ w'.cell? ⟨xg, 1, none⟩ = some (.string (strOf xt)))
            (first
              | with_reducible exact ⟨s0, s1⟩
              | (refine ⟨Ext.cell ?_ s0, Ext.cell ?_ s1⟩ <;> (with_reducible repeat (first | exact Ext.refl _ | exact hEq1 | exact hEq2 | exact hEq3 | refine Ext.trans ?_ (Ext.drew _) | refine Ext.trans ?_ (Ext.alloc _ _))); done))
            ((first
              | (refine step_copyS (P := Try.prog) _ (by rfl) (.tmp 26) (.tmp 29) 46 46 (by rfl) 2 (by decide) 83 iF _ Try.underlying46 hiF hzF hsF (by rfl) wx.heap.size _ (by rfl) (by intro a' ha'; injection ha' with ha'; subst ha'; constructor <;> (first | (simp; done) | (simp; omega))) (.slice none 0 0) 0 ([] : List (List Value)) Kc1.out (by rfl) (BufS.src (P := Try.prog) _ (KFr.out.ext (by with_reducible repeat (first | exact Ext.refl _ | refine Ext.trans ?_ (Ext.drew _) | refine Ext.trans ?_ (Ext.alloc _ _)))) (by decide) Try.underlying46 KcS.out) (by first | (simp; done) | (simp; omega) | omega) (by simp only [maxLen]; omega) (by rw [hbF]; omega) ?_; intro v1 w1 hV1 hE1 ho1; have hEq1 : Ext wx w1 := Ext.trans (by with_reducible repeat (first | exact Ext.refl _ | refine Ext.trans ?_ (Ext.drew _) | refine Ext.trans ?_ (Ext.alloc _ _))) hE1)
              | (refine step_addS (P := Try.prog) _ (by rfl) (.tmp 30) (.tmp 32) 46 46 (by rfl) 2 (by decide) 83 iF _ Try.underlying46 hiF hzF hsF (by rfl) wx.heap.size v1 ([] : List (List Value)) (by rfl) (hV1.ext (by with_reducible repeat (first | exact Ext.refl _ | refine Ext.trans ?_ (Ext.drew _) | refine Ext.trans ?_ (Ext.alloc _ _)))) _ 1 [[.string (strOf xp), .string (strOf xt)]] (by simp) (by rfl) (by first | exact src_lit (by decide) Try.underlying46 (by rfl) (by simp [Value.oneCell']) (KL1.out wx rfl) (by with_reducible repeat (first | exact Ext.refl _ | refine Ext.trans ?_ (Ext.drew _) | refine Ext.trans ?_ (Ext.alloc _ _) | refine Ext.trans ?_ hE1)) | exact src_lit (by decide) Try.underlying46 (by rfl) (by simp [Value.oneCell']) (KL1.out wx.drew rfl) (by with_reducible repeat (first | exact Ext.refl _ | refine Ext.trans ?_ (Ext.drew _) | refine Ext.trans ?_ (Ext.alloc _ _) | refine Ext.trans ?_ hE1)) | exact src_lit (by decide) Try.underlying46 (by rfl) (by simp [Value.oneCell']) (KL2.out (wx.alloc (.cells #[] 83)) rfl) (by with_reducible repeat (first | exact Ext.refl _ | refine Ext.trans ?_ (Ext.drew _) | refine Ext.trans ?_ (Ext.alloc _ _) | refine Ext.trans ?_ hE1)) | exact src_lit (by decide) Try.underlying46 (by rfl) (by simp [Value.oneCell']) (KL2.out (wx.alloc (.cells #[] 83)).drew rfl) (by with_reducible repeat (first | exact Ext.refl _ | refine Ext.trans ?_ (Ext.drew _) | refine Ext.trans ?_ (Ext.alloc _ _) | refine Ext.trans ?_ hE1)) | exact src_lit (by decide) Try.underlying46 (by rfl) (by simp [Value.oneCell']) (KL2.out (wx.drew.alloc (.cells #[] 83)) rfl) (by with_reducible repeat (first | exact Ext.refl _ | refine Ext.trans ?_ (Ext.drew _) | refine Ext.trans ?_ (Ext.alloc _ _) | refine Ext.trans ?_ hE1)) | exact src_lit (by decide) Try.underlying46 (by rfl) (by simp [Value.oneCell']) (KL2.out (wx.drew.alloc (.cells #[] 83)).drew rfl) (by with_reducible repeat (first | exact Ext.refl _ | refine Ext.trans ?_ (Ext.drew _) | refine Ext.trans ?_ (Ext.alloc _ _) | refine Ext.trans ?_ hE1)) | exact src_lit (by decide) Try.underlying46 (by rfl) (by simp [Value.oneCell']) (Blk.new w1 _ _) (by with_reducible repeat (first | exact Ext.refl _ | refine Ext.trans ?_ (Ext.drew _) | refine Ext.trans ?_ (Ext.alloc _ _) | refine Ext.trans ?_ hE1)) | exact src_lit (by decide) Try.underlying46 (by rfl) (by simp [Value.oneCell']) (Blk.new w1.drew _ _) (by with_reducible repeat (first | exact Ext.refl _ | refine Ext.trans ?_ (Ext.drew _) | refine Ext.trans ?_ (Ext.alloc _ _) | refine Ext.trans ?_ hE1))) (by have := Ext.size hEq1; first | (simp; done) | (simp; omega) | omega) (by rw [Klt.out]; simp only [maxLen]; omega) (by rw [Klt.out, hbF]; omega) ?_; intro v2 w2 hV2 hE2; have hEq2 : Ext wx w2 := Below.trans (show Ext wx _ from (by with_reducible repeat (first | exact Ext.refl _ | exact hEq1 | refine Ext.trans ?_ (Ext.drew _) | refine Ext.trans ?_ (Ext.alloc _ _)))) hE2)
              | (refine step_addS (P := Try.prog) _ (by rfl) (.tmp 33) (.tmp 36) 46 46 (by rfl) 2 (by decide) 83 iF _ Try.underlying46 hiF hzF hsF (by rfl) wx.heap.size v2 (([] : List (List Value)) ++ [[.string (strOf xp), .string (strOf xt)]]) (by rfl) (hV2.ext (by with_reducible repeat (first | exact Ext.refl _ | refine Ext.trans ?_ (Ext.drew _) | refine Ext.trans ?_ (Ext.alloc _ _)))) (Value.slice none 0 0) 0 ([] : List (List Value)) Kc1.out (by rfl) (BufS.src (P := Try.prog) _ (KFr.out.ext (by with_reducible repeat (first | exact Ext.refl _ | exact hEq2 | refine Ext.trans ?_ (Ext.drew _) | refine Ext.trans ?_ (Ext.alloc _ _)))) (by decide) Try.underlying46 KcS.out) (by have := Ext.size hEq2; first | (simp; done) | (simp; omega) | omega) (by rw [Kl2.out]; simp only [maxLen]; omega) (by rw [Kl2.out, hbF]; omega) ?_; intro v3 w3 hV3 hE3; have hEq3 : Ext wx w3 := Below.trans (show Ext wx _ from (by with_reducible repeat (first | exact Ext.refl _ | exact hEq2 | refine Ext.trans ?_ (Ext.drew _) | refine Ext.trans ?_ (Ext.alloc _ _)))) hE3)))
          all_goals
            go_wp2_with fail
            all_goals
              obtain ⟨rA, rn, rc, hv3⟩ := BufS.form3 hV3
              subst hv3
              have KR3 := Kept.mk (show BufS 2 _ w.heap.size 83 (.slice rA rn rc) ((insF (xp, xt) LD).map fV) from by have h := hV3; rw [Knew.out] at h; exact h.lower (KEw.out.trans KEk3.out).size)
              have KE3 := Kept.mk (show Ext w _ from KEw.out.trans (KEk3.out.trans hEq3))
              clear hV3
              go_wp2_with fail
              go_ret
              refine ⟨_, rfl, ?_, KE3.out⟩
              rw [KLD.out]
              first | exact KR3.out | (simp; exact KR3.out) | (simp [Array.getD]; exact KR3.out)
        · obtain ⟨ob, oo, rfl, -⟩ := Kout.out (m - 1) (by rw [← Km.out]; omega)
          go_wp2_with fail
          go_quiet (fail)
          have KEk3 := Kept.mk (KEk.out.trans (Ext.drewN wr nq))
          have s0 := (Ext.drewN wr nq).cell s1
          have s8 := (Ext.drewN wr nq).cell s9
          clear s1 s9
          have s1 := s8
          clear s8
          generalize wr.drewN nq = wx at *
          have hcap : m ≤ oc := KKo.out.len.2.1
          have h63 : oc ≤ 9223372036854775807 := KKo.out.len.2.2
          have hkc : k ≤ oc := by omega
          have hk0 : (0 : Int) ≤ (k : Int) := by omega
          have hk1 : (k : Int) ≤ (oc : Int) := by omega
          have hk2 : (k : Int) ≤ (m : Int) := by omega
          have hk4 : (m : Int) ≤ (oc : Int) := by omega
          have KFr := Kept.mk ((KKo.out.front k (by rw [List.length_map, ← Km.out]; exact hkn)).ext KEk3.out)
          have hcut := (KKo.out.cut k (by rw [List.length_map, ← Km.out]; exact hkn)).ext KEk3.out
          simp only [Option.map_some, Addr.add_lit] at hcut
          go_wp2_with fail
          have Kct := Kept.mk hcut
          clear hcut
          have Kc2 := Kept.mk (show ∀ c ∈ (LD.map fV).drop k, c.length = 2 from fun c hc => by obtain ⟨ff, _, rfl⟩ := List.mem_map.1 (List.mem_of_mem_drop hc); rfl)
          have Kc4 := Kept.mk (show ∀ c ∈ (LD.map fV).drop k, ∀ u ∈ c, u.oneCell' = true from fun c hc => fV_one LD c (List.mem_of_mem_drop hc))
          have Klt := Kept.mk (show ((LD.map fV).take k).length = k from by rw [List.length_take, List.length_map, ← Km.out]; omega)
          have Kl2 := Kept.mk (show ((LD.map fV).take k ++ [[Value.string (strOf xp), .string (strOf xt)]]).length = k + 1 from by rw [List.length_append, Klt.out]; rfl)
          have Knew := Kept.mk (show (LD.map fV).take k ++ [[Value.string (strOf xp), .string (strOf xt)]] ++ (LD.map fV).drop k = (insF (xp, xt) LD).map fV from by
            rw [Kins2.out, List.map_append, List.map_append, List.map_take, List.map_drop]; rfl)
          have Kc1 := Kept.mk (show ∀ c ∈ (LD.map fV).take k, c.length = 2 from fun c hc => by obtain ⟨ff, _, rfl⟩ := List.mem_map.1 (List.mem_of_mem_take hc); rfl)
          have Kc3 := Kept.mk (show ∀ c ∈ (LD.map fV).take k, ∀ u ∈ c, u.oneCell' = true from fun c hc => fV_one LD c (List.mem_of_mem_take hc))
          have KL1 := Kept.mk (fun (W : World) (h : W.heap = wx.heap) => (show Blk (W.alloc (.cells #[.string (strOf xp), .string (strOf xt)] 83)) wx.heap.size 83 [.string (strOf xp), .string (strOf xt)] from by rw [← h]; exact Blk.new W _ _))
          have KL2 := Kept.mk (fun (W : World) (h : W.heap = (wx.alloc (.cells #[] 83)).heap) => (show Blk (W.alloc (.cells #[.string (strOf xp), .string (strOf xt)] 83)) (wx.heap.size + 1) 83 [.string (strOf xp), .string (strOf xt)] from by
            have h2 := Blk.new W 83 [.string (strOf xp), .string (strOf xt)]
            rw [h, World.size_alloc] at h2; exact h2))
          go_region_held_law (fun w' => w'.cell? ⟨xg, 0, none⟩ = some (.string (strOf xp)) ∧ w'.cell? ⟨xg, 1, none⟩ = some (.string (strOf xt)))
            (first
              | with_reducible exact ⟨s0, s1⟩
              | (refine ⟨Ext.cell ?_ s0, Ext.cell ?_ s1⟩ <;> (with_reducible repeat (first | exact Ext.refl _ | exact hEq1 | exact hEq2 | exact hEq3 | refine Ext.trans ?_ (Ext.drew _) | refine Ext.trans ?_ (Ext.alloc _ _))); done))
            ((first
              | (refine step_copyS (P := Try.prog) _ (by rfl) (.tmp 26) (.tmp 29) 46 46 (by rfl) 2 (by decide) 83 iF _ Try.underlying46 hiF hzF hsF (by rfl) wx.heap.size _ (by rfl) (by intro a' ha'; injection ha' with ha'; subst ha'; constructor <;> (first | (simp; done) | (simp; omega))) (.slice (some ⟨ob, oo, none⟩) k oc) k ((LD.map fV).take k) Kc1.out (by rfl) (BufS.src (P := Try.prog) _ (KFr.out.ext (by with_reducible repeat (first | exact Ext.refl _ | refine Ext.trans ?_ (Ext.drew _) | refine Ext.trans ?_ (Ext.alloc _ _)))) (by decide) Try.underlying46 Kc3.out) (by first | (simp; done) | (simp; omega) | omega) (by simp only [maxLen]; omega) (by rw [hbF]; omega) ?_; intro v1 w1 hV1 hE1 ho1; have hEq1 : Ext wx w1 := Ext.trans (by with_reducible repeat (first | exact Ext.refl _ | refine Ext.trans ?_ (Ext.drew _) | refine Ext.trans ?_ (Ext.alloc _ _))) hE1)
              | (refine step_addS (P := Try.prog) _ (by rfl) (.tmp 30) (.tmp 32) 46 46 (by rfl) 2 (by decide) 83 iF _ Try.underlying46 hiF hzF hsF (by rfl) wx.heap.size v1 ((LD.map fV).take k) (by rfl) (hV1.ext (by with_reducible repeat (first | exact Ext.refl _ | refine Ext.trans ?_ (Ext.drew _) | refine Ext.trans ?_ (Ext.alloc _ _)))) _ 1 [[.string (strOf xp), .string (strOf xt)]] (by simp) (by rfl) (by first | exact src_lit (by decide) Try.underlying46 (by rfl) (by simp [Value.oneCell']) (KL1.out wx rfl) (by with_reducible repeat (first | exact Ext.refl _ | refine Ext.trans ?_ (Ext.drew _) | refine Ext.trans ?_ (Ext.alloc _ _) | refine Ext.trans ?_ hE1)) | exact src_lit (by decide) Try.underlying46 (by rfl) (by simp [Value.oneCell']) (KL1.out wx.drew rfl) (by with_reducible repeat (first | exact Ext.refl _ | refine Ext.trans ?_ (Ext.drew _) | refine Ext.trans ?_ (Ext.alloc _ _) | refine Ext.trans ?_ hE1)) | exact src_lit (by decide) Try.underlying46 (by rfl) (by simp [Value.oneCell']) (KL2.out (wx.alloc (.cells #[] 83)) rfl) (by with_reducible repeat (first | exact Ext.refl _ | refine Ext.trans ?_ (Ext.drew _) | refine Ext.trans ?_ (Ext.alloc _ _) | refine Ext.trans ?_ hE1)) | exact src_lit (by decide) Try.underlying46 (by rfl) (by simp [Value.oneCell']) (KL2.out (wx.alloc (.cells #[] 83)).drew rfl) (by with_reducible repeat (first | exact Ext.refl _ | refine Ext.trans ?_ (Ext.drew _) | refine Ext.trans ?_ (Ext.alloc _ _) | refine Ext.trans ?_ hE1)) | exact src_lit (by decide) Try.underlying46 (by rfl) (by simp [Value.oneCell']) (KL2.out (wx.drew.alloc (.cells #[] 83)) rfl) (by with_reducible repeat (first | exact Ext.refl _ | refine Ext.trans ?_ (Ext.drew _) | refine Ext.trans ?_ (Ext.alloc _ _) | refine Ext.trans ?_ hE1)) | exact src_lit (by decide) Try.underlying46 (by rfl) (by simp [Value.oneCell']) (KL2.out (wx.drew.alloc (.cells #[] 83)).drew rfl) (by with_reducible repeat (first | exact Ext.refl _ | refine Ext.trans ?_ (Ext.drew _) | refine Ext.trans ?_ (Ext.alloc _ _) | refine Ext.trans ?_ hE1)) | exact src_lit (by decide) Try.underlying46 (by rfl) (by simp [Value.oneCell']) (Blk.new w1 _ _) (by with_reducible repeat (first | exact Ext.refl _ | refine Ext.trans ?_ (Ext.drew _) | refine Ext.trans ?_ (Ext.alloc _ _) | refine Ext.trans ?_ hE1)) | exact src_lit (by decide) Try.underlying46 (by rfl) (by simp [Value.oneCell']) (Blk.new w1.drew _ _) (by with_reducible repeat (first | exact Ext.refl _ | refine Ext.trans ?_ (Ext.drew _) | refine Ext.trans ?_ (Ext.alloc _ _) | refine Ext.trans ?_ hE1))) (by have := Ext.size hEq1; first | (simp; done) | (simp; omega) | omega) (by rw [Klt.out]; simp only [maxLen]; omega) (by rw [Klt.out, hbF]; omega) ?_; intro v2 w2 hV2 hE2; have hEq2 : Ext wx w2 := Below.trans (show Ext wx _ from (by with_reducible repeat (first | exact Ext.refl _ | exact hEq1 | refine Ext.trans ?_ (Ext.drew _) | refine Ext.trans ?_ (Ext.alloc _ _)))) hE2)
              | (refine step_addS (P := Try.prog) _ (by rfl) (.tmp 33) (.tmp 36) 46 46 (by rfl) 2 (by decide) 83 iF _ Try.underlying46 hiF hzF hsF (by rfl) wx.heap.size v2 ((LD.map fV).take k ++ [[.string (strOf xp), .string (strOf xt)]]) (by rfl) (hV2.ext (by with_reducible repeat (first | exact Ext.refl _ | refine Ext.trans ?_ (Ext.drew _) | refine Ext.trans ?_ (Ext.alloc _ _)))) (Value.slice (if oc = k then some ⟨ob, oo, none⟩ else some ⟨ob, oo + k * 2, none⟩) (m - k) (oc - k)) (m - k) ((LD.map fV).drop k) Kc2.out (by rfl) (BufS.src (P := Try.prog) _ (Kct.out.ext (by with_reducible repeat (first | exact Ext.refl _ | exact hEq2 | refine Ext.trans ?_ (Ext.drew _) | refine Ext.trans ?_ (Ext.alloc _ _)))) (by decide) Try.underlying46 Kc4.out) (by have := Ext.size hEq2; first | (simp; done) | (simp; omega) | omega) (by rw [Kl2.out]; simp only [maxLen]; omega) (by rw [Kl2.out, hbF]; omega) ?_; intro v3 w3 hV3 hE3; have hEq3 : Ext wx w3 := Below.trans (show Ext wx _ from (by with_reducible repeat (first | exact Ext.refl _ | exact hEq2 | refine Ext.trans ?_ (Ext.drew _) | refine Ext.trans ?_ (Ext.alloc _ _)))) hE3)))
          all_goals
            go_wp2_with fail
            all_goals
              obtain ⟨rA, rn, rc, hv3⟩ := BufS.form3 hV3
              subst hv3
              have KR3 := Kept.mk (show BufS 2 _ w.heap.size 83 (.slice rA rn rc) ((insF (xp, xt) LD).map fV) from by have h := hV3; rw [Knew.out] at h; exact h.lower (KEw.out.trans KEk3.out).size)
              have KE3 := Kept.mk (show Ext w _ from KEw.out.trans (KEk3.out.trans hEq3))
              clear hV3
              go_wp2_with fail
              go_ret
              refine ⟨_, rfl, ?_, KE3.out⟩
              rw [KLD.out]
              first | exact KR3.out | (simp; exact KR3.out) | (simp [Array.getD]; exact KR3.out)
end Disk
end Go.Proofs.Ytjphmjegfpdbeaa
