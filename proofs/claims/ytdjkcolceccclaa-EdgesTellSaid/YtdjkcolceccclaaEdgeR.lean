/- The walk of the document's Rise. No condition. -/
import Derived.Test.YtdjkcolceccclaaEdgeQ
namespace Go.Proofs.Ytdjkcolceccclaa
open Go.RowKit
namespace Edge
set_option linter.unusedSimpArgs false
set_option linter.unusedVariables false
theorem less_yes {a b : S} (h : a < b) : Op.bytesLess (strOf a).toList (strOf b).toList = true := by
  rw [ByteArray.toList_eq, ByteArray.toList_eq, strOf_list, strOf_list, bytesLess_eq]
  exact decide_eq_true h
theorem less_not {a b : S} (h : ¬ a < b) : Op.bytesLess (strOf a).toList (strOf b).toList = false := by
  rw [ByteArray.toList_eq, ByteArray.toList_eq, strOf_list, strOf_list, bytesLess_eq]
  exact decide_eq_false h
theorem str_ne {a b : S} (h : a ≠ b) : ((strOf a).toList == (strOf b).toList) = false := by
  rw [ByteArray.toList_eq, ByteArray.toList_eq, strOf_list, strOf_list]
  simpa using h
theorem str_same (a : S) : ((strOf a).toList == (strOf a).toList) = true := by simp
set_option maxRecDepth 100000 in
set_option maxHeartbeats 8000000 in
theorem rise_any (l : List S) (hl : l.length ≤ 2001) (v : Value) (w : World) (h : Rd 1 w v (l.map sV)) :
    Calls Try.prog 26 #[v] w fun e w' => ∃ A c, e = .returned (.slice A (riseP l).length c) ∧ BufS 1 w' w.heap.size 9 (.slice A (riseP l).length c) ((riseP l).map sV) ∧ Ext w w' := by
  obtain ⟨iS, hiS, hzS, hsS, hbS⟩ := infoT
  obtain ⟨lA, lc, rfl⟩ := h.form
  rw [List.length_map] at *
  have KL := Kept.mk h
  clear h
  obtain ⟨n, hn⟩ : ∃ n, n = l.length := ⟨_, rfl⟩
  have Kn := Kept.mk hn
  rw [← hn] at KL hl ⊢
  clear hn
  go_enter Try.func26, Try.ntmps26
  go_wp2_with fail
  go_loopg [3, 4] n (fun r ov iv wi => ∃ i : Nat, i + r = n ∧ iv = .int .i64 (i : Int) ∧ Kept (BufS 1 wi w.heap.size 9 ov ((riseP (l.take i)).map sV) ∧ Ext w wi ∧ (riseP (l.take i) = [] → ov = .slice none 0 0)))
  case atStart => exact ⟨0, by omega, rfl, Kept.mk ⟨by simpa [riseP] using BufS.nil 1 w w.heap.size 9, Ext.refl _, fun _ => rfl⟩⟩
  case round =>
    obtain ⟨i, hr, rfl, KK⟩ := hrel
    have Kr := Kept.mk hr
    have hil : i ≤ n := by omega
    clear hr
    have hol := rise_take_len l i
    have hnx : i < n → ∃ x, l[i]? = some x ∧ riseP (l.take (i + 1)) = insP (riseP (l.take i)) x := fun h => by
      have hi : i < l.length := by rw [← Kn.out]; exact h
      refine ⟨l[i], List.getElem?_eq_getElem hi, ?_⟩
      unfold riseP
      rw [List.take_succ_eq_append_getElem hi, List.foldl_append]
      rfl
    have Knx := Kept.mk hnx
    have Kend := Kept.mk (fun (h : ¬ i < n) => show l.take i = l from List.take_of_length_le (by rw [← Kn.out]; omega))
    obtain ⟨oA, oc, hov⟩ := KK.out.1.form
    rw [List.length_map] at hov
    subst hov
    by_cases hlt : i < n
    · have hltI : (i : Int) < (n : Int) := by omega
      obtain ⟨x, hx, hins⟩ := Knx.out hlt
      have hi2 : i < l.length := by rw [← Kn.out]; exact hlt
      have hxe : l[i] = x := by rw [List.getElem?_eq_getElem hi2] at hx; injection hx
      obtain ⟨lb, lo, rfl, hlb, hlc⟩ := KL.out.get (by decide) (i := i) hi2
      have s0 := KK.out.2.1.cell (hlc 0 (.string (strOf l[i])) rfl)
      rw [hxe, Nat.add_zero, Nat.mul_one] at s0
      have Kins := Kept.mk hins
      generalize hg : riseP (l.take (i + 1)) = out2 at Kins
      have Kg := Kept.mk hg
      clear hg
      generalize riseP (l.take i) = out at KK Kins hol s0
      have Kol := Kept.mk hol
      have KKo := Kept.mk KK.out.1
      have KEo := Kept.mk KK.out.2.1
      have Knil := Kept.mk KK.out.2.2
      obtain ⟨m, hm⟩ : ∃ m, m = out.length := ⟨_, rfl⟩
      have Km := Kept.mk hm
      rw [← hm] at KKo hol Knil ⊢
      have hmb : m ≤ 2001 := by omega
      obtain ⟨p, hp⟩ : ∃ p, p = posP out x := ⟨_, rfl⟩
      have Kp := Kept.mk hp
      have hpm : p ≤ m := by rw [hp, hm]; exact posP_le out x
      obtain ⟨wo, hwo⟩ : ∃ wo, wo = wr := ⟨_, rfl⟩
      have Kout : Kept (∀ k y, out[k]? = some y → ∃ ob oo, oA = some ⟨ob, oo, none⟩ ∧ wo.cell? ⟨ob, oo + k, none⟩ = some (.string (strOf y))) := Kept.mk (fun k y hk => by
        have hk2 := (List.getElem?_eq_some_iff.1 hk).1
        obtain ⟨ob, oo, h1, h2⟩ := KKo.out.at (by decide) (i := k) (by rw [List.length_map]; exact hk2)
        refine ⟨ob, oo, h1, ?_⟩
        have := h2 0 (.string (strOf y)) (by rw [List.getElem?_map, hk]; rfl)
        rw [Nat.add_zero, Nat.mul_one] at this
        rw [hwo]; exact this)
      rw [← hwo] at s0 KKo KEo ⊢
      clear hp hm hnx hlc hx hxe hi2 hins hol KK hwo Knx Kend
      go_wp2_with fail
      obtain ⟨go, hgo⟩ : ∃ n : Nat, n = gk := ⟨_, rfl⟩
      go_loopg [5] p (fun r kv wi => ∃ k : Nat, k + r = p ∧ kv = .int .i64 (k : Int) ∧ Kept (Ext wo wi))
      case atStart => exact ⟨0, by omega, rfl, Kept.mk (Ext.refl _)⟩
      case round =>
        obtain ⟨k, hrk, rfl, KEk⟩ := hrel
        have Krk := Kept.mk hrk
        have hkp : k ≤ p := by omega
        clear hrk
        have s1 := KEk.out.cell s0
        by_cases hk : k < p
        · obtain ⟨y, hy, hyx⟩ := posP_lt (out := out) (x := x) (k := k) (by rw [← Kp.out]; exact hk)
          obtain ⟨ob, oo, rfl, hcy⟩ := Kout.out k y hy
          have s2 := KEk.out.cell hcy
          have q1 := less_yes hyx
          have hkI : (k : Int) < (m : Int) := by omega
          clear hyx hy hcy
          go_wp2_with fail
          go_quiet (fail)
          have KEk2 := Kept.mk (KEk.out.trans (Ext.drewN wr nq))
          clear s1 s2 q1
          go_wp2_with fail
          go_roundg (gk - 1)
          case measure => have := Krk.out; omega
          case rel => exact ⟨k + 1, by have := Krk.out; omega, by first | rfl | simp, KEk2⟩
        · obtain rfl : k = p := by omega
          by_cases hkm : k < m
          · have hkI : (k : Int) < (m : Int) := by omega
            have hk3 : k < out.length := by rw [← Km.out]; exact hkm
            obtain ⟨ob, oo, rfl, hcy⟩ := Kout.out k out[k] (List.getElem?_eq_getElem hk3)
            have s2 := KEk.out.cell hcy
            have hnl : ¬ out[k] < x := posP_at (by rw [← Kp.out]; exact List.getElem?_eq_getElem hk3)
            have q1 := less_not hnl
            by_cases hex : out[k] = x
            · have q2 := str_same x
              rw [hex] at s2 q1
              have Ksame := Kept.mk (show out2 = out from by rw [Kins.out]; unfold insP; rw [← Kp.out, List.getElem?_eq_getElem hk3, hex, if_pos rfl])
              clear hcy hnl hex
              go_wp2_with fail
              go_quiet (fail)
              have s1' := (Ext.drewN wr nq).cell s1
              have s2' := (Ext.drewN wr nq).cell s2
              have KEk2 := Kept.mk (KEk.out.trans (Ext.drewN wr nq))
              generalize wr.drewN nq = wq at *
              clear s1 s2
              go_wp2_with fail
              go_quiet (fail)
              have KEk3 := Kept.mk (KEk2.out.trans (Ext.drewN wq nq))
              clear s1' s2' q1 q2
              go_wp2_with fail
              have KN := Kept.mk (show BufS 1 (wq.drewN nq) w.heap.size 9 (.slice (some ⟨ob, oo, none⟩) m oc) ((riseP (l.take (i + 1))).map sV) ∧ Ext w (wq.drewN nq) ∧ (riseP (l.take (i + 1)) = [] → Value.slice (some ⟨ob, oo, none⟩) m oc = .slice none 0 0) from by
                rw [Kg.out, Ksame.out]; exact ⟨KKo.out.ext KEk3.out, KEo.out.trans KEk3.out, Knil.out⟩)
              subst hgo
              go_roundg (go - 1)
              case measure => have := Kr.out; omega
              case rel => exact ⟨i + 1, by have := Kr.out; omega, by first | rfl | simp, KN⟩
            · have q2 := str_ne hex
              have hkn : k ≤ m := by omega
              have Kins2 := Kept.mk (show out2 = out.take k ++ [x] ++ out.drop k from by rw [Kins.out]; unfold insP; rw [← Kp.out, List.getElem?_eq_getElem hk3, if_neg (fun e => hex (by injection e))])
              clear hcy hnl
              generalize out[k] = y at *
              clear hex
              go_wp2_with fail
              go_quiet (fail)
              have s1' := (Ext.drewN wr nq).cell s1
              have s2' := (Ext.drewN wr nq).cell s2
              have KEk2 := Kept.mk (KEk.out.trans (Ext.drewN wr nq))
              generalize wr.drewN nq = wq at *
              clear s1 s2
              go_wp2_with fail
              go_quiet (fail)
              have KEk3 := Kept.mk (KEk2.out.trans (Ext.drewN wq nq))
              have s1 := (Ext.drewN wq nq).cell s1'
              generalize wq.drewN nq = wx at *
              clear s1' s2' q1 q2
              have hcap : m ≤ oc := KKo.out.len.2.1
              have h63 : oc ≤ 9223372036854775807 := KKo.out.len.2.2
              have hkc : k ≤ oc := by omega
              have hk0 : (0 : Int) ≤ (k : Int) := by omega
              have hk1 : (k : Int) ≤ (oc : Int) := by omega
              have hk2 : (k : Int) ≤ (m : Int) := by omega
              have hk4 : (m : Int) ≤ (oc : Int) := by omega
              have KFr := Kept.mk ((KKo.out.front k (by rw [List.length_map, ← Km.out]; exact hkn)).ext KEk3.out)
              have hcut := (KKo.out.cut k (by rw [List.length_map, ← Km.out]; exact hkn)).ext KEk3.out
              simp only [Option.map_some, Addr.add_lit, Nat.mul_one] at hcut
              go_wp2_with fail
              have Kct := Kept.mk hcut
              clear hcut
              have Kc2 := Kept.mk (show ∀ c ∈ (out.map sV).drop k, c.length = 1 from fun c hc => by obtain ⟨s, _, rfl⟩ := List.mem_map.1 (List.mem_of_mem_drop hc); rfl)
              have Kc4 := Kept.mk (show ∀ c ∈ (out.map sV).drop k, ∀ u ∈ c, u.oneCell' = true from fun c hc u hu => by obtain ⟨s, _, rfl⟩ := List.mem_map.1 (List.mem_of_mem_drop hc); simp [sV] at hu; subst hu; rfl)
              have Klt := Kept.mk (show ((out.map sV).take k).length = k from by rw [List.length_take, List.length_map, ← Km.out]; omega)
              have Kl2 := Kept.mk (show ((out.map sV).take k ++ [[Value.string (strOf x)]]).length = k + 1 from by rw [List.length_append, Klt.out]; rfl)
              have Knew := Kept.mk (show (out.map sV).take k ++ [[Value.string (strOf x)]] ++ (out.map sV).drop k = (riseP (l.take (i + 1))).map sV from by
                rw [Kg.out, Kins2.out, List.map_append, List.map_append, List.map_take, List.map_drop]; rfl)
              have Kne := Kept.mk (show riseP (l.take (i + 1)) ≠ [] from by rw [Kg.out, Kins2.out]; simp)
              have Kc1 := Kept.mk (show ∀ c ∈ (out.map sV).take k, c.length = 1 from fun c hc => by obtain ⟨s, _, rfl⟩ := List.mem_map.1 (List.mem_of_mem_take hc); rfl)
              have Kc3 := Kept.mk (show ∀ c ∈ (out.map sV).take k, ∀ u ∈ c, u.oneCell' = true from fun c hc u hu => by obtain ⟨s, _, rfl⟩ := List.mem_map.1 (List.mem_of_mem_take hc); simp [sV] at hu; subst hu; rfl)
              have Kone := Kept.mk (sV_one out)
              have KL1 := Kept.mk (fun (W : World) (h : W.heap = wx.heap) => (show Blk (W.alloc (.cells #[.string (strOf x)] 9)) wx.heap.size 9 [.string (strOf x)] from by rw [← h]; exact Blk.new W _ _))
              have KL2 := Kept.mk (fun (W : World) (h : W.heap = (wx.alloc (.cells #[] 9)).heap) => (show Blk (W.alloc (.cells #[.string (strOf x)] 9)) (wx.heap.size + 1) 9 [.string (strOf x)] from by
                have h2 := Blk.new W 9 [.string (strOf x)]
                rw [h, World.size_alloc] at h2; exact h2))
              go_region_held_law (fun w' => w'.cell? ⟨lb, lo + i, none⟩ = some (.string (strOf x)))
                (first
                  | with_reducible exact s1
                  | (refine Ext.cell ?_ s1; (with_reducible repeat (first | exact Ext.refl _ | exact hEq1 | exact hEq2 | exact hEq3 | refine Ext.trans ?_ (Ext.drew _) | refine Ext.trans ?_ (Ext.alloc _ _))); done))
                ((first
                  | (refine step_copyS (P := Try.prog) _ (by rfl) (.tmp 44) (.tmp 47) 23 23 (by rfl) 1 (by decide) 9 iS _ Try.underlying23 hiS hzS hsS (by rfl) wx.heap.size _ (by rfl) (by intro a' ha'; injection ha' with ha'; subst ha'; constructor <;> (first | (simp; done) | (simp; omega))) (.slice (some ⟨ob, oo, none⟩) k oc) k ((out.map sV).take k) Kc1.out (by rfl) (BufS.src (P := Try.prog) _ (KFr.out.ext (by with_reducible repeat (first | exact Ext.refl _ | refine Ext.trans ?_ (Ext.drew _) | refine Ext.trans ?_ (Ext.alloc _ _)))) (by decide) Try.underlying23 Kc3.out) (by first | (simp; done) | (simp; omega) | omega) (by simp only [maxLen]; omega) (by rw [hbS]; omega) ?_; intro v1 w1 hV1 hE1 ho1; have hEq1 : Ext wx w1 := Ext.trans (by with_reducible repeat (first | exact Ext.refl _ | refine Ext.trans ?_ (Ext.drew _) | refine Ext.trans ?_ (Ext.alloc _ _))) hE1)
                  | (refine step_addS (P := Try.prog) _ (by rfl) (.tmp 48) (.tmp 53) 23 23 (by rfl) 1 (by decide) 9 iS _ Try.underlying23 hiS hzS hsS (by rfl) wx.heap.size v1 ((out.map sV).take k) (by rfl) (hV1.ext (by with_reducible repeat (first | exact Ext.refl _ | refine Ext.trans ?_ (Ext.drew _) | refine Ext.trans ?_ (Ext.alloc _ _)))) _ 1 [[.string (strOf x)]] (by simp) (by rfl) (by first | exact src_lit (by decide) Try.underlying23 (by rfl) (by simp [Value.oneCell']) (KL1.out wx rfl) (by with_reducible repeat (first | exact Ext.refl _ | refine Ext.trans ?_ (Ext.drew _) | refine Ext.trans ?_ (Ext.alloc _ _) | refine Ext.trans ?_ hE1)) | exact src_lit (by decide) Try.underlying23 (by rfl) (by simp [Value.oneCell']) (KL1.out wx.drew rfl) (by with_reducible repeat (first | exact Ext.refl _ | refine Ext.trans ?_ (Ext.drew _) | refine Ext.trans ?_ (Ext.alloc _ _) | refine Ext.trans ?_ hE1)) | exact src_lit (by decide) Try.underlying23 (by rfl) (by simp [Value.oneCell']) (KL2.out (wx.alloc (.cells #[] 9)) rfl) (by with_reducible repeat (first | exact Ext.refl _ | refine Ext.trans ?_ (Ext.drew _) | refine Ext.trans ?_ (Ext.alloc _ _) | refine Ext.trans ?_ hE1)) | exact src_lit (by decide) Try.underlying23 (by rfl) (by simp [Value.oneCell']) (KL2.out (wx.alloc (.cells #[] 9)).drew rfl) (by with_reducible repeat (first | exact Ext.refl _ | refine Ext.trans ?_ (Ext.drew _) | refine Ext.trans ?_ (Ext.alloc _ _) | refine Ext.trans ?_ hE1)) | exact src_lit (by decide) Try.underlying23 (by rfl) (by simp [Value.oneCell']) (KL2.out (wx.drew.alloc (.cells #[] 9)) rfl) (by with_reducible repeat (first | exact Ext.refl _ | refine Ext.trans ?_ (Ext.drew _) | refine Ext.trans ?_ (Ext.alloc _ _) | refine Ext.trans ?_ hE1)) | exact src_lit (by decide) Try.underlying23 (by rfl) (by simp [Value.oneCell']) (KL2.out (wx.drew.alloc (.cells #[] 9)).drew rfl) (by with_reducible repeat (first | exact Ext.refl _ | refine Ext.trans ?_ (Ext.drew _) | refine Ext.trans ?_ (Ext.alloc _ _) | refine Ext.trans ?_ hE1)) | exact src_lit (by decide) Try.underlying23 (by rfl) (by simp [Value.oneCell']) (Blk.new w1 _ _) (by with_reducible repeat (first | exact Ext.refl _ | refine Ext.trans ?_ (Ext.drew _) | refine Ext.trans ?_ (Ext.alloc _ _) | refine Ext.trans ?_ hE1)) | exact src_lit (by decide) Try.underlying23 (by rfl) (by simp [Value.oneCell']) (Blk.new w1.drew _ _) (by with_reducible repeat (first | exact Ext.refl _ | refine Ext.trans ?_ (Ext.drew _) | refine Ext.trans ?_ (Ext.alloc _ _) | refine Ext.trans ?_ hE1))) (by have := Ext.size hEq1; first | (simp; done) | (simp; omega) | omega) (by rw [Klt.out]; simp only [maxLen]; omega) (by rw [Klt.out, hbS]; omega) ?_; intro v2 w2 hV2 hE2; have hEq2 : Ext wx w2 := Below.trans (show Ext wx _ from (by with_reducible repeat (first | exact Ext.refl _ | exact hEq1 | refine Ext.trans ?_ (Ext.drew _) | refine Ext.trans ?_ (Ext.alloc _ _)))) hE2)
                  | (refine step_addS (P := Try.prog) _ (by rfl) (.tmp 54) (.tmp 57) 23 23 (by rfl) 1 (by decide) 9 iS _ Try.underlying23 hiS hzS hsS (by rfl) wx.heap.size v2 ((out.map sV).take k ++ [[.string (strOf x)]]) (by rfl) (hV2.ext (by with_reducible repeat (first | exact Ext.refl _ | refine Ext.trans ?_ (Ext.drew _) | refine Ext.trans ?_ (Ext.alloc _ _)))) (Value.slice (if oc = k then some ⟨ob, oo, none⟩ else some ⟨ob, oo + k, none⟩) (m - k) (oc - k)) (m - k) ((out.map sV).drop k) Kc2.out (by rfl) (BufS.src (P := Try.prog) _ (Kct.out.ext (by with_reducible repeat (first | exact Ext.refl _ | exact hEq2 | refine Ext.trans ?_ (Ext.drew _) | refine Ext.trans ?_ (Ext.alloc _ _)))) (by decide) Try.underlying23 Kc4.out) (by have := Ext.size hEq2; first | (simp; done) | (simp; omega) | omega) (by rw [Kl2.out]; simp only [maxLen]; omega) (by rw [Kl2.out, hbS]; omega) ?_; intro v3 w3 hV3 hE3; have hEq3 : Ext wx w3 := Below.trans (show Ext wx _ from (by with_reducible repeat (first | exact Ext.refl _ | exact hEq2 | refine Ext.trans ?_ (Ext.drew _) | refine Ext.trans ?_ (Ext.alloc _ _)))) hE3)))
              all_goals
                go_wp2_with fail
                all_goals
                  subst hgo
                  go_roundg (go - 1)
                  case measure => have := Kr.out; omega
                  case rel => exact ⟨i + 1, by have := Kr.out; omega, by first | rfl | simp, Kept.mk ⟨by have h := hV3; rw [Knew.out] at h; exact (h.ext (by with_reducible repeat (first | exact Ext.refl _ | refine Ext.trans ?_ (Ext.drew _) | refine Ext.trans ?_ (Ext.alloc _ _)))).lower (KEo.out.trans KEk3.out).size, KEo.out.trans (KEk3.out.trans (hEq3.trans (by with_reducible repeat (first | exact Ext.refl _ | refine Ext.trans ?_ (Ext.drew _) | refine Ext.trans ?_ (Ext.alloc _ _))))), fun h => absurd h Kne.out⟩⟩
          · have hkI : ¬ (k : Int) < (m : Int) := by omega
            have hkn : k ≤ m := by omega
            have hdI : decide ((k : Int) < (m : Int)) = false := by simpa using hkI
            have Kins2 := Kept.mk (show out2 = out.take k ++ [x] ++ out.drop k from by rw [Kins.out]; unfold insP; rw [← Kp.out, List.getElem?_eq_none (by rw [← Km.out]; omega), if_neg (by simp)])
            by_cases hm0 : m = 0
            · have hn0 : Value.slice oA m oc = .slice none 0 0 := Knil.out (List.eq_nil_of_length_eq_zero (by rw [← Km.out]; exact hm0))
              injection hn0 with e1 e2 e3
              subst e1 e3
              obtain rfl : k = 0 := by omega
              have hout : out = [] := List.eq_nil_of_length_eq_zero (by rw [← Km.out]; exact hm0)
              have Kins3 := Kept.mk (show out2 = [x] from by rw [Kins2.out, hout]; rfl)
              clear hout
              subst hm0
              go_wp2_with fail
              go_quiet (fail)
              have KEk2 := Kept.mk (KEk.out.trans (Ext.drewN wr nq))
              have s1' := (Ext.drewN wr nq).cell s1
              generalize wr.drewN nq = wq at *
              clear s1
              go_wp2_with fail
              go_quiet (fail)
              have KEk3 := Kept.mk (KEk2.out.trans (Ext.drewN wq nq))
              have s1 := (Ext.drewN wq nq).cell s1'
              generalize wq.drewN nq = wx at *
              clear s1'
              have KFr := Kept.mk (BufS.nil 1 wx w.heap.size 9)
              go_wp2_with fail
              have Kc1 := Kept.mk (show ∀ c ∈ ([] : List (List Value)), c.length = 1 from by simp)
              have KcS := Kept.mk (show ∀ c ∈ ([] : List (List Value)), ∀ u ∈ c, u.oneCell' = true from by simp)
              have Klt := Kept.mk (show ([] : List (List Value)).length = 0 from rfl)
              have Kl2 := Kept.mk (show (([] : List (List Value)) ++ [[Value.string (strOf x)]]).length = 0 + 1 from rfl)
              have Knew := Kept.mk (show ([] : List (List Value)) ++ [[Value.string (strOf x)]] ++ [] = (riseP (l.take (i + 1))).map sV from by rw [Kg.out, Kins3.out]; rfl)
              have Kne := Kept.mk (show riseP (l.take (i + 1)) ≠ [] from by rw [Kg.out, Kins3.out]; simp)
              have KL1 := Kept.mk (fun (W : World) (h : W.heap = wx.heap) => (show Blk (W.alloc (.cells #[.string (strOf x)] 9)) wx.heap.size 9 [.string (strOf x)] from by rw [← h]; exact Blk.new W _ _))
              have KL2 := Kept.mk (fun (W : World) (h : W.heap = (wx.alloc (.cells #[] 9)).heap) => (show Blk (W.alloc (.cells #[.string (strOf x)] 9)) (wx.heap.size + 1) 9 [.string (strOf x)] from by
                have h2 := Blk.new W 9 [.string (strOf x)]
                rw [h, World.size_alloc] at h2; exact h2))
              go_region_held_law (fun w' => w'.cell? ⟨lb, lo + i, none⟩ = some (.string (strOf x)))
                (first
                  | with_reducible exact s1
                  | (refine Ext.cell ?_ s1; (with_reducible repeat (first | exact Ext.refl _ | exact hEq1 | exact hEq2 | exact hEq3 | refine Ext.trans ?_ (Ext.drew _) | refine Ext.trans ?_ (Ext.alloc _ _))); done))
                ((first
                  | (refine step_copyS (P := Try.prog) _ (by rfl) (.tmp 44) (.tmp 47) 23 23 (by rfl) 1 (by decide) 9 iS _ Try.underlying23 hiS hzS hsS (by rfl) wx.heap.size _ (by rfl) (by intro a' ha'; injection ha' with ha'; subst ha'; constructor <;> (first | (simp; done) | (simp; omega))) (.slice none 0 0) 0 ([] : List (List Value)) Kc1.out (by rfl) (BufS.src (P := Try.prog) _ (KFr.out.ext (by with_reducible repeat (first | exact Ext.refl _ | refine Ext.trans ?_ (Ext.drew _) | refine Ext.trans ?_ (Ext.alloc _ _)))) (by decide) Try.underlying23 KcS.out) (by first | (simp; done) | (simp; omega) | omega) (by simp only [maxLen]; omega) (by rw [hbS]; omega) ?_; intro v1 w1 hV1 hE1 ho1; have hEq1 : Ext wx w1 := Ext.trans (by with_reducible repeat (first | exact Ext.refl _ | refine Ext.trans ?_ (Ext.drew _) | refine Ext.trans ?_ (Ext.alloc _ _))) hE1)
                  | (refine step_addS (P := Try.prog) _ (by rfl) (.tmp 48) (.tmp 53) 23 23 (by rfl) 1 (by decide) 9 iS _ Try.underlying23 hiS hzS hsS (by rfl) wx.heap.size v1 ([] : List (List Value)) (by rfl) (hV1.ext (by with_reducible repeat (first | exact Ext.refl _ | refine Ext.trans ?_ (Ext.drew _) | refine Ext.trans ?_ (Ext.alloc _ _)))) _ 1 [[.string (strOf x)]] (by simp) (by rfl) (by first | exact src_lit (by decide) Try.underlying23 (by rfl) (by simp [Value.oneCell']) (KL1.out wx rfl) (by with_reducible repeat (first | exact Ext.refl _ | refine Ext.trans ?_ (Ext.drew _) | refine Ext.trans ?_ (Ext.alloc _ _) | refine Ext.trans ?_ hE1)) | exact src_lit (by decide) Try.underlying23 (by rfl) (by simp [Value.oneCell']) (KL1.out wx.drew rfl) (by with_reducible repeat (first | exact Ext.refl _ | refine Ext.trans ?_ (Ext.drew _) | refine Ext.trans ?_ (Ext.alloc _ _) | refine Ext.trans ?_ hE1)) | exact src_lit (by decide) Try.underlying23 (by rfl) (by simp [Value.oneCell']) (KL2.out (wx.alloc (.cells #[] 9)) rfl) (by with_reducible repeat (first | exact Ext.refl _ | refine Ext.trans ?_ (Ext.drew _) | refine Ext.trans ?_ (Ext.alloc _ _) | refine Ext.trans ?_ hE1)) | exact src_lit (by decide) Try.underlying23 (by rfl) (by simp [Value.oneCell']) (KL2.out (wx.alloc (.cells #[] 9)).drew rfl) (by with_reducible repeat (first | exact Ext.refl _ | refine Ext.trans ?_ (Ext.drew _) | refine Ext.trans ?_ (Ext.alloc _ _) | refine Ext.trans ?_ hE1)) | exact src_lit (by decide) Try.underlying23 (by rfl) (by simp [Value.oneCell']) (KL2.out (wx.drew.alloc (.cells #[] 9)) rfl) (by with_reducible repeat (first | exact Ext.refl _ | refine Ext.trans ?_ (Ext.drew _) | refine Ext.trans ?_ (Ext.alloc _ _) | refine Ext.trans ?_ hE1)) | exact src_lit (by decide) Try.underlying23 (by rfl) (by simp [Value.oneCell']) (KL2.out (wx.drew.alloc (.cells #[] 9)).drew rfl) (by with_reducible repeat (first | exact Ext.refl _ | refine Ext.trans ?_ (Ext.drew _) | refine Ext.trans ?_ (Ext.alloc _ _) | refine Ext.trans ?_ hE1)) | exact src_lit (by decide) Try.underlying23 (by rfl) (by simp [Value.oneCell']) (Blk.new w1 _ _) (by with_reducible repeat (first | exact Ext.refl _ | refine Ext.trans ?_ (Ext.drew _) | refine Ext.trans ?_ (Ext.alloc _ _) | refine Ext.trans ?_ hE1)) | exact src_lit (by decide) Try.underlying23 (by rfl) (by simp [Value.oneCell']) (Blk.new w1.drew _ _) (by with_reducible repeat (first | exact Ext.refl _ | refine Ext.trans ?_ (Ext.drew _) | refine Ext.trans ?_ (Ext.alloc _ _) | refine Ext.trans ?_ hE1))) (by have := Ext.size hEq1; first | (simp; done) | (simp; omega) | omega) (by rw [Klt.out]; simp only [maxLen]; omega) (by rw [Klt.out, hbS]; omega) ?_; intro v2 w2 hV2 hE2; have hEq2 : Ext wx w2 := Below.trans (show Ext wx _ from (by with_reducible repeat (first | exact Ext.refl _ | exact hEq1 | refine Ext.trans ?_ (Ext.drew _) | refine Ext.trans ?_ (Ext.alloc _ _)))) hE2)
                  | (refine step_addS (P := Try.prog) _ (by rfl) (.tmp 54) (.tmp 57) 23 23 (by rfl) 1 (by decide) 9 iS _ Try.underlying23 hiS hzS hsS (by rfl) wx.heap.size v2 (([] : List (List Value)) ++ [[.string (strOf x)]]) (by rfl) (hV2.ext (by with_reducible repeat (first | exact Ext.refl _ | refine Ext.trans ?_ (Ext.drew _) | refine Ext.trans ?_ (Ext.alloc _ _)))) (Value.slice none 0 0) 0 ([] : List (List Value)) Kc1.out (by rfl) (BufS.src (P := Try.prog) _ (KFr.out.ext (by with_reducible repeat (first | exact Ext.refl _ | exact hEq2 | refine Ext.trans ?_ (Ext.drew _) | refine Ext.trans ?_ (Ext.alloc _ _)))) (by decide) Try.underlying23 KcS.out) (by have := Ext.size hEq2; first | (simp; done) | (simp; omega) | omega) (by rw [Kl2.out]; simp only [maxLen]; omega) (by rw [Kl2.out, hbS]; omega) ?_; intro v3 w3 hV3 hE3; have hEq3 : Ext wx w3 := Below.trans (show Ext wx _ from (by with_reducible repeat (first | exact Ext.refl _ | exact hEq2 | refine Ext.trans ?_ (Ext.drew _) | refine Ext.trans ?_ (Ext.alloc _ _)))) hE3)))
              all_goals
                go_wp2_with fail
                all_goals
                  subst hgo
                  go_roundg (go - 1)
                  case measure => have := Kr.out; omega
                  case rel => exact ⟨i + 1, by have := Kr.out; omega, by first | rfl | simp, Kept.mk ⟨by have h := hV3; rw [Knew.out] at h; exact (h.ext (by with_reducible repeat (first | exact Ext.refl _ | refine Ext.trans ?_ (Ext.drew _) | refine Ext.trans ?_ (Ext.alloc _ _)))).lower (KEo.out.trans KEk3.out).size, KEo.out.trans (KEk3.out.trans (hEq3.trans (by with_reducible repeat (first | exact Ext.refl _ | refine Ext.trans ?_ (Ext.drew _) | refine Ext.trans ?_ (Ext.alloc _ _))))), fun h => absurd h Kne.out⟩⟩
            · obtain ⟨ob, oo, rfl, -⟩ := Kout.out (m - 1) (out[m - 1]'(by rw [← Km.out]; omega)) (List.getElem?_eq_getElem _)
              go_wp2_with fail
              go_quiet (fail)
              have KEk2 := Kept.mk (KEk.out.trans (Ext.drewN wr nq))
              have s1' := (Ext.drewN wr nq).cell s1
              generalize wr.drewN nq = wq at *
              clear s1
              go_wp2_with fail
              go_quiet (fail)
              have KEk3 := Kept.mk (KEk2.out.trans (Ext.drewN wq nq))
              have s1 := (Ext.drewN wq nq).cell s1'
              generalize wq.drewN nq = wx at *
              clear s1'
              have hcap : m ≤ oc := KKo.out.len.2.1
              have h63 : oc ≤ 9223372036854775807 := KKo.out.len.2.2
              have hkc : k ≤ oc := by omega
              have hk0 : (0 : Int) ≤ (k : Int) := by omega
              have hk1 : (k : Int) ≤ (oc : Int) := by omega
              have hk2 : (k : Int) ≤ (m : Int) := by omega
              have hk4 : (m : Int) ≤ (oc : Int) := by omega
              have KFr := Kept.mk ((KKo.out.front k (by rw [List.length_map, ← Km.out]; exact hkn)).ext KEk3.out)
              have hcut := (KKo.out.cut k (by rw [List.length_map, ← Km.out]; exact hkn)).ext KEk3.out
              simp only [Option.map_some, Addr.add_lit, Nat.mul_one] at hcut
              go_wp2_with fail
              have Kct := Kept.mk hcut
              clear hcut
              have Kc2 := Kept.mk (show ∀ c ∈ (out.map sV).drop k, c.length = 1 from fun c hc => by obtain ⟨s, _, rfl⟩ := List.mem_map.1 (List.mem_of_mem_drop hc); rfl)
              have Kc4 := Kept.mk (show ∀ c ∈ (out.map sV).drop k, ∀ u ∈ c, u.oneCell' = true from fun c hc u hu => by obtain ⟨s, _, rfl⟩ := List.mem_map.1 (List.mem_of_mem_drop hc); simp [sV] at hu; subst hu; rfl)
              have Klt := Kept.mk (show ((out.map sV).take k).length = k from by rw [List.length_take, List.length_map, ← Km.out]; omega)
              have Kl2 := Kept.mk (show ((out.map sV).take k ++ [[Value.string (strOf x)]]).length = k + 1 from by rw [List.length_append, Klt.out]; rfl)
              have Knew := Kept.mk (show (out.map sV).take k ++ [[Value.string (strOf x)]] ++ (out.map sV).drop k = (riseP (l.take (i + 1))).map sV from by
                rw [Kg.out, Kins2.out, List.map_append, List.map_append, List.map_take, List.map_drop]; rfl)
              have Kne := Kept.mk (show riseP (l.take (i + 1)) ≠ [] from by rw [Kg.out, Kins2.out]; simp)
              have Kc1 := Kept.mk (show ∀ c ∈ (out.map sV).take k, c.length = 1 from fun c hc => by obtain ⟨s, _, rfl⟩ := List.mem_map.1 (List.mem_of_mem_take hc); rfl)
              have Kc3 := Kept.mk (show ∀ c ∈ (out.map sV).take k, ∀ u ∈ c, u.oneCell' = true from fun c hc u hu => by obtain ⟨s, _, rfl⟩ := List.mem_map.1 (List.mem_of_mem_take hc); simp [sV] at hu; subst hu; rfl)
              have Kone := Kept.mk (sV_one out)
              have KL1 := Kept.mk (fun (W : World) (h : W.heap = wx.heap) => (show Blk (W.alloc (.cells #[.string (strOf x)] 9)) wx.heap.size 9 [.string (strOf x)] from by rw [← h]; exact Blk.new W _ _))
              have KL2 := Kept.mk (fun (W : World) (h : W.heap = (wx.alloc (.cells #[] 9)).heap) => (show Blk (W.alloc (.cells #[.string (strOf x)] 9)) (wx.heap.size + 1) 9 [.string (strOf x)] from by
                have h2 := Blk.new W 9 [.string (strOf x)]
                rw [h, World.size_alloc] at h2; exact h2))
              go_region_held_law (fun w' => w'.cell? ⟨lb, lo + i, none⟩ = some (.string (strOf x)))
                (first
                  | with_reducible exact s1
                  | (refine Ext.cell ?_ s1; (with_reducible repeat (first | exact Ext.refl _ | exact hEq1 | exact hEq2 | exact hEq3 | refine Ext.trans ?_ (Ext.drew _) | refine Ext.trans ?_ (Ext.alloc _ _))); done))
                ((first
                  | (refine step_copyS (P := Try.prog) _ (by rfl) (.tmp 44) (.tmp 47) 23 23 (by rfl) 1 (by decide) 9 iS _ Try.underlying23 hiS hzS hsS (by rfl) wx.heap.size _ (by rfl) (by intro a' ha'; injection ha' with ha'; subst ha'; constructor <;> (first | (simp; done) | (simp; omega))) (.slice (some ⟨ob, oo, none⟩) k oc) k ((out.map sV).take k) Kc1.out (by rfl) (BufS.src (P := Try.prog) _ (KFr.out.ext (by with_reducible repeat (first | exact Ext.refl _ | refine Ext.trans ?_ (Ext.drew _) | refine Ext.trans ?_ (Ext.alloc _ _)))) (by decide) Try.underlying23 Kc3.out) (by first | (simp; done) | (simp; omega) | omega) (by simp only [maxLen]; omega) (by rw [hbS]; omega) ?_; intro v1 w1 hV1 hE1 ho1; have hEq1 : Ext wx w1 := Ext.trans (by with_reducible repeat (first | exact Ext.refl _ | refine Ext.trans ?_ (Ext.drew _) | refine Ext.trans ?_ (Ext.alloc _ _))) hE1)
                  | (refine step_addS (P := Try.prog) _ (by rfl) (.tmp 48) (.tmp 53) 23 23 (by rfl) 1 (by decide) 9 iS _ Try.underlying23 hiS hzS hsS (by rfl) wx.heap.size v1 ((out.map sV).take k) (by rfl) (hV1.ext (by with_reducible repeat (first | exact Ext.refl _ | refine Ext.trans ?_ (Ext.drew _) | refine Ext.trans ?_ (Ext.alloc _ _)))) _ 1 [[.string (strOf x)]] (by simp) (by rfl) (by first | exact src_lit (by decide) Try.underlying23 (by rfl) (by simp [Value.oneCell']) (KL1.out wx rfl) (by with_reducible repeat (first | exact Ext.refl _ | refine Ext.trans ?_ (Ext.drew _) | refine Ext.trans ?_ (Ext.alloc _ _) | refine Ext.trans ?_ hE1)) | exact src_lit (by decide) Try.underlying23 (by rfl) (by simp [Value.oneCell']) (KL1.out wx.drew rfl) (by with_reducible repeat (first | exact Ext.refl _ | refine Ext.trans ?_ (Ext.drew _) | refine Ext.trans ?_ (Ext.alloc _ _) | refine Ext.trans ?_ hE1)) | exact src_lit (by decide) Try.underlying23 (by rfl) (by simp [Value.oneCell']) (KL2.out (wx.alloc (.cells #[] 9)) rfl) (by with_reducible repeat (first | exact Ext.refl _ | refine Ext.trans ?_ (Ext.drew _) | refine Ext.trans ?_ (Ext.alloc _ _) | refine Ext.trans ?_ hE1)) | exact src_lit (by decide) Try.underlying23 (by rfl) (by simp [Value.oneCell']) (KL2.out (wx.alloc (.cells #[] 9)).drew rfl) (by with_reducible repeat (first | exact Ext.refl _ | refine Ext.trans ?_ (Ext.drew _) | refine Ext.trans ?_ (Ext.alloc _ _) | refine Ext.trans ?_ hE1)) | exact src_lit (by decide) Try.underlying23 (by rfl) (by simp [Value.oneCell']) (KL2.out (wx.drew.alloc (.cells #[] 9)) rfl) (by with_reducible repeat (first | exact Ext.refl _ | refine Ext.trans ?_ (Ext.drew _) | refine Ext.trans ?_ (Ext.alloc _ _) | refine Ext.trans ?_ hE1)) | exact src_lit (by decide) Try.underlying23 (by rfl) (by simp [Value.oneCell']) (KL2.out (wx.drew.alloc (.cells #[] 9)).drew rfl) (by with_reducible repeat (first | exact Ext.refl _ | refine Ext.trans ?_ (Ext.drew _) | refine Ext.trans ?_ (Ext.alloc _ _) | refine Ext.trans ?_ hE1)) | exact src_lit (by decide) Try.underlying23 (by rfl) (by simp [Value.oneCell']) (Blk.new w1 _ _) (by with_reducible repeat (first | exact Ext.refl _ | refine Ext.trans ?_ (Ext.drew _) | refine Ext.trans ?_ (Ext.alloc _ _) | refine Ext.trans ?_ hE1)) | exact src_lit (by decide) Try.underlying23 (by rfl) (by simp [Value.oneCell']) (Blk.new w1.drew _ _) (by with_reducible repeat (first | exact Ext.refl _ | refine Ext.trans ?_ (Ext.drew _) | refine Ext.trans ?_ (Ext.alloc _ _) | refine Ext.trans ?_ hE1))) (by have := Ext.size hEq1; first | (simp; done) | (simp; omega) | omega) (by rw [Klt.out]; simp only [maxLen]; omega) (by rw [Klt.out, hbS]; omega) ?_; intro v2 w2 hV2 hE2; have hEq2 : Ext wx w2 := Below.trans (show Ext wx _ from (by with_reducible repeat (first | exact Ext.refl _ | exact hEq1 | refine Ext.trans ?_ (Ext.drew _) | refine Ext.trans ?_ (Ext.alloc _ _)))) hE2)
                  | (refine step_addS (P := Try.prog) _ (by rfl) (.tmp 54) (.tmp 57) 23 23 (by rfl) 1 (by decide) 9 iS _ Try.underlying23 hiS hzS hsS (by rfl) wx.heap.size v2 ((out.map sV).take k ++ [[.string (strOf x)]]) (by rfl) (hV2.ext (by with_reducible repeat (first | exact Ext.refl _ | refine Ext.trans ?_ (Ext.drew _) | refine Ext.trans ?_ (Ext.alloc _ _)))) (Value.slice (if oc = k then some ⟨ob, oo, none⟩ else some ⟨ob, oo + k, none⟩) (m - k) (oc - k)) (m - k) ((out.map sV).drop k) Kc2.out (by rfl) (BufS.src (P := Try.prog) _ (Kct.out.ext (by with_reducible repeat (first | exact Ext.refl _ | exact hEq2 | refine Ext.trans ?_ (Ext.drew _) | refine Ext.trans ?_ (Ext.alloc _ _)))) (by decide) Try.underlying23 Kc4.out) (by have := Ext.size hEq2; first | (simp; done) | (simp; omega) | omega) (by rw [Kl2.out]; simp only [maxLen]; omega) (by rw [Kl2.out, hbS]; omega) ?_; intro v3 w3 hV3 hE3; have hEq3 : Ext wx w3 := Below.trans (show Ext wx _ from (by with_reducible repeat (first | exact Ext.refl _ | exact hEq2 | refine Ext.trans ?_ (Ext.drew _) | refine Ext.trans ?_ (Ext.alloc _ _)))) hE3)))
              all_goals
                go_wp2_with fail
                all_goals
                  subst hgo
                  go_roundg (go - 1)
                  case measure => have := Kr.out; omega
                  case rel => exact ⟨i + 1, by have := Kr.out; omega, by first | rfl | simp, Kept.mk ⟨by have h := hV3; rw [Knew.out] at h; exact (h.ext (by with_reducible repeat (first | exact Ext.refl _ | refine Ext.trans ?_ (Ext.drew _) | refine Ext.trans ?_ (Ext.alloc _ _)))).lower (KEo.out.trans KEk3.out).size, KEo.out.trans (KEk3.out.trans (hEq3.trans (by with_reducible repeat (first | exact Ext.refl _ | refine Ext.trans ?_ (Ext.drew _) | refine Ext.trans ?_ (Ext.alloc _ _))))), fun h => absurd h Kne.out⟩⟩
    · have hltI : ¬ (i : Int) < (n : Int) := by omega
      have he := Kend.out hlt
      rw [he] at KK ⊢
      clear Knx Kend hnx hol
      go_wp2_with fail
      go_ret
      exact ⟨oA, oc, rfl, KK.out.1, KK.out.2.1⟩
end Edge
end Go.Proofs.Ytdjkcolceccclaa
