/- The walk of the document's Open of squeezed bytes. No condition. -/
import Derived.Test.YtgnbbklnobladaaSqzWalkB
namespace Go.Proofs.Ytgnbbklnobladaa
open Go.RowKit
namespace Sqz
open Delta (TextE infoB wraps_i64)
theorem getD_drop (l : List UInt8) (i k : Nat) : (l.drop i).getD k 0 = l.getD (i + k) 0 := by simp [List.getD, List.getElem?_drop]
set_option linter.unusedSimpArgs false
set_option linter.unusedVariables false
set_option maxRecDepth 100000 in
set_option maxHeartbeats 8000000 in
theorem refOpen_neg (s : List UInt8) (hs : s.length ≤ 1000000) (most : Int) (hneg : most < 0) (w : World) : Calls Try.prog 17 #[.string (strOf s), .int .i64 most] w (TextE w (openM 0 s)) := by
  have hm : Try.prog.follows .mixedOrders = true := by kernel_rfl
  obtain ⟨iB, hiB, hzB, hsB, hbB⟩ := infoB
  have hsz := strOf_size s
  by_cases h0 : s = []
  · subst h0
    rw [openM_nil]
    go_enter Try.func17, Try.ntmps17
    go_wp2_with fail
    go_ret2
    exact ⟨rfl, Ext.refl _⟩
  · have hpos : 0 < s.length := List.length_pos_iff.2 h0
    have hposI : (0 : Int) < (s.length : Int) := by omega
    have hne : ((s.length : Int) == 0) = false := by rw [beq_eq_false_iff_ne]; omega
    have y0a := get_nat s 0 (by omega)
    have n0 : 0 < (strOf s).size := by omega
    have hO := openM_stored 0 s h0
    have hP := openM_packed 0 s h0
    have hQ := openM_other 0 s h0
    have hcb : (s.getD 0 0).toNat < 256 := (s.getD 0 0).toNat_lt
    generalize (s.getD 0 0).toNat = c at y0a hO hP hQ hcb
    have hj : (1 : Int) ≤ (s.length : Int) := by omega
    have K0 := Kept.mk h0
    clear h0
    rcases (show c = 0 ∨ c = 1 ∨ 2 ≤ c by omega) with h | h | h
    · subst h
      have hx : (strOf s).extract 1 s.length = strOf (s.drop 1) := by
        have := strOf_tail s 1
        rwa [hsz] at this
      replace hO := hO rfl
      generalize s.drop 1 = p at hx hO
      by_cases hl : 0 < (s.length : Int) - 1
      · rw [if_pos hl] at hO
        have Kf := Kept.mk hO
        have hI : (s.length : Int) - 1 > 0 := hl
        clear hO hP hQ
        go_enter Try.func17, Try.ntmps17
        go_wp2_with fail
        go_ret2
        exact ⟨by rw [Kf.out]; rfl, Ext.refl _⟩
      · rw [if_neg hl] at hO
        have Kf := Kept.mk hO
        have hI : ¬ (s.length : Int) - 1 > 0 := hl
        clear hO hP hQ
        go_enter Try.func17, Try.ntmps17
        go_wp2_with fail
        go_ret2
        exact ⟨by rw [Kf.out]; rfl, Ext.refl _⟩
    · subst h
      rw [hP rfl]
      obtain ⟨Y, hY⟩ : ∃ Y, Y = toks 0 [] (s.drop 1) := ⟨_, rfl⟩
      rw [← hY]
      have KY := Kept.mk hY
      clear hO hP hQ hY
      go_enter Try.func17, Try.ntmps17
      go_wp2_with fail
      clear y0a n0
      go_loopg [6, 7] (s.length - 1) (fun r o iv wi => ∃ (out : List UInt8) (i : Nat) (A : Option Addr) (cap : Nat), i + r = s.length ∧ o = .slice A out.length cap ∧ iv = .int .i64 (i : Int) ∧ toks 0 out (s.drop i) = Y ∧ Buf wi w.heap.size 5 (.slice A out.length cap) (bytesV out) ∧ Ext w wi ∧ out.length + r * 131 ≤ 131000000)
      case atStart => exact ⟨[], 1, none, 0, by omega, rfl, rfl, KY.out.symm, Buf.nil _ _ _, Ext.refl _, by simp; omega⟩
      case round =>
        obtain ⟨out, i, A, cap, hr, rfl, rfl, hO, hV, hE, hob⟩ := hrel
        have hll := bytesV_length out
        have KV := Kept.mk hV
        have KE := Kept.mk hE
        have KO := Kept.mk hO
        have hBw := hE.size
        have hrl : (s.drop i).length = s.length - i := List.length_drop
        have hrb : (s.length - i) * 131 ≤ 131000000 := by
          have : (s.length - i) * 131 ≤ 1000000 * 131 := Nat.mul_le_mul_right _ (by omega)
          omega
        have hob2 : out.length + (s.length - i) * 131 ≤ 131000000 := by
          have he : gk = s.length - i := by omega
          rw [← he]; exact hob
        have Kr := Kept.mk hr
        have hib : i ≤ s.length := by omega
        clear hV hE hO hr hob
        by_cases h0 : ¬ i < s.length
        · have hnil : s.drop i = [] := List.eq_nil_of_length_eq_zero (by omega)
          have Kf := Kept.mk (show toks 0 out (s.drop i) = (out, 0) by rw [hnil]; exact toks_nil 0 out)
          have h0I : ¬ (i : Int) < (s.length : Int) := by omega
          have kc : (convert 54 9 (.slice A out.length cap)).run Try.prog wr = .ok (.string (strOf out)) wr := conv_buf wr _ _ _ Try.underlying54 Try.underlying5 Try.underlying9 _ KV.out
          clear hrl hnil
          go_wp2_with fail
          go_ret2
          exact ⟨by rw [← KO.out, Kf.out]; rfl, KE.out⟩
        · have h0 : i < s.length := Decidable.of_not_not h0
          have hn0 : s.drop i ≠ [] := by intro e; rw [e] at hrl; simp at hrl; omega
          have h0I : (i : Int) < (s.length : Int) := by omega
          have y0a := get_nat s i (by omega)
          have n0 : i < (strOf s).size := by omega
          obtain ⟨c, hc⟩ : ∃ c, c = tok (s.drop i) := ⟨_, rfl⟩
          have y0 : (((strOf s)[i].toNat : Nat) : Int) = (c : Int) := by rw [y0a, hc]; unfold tok; rw [getD_drop]; rfl
          clear y0a
          have hcb : c < 256 := by rw [hc]; exact ((s.drop i).getD 0 0).toNat_lt
          have hS : tokStep 0 out (s.drop i) = if c < 128 then (if s.length - i < c + 2 then (2, [], 0) else if 0 < (out.length : Int) + c + 1 then (9, [], 0) else (0, out ++ (s.drop (i + 1)).take (c + 1), c + 2))
            else (if s.length - i < 3 then (2, [], 0) else if farP (s.drop i) = 0 ∨ out.length < farP (s.drop i) then (3, [], 0) else if 0 < (out.length : Int) + (c - 124 : Nat) then (9, [], 0) else (0, rep (farP (s.drop i)) (c - 124) out, 3)) := by rw [hc, ← hrl, ← List.drop_drop]; rfl
          have K0 := Kept.mk hn0
          clear hc hn0 hrl
          by_cases h1 : c < 128
          · have hI1 : (c : Int) < 128 := by omega
            rw [if_pos h1] at hS
            by_cases h2 : s.length - i < c + 2
            · rw [if_pos h2] at hS
              have Kf := Kept.mk (toks_bad 0 out _ K0.out _ _ _ hS (by decide))
              have hI2 : (i : Int) + 1 + (c : Int) ≥ (s.length : Int) := by omega
              clear hS h2
              go_wp2_with fail
              go_ret2
              exact ⟨by rw [← KO.out, Kf.out]; rfl, KE.out⟩
            · rw [if_neg h2] at hS
              have hI2 : ¬ (i : Int) + 1 + (c : Int) ≥ (s.length : Int) := by omega
              by_cases h3 : 0 < (out.length : Int) + c + 1
              · rw [if_pos h3] at hS
                have Kf := Kept.mk (toks_bad 0 out _ K0.out _ _ _ hS (by decide))
                have hI3 : (out.length : Int) + (c : Int) + 1 > 0 := h3
                clear hS h2
                go_wp2_with fail
                go_ret2
                exact ⟨by rw [← KO.out, Kf.out]; rfl, KE.out⟩
              · exfalso; omega
          · have hI1 : ¬ (c : Int) < 128 := by omega
            rw [if_neg h1] at hS
            by_cases h2 : s.length - i < 3
            · rw [if_pos h2] at hS
              have Kf := Kept.mk (toks_bad 0 out _ K0.out _ _ _ hS (by decide))
              have hI2 : (i : Int) + 2 ≥ (s.length : Int) := by omega
              clear hS h2
              go_wp2_with fail
              go_ret2
              exact ⟨by rw [← KO.out, Kf.out]; rfl, KE.out⟩
            · rw [if_neg h2] at hS
              have hI2 : ¬ (i : Int) + 2 ≥ (s.length : Int) := by omega
              have y1 := get_nat s (i + 1) (by omega)
              have y2 := get_nat s (i + 2) (by omega)
              have n1 : i + 1 < (strOf s).size := by omega
              have n2 : i + 2 < (strOf s).size := by omega
              have j1 : (i : Int) + 1 < (s.length : Int) := by omega
              have j2 : (i : Int) + 2 < (s.length : Int) := by omega
              have hfe : ((farP (s.drop i) : Nat) : Int) = ((s.getD (i + 1) 0).toNat : Int) * 256 + ((s.getD (i + 2) 0).toNat : Int) := by unfold farP; rw [getD_drop, getD_drop]; omega
              have z1b : (s.getD (i + 1) 0).toNat < 256 := (s.getD (i + 1) 0).toNat_lt
              have z2b : (s.getD (i + 2) 0).toNat < 256 := (s.getD (i + 2) 0).toNat_lt
              generalize (s.getD (i + 1) 0).toNat = z1 at y1 hfe z1b
              generalize (s.getD (i + 2) 0).toNat = z2 at y2 hfe z2b
              obtain ⟨f, hf⟩ : ∃ f, f = farP (s.drop i) := ⟨_, rfl⟩
              rw [← hf] at hfe hS
              have hfb : f < 65536 := by omega
              have Kfe := Kept.mk hfe
              have h2N : i + 3 ≤ s.length := by omega
              clear hf hfe h2
              go_wp2_with fail
              refine wp_region_calm DrewR 13 ([] :: [] :: [(73, 1)] :: [(72, 0), (74, 2)] :: [(75, 3)] :: [(76, 4)] :: [] :: [] :: [(79, 7)] :: [(78, 6), (80, 8)] :: [(81, 9)] :: [(77, 5), (82, 10)] :: [(83, 11)] :: [])
                ((72, 0) :: (73, 1) :: (74, 2) :: (75, 3) :: (76, 4) :: (77, 5) :: (78, 6) :: (79, 7) :: (80, 8) :: (81, 9) :: (82, 10) :: (83, 11) :: (9, 12) :: [])
                (EqV ?pce0 :: EqV ?pce1 :: EqV ?pce2 :: EqV ?pce3 :: EqV ?pce4 :: EqV ?pce5 :: EqV ?pce6 :: EqV ?pce7 :: EqV ?pce8 :: EqV ?pce9 :: EqV ?pce10 :: EqV ?pce11 :: EqV ?pce12 :: []) hm (by kernel_rfl) DrewR.refl DrewR.trans DrewR.drew
                (MonoL.at (MonoL.eq _ (MonoL.eq _ (MonoL.eq _ (MonoL.eq _ (MonoL.eq _ (MonoL.eq _ (MonoL.eq _ (MonoL.eq _ (MonoL.eq _ (MonoL.eq _ (MonoL.eq _ (MonoL.eq _ (MonoL.eq _ (MonoL.nil))))))))))))))) ?pcalmOps ?pcalmDone
              case pcalmOps =>
                intro vs
                refine (CalmOps.cons ?_ (CalmOps.cons ?_ (CalmOps.cons ?_ (CalmOps.cons ?_ (CalmOps.cons ?_ (CalmOps.cons ?_ (CalmOps.cons ?_ (CalmOps.cons ?_ (CalmOps.cons ?_ (CalmOps.cons ?_ (CalmOps.cons ?_ (CalmOps.cons ?_ (CalmOps.cons ?_ trivial)))))))))))))
                · intro w hR hL; obtain ⟨nd, rfl⟩ := hR; simp [Look, VAt, EqV] at hL; simp [Guarded, setAll, bare, hL]; go_wp2_with fail; exact CalmPost.mk (by simp; rfl) rfl (DrewR.refl _)
                · intro w hR hL; obtain ⟨nd, rfl⟩ := hR; simp [Look, VAt, EqV] at hL; simp [Guarded, setAll, bare, hL]; go_wp2_with fail; exact CalmPost.mk (by simp; rfl) rfl (DrewR.refl _)
                · intro w hR hL; obtain ⟨nd, rfl⟩ := hR; simp [Look, VAt, EqV] at hL; simp [Guarded, setAll, bare, hL]; go_wp2_with fail; exact CalmPost.mk (by simp; rfl) rfl (DrewR.refl _)
                · intro w hR hL; obtain ⟨nd, rfl⟩ := hR; simp [Look, VAt, EqV] at hL; simp [Guarded, setAll, bare, hL]; go_wp2_with fail; exact CalmPost.mk (by simp; rfl) rfl (DrewR.refl _)
                · intro w hR hL; obtain ⟨nd, rfl⟩ := hR; simp [Look, VAt, EqV] at hL; simp [Guarded, setAll, bare, hL]; go_wp2_with fail; exact CalmPost.mk (by simp; rfl) rfl (DrewR.refl _)
                · intro w hR hL; obtain ⟨nd, rfl⟩ := hR; simp [Look, VAt, EqV] at hL; simp [Guarded, setAll, bare, hL]; go_wp2_with fail; exact CalmPost.mk (by simp; rfl) rfl (DrewR.refl _)
                · intro w hR hL; obtain ⟨nd, rfl⟩ := hR; simp [Look, VAt, EqV] at hL; simp [Guarded, setAll, bare, hL]; go_wp2_with fail; exact CalmPost.mk (by simp; rfl) rfl (DrewR.refl _)
                · intro w hR hL; obtain ⟨nd, rfl⟩ := hR; simp [Look, VAt, EqV] at hL; simp [Guarded, setAll, bare, hL]; go_wp2_with fail; exact CalmPost.mk (by simp; rfl) rfl (DrewR.refl _)
                · intro w hR hL; obtain ⟨nd, rfl⟩ := hR; simp [Look, VAt, EqV] at hL; simp [Guarded, setAll, bare, hL]; go_wp2_with fail; exact CalmPost.mk (by simp; rfl) rfl (DrewR.refl _)
                · intro w hR hL; obtain ⟨nd, rfl⟩ := hR; simp [Look, VAt, EqV] at hL; simp [Guarded, setAll, bare, hL]; go_wp2_with fail; exact CalmPost.mk (by simp; rfl) rfl (DrewR.refl _)
                · intro w hR hL; obtain ⟨nd, rfl⟩ := hR; simp [Look, VAt, EqV] at hL; simp [Guarded, setAll, bare, hL]; go_wp2_with fail; exact CalmPost.mk (by simp; rfl) rfl (DrewR.refl _)
                · intro w hR hL; obtain ⟨nd, rfl⟩ := hR; simp [Look, VAt, EqV] at hL; simp [Guarded, setAll, bare, hL]; go_wp2_with fail; exact CalmPost.mk (by simp; rfl) rfl (DrewR.refl _)
                · intro w hR hL; obtain ⟨nd, rfl⟩ := hR; simp [Look, VAt, EqV] at hL; simp [Guarded, setAll, bare, hL]; go_wp2_with fail; exact CalmPost.mk (by simp; rfl) rfl (DrewR.refl _)
              case pcalmDone =>
                intro vs w6 hR hL; obtain ⟨nd, rfl⟩ := hR; simp [Look, VAt, EqV] at hL; simp [setAll, hL]; clear hL
                rw [← Kfe.out]
                have KE := Kept.mk (KE.out.trans (Ext.drewN wr nd))
                have KV := Kept.mk (show Buf (wr.drewN nd) w.heap.size 5 (.slice A out.length cap) (bytesV out) from KV.out.ext (Ext.drewN wr nd))
                have hBw : w.heap.size ≤ (wr.drewN nd).heap.size := KE.out.size
                clear y1 y2
                generalize wr.drewN nd = wq at KE KV hBw ⊢
                rcases (show f = 0 ∨ (f ≠ 0 ∧ out.length < f) ∨ (f ≠ 0 ∧ f ≤ out.length) by omega) with h | ⟨h, h'⟩ | ⟨h, h'⟩
                · rw [if_pos (.inl h)] at hS
                  have Kf := Kept.mk (toks_bad 0 out _ K0.out _ _ _ hS (by decide))
                  have qf : (f : Int) < 1 := by omega
                  clear hS h
                  go_wp2_with fail
                  go_ret2
                  exact ⟨by rw [← KO.out, Kf.out]; rfl, KE.out⟩
                · rw [if_pos (.inr h')] at hS
                  have Kf := Kept.mk (toks_bad 0 out _ K0.out _ _ _ hS (by decide))
                  have qf : ¬ (f : Int) < 1 := by omega
                  have hI3 : (f : Int) > (out.length : Int) := by omega
                  clear hS h
                  go_wp2_with fail
                  go_ret2
                  exact ⟨by rw [← KO.out, Kf.out]; rfl, KE.out⟩
                · rw [if_neg (by omega)] at hS
                  have qf : ¬ (f : Int) < 1 := by omega
                  have hI3 : ¬ (f : Int) > (out.length : Int) := by omega
                  obtain ⟨n, hn⟩ : ∃ n, n = c - 124 := ⟨_, rfl⟩
                  rw [← hn] at hS
                  have hnI2 : (c : Int) - 124 = (n : Int) := by omega
                  have hnI3 : (out.length : Int) + (c : Int) - 124 = (out.length : Int) + (n : Int) := by omega
                  have hnb : n ≤ 131 := by omega
                  have Kn := Kept.mk hn
                  clear hn
                  by_cases h3 : 0 < (out.length : Int) + (n : Nat)
                  · rw [if_pos h3] at hS
                    have Kf := Kept.mk (toks_bad 0 out _ K0.out _ _ _ hS (by decide))
                    have hI4 : (out.length : Int) + (n : Int) > 0 := h3
                    clear hS h
                    go_wp2_with fail
                    go_ret2
                    exact ⟨by rw [← KO.out, Kf.out]; rfl, KE.out⟩
                  · exfalso; omega

    · have Kf := Kept.mk (hQ h)
      have hc1 : (c : Int) > 1 := by omega
      clear hO hP hQ
      go_enter Try.func17, Try.ntmps17
      go_wp2_with fail
      go_ret2
      exact ⟨by rw [Kf.out]; rfl, Ext.refl _⟩
set_option maxRecDepth 100000 in
set_option maxHeartbeats 8000000 in
theorem refOpen_pos (s : List UInt8) (hs : s.length ≤ 1000000) (most : Int) (hneg : ¬ most < 0) (w : World) : Calls Try.prog 17 #[.string (strOf s), .int .i64 most] w (TextE w (openM most s)) := by
  have hm : Try.prog.follows .mixedOrders = true := by kernel_rfl
  obtain ⟨iB, hiB, hzB, hsB, hbB⟩ := infoB
  have hsz := strOf_size s
  by_cases h0 : s = []
  · subst h0
    rw [openM_nil]
    go_enter Try.func17, Try.ntmps17
    go_wp2_with fail
    go_ret2
    exact ⟨rfl, Ext.refl _⟩
  · have hpos : 0 < s.length := List.length_pos_iff.2 h0
    have hposI : (0 : Int) < (s.length : Int) := by omega
    have hne : ((s.length : Int) == 0) = false := by rw [beq_eq_false_iff_ne]; omega
    have y0a := get_nat s 0 (by omega)
    have n0 : 0 < (strOf s).size := by omega
    have hO := openM_stored most s h0
    have hP := openM_packed most s h0
    have hQ := openM_other most s h0
    have hcb : (s.getD 0 0).toNat < 256 := (s.getD 0 0).toNat_lt
    generalize (s.getD 0 0).toNat = c at y0a hO hP hQ hcb
    have hj : (1 : Int) ≤ (s.length : Int) := by omega
    have K0 := Kept.mk h0
    clear h0
    rcases (show c = 0 ∨ c = 1 ∨ 2 ≤ c by omega) with h | h | h
    · subst h
      have hx : (strOf s).extract 1 s.length = strOf (s.drop 1) := by
        have := strOf_tail s 1
        rwa [hsz] at this
      replace hO := hO rfl
      generalize s.drop 1 = p at hx hO
      by_cases hl : most < (s.length : Int) - 1
      · rw [if_pos hl] at hO
        have Kf := Kept.mk hO
        have hI : (s.length : Int) - 1 > most := hl
        clear hO hP hQ
        go_enter Try.func17, Try.ntmps17
        go_wp2_with fail
        go_ret2
        exact ⟨by rw [Kf.out]; rfl, Ext.refl _⟩
      · rw [if_neg hl] at hO
        have Kf := Kept.mk hO
        have hI : ¬ (s.length : Int) - 1 > most := hl
        clear hO hP hQ
        go_enter Try.func17, Try.ntmps17
        go_wp2_with fail
        go_ret2
        exact ⟨by rw [Kf.out]; rfl, Ext.refl _⟩
    · subst h
      rw [hP rfl]
      obtain ⟨Y, hY⟩ : ∃ Y, Y = toks most [] (s.drop 1) := ⟨_, rfl⟩
      rw [← hY]
      have KY := Kept.mk hY
      clear hO hP hQ hY
      go_enter Try.func17, Try.ntmps17
      go_wp2_with fail
      clear y0a n0
      go_loopg [6, 7] (s.length - 1) (fun r o iv wi => ∃ (out : List UInt8) (i : Nat) (A : Option Addr) (cap : Nat), i + r = s.length ∧ o = .slice A out.length cap ∧ iv = .int .i64 (i : Int) ∧ toks most out (s.drop i) = Y ∧ Buf wi w.heap.size 5 (.slice A out.length cap) (bytesV out) ∧ Ext w wi ∧ out.length + r * 131 ≤ 131000000)
      case atStart => exact ⟨[], 1, none, 0, by omega, rfl, rfl, KY.out.symm, Buf.nil _ _ _, Ext.refl _, by simp; omega⟩
      case round =>
        obtain ⟨out, i, A, cap, hr, rfl, rfl, hO, hV, hE, hob⟩ := hrel
        have hll := bytesV_length out
        have KV := Kept.mk hV
        have KE := Kept.mk hE
        have KO := Kept.mk hO
        have hBw := hE.size
        have hrl : (s.drop i).length = s.length - i := List.length_drop
        have hrb : (s.length - i) * 131 ≤ 131000000 := by
          have : (s.length - i) * 131 ≤ 1000000 * 131 := Nat.mul_le_mul_right _ (by omega)
          omega
        have hob2 : out.length + (s.length - i) * 131 ≤ 131000000 := by
          have he : gk = s.length - i := by omega
          rw [← he]; exact hob
        have Kr := Kept.mk hr
        have hib : i ≤ s.length := by omega
        clear hV hE hO hr hob
        by_cases h0 : ¬ i < s.length
        · have hnil : s.drop i = [] := List.eq_nil_of_length_eq_zero (by omega)
          have Kf := Kept.mk (show toks most out (s.drop i) = (out, 0) by rw [hnil]; exact toks_nil most out)
          have h0I : ¬ (i : Int) < (s.length : Int) := by omega
          have kc : (convert 54 9 (.slice A out.length cap)).run Try.prog wr = .ok (.string (strOf out)) wr := conv_buf wr _ _ _ Try.underlying54 Try.underlying5 Try.underlying9 _ KV.out
          clear hrl hnil
          go_wp2_with fail
          go_ret2
          exact ⟨by rw [← KO.out, Kf.out]; rfl, KE.out⟩
        · have h0 : i < s.length := Decidable.of_not_not h0
          have hn0 : s.drop i ≠ [] := by intro e; rw [e] at hrl; simp at hrl; omega
          have h0I : (i : Int) < (s.length : Int) := by omega
          have y0a := get_nat s i (by omega)
          have n0 : i < (strOf s).size := by omega
          obtain ⟨c, hc⟩ : ∃ c, c = tok (s.drop i) := ⟨_, rfl⟩
          have y0 : (((strOf s)[i].toNat : Nat) : Int) = (c : Int) := by rw [y0a, hc]; unfold tok; rw [getD_drop]; rfl
          clear y0a
          have hcb : c < 256 := by rw [hc]; exact ((s.drop i).getD 0 0).toNat_lt
          have hS : tokStep most out (s.drop i) = if c < 128 then (if s.length - i < c + 2 then (2, [], 0) else if most < (out.length : Int) + c + 1 then (9, [], 0) else (0, out ++ (s.drop (i + 1)).take (c + 1), c + 2))
            else (if s.length - i < 3 then (2, [], 0) else if farP (s.drop i) = 0 ∨ out.length < farP (s.drop i) then (3, [], 0) else if most < (out.length : Int) + (c - 124 : Nat) then (9, [], 0) else (0, rep (farP (s.drop i)) (c - 124) out, 3)) := by rw [hc, ← hrl, ← List.drop_drop]; rfl
          have K0 := Kept.mk hn0
          clear hc hn0 hrl
          by_cases h1 : c < 128
          · have hI1 : (c : Int) < 128 := by omega
            rw [if_pos h1] at hS
            by_cases h2 : s.length - i < c + 2
            · rw [if_pos h2] at hS
              have Kf := Kept.mk (toks_bad most out _ K0.out _ _ _ hS (by decide))
              have hI2 : (i : Int) + 1 + (c : Int) ≥ (s.length : Int) := by omega
              clear hS h2
              go_wp2_with fail
              go_ret2
              exact ⟨by rw [← KO.out, Kf.out]; rfl, KE.out⟩
            · rw [if_neg h2] at hS
              have hI2 : ¬ (i : Int) + 1 + (c : Int) ≥ (s.length : Int) := by omega
              by_cases h3 : most < (out.length : Int) + c + 1
              · rw [if_pos h3] at hS
                have Kf := Kept.mk (toks_bad most out _ K0.out _ _ _ hS (by decide))
                have hI3 : (out.length : Int) + (c : Int) + 1 > most := h3
                clear hS h2
                go_wp2_with fail
                go_ret2
                exact ⟨by rw [← KO.out, Kf.out]; rfl, KE.out⟩
              · rw [if_neg h3] at hS
                have Kf := Kept.mk (toks_good most out _ K0.out _ _ hS)
                rw [List.drop_drop] at Kf
                have hI3 : ¬ (out.length : Int) + (c : Int) + 1 > most := h3
                have hI4 : (i : Int) + 1 ≤ (i : Int) + 2 + (c : Int) := by omega
                have hI5 : (i : Int) + 2 + (c : Int) ≤ (s.length : Int) := by omega
                have hx : (strOf s).extract (i + 1) (i + 2 + c) = strOf ((s.drop (i + 1)).take (c + 1)) := by
                  rw [strOf_extract]
                  have : i + 2 + c - (i + 1) = c + 1 := by omega
                  rw [this]
                have hpl : ((s.drop (i + 1)).take (c + 1)).length = c + 1 := by rw [List.length_take, List.length_drop]; omega
                generalize (s.drop (i + 1)).take (c + 1) = p at hx hpl Kf
                have hpz : (strOf p).size = c + 1 := by rw [strOf_size]; exact hpl
                have Kpl := Kept.mk hpl
                have h2N : i + c + 2 ≤ s.length := by omega
                clear hS hpl h2
                go_wp2_with (refine wpList_append_buf (P := Try.prog) _ rfl (.tmp 53) (.tmp 61) 54 9 rfl 5 iB _ Try.underlying54 hiB hzB hsB rfl w.heap.size (.slice A out.length cap) (bytesV out) rfl KV.out (.string _) _ _ rfl (Src.ofString wr Try.underlying9 _) hBw (by rw [hll]; (try rw [hx]); rw [hpz]; simp only [maxLen]; omega) (by rw [hll, hbB]; (try rw [hx]); rw [hpz]; omega) ?_)
                intro v' w' hv' ht' ho'
                try rw [hx] at hv'
                rw [byteCells_eq, strOf_list, ← bytesV_append] at hv'
                have hE' : Ext w w' := Touch.below KE.out ht' (fun j hj => (KV.out.owns j hj).1) hBw
                obtain ⟨A', cap', rfl⟩ := hv'.form
                rw [bytesV_length] at hv' ⊢
                have KV' := Kept.mk hv'
                have KE' := Kept.mk hE'
                clear hv' hE' ht' ho' KV KE
                go_wp2_with fail
                go_roundg (s.length - (i + (c + 2)))
                case measure => have := Kr.out; omega
                case rel => exact ⟨out ++ p, i + (c + 2), A', cap', by omega, by first | rfl | rw [List.length_append], by first | rfl | (congr 1; omega), by rw [← Kf.out]; exact KO.out, KV'.out, KE'.out, by
                  rw [List.length_append, Kpl.out]
                  have : (s.length - (i + (c + 2)) + (c + 2)) * 131 = (s.length - i) * 131 := by congr 1; omega
                  omega⟩
          · have hI1 : ¬ (c : Int) < 128 := by omega
            rw [if_neg h1] at hS
            by_cases h2 : s.length - i < 3
            · rw [if_pos h2] at hS
              have Kf := Kept.mk (toks_bad most out _ K0.out _ _ _ hS (by decide))
              have hI2 : (i : Int) + 2 ≥ (s.length : Int) := by omega
              clear hS h2
              go_wp2_with fail
              go_ret2
              exact ⟨by rw [← KO.out, Kf.out]; rfl, KE.out⟩
            · rw [if_neg h2] at hS
              have hI2 : ¬ (i : Int) + 2 ≥ (s.length : Int) := by omega
              have y1 := get_nat s (i + 1) (by omega)
              have y2 := get_nat s (i + 2) (by omega)
              have n1 : i + 1 < (strOf s).size := by omega
              have n2 : i + 2 < (strOf s).size := by omega
              have j1 : (i : Int) + 1 < (s.length : Int) := by omega
              have j2 : (i : Int) + 2 < (s.length : Int) := by omega
              have hfe : ((farP (s.drop i) : Nat) : Int) = ((s.getD (i + 1) 0).toNat : Int) * 256 + ((s.getD (i + 2) 0).toNat : Int) := by unfold farP; rw [getD_drop, getD_drop]; omega
              have z1b : (s.getD (i + 1) 0).toNat < 256 := (s.getD (i + 1) 0).toNat_lt
              have z2b : (s.getD (i + 2) 0).toNat < 256 := (s.getD (i + 2) 0).toNat_lt
              generalize (s.getD (i + 1) 0).toNat = z1 at y1 hfe z1b
              generalize (s.getD (i + 2) 0).toNat = z2 at y2 hfe z2b
              obtain ⟨f, hf⟩ : ∃ f, f = farP (s.drop i) := ⟨_, rfl⟩
              rw [← hf] at hfe hS
              have hfb : f < 65536 := by omega
              have Kfe := Kept.mk hfe
              have h2N : i + 3 ≤ s.length := by omega
              clear hf hfe h2
              go_wp2_with fail
              refine wp_region_calm DrewR 13 ([] :: [] :: [(73, 1)] :: [(72, 0), (74, 2)] :: [(75, 3)] :: [(76, 4)] :: [] :: [] :: [(79, 7)] :: [(78, 6), (80, 8)] :: [(81, 9)] :: [(77, 5), (82, 10)] :: [(83, 11)] :: [])
                ((72, 0) :: (73, 1) :: (74, 2) :: (75, 3) :: (76, 4) :: (77, 5) :: (78, 6) :: (79, 7) :: (80, 8) :: (81, 9) :: (82, 10) :: (83, 11) :: (9, 12) :: [])
                (EqV ?pce0 :: EqV ?pce1 :: EqV ?pce2 :: EqV ?pce3 :: EqV ?pce4 :: EqV ?pce5 :: EqV ?pce6 :: EqV ?pce7 :: EqV ?pce8 :: EqV ?pce9 :: EqV ?pce10 :: EqV ?pce11 :: EqV ?pce12 :: []) hm (by kernel_rfl) DrewR.refl DrewR.trans DrewR.drew
                (MonoL.at (MonoL.eq _ (MonoL.eq _ (MonoL.eq _ (MonoL.eq _ (MonoL.eq _ (MonoL.eq _ (MonoL.eq _ (MonoL.eq _ (MonoL.eq _ (MonoL.eq _ (MonoL.eq _ (MonoL.eq _ (MonoL.eq _ (MonoL.nil))))))))))))))) ?pcalmOps ?pcalmDone
              case pcalmOps =>
                intro vs
                refine (CalmOps.cons ?_ (CalmOps.cons ?_ (CalmOps.cons ?_ (CalmOps.cons ?_ (CalmOps.cons ?_ (CalmOps.cons ?_ (CalmOps.cons ?_ (CalmOps.cons ?_ (CalmOps.cons ?_ (CalmOps.cons ?_ (CalmOps.cons ?_ (CalmOps.cons ?_ (CalmOps.cons ?_ trivial)))))))))))))
                · intro w hR hL; obtain ⟨nd, rfl⟩ := hR; simp [Look, VAt, EqV] at hL; simp [Guarded, setAll, bare, hL]; go_wp2_with fail; exact CalmPost.mk (by simp; rfl) rfl (DrewR.refl _)
                · intro w hR hL; obtain ⟨nd, rfl⟩ := hR; simp [Look, VAt, EqV] at hL; simp [Guarded, setAll, bare, hL]; go_wp2_with fail; exact CalmPost.mk (by simp; rfl) rfl (DrewR.refl _)
                · intro w hR hL; obtain ⟨nd, rfl⟩ := hR; simp [Look, VAt, EqV] at hL; simp [Guarded, setAll, bare, hL]; go_wp2_with fail; exact CalmPost.mk (by simp; rfl) rfl (DrewR.refl _)
                · intro w hR hL; obtain ⟨nd, rfl⟩ := hR; simp [Look, VAt, EqV] at hL; simp [Guarded, setAll, bare, hL]; go_wp2_with fail; exact CalmPost.mk (by simp; rfl) rfl (DrewR.refl _)
                · intro w hR hL; obtain ⟨nd, rfl⟩ := hR; simp [Look, VAt, EqV] at hL; simp [Guarded, setAll, bare, hL]; go_wp2_with fail; exact CalmPost.mk (by simp; rfl) rfl (DrewR.refl _)
                · intro w hR hL; obtain ⟨nd, rfl⟩ := hR; simp [Look, VAt, EqV] at hL; simp [Guarded, setAll, bare, hL]; go_wp2_with fail; exact CalmPost.mk (by simp; rfl) rfl (DrewR.refl _)
                · intro w hR hL; obtain ⟨nd, rfl⟩ := hR; simp [Look, VAt, EqV] at hL; simp [Guarded, setAll, bare, hL]; go_wp2_with fail; exact CalmPost.mk (by simp; rfl) rfl (DrewR.refl _)
                · intro w hR hL; obtain ⟨nd, rfl⟩ := hR; simp [Look, VAt, EqV] at hL; simp [Guarded, setAll, bare, hL]; go_wp2_with fail; exact CalmPost.mk (by simp; rfl) rfl (DrewR.refl _)
                · intro w hR hL; obtain ⟨nd, rfl⟩ := hR; simp [Look, VAt, EqV] at hL; simp [Guarded, setAll, bare, hL]; go_wp2_with fail; exact CalmPost.mk (by simp; rfl) rfl (DrewR.refl _)
                · intro w hR hL; obtain ⟨nd, rfl⟩ := hR; simp [Look, VAt, EqV] at hL; simp [Guarded, setAll, bare, hL]; go_wp2_with fail; exact CalmPost.mk (by simp; rfl) rfl (DrewR.refl _)
                · intro w hR hL; obtain ⟨nd, rfl⟩ := hR; simp [Look, VAt, EqV] at hL; simp [Guarded, setAll, bare, hL]; go_wp2_with fail; exact CalmPost.mk (by simp; rfl) rfl (DrewR.refl _)
                · intro w hR hL; obtain ⟨nd, rfl⟩ := hR; simp [Look, VAt, EqV] at hL; simp [Guarded, setAll, bare, hL]; go_wp2_with fail; exact CalmPost.mk (by simp; rfl) rfl (DrewR.refl _)
                · intro w hR hL; obtain ⟨nd, rfl⟩ := hR; simp [Look, VAt, EqV] at hL; simp [Guarded, setAll, bare, hL]; go_wp2_with fail; exact CalmPost.mk (by simp; rfl) rfl (DrewR.refl _)
              case pcalmDone =>
                intro vs w6 hR hL; obtain ⟨nd, rfl⟩ := hR; simp [Look, VAt, EqV] at hL; simp [setAll, hL]; clear hL
                rw [← Kfe.out]
                have KE := Kept.mk (KE.out.trans (Ext.drewN wr nd))
                have KV := Kept.mk (show Buf (wr.drewN nd) w.heap.size 5 (.slice A out.length cap) (bytesV out) from KV.out.ext (Ext.drewN wr nd))
                have hBw : w.heap.size ≤ (wr.drewN nd).heap.size := KE.out.size
                clear y1 y2
                generalize wr.drewN nd = wq at KE KV hBw ⊢
                rcases (show f = 0 ∨ (f ≠ 0 ∧ out.length < f) ∨ (f ≠ 0 ∧ f ≤ out.length) by omega) with h | ⟨h, h'⟩ | ⟨h, h'⟩
                · rw [if_pos (.inl h)] at hS
                  have Kf := Kept.mk (toks_bad most out _ K0.out _ _ _ hS (by decide))
                  have qf : (f : Int) < 1 := by omega
                  clear hS h
                  go_wp2_with fail
                  go_ret2
                  exact ⟨by rw [← KO.out, Kf.out]; rfl, KE.out⟩
                · rw [if_pos (.inr h')] at hS
                  have Kf := Kept.mk (toks_bad most out _ K0.out _ _ _ hS (by decide))
                  have qf : ¬ (f : Int) < 1 := by omega
                  have hI3 : (f : Int) > (out.length : Int) := by omega
                  clear hS h
                  go_wp2_with fail
                  go_ret2
                  exact ⟨by rw [← KO.out, Kf.out]; rfl, KE.out⟩
                · rw [if_neg (by omega)] at hS
                  have qf : ¬ (f : Int) < 1 := by omega
                  have hI3 : ¬ (f : Int) > (out.length : Int) := by omega
                  obtain ⟨n, hn⟩ : ∃ n, n = c - 124 := ⟨_, rfl⟩
                  rw [← hn] at hS
                  have hnI2 : (c : Int) - 124 = (n : Int) := by omega
                  have hnI3 : (out.length : Int) + (c : Int) - 124 = (out.length : Int) + (n : Int) := by omega
                  have hnb : n ≤ 131 := by omega
                  have Kn := Kept.mk hn
                  clear hn
                  by_cases h3 : most < (out.length : Int) + (n : Nat)
                  · rw [if_pos h3] at hS
                    have Kf := Kept.mk (toks_bad most out _ K0.out _ _ _ hS (by decide))
                    have hI4 : (out.length : Int) + (n : Int) > most := h3
                    clear hS h
                    go_wp2_with fail
                    go_ret2
                    exact ⟨by rw [← KO.out, Kf.out]; rfl, KE.out⟩
                  · rw [if_neg h3] at hS
                    have Kf := Kept.mk (toks_good most out _ K0.out _ _ hS)
                    rw [List.drop_drop] at Kf
                    have hI4 : ¬ (out.length : Int) + (n : Int) > most := h3
                    clear hS
                    clear y0 n0 n1 n2
                    go_wp2_with fail
                    go_loopg [6, 10] n (fun r o k wi => ∃ (j : Nat) (A : Option Addr) (cap : Nat), j + r = n ∧ k = .int .i64 (j : Int) ∧ o = .slice A (out.length + j) cap ∧ Buf wi w.heap.size 5 (.slice A (out.length + j) cap) (bytesV (rep f j out)) ∧ Ext w wi)
                    case atStart => exact ⟨0, A, cap, by omega, rfl, rfl, KV.out, KE.out⟩
                    case round =>
                      clear KV KE hBw
                      obtain ⟨j, A, cap, hj, rfl, rfl, hv, hE⟩ := hrel
                      have hl4 : (bytesV (rep f j out)).length = out.length + j := by rw [bytesV_length, rep_length]
                      have hBw := hE.size
                      by_cases hlt : j < n
                      · have hltI : (j : Int) < (n : Int) := by omega
                        obtain ⟨x, hx⟩ : ∃ x, x = (rep f j out).getD (out.length + j - f) 0 := ⟨_, rfl⟩
                        have hnx : rep f (j + 1) out = rep f j out ++ [x] := by rw [rep_snoc, rep_length, hx]
                        have hkl : out.length + j - f < (rep f j out).length := by rw [rep_length]; omega
                        have hu : (bytesV (rep f j out))[out.length + j - f]? = some (.int .u8 (x.toNat : Int)) := by
                          have hg : (rep f j out).getD (out.length + j - f) 0 = (rep f j out)[out.length + j - f] := by simp [List.getD, hkl]
                          rw [bytesV_at _ _ hkl, hx, hg]
                        obtain ⟨bl, off, rfl, hcell⟩ := hv.cell hu
                        obtain ⟨k, hk⟩ : ∃ k, k = out.length + j - f := ⟨_, rfl⟩
                        rw [← hk] at hcell
                        have hkI : ((out.length + j : Nat) : Int) - (f : Int) = (k : Int) := by omega
                        have hkI2 : (out.length : Int) + (j : Int) - (f : Int) = (k : Int) := by omega
                        have hk1 : (k : Int) < (out.length : Int) + (j : Int) := by omega
                        have hk2 : k < out.length + j := by omega
                        have hxb : x.toNat < 256 := x.toNat_lt
                        obtain ⟨xi, hxi⟩ : ∃ xi : Int, xi = (x.toNat : Int) := ⟨_, rfl⟩
                        rw [← hxi] at hcell
                        have hx0 : 0 ≤ xi := by omega
                        have hx1 : xi < 256 := by omega
                        have KV := Kept.mk hv
                        have KE := Kept.mk hE
                        have Knx := Kept.mk hnx
                        have Kxi := Kept.mk hxi
                        clear hv hE hnx hxi hx hkl hu hk hxb
                        go_wp2_with (refine wpList_append_lit (P := Try.prog) wr rfl (.tmp 105) (.tmp 113) 54 rfl 5 iB (.int .u8 0) Try.underlying54 hiB hzB hsB rfl w.heap.size (.slice (some ⟨bl, off, none⟩) (out.length + j) cap) (bytesV (rep f j out)) rfl KV.out [.int .u8 _] 1 rfl rfl (by simp [Value.oneCell']) hBw (by rw [hl4]; simp only [maxLen]; omega) (by rw [hl4, hbB]; omega) ?_)
                        intro v' w' hv' ht' ho'
                        have hE' : Ext w w' := Touch.below KE.out ht' (fun j hj => (KV.out.owns j hj).1) hBw
                        have hv2 := hv'.byte Kxi.out.symm
                        rw [← Knx.out] at hv2
                        obtain ⟨A', cap', rfl⟩ := hv2.form
                        have he : (bytesV (rep f (j + 1) out)).length = out.length + (j + 1) := by rw [bytesV_length, rep_length]
                        rw [he] at hv2 ⊢
                        have KV' := Kept.mk hv2
                        have KE' := Kept.mk hE'
                        clear hv' hv2 hE' ht' ho' KV KE hcell he
                        go_wp2_with fail
                        go_roundg (gk - 1)
                        case measure => omega
                        case rel => exact ⟨j + 1, A', cap', by omega, rfl, rfl, KV'.out, KE'.out⟩
                      · have hje : j = n := by omega
                        subst hje
                        have KV := Kept.mk hv
                        have KE := Kept.mk hE
                        have hltI : ¬ (j : Int) < (j : Int) := by omega
                        clear hv hE
                        go_wp2_with fail
                        go_roundg (s.length - (i + 3))
                        case measure => have := Kr.out; omega
                        case rel => exact ⟨rep f j out, i + 3, A, cap, by omega, by rw [rep_length], by first | rfl | (congr 1; omega), by rw [← Kf.out]; exact KO.out, by rw [rep_length]; exact KV.out, KE.out, by
                          rw [rep_length]
                          have : (s.length - (i + 3) + 3) * 131 = (s.length - i) * 131 := by congr 1; omega
                          omega⟩

    · have Kf := Kept.mk (hQ h)
      have hc1 : (c : Int) > 1 := by omega
      clear hO hP hQ
      go_enter Try.func17, Try.ntmps17
      go_wp2_with fail
      go_ret2
      exact ⟨by rw [Kf.out]; rfl, Ext.refl _⟩
theorem refOpen_any (s : List UInt8) (hs : s.length ≤ 1000000) (most : Int) (w : World) : Calls Try.prog 17 #[.string (strOf s), .int .i64 most] w (TextE w (openP s most)) := by
  unfold openP
  by_cases h : most < 0
  · rw [if_pos h]; exact refOpen_neg s hs most h w
  · rw [if_neg h]; exact refOpen_pos s hs most h w
end Sqz
end Go.Proofs.Ytgnbbklnobladaa
