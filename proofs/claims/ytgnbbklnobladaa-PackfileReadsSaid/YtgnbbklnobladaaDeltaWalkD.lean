/- The walk of the document's Apply of a delta. No condition. -/
import Derived.Test.YtgnbbklnobladaaDeltaWalkC
namespace Go.Proofs.Ytgnbbklnobladaa
open Go.RowKit
namespace Delta
theorem outP_a (b : List UInt8) (S : Nat) (out s : List UInt8) (hs : s ≠ []) (h : (stepP b s).2.2 ≠ 0) : outP b S out s = ([], (stepP b s).2.2) := by
  rw [outP_step b S out s hs, if_pos h]
theorem outP_b (b : List UInt8) (S : Nat) (out s so nx : List UInt8) (hs : s ≠ []) (h : stepP b s = (so, nx, 0)) (h2 : S < out.length + so.length) : outP b S out s = ([], 3) := by
  rw [outP_step b S out s hs, h, if_neg (by simp), if_pos h2]
theorem outP_c (b : List UInt8) (S : Nat) (out s so nx : List UInt8) (hs : s ≠ []) (h : stepP b s = (so, nx, 0)) (h2 : ¬ S < out.length + so.length) : outP b S out s = outP b S (out ++ so) nx := by
  rw [outP_step b S out s hs, h, if_neg (by simp), if_neg h2]
theorem outP_e (b : List UInt8) (S : Nat) (out s : List UInt8) (e : Int) (hs : s ≠ []) (h : stepP b s = ([], [], e)) (he : e ≠ 0) : outP b S out s = ([], e) := by
  rw [outP_step b S out s hs, h, if_pos he]
theorem take_len (l : List UInt8) (a n : Nat) (h : a + n ≤ l.length) : ((l.drop a).take n).length = n := by
  rw [List.length_take, List.length_drop]; omega
set_option linter.unusedSimpArgs false
set_option linter.unusedVariables false
set_option maxRecDepth 100000 in
set_option maxHeartbeats 2000000 in
theorem refApply_any (b d : List UInt8) (hb : b.length ≤ 2000000) (hd : d.length ≤ 2000000) (most : Int) (w : World) : Calls Try.prog 18 #[.string (strOf b), .string (strOf d), .int .i64 most] w (TextE w (applyP b d most)) := by
  have hm : Try.prog.follows .mixedOrders = true := by kernel_rfl
  have hsz := strOf_size d
  have hbz := strOf_size b
  by_cases h8 : d.length < 8
  · have KP := Kept.mk (show applyP b d most = ([], 2) by unfold applyP; rw [if_pos h8])
    go_enter Try.func18, Try.ntmps18
    go_wp2_with fail
    go_ret2
    exact ⟨by rw [KP.out]; rfl, Ext.refl _⟩
  · obtain ⟨S, hS⟩ : ∃ S, S = val4 (d.drop 4) := ⟨_, rfl⟩
    have hSl : S < 4294967296 := by rw [hS]; exact val4_lt _
    have hP : applyP b d most = if val4 d ≠ b.length then ([], 13) else if (if most < 0 then 0 else most) < (S : Int) then ([], 9) else outP b S [] (d.drop 8) := by unfold applyP; rw [if_neg h8, ← hS]
    have KS := Kept.mk hS
    clear hS
    by_cases hst : val4 d ≠ b.length
    · rw [if_pos hst] at hP
      have KP := Kept.mk hP
      have hne : ((val4 d : Int) != (b.length : Int)) = true := by rw [bne_iff_ne]; omega
      clear hP hst
      go_enter Try.func18, Try.ntmps18
      go_wp2_with fail
      refine (get_any d 0 (by omega) (by omega) _).mono ?_
      rintro e w1 ⟨rfl, h1⟩
      rw [List.drop_zero]
      go_wp2_with fail
      go_ret2
      exact ⟨by rw [KP.out]; rfl, h1⟩
    · rw [if_neg hst] at hP
      have hne : ((val4 d : Int) != (b.length : Int)) = false := by rw [bne_eq_false_iff_eq]; omega
      clear hst
      by_cases hneg : most < 0
      · rw [if_pos hneg] at hP
        by_cases hlim : 0 < (S : Int)
        · rw [if_pos hlim] at hP
          have KP := Kept.mk hP
          have hI : (S : Int) > 0 := hlim
          clear hP
          have hm0 : most < 0 := hneg
          go_enter Try.func18, Try.ntmps18
          go_wp2_with fail
          refine (get_any d 0 (by omega) (by omega) _).mono ?_
          rintro e w1 ⟨rfl, h1⟩
          rw [List.drop_zero]
          go_wp2_with fail
          refine (get_any d 4 (by omega) (by omega) _).mono ?_
          rintro e w2 ⟨rfl, h2⟩
          rw [← KS.out]
          have KE := Kept.mk (h1.trans h2)
          have Kne := Kept.mk hne
          clear h1 h2 hne
          go_wp2_with fail
          go_ret2
          exact ⟨by rw [KP.out]; rfl, KE.out⟩
        · rw [if_neg hlim] at hP
          have KP := Kept.mk hP
          have hI : ¬ (S : Int) > 0 := hlim
          have hdS : decide (0 < S) = false := by rw [decide_eq_false_iff_not]; omega
          clear hP
          have hm0 : most < 0 := hneg
          go_enter Try.func18, Try.ntmps18
          go_wp2_with fail
          refine (get_any d 0 (by omega) (by omega) _).mono ?_
          rintro e w1 ⟨rfl, h1⟩
          rw [List.drop_zero]
          go_wp2_with fail
          refine (get_any d 4 (by omega) (by omega) _).mono ?_
          rintro e w2 ⟨rfl, h2⟩
          rw [← KS.out]
          have KE := Kept.mk (h1.trans h2)
          have Kne := Kept.mk hne
          clear h1 h2 hne
          go_wp2_with fail
          go_loopg [9, 10] (d.length - 8) (fun r s9 s10 wi => ∃ (o : List UInt8) (i : Nat), i + r = d.length ∧ s9 = .string (strOf o) ∧ s10 = .int .i64 (i : Int) ∧ outP b S o (d.drop i) = outP b S [] (d.drop 8) ∧ Ext w wi ∧ o.length ≤ S)
          case atStart => exact ⟨[], 8, by omega, rfl, rfl, rfl, KE.out, Nat.zero_le _⟩
          case round =>
            clear KE
            obtain ⟨o, i, hi, rfl, rfl, hO, hE, hol⟩ := hrel
            have KE := Kept.mk hE
            have KO := Kept.mk hO
            clear hE hO
            have hoz := strOf_size o
            by_cases hlt : i < d.length
            · have hltI : (i : Int) < (d.length : Int) := by omega
              have hdl : (d.drop i).length = d.length - i := List.length_drop
              have hne : d.drop i ≠ [] := by
                intro e; rw [e] at hdl; simp at hdl; omega
              have y0 := get_byte d i (by rw [strOf_size]; exact hlt)
              have n0 : i < (strOf d).size := by rw [strOf_size]; exact hlt
              have hb0 : byt (d.drop i) 0 = byt d i := by rw [byt_drop, Nat.add_zero]
              have hd1 : (d.drop i).drop 1 = d.drop (i + 1) := by rw [List.drop_drop]
              have hd5 : (d.drop i).drop 5 = d.drop (i + 5) := by rw [List.drop_drop]
              have hd9 : (d.drop i).drop 9 = d.drop (i + 9) := by rw [List.drop_drop]
              have hSP : stepP b (d.drop i) = if byt d i = 1 then
                  if d.length - i < 9 then ([], [], 2)
                  else if val4 (d.drop (i + 5)) = 0 ∨ b.length < val4 (d.drop (i + 1)) + val4 (d.drop (i + 5)) then ([], [], 3)
                  else ((b.drop (val4 (d.drop (i + 1)))).take (val4 (d.drop (i + 5))), d.drop (i + 9), 0)
                else if byt d i = 2 then
                  if d.length - i < 5 then ([], [], 2)
                  else if d.length - i < 5 + val4 (d.drop (i + 1)) then ([], [], 2)
                  else if val4 (d.drop (i + 1)) = 0 then ([], [], 3)
                  else ((d.drop (i + 5)).take (val4 (d.drop (i + 1))), (d.drop i).drop (5 + val4 (d.drop (i + 1))), 0)
                else ([], [], 3) := by
                rw [stepP, hb0, hdl, hd1, hd5, hd9]
              have KSP := Kept.mk hSP
              have Khne := Kept.mk hne
              have Kdl := Kept.mk hdl
              clear hSP hne hdl hb0 hd1 hd5 hd9
              generalize byt d i = c at y0 KSP
              by_cases h1 : c = 1
              · have q1 : (c == 1) = true := by rw [beq_iff_eq]; exact h1
                have q1' : (c != 1) = false := by rw [bne_eq_false_iff_eq]; exact h1
                have hSP := KSP.out
                rw [if_pos h1] at hSP
                clear h1 KSP
                by_cases h9 : d.length - i < 9
                · rw [if_pos h9] at hSP
                  have Kf := Kept.mk (outP_e b S o (d.drop i) 2 Khne.out hSP (by decide))
                  have hI9 : (i : Int) + 9 > (d.length : Int) := by omega
                  clear hSP
                  go_wp2_with fail
                  go_ret2
                  exact ⟨by rw [KP.out, ← KO.out, Kf.out]; rfl, KE.out⟩
                · rw [if_neg h9] at hSP
                  have hI9 : ¬ (i : Int) + 9 > (d.length : Int) := by omega
                  have ha := val4_lt (d.drop (i + 1))
                  have hn := val4_lt (d.drop (i + 5))
                  obtain ⟨a, hae⟩ : ∃ a, a = val4 (d.drop (i + 1)) := ⟨_, rfl⟩
                  obtain ⟨n, hne⟩ : ∃ n, n = val4 (d.drop (i + 5)) := ⟨_, rfl⟩
                  rw [← hae, ← hne] at hSP
                  rw [← hae] at ha
                  rw [← hne] at hn
                  have KSP := Kept.mk hSP
                  have Ka := Kept.mk hae
                  have Kn := Kept.mk hne
                  clear hSP hae hne
                  go_wp2_with fail
                  have hg1 := get_any d (i + 1) (by omega) (by omega) wr
                  rw [Int.natCast_add, ← Ka.out] at hg1
                  refine hg1.mono ?_
                  rintro e w3 ⟨rfl, h3⟩
                  clear hg1
                  have KE3 := Kept.mk (KE.out.trans h3)
                  clear h3
                  go_wp2_with fail
                  have hg2 := get_any d (i + 5) (by omega) (by omega) w3
                  rw [Int.natCast_add, ← Kn.out] at hg2
                  refine hg2.mono ?_
                  rintro e w4 ⟨rfl, h4⟩
                  clear hg2
                  have KE := Kept.mk (KE3.out.trans h4)
                  clear h4 KE3 y0
                  rcases (show n = 0 ∨ (n ≠ 0 ∧ b.length < a + n) ∨ (n ≠ 0 ∧ a + n ≤ b.length ∧ S < o.length + n) ∨ (n ≠ 0 ∧ a + n ≤ b.length ∧ o.length + n ≤ S) by omega) with h | ⟨h, h'⟩ | ⟨h, h', h''⟩ | ⟨h, h', h''⟩
                  · have hSP := KSP.out
                    rw [if_pos (.inl h)] at hSP
                    have Kf := Kept.mk (outP_e b S o (d.drop i) 3 Khne.out hSP (by decide))
                    have qn : ((n : Int) == 0) = true := by rw [beq_iff_eq]; omega
                    clear hSP h
                    go_wp2_with fail
                    go_ret2
                    exact ⟨by rw [KP.out, ← KO.out, Kf.out]; rfl, KE.out⟩
                  · have hSP := KSP.out
                    rw [if_pos (.inr h')] at hSP
                    have Kf := Kept.mk (outP_e b S o (d.drop i) 3 Khne.out hSP (by decide))
                    have qn : ((n : Int) == 0) = false := by rw [beq_eq_false_iff_ne]; omega
                    have hI2 : (a : Int) + (n : Int) > (b.length : Int) := by omega
                    clear hSP h
                    go_wp2_with fail
                    go_ret2
                    exact ⟨by rw [KP.out, ← KO.out, Kf.out]; rfl, KE.out⟩
                  · have hSP := KSP.out
                    rw [if_neg (by omega)] at hSP
                    have Kf := Kept.mk (outP_b b S o (d.drop i) _ _ Khne.out hSP (by rw [take_len _ _ _ h']; exact h''))
                    have qn : ((n : Int) == 0) = false := by rw [beq_eq_false_iff_ne]; omega
                    have hI2 : ¬ (a : Int) + (n : Int) > (b.length : Int) := by omega
                    have hI3 : (o.length : Int) + (n : Int) > (S : Int) := by omega
                    clear hSP h
                    go_wp2_with fail
                    go_ret2
                    exact ⟨by rw [KP.out, ← KO.out, Kf.out]; rfl, KE.out⟩
                  · have hSP := KSP.out
                    rw [if_neg (by omega)] at hSP
                    have hpl := take_len b a n h'
                    have Kf := Kept.mk (outP_c b S o (d.drop i) _ _ Khne.out hSP (by rw [hpl]; omega))
                    have qn : ((n : Int) == 0) = false := by rw [beq_eq_false_iff_ne]; omega
                    have hI2 : ¬ (a : Int) + (n : Int) > (b.length : Int) := by omega
                    have hI3 : ¬ (o.length : Int) + (n : Int) > (S : Int) := by omega
                    have hI4 : (a : Int) ≤ (a : Int) + (n : Int) := by omega
                    have hI5 : (a : Int) + (n : Int) ≤ (b.length : Int) := by omega
                    have hx : (strOf b).extract a (a + n) = strOf ((b.drop a).take n) := by rw [strOf_extract, Nat.add_sub_cancel_left]
                    generalize (b.drop a).take n = p at hx hpl Kf
                    have hpz : (strOf p).size = n := by rw [strOf_size]; exact hpl
                    have hcat : o.length + n ≤ 9223372036854775807 := by omega
                    have hpp := strOf_append o p
                    have Kpl := Kept.mk hpl
                    clear hSP h hpl
                    go_wp2_with fail
                    go_roundg (gk - 9)
                    case measure => omega
                    case rel => exact ⟨o ++ p, i + 9, by omega, rfl, by go_num, by rw [← Kf.out]; exact KO.out, KE.out, by rw [List.length_append, Kpl.out]; omega⟩
              · have q1 : (c == 1) = false := by rw [beq_eq_false_iff_ne]; exact h1
                have q1' : (c != 1) = true := by rw [bne_iff_ne]; exact h1
                have hSP := KSP.out
                rw [if_neg h1] at hSP
                clear h1 KSP
                by_cases h2 : c = 2
                · have q2' : (c != 2) = false := by rw [bne_eq_false_iff_eq]; exact h2
                  rw [if_pos h2] at hSP
                  clear h2
                  by_cases h5 : d.length - i < 5
                  · rw [if_pos h5] at hSP
                    have Kf := Kept.mk (outP_e b S o (d.drop i) 2 Khne.out hSP (by decide))
                    have hI5 : (i : Int) + 5 > (d.length : Int) := by omega
                    clear hSP
                    go_wp2_with fail
                    go_ret2
                    exact ⟨by rw [KP.out, ← KO.out, Kf.out]; rfl, KE.out⟩
                  · rw [if_neg h5] at hSP
                    have hI5 : ¬ (i : Int) + 5 > (d.length : Int) := by omega
                    have hn := val4_lt (d.drop (i + 1))
                    obtain ⟨n, hne⟩ : ∃ n, n = val4 (d.drop (i + 1)) := ⟨_, rfl⟩
                    rw [← hne] at hSP hn
                    have KSP := Kept.mk hSP
                    have Kn := Kept.mk hne
                    clear hSP hne
                    go_wp2_with fail
                    have hg1 := get_any d (i + 1) (by omega) (by omega) wr
                    rw [Int.natCast_add, ← Kn.out] at hg1
                    refine hg1.mono ?_
                    rintro e w3 ⟨rfl, h3⟩
                    clear hg1
                    have KE := Kept.mk (KE.out.trans h3)
                    clear h3 y0
                    rcases (show d.length - i < 5 + n ∨ (5 + n ≤ d.length - i ∧ n = 0) ∨ (5 + n ≤ d.length - i ∧ n ≠ 0 ∧ S < o.length + n) ∨ (5 + n ≤ d.length - i ∧ n ≠ 0 ∧ o.length + n ≤ S) by omega) with h | ⟨h', h⟩ | ⟨h', h, h''⟩ | ⟨h', h, h''⟩
                    · have hSP := KSP.out
                      rw [if_pos h] at hSP
                      have Kf := Kept.mk (outP_e b S o (d.drop i) 2 Khne.out hSP (by decide))
                      have hI2 : (i : Int) + 5 + (n : Int) > (d.length : Int) := by omega
                      clear hSP h
                      go_wp2_with fail
                      go_ret2
                      exact ⟨by rw [KP.out, ← KO.out, Kf.out]; rfl, KE.out⟩
                    · have hSP := KSP.out
                      rw [if_neg (by omega), if_pos h] at hSP
                      have Kf := Kept.mk (outP_e b S o (d.drop i) 3 Khne.out hSP (by decide))
                      have qn : ((n : Int) == 0) = true := by rw [beq_iff_eq]; omega
                      have hI2 : ¬ (i : Int) + 5 + (n : Int) > (d.length : Int) := by omega
                      clear hSP h
                      go_wp2_with fail
                      go_ret2
                      exact ⟨by rw [KP.out, ← KO.out, Kf.out]; rfl, KE.out⟩
                    · have hSP := KSP.out
                      rw [if_neg (by omega), if_neg h] at hSP
                      have Kf := Kept.mk (outP_b b S o (d.drop i) _ _ Khne.out hSP (by rw [take_len _ _ _ (by omega)]; exact h''))
                      have qn : ((n : Int) == 0) = false := by rw [beq_eq_false_iff_ne]; omega
                      have hI2 : ¬ (i : Int) + 5 + (n : Int) > (d.length : Int) := by omega
                      have hI3 : (o.length : Int) + (n : Int) > (S : Int) := by omega
                      clear hSP h
                      go_wp2_with fail
                      go_ret2
                      exact ⟨by rw [KP.out, ← KO.out, Kf.out]; rfl, KE.out⟩
                    · have hSP := KSP.out
                      rw [if_neg (by omega), if_neg h, List.drop_drop] at hSP
                      have hpl := take_len d (i + 5) n (by omega)
                      have Kf := Kept.mk (outP_c b S o (d.drop i) _ _ Khne.out hSP (by rw [hpl]; omega))
                      have qn : ((n : Int) == 0) = false := by rw [beq_eq_false_iff_ne]; omega
                      have hI2 : ¬ (i : Int) + 5 + (n : Int) > (d.length : Int) := by omega
                      have hI3 : ¬ (o.length : Int) + (n : Int) > (S : Int) := by omega
                      have hI4 : (i : Int) + 5 ≤ (i : Int) + 5 + (n : Int) := by omega
                      have hI6 : (i : Int) + 5 + (n : Int) ≤ (d.length : Int) := by omega
                      have hx : (strOf d).extract (i + 5) (i + 5 + n) = strOf ((d.drop (i + 5)).take n) := by rw [strOf_extract, Nat.add_sub_cancel_left]
                      generalize (d.drop (i + 5)).take n = p at hx hpl Kf
                      have hpz : (strOf p).size = n := by rw [strOf_size]; exact hpl
                      have hcat : o.length + n ≤ 9223372036854775807 := by omega
                      have hpp := strOf_append o p
                      have Kpl := Kept.mk hpl
                      clear hSP h hpl
                      go_wp2_with fail
                      go_roundg (gk - (5 + n))
                      case measure => omega
                      case rel => exact ⟨o ++ p, i + (5 + n), by omega, rfl, by go_num, by rw [← Kf.out]; exact KO.out, KE.out, by rw [List.length_append, Kpl.out]; omega⟩
                · have q2' : (c != 2) = true := by rw [bne_iff_ne]; exact h2
                  rw [if_neg h2] at hSP
                  have Kf := Kept.mk (outP_e b S o (d.drop i) 3 Khne.out hSP (by decide))
                  clear hSP h2
                  go_wp2_with fail
                  go_ret2
                  exact ⟨by rw [KP.out, ← KO.out, Kf.out]; rfl, KE.out⟩
            · have hltI : ¬ (i : Int) < (d.length : Int) := by omega
              have hnil : d.drop i = [] := List.drop_eq_nil_of_le (by omega)
              have hfin := KO.out
              rw [hnil, outP_end] at hfin
              by_cases hlen : o.length = S
              · rw [if_pos hlen] at hfin
                have Kf := Kept.mk hfin
                have qn : ((o.length : Int) != (S : Int)) = false := by rw [bne_eq_false_iff_eq]; omega
                clear hfin hlen hnil
                go_wp2_with fail
                go_ret2
                exact ⟨by rw [KP.out, ← Kf.out]; rfl, KE.out⟩
              · rw [if_neg hlen] at hfin
                have Kf := Kept.mk hfin
                have qn : ((o.length : Int) != (S : Int)) = true := by rw [bne_iff_ne]; omega
                clear hfin hlen hnil
                go_wp2_with fail
                go_ret2
                exact ⟨by rw [KP.out, ← Kf.out]; rfl, KE.out⟩
      · rw [if_neg hneg] at hP
        by_cases hlim : most < (S : Int)
        · rw [if_pos hlim] at hP
          have KP := Kept.mk hP
          have hI : (S : Int) > most := hlim
          clear hP
          have hm0 : ¬ most < 0 := hneg
          go_enter Try.func18, Try.ntmps18
          go_wp2_with fail
          refine (get_any d 0 (by omega) (by omega) _).mono ?_
          rintro e w1 ⟨rfl, h1⟩
          rw [List.drop_zero]
          go_wp2_with fail
          refine (get_any d 4 (by omega) (by omega) _).mono ?_
          rintro e w2 ⟨rfl, h2⟩
          rw [← KS.out]
          have KE := Kept.mk (h1.trans h2)
          have Kne := Kept.mk hne
          clear h1 h2 hne
          go_wp2_with fail
          go_ret2
          exact ⟨by rw [KP.out]; rfl, KE.out⟩
        · rw [if_neg hlim] at hP
          have KP := Kept.mk hP
          have hI : ¬ (S : Int) > most := hlim
          clear hP
          have hm0 : ¬ most < 0 := hneg
          go_enter Try.func18, Try.ntmps18
          go_wp2_with fail
          refine (get_any d 0 (by omega) (by omega) _).mono ?_
          rintro e w1 ⟨rfl, h1⟩
          rw [List.drop_zero]
          go_wp2_with fail
          refine (get_any d 4 (by omega) (by omega) _).mono ?_
          rintro e w2 ⟨rfl, h2⟩
          rw [← KS.out]
          have KE := Kept.mk (h1.trans h2)
          have Kne := Kept.mk hne
          clear h1 h2 hne
          go_wp2_with fail
          go_loopg [9, 10] (d.length - 8) (fun r s9 s10 wi => ∃ (o : List UInt8) (i : Nat), i + r = d.length ∧ s9 = .string (strOf o) ∧ s10 = .int .i64 (i : Int) ∧ outP b S o (d.drop i) = outP b S [] (d.drop 8) ∧ Ext w wi ∧ o.length ≤ S)
          case atStart => exact ⟨[], 8, by omega, rfl, rfl, rfl, KE.out, Nat.zero_le _⟩
          case round =>
            clear KE
            obtain ⟨o, i, hi, rfl, rfl, hO, hE, hol⟩ := hrel
            have KE := Kept.mk hE
            have KO := Kept.mk hO
            clear hE hO
            have hoz := strOf_size o
            by_cases hlt : i < d.length
            · have hltI : (i : Int) < (d.length : Int) := by omega
              have hdl : (d.drop i).length = d.length - i := List.length_drop
              have hne : d.drop i ≠ [] := by
                intro e; rw [e] at hdl; simp at hdl; omega
              have y0 := get_byte d i (by rw [strOf_size]; exact hlt)
              have n0 : i < (strOf d).size := by rw [strOf_size]; exact hlt
              have hb0 : byt (d.drop i) 0 = byt d i := by rw [byt_drop, Nat.add_zero]
              have hd1 : (d.drop i).drop 1 = d.drop (i + 1) := by rw [List.drop_drop]
              have hd5 : (d.drop i).drop 5 = d.drop (i + 5) := by rw [List.drop_drop]
              have hd9 : (d.drop i).drop 9 = d.drop (i + 9) := by rw [List.drop_drop]
              have hSP : stepP b (d.drop i) = if byt d i = 1 then
                  if d.length - i < 9 then ([], [], 2)
                  else if val4 (d.drop (i + 5)) = 0 ∨ b.length < val4 (d.drop (i + 1)) + val4 (d.drop (i + 5)) then ([], [], 3)
                  else ((b.drop (val4 (d.drop (i + 1)))).take (val4 (d.drop (i + 5))), d.drop (i + 9), 0)
                else if byt d i = 2 then
                  if d.length - i < 5 then ([], [], 2)
                  else if d.length - i < 5 + val4 (d.drop (i + 1)) then ([], [], 2)
                  else if val4 (d.drop (i + 1)) = 0 then ([], [], 3)
                  else ((d.drop (i + 5)).take (val4 (d.drop (i + 1))), (d.drop i).drop (5 + val4 (d.drop (i + 1))), 0)
                else ([], [], 3) := by
                rw [stepP, hb0, hdl, hd1, hd5, hd9]
              have KSP := Kept.mk hSP
              have Khne := Kept.mk hne
              have Kdl := Kept.mk hdl
              clear hSP hne hdl hb0 hd1 hd5 hd9
              generalize byt d i = c at y0 KSP
              by_cases h1 : c = 1
              · have q1 : (c == 1) = true := by rw [beq_iff_eq]; exact h1
                have q1' : (c != 1) = false := by rw [bne_eq_false_iff_eq]; exact h1
                have hSP := KSP.out
                rw [if_pos h1] at hSP
                clear h1 KSP
                by_cases h9 : d.length - i < 9
                · rw [if_pos h9] at hSP
                  have Kf := Kept.mk (outP_e b S o (d.drop i) 2 Khne.out hSP (by decide))
                  have hI9 : (i : Int) + 9 > (d.length : Int) := by omega
                  clear hSP
                  go_wp2_with fail
                  go_ret2
                  exact ⟨by rw [KP.out, ← KO.out, Kf.out]; rfl, KE.out⟩
                · rw [if_neg h9] at hSP
                  have hI9 : ¬ (i : Int) + 9 > (d.length : Int) := by omega
                  have ha := val4_lt (d.drop (i + 1))
                  have hn := val4_lt (d.drop (i + 5))
                  obtain ⟨a, hae⟩ : ∃ a, a = val4 (d.drop (i + 1)) := ⟨_, rfl⟩
                  obtain ⟨n, hne⟩ : ∃ n, n = val4 (d.drop (i + 5)) := ⟨_, rfl⟩
                  rw [← hae, ← hne] at hSP
                  rw [← hae] at ha
                  rw [← hne] at hn
                  have KSP := Kept.mk hSP
                  have Ka := Kept.mk hae
                  have Kn := Kept.mk hne
                  clear hSP hae hne
                  go_wp2_with fail
                  have hg1 := get_any d (i + 1) (by omega) (by omega) wr
                  rw [Int.natCast_add, ← Ka.out] at hg1
                  refine hg1.mono ?_
                  rintro e w3 ⟨rfl, h3⟩
                  clear hg1
                  have KE3 := Kept.mk (KE.out.trans h3)
                  clear h3
                  go_wp2_with fail
                  have hg2 := get_any d (i + 5) (by omega) (by omega) w3
                  rw [Int.natCast_add, ← Kn.out] at hg2
                  refine hg2.mono ?_
                  rintro e w4 ⟨rfl, h4⟩
                  clear hg2
                  have KE := Kept.mk (KE3.out.trans h4)
                  clear h4 KE3 y0
                  rcases (show n = 0 ∨ (n ≠ 0 ∧ b.length < a + n) ∨ (n ≠ 0 ∧ a + n ≤ b.length ∧ S < o.length + n) ∨ (n ≠ 0 ∧ a + n ≤ b.length ∧ o.length + n ≤ S) by omega) with h | ⟨h, h'⟩ | ⟨h, h', h''⟩ | ⟨h, h', h''⟩
                  · have hSP := KSP.out
                    rw [if_pos (.inl h)] at hSP
                    have Kf := Kept.mk (outP_e b S o (d.drop i) 3 Khne.out hSP (by decide))
                    have qn : ((n : Int) == 0) = true := by rw [beq_iff_eq]; omega
                    clear hSP h
                    go_wp2_with fail
                    go_ret2
                    exact ⟨by rw [KP.out, ← KO.out, Kf.out]; rfl, KE.out⟩
                  · have hSP := KSP.out
                    rw [if_pos (.inr h')] at hSP
                    have Kf := Kept.mk (outP_e b S o (d.drop i) 3 Khne.out hSP (by decide))
                    have qn : ((n : Int) == 0) = false := by rw [beq_eq_false_iff_ne]; omega
                    have hI2 : (a : Int) + (n : Int) > (b.length : Int) := by omega
                    clear hSP h
                    go_wp2_with fail
                    go_ret2
                    exact ⟨by rw [KP.out, ← KO.out, Kf.out]; rfl, KE.out⟩
                  · have hSP := KSP.out
                    rw [if_neg (by omega)] at hSP
                    have Kf := Kept.mk (outP_b b S o (d.drop i) _ _ Khne.out hSP (by rw [take_len _ _ _ h']; exact h''))
                    have qn : ((n : Int) == 0) = false := by rw [beq_eq_false_iff_ne]; omega
                    have hI2 : ¬ (a : Int) + (n : Int) > (b.length : Int) := by omega
                    have hI3 : (o.length : Int) + (n : Int) > (S : Int) := by omega
                    clear hSP h
                    go_wp2_with fail
                    go_ret2
                    exact ⟨by rw [KP.out, ← KO.out, Kf.out]; rfl, KE.out⟩
                  · have hSP := KSP.out
                    rw [if_neg (by omega)] at hSP
                    have hpl := take_len b a n h'
                    have Kf := Kept.mk (outP_c b S o (d.drop i) _ _ Khne.out hSP (by rw [hpl]; omega))
                    have qn : ((n : Int) == 0) = false := by rw [beq_eq_false_iff_ne]; omega
                    have hI2 : ¬ (a : Int) + (n : Int) > (b.length : Int) := by omega
                    have hI3 : ¬ (o.length : Int) + (n : Int) > (S : Int) := by omega
                    have hI4 : (a : Int) ≤ (a : Int) + (n : Int) := by omega
                    have hI5 : (a : Int) + (n : Int) ≤ (b.length : Int) := by omega
                    have hx : (strOf b).extract a (a + n) = strOf ((b.drop a).take n) := by rw [strOf_extract, Nat.add_sub_cancel_left]
                    generalize (b.drop a).take n = p at hx hpl Kf
                    have hpz : (strOf p).size = n := by rw [strOf_size]; exact hpl
                    have hcat : o.length + n ≤ 9223372036854775807 := by omega
                    have hpp := strOf_append o p
                    have Kpl := Kept.mk hpl
                    clear hSP h hpl
                    go_wp2_with fail
                    go_roundg (gk - 9)
                    case measure => omega
                    case rel => exact ⟨o ++ p, i + 9, by omega, rfl, by go_num, by rw [← Kf.out]; exact KO.out, KE.out, by rw [List.length_append, Kpl.out]; omega⟩
              · have q1 : (c == 1) = false := by rw [beq_eq_false_iff_ne]; exact h1
                have q1' : (c != 1) = true := by rw [bne_iff_ne]; exact h1
                have hSP := KSP.out
                rw [if_neg h1] at hSP
                clear h1 KSP
                by_cases h2 : c = 2
                · have q2' : (c != 2) = false := by rw [bne_eq_false_iff_eq]; exact h2
                  rw [if_pos h2] at hSP
                  clear h2
                  by_cases h5 : d.length - i < 5
                  · rw [if_pos h5] at hSP
                    have Kf := Kept.mk (outP_e b S o (d.drop i) 2 Khne.out hSP (by decide))
                    have hI5 : (i : Int) + 5 > (d.length : Int) := by omega
                    clear hSP
                    go_wp2_with fail
                    go_ret2
                    exact ⟨by rw [KP.out, ← KO.out, Kf.out]; rfl, KE.out⟩
                  · rw [if_neg h5] at hSP
                    have hI5 : ¬ (i : Int) + 5 > (d.length : Int) := by omega
                    have hn := val4_lt (d.drop (i + 1))
                    obtain ⟨n, hne⟩ : ∃ n, n = val4 (d.drop (i + 1)) := ⟨_, rfl⟩
                    rw [← hne] at hSP hn
                    have KSP := Kept.mk hSP
                    have Kn := Kept.mk hne
                    clear hSP hne
                    go_wp2_with fail
                    have hg1 := get_any d (i + 1) (by omega) (by omega) wr
                    rw [Int.natCast_add, ← Kn.out] at hg1
                    refine hg1.mono ?_
                    rintro e w3 ⟨rfl, h3⟩
                    clear hg1
                    have KE := Kept.mk (KE.out.trans h3)
                    clear h3 y0
                    rcases (show d.length - i < 5 + n ∨ (5 + n ≤ d.length - i ∧ n = 0) ∨ (5 + n ≤ d.length - i ∧ n ≠ 0 ∧ S < o.length + n) ∨ (5 + n ≤ d.length - i ∧ n ≠ 0 ∧ o.length + n ≤ S) by omega) with h | ⟨h', h⟩ | ⟨h', h, h''⟩ | ⟨h', h, h''⟩
                    · have hSP := KSP.out
                      rw [if_pos h] at hSP
                      have Kf := Kept.mk (outP_e b S o (d.drop i) 2 Khne.out hSP (by decide))
                      have hI2 : (i : Int) + 5 + (n : Int) > (d.length : Int) := by omega
                      clear hSP h
                      go_wp2_with fail
                      go_ret2
                      exact ⟨by rw [KP.out, ← KO.out, Kf.out]; rfl, KE.out⟩
                    · have hSP := KSP.out
                      rw [if_neg (by omega), if_pos h] at hSP
                      have Kf := Kept.mk (outP_e b S o (d.drop i) 3 Khne.out hSP (by decide))
                      have qn : ((n : Int) == 0) = true := by rw [beq_iff_eq]; omega
                      have hI2 : ¬ (i : Int) + 5 + (n : Int) > (d.length : Int) := by omega
                      clear hSP h
                      go_wp2_with fail
                      go_ret2
                      exact ⟨by rw [KP.out, ← KO.out, Kf.out]; rfl, KE.out⟩
                    · have hSP := KSP.out
                      rw [if_neg (by omega), if_neg h] at hSP
                      have Kf := Kept.mk (outP_b b S o (d.drop i) _ _ Khne.out hSP (by rw [take_len _ _ _ (by omega)]; exact h''))
                      have qn : ((n : Int) == 0) = false := by rw [beq_eq_false_iff_ne]; omega
                      have hI2 : ¬ (i : Int) + 5 + (n : Int) > (d.length : Int) := by omega
                      have hI3 : (o.length : Int) + (n : Int) > (S : Int) := by omega
                      clear hSP h
                      go_wp2_with fail
                      go_ret2
                      exact ⟨by rw [KP.out, ← KO.out, Kf.out]; rfl, KE.out⟩
                    · have hSP := KSP.out
                      rw [if_neg (by omega), if_neg h, List.drop_drop] at hSP
                      have hpl := take_len d (i + 5) n (by omega)
                      have Kf := Kept.mk (outP_c b S o (d.drop i) _ _ Khne.out hSP (by rw [hpl]; omega))
                      have qn : ((n : Int) == 0) = false := by rw [beq_eq_false_iff_ne]; omega
                      have hI2 : ¬ (i : Int) + 5 + (n : Int) > (d.length : Int) := by omega
                      have hI3 : ¬ (o.length : Int) + (n : Int) > (S : Int) := by omega
                      have hI4 : (i : Int) + 5 ≤ (i : Int) + 5 + (n : Int) := by omega
                      have hI6 : (i : Int) + 5 + (n : Int) ≤ (d.length : Int) := by omega
                      have hx : (strOf d).extract (i + 5) (i + 5 + n) = strOf ((d.drop (i + 5)).take n) := by rw [strOf_extract, Nat.add_sub_cancel_left]
                      generalize (d.drop (i + 5)).take n = p at hx hpl Kf
                      have hpz : (strOf p).size = n := by rw [strOf_size]; exact hpl
                      have hcat : o.length + n ≤ 9223372036854775807 := by omega
                      have hpp := strOf_append o p
                      have Kpl := Kept.mk hpl
                      clear hSP h hpl
                      go_wp2_with fail
                      go_roundg (gk - (5 + n))
                      case measure => omega
                      case rel => exact ⟨o ++ p, i + (5 + n), by omega, rfl, by go_num, by rw [← Kf.out]; exact KO.out, KE.out, by rw [List.length_append, Kpl.out]; omega⟩
                · have q2' : (c != 2) = true := by rw [bne_iff_ne]; exact h2
                  rw [if_neg h2] at hSP
                  have Kf := Kept.mk (outP_e b S o (d.drop i) 3 Khne.out hSP (by decide))
                  clear hSP h2
                  go_wp2_with fail
                  go_ret2
                  exact ⟨by rw [KP.out, ← KO.out, Kf.out]; rfl, KE.out⟩
            · have hltI : ¬ (i : Int) < (d.length : Int) := by omega
              have hnil : d.drop i = [] := List.drop_eq_nil_of_le (by omega)
              have hfin := KO.out
              rw [hnil, outP_end] at hfin
              by_cases hlen : o.length = S
              · rw [if_pos hlen] at hfin
                have Kf := Kept.mk hfin
                have qn : ((o.length : Int) != (S : Int)) = false := by rw [bne_eq_false_iff_eq]; omega
                clear hfin hlen hnil
                go_wp2_with fail
                go_ret2
                exact ⟨by rw [KP.out, ← Kf.out]; rfl, KE.out⟩
              · rw [if_neg hlen] at hfin
                have Kf := Kept.mk hfin
                have qn : ((o.length : Int) != (S : Int)) = true := by rw [bne_iff_ne]; omega
                clear hfin hlen hnil
                go_wp2_with fail
                go_ret2
                exact ⟨by rw [KP.out, ← Kf.out]; rfl, KE.out⟩
end Delta
end Go.Proofs.Ytgnbbklnobladaa
