/- The walk of a delta's Apply. No condition. -/
import Derived.Test.YtgnbbklnobladaaDeltaWalkB
namespace Go.Proofs.Ytgnbbklnobladaa
open Go.RowKit
namespace Delta
theorem infoB0 : (Try.prog.info? 5).map (fun i => (i.zero, i.size, i.bytes)) = some (some (.int .u8 0), 1, 1) := by kernel_rfl
theorem infoB : ∃ i, Try.prog.info? 5 = some i ∧ i.zero = some (.int .u8 0) ∧ i.size = 1 ∧ i.bytes = 1 := by
  obtain ⟨i, h, e⟩ := Option.map_eq_some_iff.1 infoB0
  simp only [Prod.mk.injEq] at e
  exact ⟨i, h, e.1, e.2.1, e.2.2⟩
/-- A text and an error. -/
def TextE (w : World) (r : List UInt8 × Int) (e : Ending) (w' : World) : Prop := e = .returned (.tuple #[.string (strOf r.1), .int .i64 r.2]) ∧ Ext w w'
theorem take_le (l : List UInt8) (n : Nat) : (l.take n).length ≤ l.length := by rw [List.length_take]; omega
theorem stepP_some (b s : List UInt8) : (stepP b s).1.length ≤ b.length + s.length := by
  unfold stepP
  split
  · split
    · simp
    · split
      · simp
      · have := take_le (b.drop (val4 (s.drop 1))) (val4 (s.drop 5))
        rw [List.length_drop] at this
        simp only []
        omega
  · split
    · split
      · simp
      · split
        · simp
        · split
          · simp
          · have := take_le (s.drop 5) (val4 (s.drop 1))
            rw [List.length_drop] at this
            simp only []
            omega
    · simp
set_option linter.unusedSimpArgs false
set_option linter.unusedVariables false
set_option maxRecDepth 100000 in
set_option maxHeartbeats 2000000 in
theorem apply_any (b d : List UInt8) (hb : b.length ≤ 2000000) (hd : d.length ≤ 2000000) (most : Int) (w : World) : Calls Try.prog 37 #[.string (strOf b), .string (strOf d), .int .i64 most] w (TextE w (applyP b d most)) := by
  obtain ⟨iB, hiB, hzB, hsB, hbB⟩ := infoB
  have hsz := strOf_size d
  have hbz := strOf_size b
  by_cases h8 : d.length < 8
  · have KP := Kept.mk (show applyP b d most = ([], 2) by unfold applyP; rw [if_pos h8])
    have Ks := Kept.mk (show sizeP d = (0, 2) by unfold sizeP; rw [if_pos h8])
    go_enter Try.func37, Try.ntmps37
    go_wp2_with fail
    refine (size_any d (by omega) _).mono ?_
    rintro e w1 ⟨rfl, h1⟩
    rw [Ks.out]
    go_wp2_with fail
    go_ret2
    exact ⟨by rw [KP.out]; rfl, h1⟩
  · obtain ⟨S, hS⟩ : ∃ S, S = val4 (d.drop 4) := ⟨_, rfl⟩
    have hSl : S < 4294967296 := by rw [hS]; exact val4_lt _
    have Ks := Kept.mk (show sizeP d = ((S : Int), 0) by unfold sizeP; rw [if_neg h8, hS])
    have hP : applyP b d most = if val4 d ≠ b.length then ([], 13) else if (if most < 0 then 0 else most) < (S : Int) then ([], 9) else outP b S [] (d.drop 8) := by unfold applyP; rw [if_neg h8, ← hS]
    clear hS
    by_cases hst : val4 d ≠ b.length
    · rw [if_pos hst] at hP
      have KP := Kept.mk hP
      have hne : ((val4 d : Int) != (b.length : Int)) = true := by rw [bne_iff_ne]; omega
      clear hP hst
      go_enter Try.func37, Try.ntmps37
      go_wp2_with fail
      refine (size_any d (by omega) _).mono ?_
      rintro e w1 ⟨rfl, h1⟩
      rw [Ks.out]
      go_wp2_with fail
      refine (number_any d (by omega) _).mono ?_
      rintro e w2 ⟨rfl, h2⟩
      go_wp2_with fail
      go_ret2
      exact ⟨by rw [KP.out]; rfl, h1.trans h2⟩
    · rw [if_neg hst] at hP
      have hne : ((val4 d : Int) != (b.length : Int)) = false := by rw [bne_eq_false_iff_eq]; omega
      obtain ⟨M, hM⟩ : ∃ M : Int, M = if most < 0 then 0 else most := ⟨_, rfl⟩
      rw [← hM] at hP
      have hmax := hM.symm
      by_cases hlim : M < (S : Int)
      · rw [if_pos hlim] at hP
        have KP := Kept.mk hP
        have hI : (S : Int) > M := hlim
        clear hP hst hM
        go_enter Try.func37, Try.ntmps37
        go_wp2_with fail
        refine (size_any d (by omega) _).mono ?_
        rintro e w1 ⟨rfl, h1⟩
        rw [Ks.out]
        go_wp2_with fail
        refine (number_any d (by omega) _).mono ?_
        rintro e w2 ⟨rfl, h2⟩
        have KE := Kept.mk (h1.trans h2)
        clear h1 h2
        go_wp2_with fail
        go_ret2
        exact ⟨by rw [KP.out]; rfl, KE.out⟩
      · rw [if_neg hlim] at hP
        have KP := Kept.mk hP
        have hI : ¬ (S : Int) > M := hlim
        have hI8 : (8 : Int) ≤ (d.length : Int) := by omega
        have Kt := Kept.mk (show (strOf d).extract 8 d.length = strOf (d.drop 8) by rw [← hsz]; exact strOf_tail d 8)
        clear hP hst hM
        go_enter Try.func37, Try.ntmps37
        go_wp2_with fail
        refine (size_any d (by omega) _).mono ?_
        rintro e w1 ⟨rfl, h1⟩
        rw [Ks.out]
        go_wp2_with fail
        refine (number_any d (by omega) _).mono ?_
        rintro e w2 ⟨rfl, h2⟩
        have KE := Kept.mk (h1.trans h2)
        have Kne := Kept.mk hne
        clear h1 h2
        go_wp2_with fail
        rw [Kt.out]
        go_loopg [10, 11] d.length (fun r o s wi => ∃ (out rest : List UInt8) (A : Option Addr) (cap : Nat), rest.length ≤ r ∧ r ≤ d.length ∧ o = .slice A out.length cap ∧ s = .string (strOf rest) ∧ outP b S out rest = outP b S [] (d.drop 8) ∧ Buf wi w.heap.size 5 (.slice A out.length cap) (bytesV out) ∧ Ext w wi ∧ out.length ≤ (d.length - r) * 4000000)
        case atStart => exact ⟨[], d.drop 8, none, 0, by rw [List.length_drop]; omega, Nat.le_refl _, rfl, rfl, rfl, Buf.nil _ _ _, KE.out, by simp⟩
        case round =>
          clear KE
          obtain ⟨out, rest, A, cap, hr, hrd, rfl, rfl, hO, hV, hE, hol⟩ := hrel
          have KV := Kept.mk hV
          have KE := Kept.mk hE
          have KO := Kept.mk hO
          clear hV hE hO
          by_cases h0 : rest = []
          · subst h0
            have hfin := KO.out
            rw [outP_end] at hfin
            have q0 : ((strOf []).toList == []) = true := by rw [ByteArray.toList_eq]; rfl
            by_cases hlen : out.length = S
            · rw [if_pos hlen] at hfin
              have Kf := Kept.mk hfin
              have qn : ((out.length : Int) != (S : Int)) = false := by rw [bne_eq_false_iff_eq]; omega
              have kc : (convert 54 9 (.slice A out.length cap)).run Try.prog wr = .ok (.string (strOf out)) wr := conv_buf wr _ _ _ Try.underlying54 Try.underlying5 Try.underlying9 _ KV.out
              clear hfin hlen
              go_wp2_with fail
              go_ret2
              exact ⟨by rw [KP.out, ← Kf.out]; rfl, KE.out⟩
            · rw [if_neg hlen] at hfin
              have Kf := Kept.mk hfin
              have qn : ((out.length : Int) != (S : Int)) = true := by rw [bne_iff_ne]; omega
              clear hfin hlen
              go_wp2_with fail
              go_ret2
              exact ⟨by rw [KP.out, ← Kf.out]; rfl, KE.out⟩
          · have q0 : ((strOf rest).toList == []) = false := by
              rw [beq_eq_false_iff_ne, ByteArray.toList_eq, strOf_list]; exact h0
            have q1 : (strOf rest).toList ≠ [] := by
              rw [ByteArray.toList_eq, strOf_list]; exact h0
            have hst := outP_step b S out rest h0
            rw [KO.out] at hst
            have hnx := stepP_next b rest
            have hso := stepP_some b rest
            have Kst := Kept.mk hst
            have Knx := Kept.mk hnx
            have h0' := Kept.mk h0
            have hsm : (strOf (stepP b rest).1).size = (stepP b rest).1.length := strOf_size _
            clear hst hnx h0
            go_wp2_with fail
            refine (step_any b rest h0'.out (by omega) (by omega) _).mono ?_
            rintro e w3 ⟨rfl, h3⟩
            generalize stepP b rest = sp at Kst Knx hso hsm ⊢
            obtain ⟨so, nx, er⟩ := sp
            simp only [] at Kst Knx hso hsm ⊢
            have KE3 := Kept.mk (KE.out.trans h3)
            have KV3 := Kept.mk (KV.out.ext h3)
            clear h3 KE KV
            by_cases he : er = 0
            · subst he
              by_cases hov : S < out.length + so.length
              · have hfin := Kst.out
                rw [if_neg (by decide), if_pos hov] at hfin
                have Kf := Kept.mk hfin
                have hI2 : (so.length : Int) > (S : Int) - (out.length : Int) := by omega
                clear hfin
                go_wp2_with fail
                go_ret2
                exact ⟨by rw [KP.out, Kf.out]; rfl, KE3.out⟩
              · have hfin := Kst.out
                rw [if_neg (by decide), if_neg hov] at hfin
                have Kf := Kept.mk hfin
                have hI2 : ¬ (so.length : Int) > (S : Int) - (out.length : Int) := by omega
                have hrn := Knx.out rfl h0'.out
                have hBw := KE3.out.size
                have hsV : (bytesV out).length = out.length := bytesV_length _
                have hob : out.length ≤ 8000000000000 := by
                  have : (d.length - gk) * 4000000 ≤ 2000000 * 4000000 := Nat.mul_le_mul_right _ (by omega)
                  omega
                clear hfin
                go_wp2_with (refine wpList_append_buf (P := Try.prog) _ rfl (.tmp 60) (.tmp 61) 54 9 rfl 5 iB _ Try.underlying54 hiB hzB hsB rfl w.heap.size (.slice A out.length cap) (bytesV out) rfl KV3.out (.string (strOf so)) so.length (byteCells (strOf so)) rfl (by have := Src.ofString w3 Try.underlying9 (strOf so); rw [hsm] at this; exact this) hBw (by simp only [maxLen]; omega) (by rw [hbB]; omega) ?_)
                intro v' w' hv' ht' ho'
                rw [byteCells_eq, strOf_list, ← bytesV_append] at hv'
                have hE' : Ext w w' := Touch.below KE3.out ht' (fun j hj => (KV3.out.owns j hj).1) hBw
                obtain ⟨A', cap', rfl⟩ := hv'.form
                rw [bytesV_length] at hv' ⊢
                have KV' := Kept.mk hv'
                have KE' := Kept.mk hE'
                clear hv' hE' ht' ho' KV3 KE3
                go_wp2_with fail
                go_roundg nx.length
                case measure => omega
                case rel => exact ⟨out ++ so, nx, A', cap', Nat.le_refl _, by omega, by first | rfl | rw [List.length_append], rfl, by rw [← Kf.out], KV'.out, KE'.out, by
                  rw [List.length_append]
                  have : (d.length - gk + 1) * 4000000 ≤ (d.length - nx.length) * 4000000 := Nat.mul_le_mul_right _ (by omega)
                  omega⟩
            · have hfin := Kst.out
              rw [if_pos he] at hfin
              have Kf := Kept.mk hfin
              have qe : (er == 0) = false := by rw [beq_eq_false_iff_ne]; exact he
              have qe2 : (er != 0) = true := by rw [bne_iff_ne]; exact he
              have KH := Kept.mk he
              clear hfin he
              go_wp2_with fail
              go_ret2
              exact ⟨by rw [KP.out, Kf.out]; rfl, KE3.out⟩
end Delta
end Go.Proofs.Ytgnbbklnobladaa
