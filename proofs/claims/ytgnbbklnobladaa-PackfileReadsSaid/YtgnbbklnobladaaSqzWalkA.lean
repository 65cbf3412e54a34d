/- The walks of squeeze's Open. No condition. -/
import Derived.Test.YtgnbbklnobladaaDeltaWalkC
import Derived.Test.YtgnbbklnobladaaSqzPlain
namespace Go.Proofs.Ytgnbbklnobladaa
open Go.RowKit
namespace Sqz
open Delta (TextE infoB wraps_i64)
theorem join2 (a b : Int) (ha : 0 ≤ a ∧ a ≤ 255) (hb : 0 ≤ b ∧ b ≤ 255) : bits .or .i64 (a * 256) b = a * 256 + b := by
  rw [bits_join .i64 63 (by decide) wraps_i64 8 (a * 256) b (by omega) (by omega) (by omega) (by omega) (by omega) (by omega)]
theorem get_nat (l : List UInt8) (i : Nat) (h : i < (strOf l).size) : (((strOf l)[i].toNat : Nat) : Int) = ((l.getD i 0).toNat : Int) := get_byte l i h
set_option linter.unusedSimpArgs false
set_option linter.unusedVariables false
set_option maxRecDepth 100000 in
set_option maxHeartbeats 4000000 in
theorem tokens_any (s0 : List UInt8) (hs0 : s0.length ≤ 1000000) (M : Int) (w : World) : Calls Try.prog 43 #[.string (strOf s0), .int .i64 M] w (TextE w (toks M [] s0)) := by
  have hm : Try.prog.follows .mixedOrders = true := by kernel_rfl
  obtain ⟨iB, hiB, hzB, hsB, hbB⟩ := infoB
  go_enter Try.func43, Try.ntmps43
  go_wp2_with fail
  go_loopg [0, 6] s0.length (fun r s o wi => ∃ (out rest : List UInt8) (A : Option Addr) (cap : Nat), rest.length = r ∧ s = .string (strOf rest) ∧ o = .slice A out.length cap ∧ toks M out rest = toks M [] s0 ∧ Buf wi w.heap.size 5 (.slice A out.length cap) (bytesV out) ∧ Ext w wi ∧ out.length + r * 131 ≤ 131000000)
  case atStart => exact ⟨[], s0, none, 0, rfl, rfl, rfl, rfl, Buf.nil _ _ _, Ext.refl _, by simp; omega⟩
  case round =>
    obtain ⟨out, rest, A, cap, hr, rfl, rfl, hO, hV, hE, hob⟩ := hrel
    have hsz := strOf_size rest
    have hll := bytesV_length out
    have KV := Kept.mk hV
    have KE := Kept.mk hE
    have KO := Kept.mk hO
    have hBw := hE.size
    have Kr := Kept.mk hr
    have hrb : rest.length * 131 ≤ 131000000 := by rw [hr]; omega
    have hob2 : out.length + rest.length * 131 ≤ 131000000 := by rw [hr]; exact hob
    clear hV hE hO hr hob
    by_cases h0 : rest = []
    · subst h0
      have Kf := Kept.mk (toks_nil M out)
      have hz0 : ((strOf []).size : Int) = 0 := rfl
      have kc : (convert 54 9 (.slice A out.length cap)).run Try.prog wr = .ok (.string (strOf out)) wr := conv_buf wr _ _ _ Try.underlying54 Try.underlying5 Try.underlying9 _ KV.out
      go_wp2_with fail
      go_ret2
      exact ⟨by rw [← KO.out, Kf.out]; rfl, KE.out⟩
    · have hpos : 0 < rest.length := List.length_pos_iff.2 h0
      have hposI : (0 : Int) < (rest.length : Int) := by omega
      have y0a := get_nat rest 0 (by omega)
      have n0 : 0 < (strOf rest).size := by omega
      obtain ⟨c, hc⟩ : ∃ c, c = tok rest := ⟨_, rfl⟩
      have y0 : (((strOf rest)[0].toNat : Nat) : Int) = (c : Int) := by rw [y0a, hc]; rfl
      clear y0a
      have hcb : c < 256 := by rw [hc]; exact (rest.getD 0 0).toNat_lt
      have hS : tokStep M out rest = if c < 128 then (if rest.length < c + 2 then (2, [], 0) else if M < (out.length : Int) + c + 1 then (9, [], 0) else (0, out ++ (rest.drop 1).take (c + 1), c + 2))
        else (if rest.length < 3 then (2, [], 0) else if farP rest = 0 ∨ out.length < farP rest then (3, [], 0) else if M < (out.length : Int) + (c - 124 : Nat) then (9, [], 0) else (0, rep (farP rest) (c - 124) out, 3)) := by rw [hc]; rfl
      have K0 := Kept.mk h0
      clear hc h0
      by_cases h1 : c < 128
      · have hI1 : (c : Int) < 128 := by omega
        rw [if_pos h1] at hS
        by_cases h2 : rest.length < c + 2
        · rw [if_pos h2] at hS
          have Kf := Kept.mk (toks_bad M out rest K0.out _ _ _ hS (by decide))
          have hI2 : (rest.length : Int) < (c : Int) + 2 := by omega
          clear hS
          go_wp2_with fail
          go_ret2
          exact ⟨by rw [← KO.out, Kf.out]; rfl, KE.out⟩
        · rw [if_neg h2] at hS
          have hI2 : ¬ (rest.length : Int) < (c : Int) + 2 := by omega
          by_cases h3 : M < (out.length : Int) + c + 1
          · rw [if_pos h3] at hS
            have Kf := Kept.mk (toks_bad M out rest K0.out _ _ _ hS (by decide))
            have hI3 : (out.length : Int) + (c : Int) + 1 > M := h3
            clear hS
            go_wp2_with fail
            go_ret2
            exact ⟨by rw [← KO.out, Kf.out]; rfl, KE.out⟩
          · rw [if_neg h3] at hS
            have Kf := Kept.mk (toks_good M out rest K0.out _ _ hS)
            have hI3 : ¬ (out.length : Int) + (c : Int) + 1 > M := h3
            have hI4 : (1 : Int) ≤ (c : Int) + 2 := by omega
            have hI5 : (c : Int) + 2 ≤ (rest.length : Int) := by omega
            have hx : (strOf rest).extract 1 (c + 2) = strOf ((rest.drop 1).take (c + 1)) := by rw [strOf_extract]; rfl
            have hy : (strOf rest).extract (c + 2) rest.length = strOf (rest.drop (c + 2)) := by
              have := strOf_tail rest (c + 2)
              rwa [hsz] at this
            have hpl : ((rest.drop 1).take (c + 1)).length = c + 1 := by rw [List.length_take, List.length_drop]; omega
            have hdl : (rest.drop (c + 2)).length = rest.length - (c + 2) := List.length_drop
            generalize (rest.drop 1).take (c + 1) = p at hx hpl Kf
            generalize rest.drop (c + 2) = rest2 at hy hdl Kf
            have hpz : (strOf p).size = c + 1 := by rw [strOf_size]; exact hpl
            have Kpl := Kept.mk hpl
            have Kdl := Kept.mk hdl
            clear hS hpl hdl
            go_wp2_with (refine wpList_append_buf (P := Try.prog) _ rfl (.tmp 34) (.tmp 37) 54 9 rfl 5 iB _ Try.underlying54 hiB hzB hsB rfl w.heap.size (.slice A out.length cap) (bytesV out) rfl KV.out (.string _) _ _ rfl (Src.ofString wr Try.underlying9 _) hBw (by rw [hll]; (try rw [hx]); rw [hpz]; simp only [maxLen]; omega) (by rw [hll, hbB]; (try rw [hx]); rw [hpz]; omega) ?_)
            intro v' w' hv' ht' ho'
            try rw [hx] at hv'
            rw [byteCells_eq, strOf_list, ← bytesV_append] at hv'
            have hE' : Ext w w' := Touch.below KE.out ht' (fun j hj => (KV.out.owns j hj).1) hBw
            obtain ⟨A', cap', rfl⟩ := hv'.form
            rw [bytesV_length] at hv' ⊢
            have KV' := Kept.mk hv'
            have KE' := Kept.mk hE'
            clear hv' hE' ht' ho' KV KE
            go_wp2_with fail
            go_roundg rest2.length
            case measure => have := Kdl.out; have := Kr.out; omega
            case rel => exact ⟨out ++ p, rest2, A', cap', rfl, by first | rfl | rw [hy], by first | rfl | rw [List.length_append], by rw [← Kf.out]; exact KO.out, KV'.out, KE'.out, by rw [List.length_append, Kpl.out, Kdl.out]; omega⟩
      · have hI1 : ¬ (c : Int) < 128 := by omega
        rw [if_neg h1] at hS
        by_cases h2 : rest.length < 3
        · rw [if_pos h2] at hS
          have Kf := Kept.mk (toks_bad M out rest K0.out _ _ _ hS (by decide))
          have hI2 : (rest.length : Int) < 3 := by omega
          clear hS
          go_wp2_with fail
          go_ret2
          exact ⟨by rw [← KO.out, Kf.out]; rfl, KE.out⟩
        · rw [if_neg h2] at hS
          have hI2 : ¬ (rest.length : Int) < 3 := by omega
          have y1 := get_nat rest 1 (by omega)
          have y2 := get_nat rest 2 (by omega)
          have n1 : 1 < (strOf rest).size := by omega
          have n2 : 2 < (strOf rest).size := by omega
          have j1 : (1 : Int) < (rest.length : Int) := by omega
          have j2 : (2 : Int) < (rest.length : Int) := by omega
          have hfe : ((farP rest : Nat) : Int) = ((rest.getD 1 0).toNat : Int) * 256 + ((rest.getD 2 0).toNat : Int) := by unfold farP; omega
          have z1b : (rest.getD 1 0).toNat < 256 := (rest.getD 1 0).toNat_lt
          have z2b : (rest.getD 2 0).toNat < 256 := (rest.getD 2 0).toNat_lt
          generalize (rest.getD 1 0).toNat = z1 at y1 hfe z1b
          generalize (rest.getD 2 0).toNat = z2 at y2 hfe z2b
          rw [← join2 (z1 : Int) (z2 : Int) (by omega) (by omega)] at hfe
          obtain ⟨f, hf⟩ : ∃ f, f = farP rest := ⟨_, rfl⟩
          have hfb : f < 65536 := by
            rw [hf]; unfold farP
            have := (rest.getD 1 0).toNat_lt
            have := (rest.getD 2 0).toNat_lt
            omega
          rw [← hf] at hfe hS
          have Kfe := Kept.mk hfe
          clear hf hfe
          go_wp2_with fail
          refine wp_region_calm DrewR 9 ([] :: [(39, 0)] :: [(40, 1)] :: [(41, 2)] :: [] :: [(43, 4)] :: [(44, 5)] :: [(42, 3), (45, 6)] :: [(46, 7)] :: [])
            ((39, 0) :: (40, 1) :: (41, 2) :: (42, 3) :: (43, 4) :: (44, 5) :: (45, 6) :: (46, 7) :: (9, 8) :: [])
            (EqV ?pce0 :: EqV ?pce1 :: EqV ?pce2 :: EqV ?pce3 :: EqV ?pce4 :: EqV ?pce5 :: EqV ?pce6 :: EqV ?pce7 :: EqV ?pce8 :: []) hm (by kernel_rfl) DrewR.refl DrewR.trans DrewR.drew
            (MonoL.at (MonoL.eq _ (MonoL.eq _ (MonoL.eq _ (MonoL.eq _ (MonoL.eq _ (MonoL.eq _ (MonoL.eq _ (MonoL.eq _ (MonoL.eq _ (MonoL.nil))))))))))) ?pcalmOps ?pcalmDone
          case pcalmOps =>
            intro vs
            refine (CalmOps.cons ?_ (CalmOps.cons ?_ (CalmOps.cons ?_ (CalmOps.cons ?_ (CalmOps.cons ?_ (CalmOps.cons ?_ (CalmOps.cons ?_ (CalmOps.cons ?_ (CalmOps.cons ?_ trivial)))))))))
            · intro w hR hL; obtain ⟨nd, rfl⟩ := hR; simp [Look, VAt, EqV] at hL; simp [Guarded, setAll, bare, hL]; go_wp2_with fail; exact CalmPost.mk (by simp; rfl) rfl (DrewR.refl _)
            · intro w hR hL; obtain ⟨nd, rfl⟩ := hR; simp [Look, VAt, EqV] at hL; simp [Guarded, setAll, bare, hL]; go_wp2_with fail; exact CalmPost.mk (by simp; rfl) rfl (DrewR.refl _)
            · intro w hR hL; obtain ⟨nd, rfl⟩ := hR; simp [Look, VAt, EqV] at hL; simp [Guarded, setAll, bare, hL]; go_wp2_with fail; exact CalmPost.mk (by simp; rfl) rfl (DrewR.refl _)
            · intro w hR hL; obtain ⟨nd, rfl⟩ := hR; simp [Look, VAt, EqV] at hL; simp [Guarded, setAll, bare, hL]; go_wp2_with fail; exact CalmPost.mk (by simp; rfl) rfl (DrewR.refl _)
            · intro w hR hL; obtain ⟨nd, rfl⟩ := hR; simp [Look, VAt, EqV] at hL; simp [Guarded, setAll, bare, hL]; go_wp2_with fail; exact CalmPost.mk (by simp; rfl) rfl (DrewR.refl _)
            · intro w hR hL; obtain ⟨nd, rfl⟩ := hR; simp [Look, VAt, EqV] at hL; simp [Guarded, setAll, bare, hL]; go_wp2_with fail; exact CalmPost.mk (by simp; rfl) rfl (DrewR.refl _)
            · intro w hR hL; obtain ⟨nd, rfl⟩ := hR; simp [Look, VAt, EqV] at hL; simp [Guarded, setAll, bare, hL]; go_wp2_with fail; exact CalmPost.mk (by simp; rfl) rfl (DrewR.refl _)
            · intro w hR hL; obtain ⟨nd, rfl⟩ := hR; simp [Look, VAt, EqV] at hL; simp [Guarded, setAll, bare, hL]; go_wp2_with fail; exact CalmPost.mk (by simp; rfl) rfl (DrewR.refl _)
            · intro w hR hL; obtain ⟨nd, rfl⟩ := hR; simp [Look, VAt, EqV] at hL; simp [Guarded, setAll, bare, hL]; go_wp2_with fail; exact CalmPost.mk (by simp; rfl) rfl (DrewR.refl _)
          case pcalmDone =>
            intro vs w6 hR hL; obtain ⟨nd, rfl⟩ := hR; simp [Look, VAt, EqV] at hL; simp [setAll, hL]; clear hL
            rw [← Kfe.out]
            have KE := Kept.mk (KE.out.trans (Ext.drewN wr nd))
            have KV := Kept.mk (show Buf (wr.drewN nd) w.heap.size 5 (.slice A out.length cap) (bytesV out) from KV.out.ext (Ext.drewN wr nd))
            have hBw : w.heap.size ≤ (wr.drewN nd).heap.size := KE.out.size
            clear y1 y2
            generalize wr.drewN nd = wq at KE KV hBw ⊢
            rcases (show f = 0 ∨ (f ≠ 0 ∧ out.length < f) ∨ (f ≠ 0 ∧ f ≤ out.length) by omega) with h | ⟨h, h'⟩ | ⟨h, h'⟩
            · rw [if_pos (.inl h)] at hS
              have Kf := Kept.mk (toks_bad M out rest K0.out _ _ _ hS (by decide))
              have qf : ((f : Int) == 0) = true := by rw [beq_iff_eq]; omega
              clear hS h
              go_wp2_with fail
              go_ret2
              exact ⟨by rw [← KO.out, Kf.out]; rfl, KE.out⟩
            · rw [if_pos (.inr h')] at hS
              have Kf := Kept.mk (toks_bad M out rest K0.out _ _ _ hS (by decide))
              have qf : ((f : Int) == 0) = false := by rw [beq_eq_false_iff_ne]; omega
              have hI3 : (f : Int) > (out.length : Int) := by omega
              clear hS h
              go_wp2_with fail
              go_ret2
              exact ⟨by rw [← KO.out, Kf.out]; rfl, KE.out⟩
            · rw [if_neg (by omega)] at hS
              have qf : ((f : Int) == 0) = false := by rw [beq_eq_false_iff_ne]; omega
              have hI3 : ¬ (f : Int) > (out.length : Int) := by omega
              obtain ⟨n, hn⟩ : ∃ n, n = c - 124 := ⟨_, rfl⟩
              rw [← hn] at hS
              have hnI : (c : Int) - 128 + 4 = (n : Int) := by omega
              have hnI2 : (c : Int) - 124 = (n : Int) := by omega
              have hnb : n ≤ 131 := by omega
              have Kn := Kept.mk hn
              clear hn
              by_cases h3 : M < (out.length : Int) + (n : Nat)
              · rw [if_pos h3] at hS
                have Kf := Kept.mk (toks_bad M out rest K0.out _ _ _ hS (by decide))
                have hI4 : (out.length : Int) + (n : Int) > M := h3
                clear hS h
                go_wp2_with fail
                go_ret2
                exact ⟨by rw [← KO.out, Kf.out]; rfl, KE.out⟩
              · rw [if_neg h3] at hS
                have Kf := Kept.mk (toks_good M out rest K0.out _ _ hS)
                have hI4 : ¬ (out.length : Int) + (n : Int) > M := h3
                clear hS
                go_wp2_with fail
                have hy : (strOf rest).extract 3 rest.length = strOf (rest.drop 3) := by
                  have := strOf_tail rest 3
                  rwa [hsz] at this
                have hdl : (rest.drop 3).length = rest.length - 3 := List.length_drop
                have j3 : (3 : Int) ≤ (rest.length : Int) := by omega
                generalize rest.drop 3 = rest2 at hy hdl Kf
                have Kdl := Kept.mk hdl
                clear hdl y0 n0 n1 n2
                go_loopg [6, 67] n (fun r o i wi => ∃ (j : Nat) (A : Option Addr) (cap : Nat), j + r = n ∧ i = .int .i64 (j : Int) ∧ o = .slice A (out.length + j) cap ∧ Buf wi w.heap.size 5 (.slice A (out.length + j) cap) (bytesV (rep f j out)) ∧ Ext w wi)
                case atStart => exact ⟨0, A, cap, by omega, rfl, rfl, KV.out, KE.out⟩
                case round =>
                  clear KV KE hBw
                  obtain ⟨j, A, cap, hj, rfl, rfl, hv, hE⟩ := hrel
                  have hl4 : (bytesV (rep f j out)).length = out.length + j := by rw [bytesV_length, rep_length]
                  have hBw := hE.size
                  by_cases hlt : j < n
                  · have hltI : (j : Int) < (n : Int) := by omega
                    obtain ⟨x, hx⟩ : ∃ x, x = (rep f j out).getD (out.length + j - f) 0 := ⟨_, rfl⟩
                    have hnx : rep f (j + 1) out = rep f j out ++ [x] := by rw [rep_snoc, rep_length, hx]
                    have hkl : out.length + j - f < (rep f j out).length := by rw [rep_length]; omega
                    have hu : (bytesV (rep f j out))[out.length + j - f]? = some (.int .u8 (x.toNat : Int)) := by
                      have hg : (rep f j out).getD (out.length + j - f) 0 = (rep f j out)[out.length + j - f] := by simp [List.getD, hkl]
                      rw [bytesV_at _ _ hkl, hx, hg]
                    obtain ⟨bl, off, rfl, hcell⟩ := hv.cell hu
                    obtain ⟨k, hk⟩ : ∃ k, k = out.length + j - f := ⟨_, rfl⟩
                    rw [← hk] at hcell
                    have hkI : ((out.length + j : Nat) : Int) - (f : Int) = (k : Int) := by omega
                    have hkI2 : (out.length : Int) + (j : Int) - (f : Int) = (k : Int) := by omega
                    have hk1 : (k : Int) < (out.length : Int) + (j : Int) := by omega
                    have hk2 : k < out.length + j := by omega
                    have hxb : x.toNat < 256 := x.toNat_lt
                    obtain ⟨xi, hxi⟩ : ∃ xi : Int, xi = (x.toNat : Int) := ⟨_, rfl⟩
                    rw [← hxi] at hcell
                    have hx0 : 0 ≤ xi := by omega
                    have hx1 : xi < 256 := by omega
                    have KV := Kept.mk hv
                    have KE := Kept.mk hE
                    have Knx := Kept.mk hnx
                    have Kxi := Kept.mk hxi
                    clear hv hE hnx hxi hx hkl hu hk hxb
                    go_wp2_with (refine wpList_append_lit (P := Try.prog) wr rfl (.tmp 69) (.tmp 77) 54 rfl 5 iB (.int .u8 0) Try.underlying54 hiB hzB hsB rfl w.heap.size (.slice (some ⟨bl, off, none⟩) (out.length + j) cap) (bytesV (rep f j out)) rfl KV.out [.int .u8 _] 1 rfl rfl (by simp [Value.oneCell']) hBw (by rw [hl4]; simp only [maxLen]; omega) (by rw [hl4, hbB]; omega) ?_)
                    intro v' w' hv' ht' ho'
                    have hE' : Ext w w' := Touch.below KE.out ht' (fun j hj => (KV.out.owns j hj).1) hBw
                    have hv2 := hv'.byte Kxi.out.symm
                    rw [← Knx.out] at hv2
                    obtain ⟨A', cap', rfl⟩ := hv2.form
                    have he : (bytesV (rep f (j + 1) out)).length = out.length + (j + 1) := by rw [bytesV_length, rep_length]
                    rw [he] at hv2 ⊢
                    have KV' := Kept.mk hv2
                    have KE' := Kept.mk hE'
                    clear hv' hv2 hE' ht' ho' KV KE hcell he
                    go_wp2_with fail
                    go_roundg (gk - 1)
                    case measure => omega
                    case rel => exact ⟨j + 1, A', cap', by omega, rfl, rfl, KV'.out, KE'.out⟩
                  · have hje : j = n := by omega
                    subst hje
                    have KV := Kept.mk hv
                    have KE := Kept.mk hE
                    have hltI : ¬ (j : Int) < (j : Int) := by omega
                    clear hv hE
                    go_wp2_with fail
                    go_roundg rest2.length
                    case measure => have := Kdl.out; have := Kr.out; omega
                    case rel => exact ⟨rep f j out, rest2, A, cap, rfl, by first | rfl | rw [hy], by rw [rep_length], by rw [← Kf.out]; exact KO.out, by rw [rep_length]; exact KV.out, KE.out, by rw [rep_length, Kdl.out]; omega⟩
end Sqz
end Go.Proofs.Ytgnbbklnobladaa
