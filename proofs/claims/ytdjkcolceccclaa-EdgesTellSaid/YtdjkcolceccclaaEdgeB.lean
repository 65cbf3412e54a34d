/- The walk of spots. No condition. -/
import Derived.Test.YtdjkcolceccclaaEdgeA
import Derived.Test.YtdjkcolceccclaaCalm
namespace Go.Proofs.Ytdjkcolceccclaa
open Go.RowKit
namespace Edge
set_option linter.unusedSimpArgs false
set_option linter.unusedVariables false
/-- What spots answers. -/
def SpotsE (w : World) (l : List (Addr × Int)) (e : Ending) (w' : World) : Prop :=
  ∃ A cap, e = .returned (.slice A l.length cap) ∧ BufS 2 w' w.heap.size 54 (.slice A l.length cap) (l.map spV) ∧ Ext w w'
theorem OutAt.ans {w0 w : World} {ob : Nat} {l : List (Addr × Int)} (h : OutAt w w0.heap.size ob l) (hE : Ext w0 w) : ∃ A cap, w.cell? ⟨ob, 0, none⟩ = some (.slice A l.length cap) ∧ SpotsE w0 l (.returned (.slice A l.length cap)) w := by
  obtain ⟨v, h1, h2, h3⟩ := h.ex
  have c0 := h1.cell 0
  simp only [List.getElem?_cons_zero] at c0
  obtain ⟨A, cap, rfl⟩ := h2.form
  rw [List.length_map] at c0 h2
  exact ⟨A, cap, c0, A, cap, rfl, h2, hE⟩
set_option maxRecDepth 100000 in
set_option maxHeartbeats 4000000 in
theorem spots_any (g : Nat) (o : Ob) (ev pv : Value) (he : o.ents.length ≤ 2000) (hp : o.pars.length ≤ 2000) (w : World) (hb : Blk w g 25 (obV o ev pv)) (hin : ObIn w o ev pv) :
    Calls Try.prog 23 #[.pointer (some ⟨g, 0, none⟩)] w (SpotsE w (spotsP g ev pv o)) := by
  have KB := Kept.mk hb
  have KI := Kept.mk hin
  have c0 : w.cell? ⟨g, 0, none⟩ = some (.int .i64 o.k) := by rw [hb.cell]; rfl
  have KO : Kept (∀ W : World, Ext w W → OutAt (W.alloc (.cells #[.slice none 0 0] 49)) w.heap.size W.heap.size []) := Kept.mk (fun W hW => ⟨⟨_, Blk.new W 49 [.slice none 0 0], BufS.nil 2 _ _ _, by simp [own]⟩, hW.size⟩)
  have KO0 := Kept.mk (KO.out w (Ext.refl _))
  clear hb hin KO
  by_cases h2 : o.k = 2
  · have hk : (o.k == 2) = true := by simpa using h2
    have Ks := Kept.mk (show spotsP g ev pv o = (List.range o.ents.length).map (fun i => (behind (sliceA ev) (i * 3 + 2), kindE (o.ents.getD i ⟨0, [], []⟩))) from by unfold spotsP; rw [if_pos h2])
    obtain ⟨eA, ec, hev⟩ := KI.out.e.form
    rw [List.length_map] at hev
    subst hev
    have d0 : (w.alloc (.cells #[.slice none 0 0] 49)).cell? ⟨g, 2, none⟩ = some (.slice eA o.ents.length ec) := by rw [(KB.out.ext (Ext.alloc _ _)).cell]; rfl
    have d1 : (w.alloc (.cells #[.slice none 0 0] 49)).cell? ⟨g, 0, none⟩ = some (.int .i64 o.k) := by rw [(KB.out.ext (Ext.alloc _ _)).cell]; rfl
    obtain ⟨n, hn⟩ : ∃ n, n = o.ents.length := ⟨_, rfl⟩
    obtain ⟨L, hL⟩ : ∃ L, L = spotsP g (.slice eA o.ents.length ec) pv o := ⟨_, rfl⟩
    have KL := Kept.mk hL
    have KLs := Kept.mk (show L = (List.range n).map (fun i => (behind eA (i * 3 + 2), kindE (o.ents.getD i ⟨0, [], []⟩))) from by rw [hL, Ks.out, hn]; rfl)
    have hLl : L.length = n := by rw [KLs.out, List.length_map, List.length_range]
    have Kn := Kept.mk hn
    have hn2 : n ≤ 2000 := by omega
    rw [← hn] at d0
    rw [← hL]
    have KLl := Kept.mk hLl
    obtain ⟨x, hx⟩ : ∃ x, x = o.k := ⟨_, rfl⟩
    rw [← hx] at hk c0 d1
    clear h2 hL hn hLl Ks hx
    go_enter Try.func23, Try.ntmps23
    go_wp2_with fail
    go_loopg [20] n (fun r iv wi => ∃ i : Nat, i + r = n ∧ iv = .int .i64 (i : Int) ∧ Kept (OutAt wi w.heap.size w.heap.size (L.take i) ∧ Ext w wi))
    case atStart => exact ⟨0, by omega, rfl, Kept.mk ⟨by simpa using KO0.out, Ext.alloc _ _⟩⟩
    case round =>
      obtain ⟨i, hr, rfl, KK⟩ := hrel
      have Kr := Kept.mk hr
      have hil : i ≤ n := by omega
      clear hr KO0
      have e2 := (KB.out.ext KK.out.2).cell 2
      simp only [obV, List.getElem?_cons_zero, List.getElem?_cons_succ] at e2
      rw [← Kn.out] at e2
      by_cases hlt : i < n
      · have hltI : (i : Int) < (n : Int) := by omega
        have hi2 : i < o.ents.length := by rw [← Kn.out]; exact hlt
        obtain ⟨b, off, rfl, hbl, hc⟩ := KI.out.e.get (by decide) (i := i) hi2
        have c1 := KK.out.2.cell (hc 0 (.int .i64 o.ents[i].m) rfl)
        rw [Nat.add_zero] at c1
        have Kst := Kept.mk (show L.take (i + 1) = L.take i ++ [(⟨b, off + i * 3 + 2, none⟩, kindE o.ents[i])] from by
          have hiL : i < L.length := by rw [KLl.out]; exact hlt
          rw [List.take_succ_eq_append_getElem hiL]
          congr 2
          simp only [KLs.out, List.getElem_map, List.getElem_range, behind]
          rw [List.getD_eq_getElem?_getD, List.getElem?_eq_getElem hi2]
          simp [Nat.add_assoc])
        have hkE : kindE o.ents[i] = if o.ents[i].m = 3 then 2 else 1 := rfl
        have KkE := Kept.mk hkE
        generalize kindE o.ents[i] = ke at Kst KkE
        generalize o.ents[i].m = m at c1 KkE
        clear hc hi2 hkE
        by_cases hm : m = 3
        · have hmb : (m == 3) = true := by simpa using hm
          have Kke := Kept.mk (show ke = 2 from by rw [KkE.out, if_pos hm])
          rw [Kke.out] at Kst
          clear hm
          go_wp2_with fail
          refine (add_any w.heap.size w.heap.size (L.take (i)) (by rw [List.length_take, KLl.out]; omega) ⟨b, off + i * 3 + 2, none⟩ 2 _ KK.out.1).mono ?_
          rintro e w3 ⟨rfl, hO3, hE3⟩
          have KN := Kept.mk (And.intro (show OutAt w3 w.heap.size w.heap.size (L.take (i + 1)) from by rw [Kst.out]; exact hO3) (hE3 w (Nat.le_refl _) KK.out.2))
          clear hO3 hE3 KK
          go_wp2_with fail
          go_roundg (gk - 1)
          case measure => have := Kr.out; omega
          case rel => exact ⟨i + 1, by have := Kr.out; omega, by first | rfl | simp, KN⟩
        · have hmb : (m == 3) = false := by simpa using hm
          have Kke := Kept.mk (show ke = 1 from by rw [KkE.out, if_neg hm])
          rw [Kke.out] at Kst
          clear hm
          go_wp2_with fail
          refine (add_any w.heap.size w.heap.size (L.take (i)) (by rw [List.length_take, KLl.out]; omega) ⟨b, off + i * 3 + 2, none⟩ 1 _ KK.out.1).mono ?_
          rintro e w3 ⟨rfl, hO3, hE3⟩
          have KN := Kept.mk (And.intro (show OutAt w3 w.heap.size w.heap.size (L.take (i + 1)) from by rw [Kst.out]; exact hO3) (hE3 w (Nat.le_refl _) KK.out.2))
          clear hO3 hE3 KK
          go_wp2_with fail
          go_roundg (gk - 1)
          case measure => have := Kr.out; omega
          case rel => exact ⟨i + 1, by have := Kr.out; omega, by first | rfl | simp, KN⟩
      · have hltI : ¬ (i : Int) < (n : Int) := by omega
        have Kall := Kept.mk (show L.take i = L from List.take_of_length_le (by rw [KLl.out]; omega))
        obtain ⟨A8, c8, e8, h8⟩ := KK.out.1.ans KK.out.2
        rw [Kall.out] at e8 h8
        have K8 := Kept.mk h8
        clear h8
        go_wp2_with fail
        go_ret
        exact K8.out
  · have hk2 : (o.k == 2) = false := by simpa using h2
    by_cases h3 : o.k = 3
    · have hk3 : (o.k == 3) = true := by simpa using h3
      have Ks := Kept.mk (show spotsP g ev pv o = (⟨g, 3, none⟩, 2) :: (List.range o.pars.length).map (fun i => (behind (sliceA pv) i, 3)) from by unfold spotsP; rw [if_neg h2, if_pos h3])
      obtain ⟨pA, pc, hpv⟩ := KI.out.p.form
      rw [List.length_map] at hpv
      subst hpv
      have d1 : (w.alloc (.cells #[.slice none 0 0] 49)).cell? ⟨g, 0, none⟩ = some (.int .i64 o.k) := by rw [(KB.out.ext (Ext.alloc _ _)).cell]; rfl
      obtain ⟨n, hn⟩ : ∃ n, n = o.pars.length := ⟨_, rfl⟩
      obtain ⟨L, hL⟩ : ∃ L, L = spotsP g ev (.slice pA o.pars.length pc) o := ⟨_, rfl⟩
      have KL := Kept.mk hL
      have KLs := Kept.mk (show L = (⟨g, 3, none⟩, 2) :: (List.range n).map (fun i => (behind pA i, 3)) from by rw [hL, Ks.out, hn]; rfl)
      have hLl : L.length = n + 1 := by rw [KLs.out, List.length_cons, List.length_map, List.length_range]
      have Kn := Kept.mk hn
      have hn2 : n ≤ 2000 := by omega
      rw [← hL]
      have KLl := Kept.mk hLl
      obtain ⟨x, hx⟩ : ∃ x, x = o.k := ⟨_, rfl⟩
      rw [← hx] at hk2 hk3 c0 d1
      clear h2 h3 hL hn hLl Ks hx
      go_enter Try.func23, Try.ntmps23
      go_wp2_with fail
      refine (add_any w.heap.size w.heap.size [] (by simp) ⟨g, 3, none⟩ 2 _ KO0.out).mono ?_
      rintro e w2 ⟨rfl, hO2, hE2⟩
      have KK2 := Kept.mk (And.intro hO2 (hE2 w (Nat.le_refl _) (Ext.alloc _ _)))
      have e4 := (KB.out.ext KK2.out.2).cell 4
      simp only [obV, List.getElem?_cons_zero, List.getElem?_cons_succ] at e4
      rw [← Kn.out] at e4
      clear hO2 hE2 KO0
      go_wp2_with fail
      go_loopg [55] n (fun r iv wi => ∃ i : Nat, i + r = n ∧ iv = .int .i64 (i : Int) ∧ Kept (OutAt wi w.heap.size w.heap.size (L.take (i + 1)) ∧ Ext w wi))
      case atStart => exact ⟨0, by omega, rfl, Kept.mk ⟨by have := KK2.out.1; rw [KLs.out]; simpa using this, KK2.out.2⟩⟩
      case round =>
        clear e4
        obtain ⟨i, hr, rfl, KK⟩ := hrel
        have Kr := Kept.mk hr
        have hil : i ≤ n := by omega
        clear hr KK2
        have e2 := (KB.out.ext KK.out.2).cell 4
        simp only [obV, List.getElem?_cons_zero, List.getElem?_cons_succ] at e2
        rw [← Kn.out] at e2
        by_cases hlt : i < n
        · have hltI : (i : Int) < (n : Int) := by omega
          have hi2 : i < o.pars.length := by rw [← Kn.out]; exact hlt
          obtain ⟨b, off, rfl, hbl, hc⟩ := KI.out.p.get (by decide) (i := i) hi2
          have Kst := Kept.mk (show L.take (i + 1 + 1) = L.take (i + 1) ++ [(⟨b, off + i, none⟩, 3)] from by
            have hiL : i + 1 < L.length := by rw [KLl.out]; omega
            rw [List.take_succ_eq_append_getElem hiL]
            congr 2
            simp only [KLs.out, List.getElem_cons_succ, List.getElem_map, List.getElem_range, behind])
          clear hc hi2
          go_wp2_with fail
          refine (add_any w.heap.size w.heap.size (L.take (i + 1)) (by rw [List.length_take, KLl.out]; omega) ⟨b, off + i, none⟩ 3 _ KK.out.1).mono ?_
          rintro e w3 ⟨rfl, hO3, hE3⟩
          have KN := Kept.mk (And.intro (show OutAt w3 w.heap.size w.heap.size (L.take (i + 1 + 1)) from by rw [Kst.out]; exact hO3) (hE3 w (Nat.le_refl _) KK.out.2))
          clear hO3 hE3 KK
          go_wp2_with fail
          go_roundg (gk - 1)
          case measure => have := Kr.out; omega
          case rel => exact ⟨i + 1, by have := Kr.out; omega, by first | rfl | simp, KN⟩
        · have hltI : ¬ (i : Int) < (n : Int) := by omega
          have Kall := Kept.mk (show L.take (i + 1) = L from List.take_of_length_le (by rw [KLl.out]; omega))
          obtain ⟨A8, c8, e8, h8⟩ := KK.out.1.ans KK.out.2
          rw [Kall.out] at e8 h8
          have K8 := Kept.mk h8
          clear h8
          go_wp2_with fail
          go_ret
          exact K8.out
    · have hk3 : (o.k == 3) = false := by simpa using h3
      have d1 : (w.alloc (.cells #[.slice none 0 0] 49)).cell? ⟨g, 0, none⟩ = some (.int .i64 o.k) := by rw [(KB.out.ext (Ext.alloc _ _)).cell]; rfl
      by_cases h4 : o.k = 4
      · have hk4 : (o.k == 4) = true := by simpa using h4
        have Ks := Kept.mk (show spotsP g ev pv o = [(⟨g, 5, none⟩, o.of)] from by unfold spotsP; rw [if_neg h2, if_neg h3, if_pos h4])
        have d6 : (w.alloc (.cells #[.slice none 0 0] 49)).cell? ⟨g, 6, none⟩ = some (.int .i64 o.of) := by rw [(KB.out.ext (Ext.alloc _ _)).cell]; rfl
        obtain ⟨x, hx⟩ : ∃ x, x = o.k := ⟨_, rfl⟩
        rw [← hx] at hk2 hk3 hk4 c0 d1
        have hm : Try.prog.follows .mixedOrders = true := by kernel_rfl
        generalize o.of = ov at d6 Ks
        clear h2 h3 h4 hx
        go_enter Try.func23, Try.ntmps23
        go_wp2_with fail
        refine wp_region_calm DrewR 8 ([] :: [] :: [(70, 1)] :: [(71, 2)] :: [] :: [(73, 4)] :: [(74, 5)] :: [(75, 6)] :: [])
          ((69, 0) :: (70, 1) :: (71, 2) :: (72, 3) :: (73, 4) :: (74, 5) :: (75, 6) :: (76, 7) :: [])
          (EqV ?sce0 :: EqV ?sce1 :: EqV ?sce2 :: EqV ?sce3 :: EqV ?sce4 :: EqV ?sce5 :: EqV ?sce6 :: EqV ?sce7 :: []) hm (by kernel_rfl) DrewR.refl DrewR.trans DrewR.drew
          (MonoL.at (MonoL.eq _ (MonoL.eq _ (MonoL.eq _ (MonoL.eq _ (MonoL.eq _ (MonoL.eq _ (MonoL.eq _ (MonoL.eq _ (MonoL.nil)))))))))) ?scalmOps ?scalmDone
        case scalmOps =>
          intro vs
          refine (CalmOps.cons ?_ (CalmOps.cons ?_ (CalmOps.cons ?_ (CalmOps.cons ?_ (CalmOps.cons ?_ (CalmOps.cons ?_ (CalmOps.cons ?_ (CalmOps.cons ?_ trivial))))))))
          · intro w hR hL; obtain ⟨nd, rfl⟩ := hR; simp [Look, VAt, EqV] at hL; simp [Guarded, setAll, bare, hL]; go_wp2_with fail; exact CalmPost.mk (by simp; rfl) rfl (DrewR.refl _)
          · intro w hR hL; obtain ⟨nd, rfl⟩ := hR; simp [Look, VAt, EqV] at hL; simp [Guarded, setAll, bare, hL]; go_wp2_with fail; exact CalmPost.mk (by simp; rfl) rfl (DrewR.refl _)
          · intro w hR hL; obtain ⟨nd, rfl⟩ := hR; simp [Look, VAt, EqV] at hL; simp [Guarded, setAll, bare, hL]; go_wp2_with fail; exact CalmPost.mk (by simp; rfl) rfl (DrewR.refl _)
          · intro w hR hL; obtain ⟨nd, rfl⟩ := hR; simp [Look, VAt, EqV] at hL; simp [Guarded, setAll, bare, hL]; go_wp2_with fail; exact CalmPost.mk (by simp; rfl) rfl (DrewR.refl _)
          · intro w hR hL; obtain ⟨nd, rfl⟩ := hR; simp [Look, VAt, EqV] at hL; simp [Guarded, setAll, bare, hL]; go_wp2_with fail; exact CalmPost.mk (by simp; rfl) rfl (DrewR.refl _)
          · intro w hR hL; obtain ⟨nd, rfl⟩ := hR; simp [Look, VAt, EqV] at hL; simp [Guarded, setAll, bare, hL]; go_wp2_with fail; exact CalmPost.mk (by simp; rfl) rfl (DrewR.refl _)
          · intro w hR hL; obtain ⟨nd, rfl⟩ := hR; simp [Look, VAt, EqV] at hL; simp [Guarded, setAll, bare, hL]; go_wp2_with fail; exact CalmPost.mk (by simp; rfl) rfl (DrewR.refl _)
          · intro w hR hL; obtain ⟨nd, rfl⟩ := hR; simp [Look, VAt, EqV] at hL; simp [Guarded, setAll, bare, hL]; go_wp2_with fail; exact CalmPost.mk (by simp; rfl) rfl (DrewR.refl _)
        case scalmDone =>
          intro vs w6 hR hL; obtain ⟨nd, rfl⟩ := hR; simp [Look, VAt, EqV] at hL; simp [setAll, hL]; clear hL
          go_wp2_with fail
          refine (add_any w.heap.size w.heap.size [] (by simp) ⟨g, 5, none⟩ ov _ (KO0.out.ext (Ext.drewN _ nd))).mono ?_
          rintro e w2 ⟨rfl, hO2, hE2⟩
          obtain ⟨A8, c8, e8, h8⟩ := hO2.ans (hE2 w (Nat.le_refl _) ((Ext.alloc _ _).trans (Ext.drewN _ nd)))
          have K8 := Kept.mk h8
          clear hO2 hE2 h8
          go_wp2_with fail
          go_ret
          rw [Ks.out]
          exact K8.out
      · have hk4 : (o.k == 4) = false := by simpa using h4
        have Ks := Kept.mk (show spotsP g ev pv o = [] from by unfold spotsP; rw [if_neg h2, if_neg h3, if_neg h4])
        obtain ⟨x, hx⟩ : ∃ x, x = o.k := ⟨_, rfl⟩
        rw [← hx] at hk2 hk3 hk4 c0 d1
        clear h2 h3 h4 hx
        go_enter Try.func23, Try.ntmps23
        go_wp2_with fail
        go_ret
        rw [Ks.out]
        exact ⟨none, 0, rfl, BufS.nil 2 _ _ _, Ext.alloc _ _⟩
end Edge
end Go.Proofs.Ytdjkcolceccclaa
