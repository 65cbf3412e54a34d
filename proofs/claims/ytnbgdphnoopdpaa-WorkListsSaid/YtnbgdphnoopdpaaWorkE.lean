/- The walks of the reference's come, all, Walk. No condition. -/
import Derived.Test.YtnbgdphnoopdpaaWorkRef
namespace Go.Proofs.Ytnbgdphnoopdpaa
open Go.RowKit
namespace Work
set_option linter.unusedSimpArgs false
set_option linter.unusedVariables false
def Grow (U out o : List Int) : Prop := leftN U o ≤ leftN U out ∧ o.length + leftN U o ≤ out.length + leftN U out
theorem Grow.refl (U out : List Int) : Grow U out out := ⟨Nat.le_refl _, Nat.le_refl _⟩
theorem Grow.trans {U a b c : List Int} (h : Grow U a b) (k : Grow U b c) : Grow U a c := ⟨Nat.le_trans k.1 h.1, Nat.le_trans k.2 h.2⟩
theorem Grow.snoc {U out : List Int} {k : Int} (hk : k ∈ U) (hn : k ∉ out) : Grow U out (out ++ [k]) := by
  have := leftN_snoc hk hn
  exact ⟨by omega, by rw [List.length_append, List.length_singleton]; omega⟩
theorem allF_grow {U : List Int} {step : List Int → Int → List Int × Bool} (hs : ∀ out k, k ∈ U → Grow U out (step out k).1) : ∀ (l out : List Int), (∀ k ∈ l, k ∈ U) → Grow U out (allF step out l).1
  | [], out, _ => Grow.refl _ _
  | k :: l, out, h => by
    simp only [allF]
    split
    · exact (hs out k (h k (by simp))).trans (allF_grow hs l _ (fun j hj => h j (by simp [hj])))
    · exact hs out k (h k (by simp))
theorem nextL_mem {es : List Edge} {U : List Int} (hU : ∀ e ∈ es, e.t ∈ U) (k : Int) : ∀ j ∈ nextL es k, j ∈ U := by
  intro j hj
  obtain ⟨e, he, rfl⟩ := List.mem_map.1 hj
  exact hU e (List.mem_filter.1 he).1
theorem comeF_grow {U : List Int} {es : List Edge} (hU : ∀ e ∈ es, e.t ∈ U) (bad : List Int) (most : Int) : ∀ (f : Nat) (out : List Int) (k : Int), k ∈ U → Grow U out (comeF es bad most f out k).1
  | 0, out, k, hk => by
    unfold comeF
    split
    · exact Grow.refl _ _
    · rename_i h1
      split
      · exact Grow.refl _ _
      · exact Grow.snoc hk h1
  | f + 1, out, k, hk => by
    unfold comeF
    split
    · exact Grow.refl _ _
    · rename_i h1
      split
      · exact Grow.refl _ _
      · split
        · exact Grow.snoc hk h1
        · exact (Grow.snoc hk h1).trans (allF_grow (fun o j hj => comeF_grow hU bad most f o j hj) _ _ (nextL_mem hU k))
/-- What a walk answers: the row, and whether it went through. -/
def RowE (w : World) (B : Nat) (r : List Int × Bool) (e : Ending) (w' : World) : Prop :=
  ∃ A c, e = .returned (.tuple #[.slice A r.1.length c, .bool r.2]) ∧ Buf w' B 3 (.slice A r.1.length c) (ints r.1) ∧ Ext w w'
/-- What both walks read: the edges, the bad ones. -/
structure Reads (w0 : World) (Ae : Option Addr) (ne ce : Nat) (es : List Edge) (Ab : Option Addr) (nb cb : Nat) (bad : List Int) : Prop where
  e : InEdges w0 Ae ne ce es
  ne : ne ≤ 1000
  b : Row w0 Ab (ints bad)
  bl : bad.length = nb
  bm : nb ≤ 9223372036854775807
def ComeT (w0 : World) (Ae : Option Addr) (ne ce : Nat) (es : List Edge) (Ab : Option Addr) (nb cb : Nat) (bad : List Int) (most : Int) (U : List Int) (f : Nat) : Prop :=
  ∀ (B : Nat) (out : List Int) (A : Option Addr) (c : Nat) (k : Int) (w : World), leftN U out ≤ f → out.length + leftN U out ≤ 2000 → k ∈ U → Ext w0 w → B ≤ w.heap.size → Buf w B 3 (.slice A out.length c) (ints out) →
    Calls Try.prog 40 #[.slice A out.length c, .int .i64 k, .int .i64 most, .slice Ae ne ce, .slice Ab nb cb] w (RowE w B (comeF es bad most f out k))
def AllT (w0 : World) (Ae : Option Addr) (ne ce : Nat) (es : List Edge) (Ab : Option Addr) (nb cb : Nat) (bad : List Int) (most : Int) (U : List Int) (f : Nat) : Prop :=
  ∀ (B : Nat) (out : List Int) (A : Option Addr) (c : Nat) (l : List Int) (Al : Option Addr) (cl : Nat) (w : World), leftN U out ≤ f → out.length + leftN U out ≤ 2000 → (∀ k ∈ l, k ∈ U) → l.length ≤ 1000 → Ext w0 w → B ≤ w.heap.size → Buf w B 3 (.slice A out.length c) (ints out) → Row w Al (ints l) →
    Calls Try.prog 36 #[.slice A out.length c, .slice Al l.length cl, .int .i64 most, .slice Ae ne ce, .slice Ab nb cb] w (RowE w B (allF (comeF es bad most f) out l))
set_option maxRecDepth 100000 in
set_option maxHeartbeats 2000000 in
theorem come_zero {w0 : World} {Ae : Option Addr} {ne ce : Nat} {es : List Edge} {Ab : Option Addr} {nb cb : Nat} {bad : List Int} {most : Int} {U : List Int} : ComeT w0 Ae ne ce es Ab nb cb bad most U 0 := by
  intro B out A c k w hf ho hk h0 hB h
  have hin : k ∈ out := Classical.byContradiction fun hn => by have := leftN_snoc hk hn; omega
  have hr : comeF es bad most 0 out k = (out, true) := by unfold comeF; rw [if_pos hin]
  rw [hr]
  have KI := Kept.mk (in_any A out.length c out rfl (by omega) k w (row_of_buf h))
  rw [decide_eq_true hin] at KI
  have KH := Kept.mk h
  clear h hr hf hin
  go_enter Try.func40, Try.ntmps40
  go_wp2_with fail
  refine KI.out.mono ?_
  rintro e w1 ⟨rfl, rfl⟩
  go_wp2_with fail
  exact bodyPost_ret (v := .tuple #[.slice A out.length c, .bool true]) (by simp [results, Try.results40, go_sem]) rfl ⟨A, c, rfl, KH.out, Ext.refl _⟩
theorem allF_split (step : List Int → Int → List Int × Bool) : ∀ (l1 l2 : List Int) (out : List Int), (allF step out l1).2 = true → allF step out (l1 ++ l2) = allF step (allF step out l1).1 l2
  | [], _, _, _ => rfl
  | k :: l1, l2, out, h => by
    simp only [allF, List.cons_append] at h ⊢
    split at h
    · rename_i h1
      rw [if_pos h1, if_pos h1]
      exact allF_split step l1 l2 _ h
    · cases h
theorem allF_stop (step : List Int → Int → List Int × Bool) : ∀ (l1 l2 : List Int) (out : List Int), (allF step out l1).2 = false → allF step out (l1 ++ l2) = allF step out l1
  | [], _, _, h => by cases h
  | k :: l1, l2, out, h => by
    simp only [allF, List.cons_append] at h ⊢
    split at h
    · rename_i h1
      rw [if_pos h1, if_pos h1]
      exact allF_stop step l1 l2 _ h
    · rename_i h1
      rw [if_neg h1, if_neg h1]
set_option maxRecDepth 100000 in
set_option maxHeartbeats 2000000 in
theorem all_any {w0 : World} {Ae : Option Addr} {ne ce : Nat} {es : List Edge} {Ab : Option Addr} {nb cb : Nat} {bad : List Int} {most : Int} {U : List Int} (hU : ∀ e ∈ es, e.t ∈ U) (f : Nat) (hC : ComeT w0 Ae ne ce es Ab nb cb bad most U f) : AllT w0 Ae ne ce es Ab nb cb bad most U f := by
  intro B out A c l Al cl w hf ho hl hll h0 hB h hR
  have Kg := Kept.mk (fun (xs : List Int) (hx : ∀ k ∈ xs, k ∈ U) => allF_grow (fun o k hk => comeF_grow hU bad most f o k hk) xs out hx)
  have KC := Kept.mk hC
  have KH := Kept.mk h
  have KR := Kept.mk hR
  have K0 := Kept.mk h0
  have Kl := Kept.mk hl
  have Kf := Kept.mk hf
  have Ko := Kept.mk ho
  clear h hR h0 hl hC hU hf ho
  go_enter Try.func36, Try.ntmps36
  go_wp2_with fail
  go_loopg [0, 12] l.length (fun r ov iv wi => ∃ (i : Nat) (o : List Int) (A : Option Addr) (c : Nat), i + r = l.length ∧ ov = .slice A o.length c ∧ iv = .int .i64 (i : Int) ∧ allF (comeF es bad most f) out (l.take i) = (o, true) ∧ Buf wi B 3 (.slice A o.length c) (ints o) ∧ Ext w wi)
  case atStart => exact ⟨0, out, A, c, by omega, rfl, rfl, by simp [allF], KH.out, Ext.refl _⟩
  case round =>
    obtain ⟨i, o, A, c, hr, rfl, rfl, hp, hV, hE⟩ := hrel
    have Kr := Kept.mk hr
    have Kp := Kept.mk hp
    have KV := Kept.mk hV
    have KE := Kept.mk hE
    have hil : i ≤ l.length := by omega
    have hBw : B ≤ wr.heap.size := Nat.le_trans hB (Ext.size hE)
    clear hr hp hV hE
    by_cases hlt : i < l.length
    · have hltI : (i : Int) < (l.length : Int) := by omega
      obtain ⟨b, off, rfl, hc⟩ := KR.out.at (by rw [ints_length]; omega)
      have c0 := KE.out.cell (hc i _ (ints_at l i hlt))
      have Kmem := Kept.mk (show l.getD i 0 ∈ l from by
        rw [List.getD_eq_getElem?_getD, List.getElem?_eq_getElem hlt]
        exact List.getElem_mem _)
      have Kst := Kept.mk (take_snoc l i hlt)
      have Kdr := Kept.mk (show l = l.take i ++ (l.getD i 0 :: l.drop (i + 1)) from by
        rw [List.getD_eq_getElem?_getD, List.getElem?_eq_getElem hlt]
        simp)
      generalize l.getD i 0 = x at c0 Kmem Kst Kdr
      have Kgo := Kept.mk (show Grow U out o from by
        have := Kg.out (l.take i) (fun k hk => Kl.out k (List.mem_of_mem_take hk))
        rwa [Kp.out] at this)
      have KS := Kept.mk (KC.out B o A c x wr (Nat.le_trans Kgo.out.1 Kf.out) (Nat.le_trans Kgo.out.2 Ko.out) (Kl.out x Kmem.out) (K0.out.trans KE.out) hBw KV.out)
      have Kone := Kept.mk (allF_split (comeF es bad most f) (l.take i) [x] out (by rw [Kp.out]))
      have Kall := Kept.mk (allF_split (comeF es bad most f) (l.take i) (x :: l.drop (i + 1)) out (by rw [Kp.out]))
      rw [Kp.out] at Kone Kall
      simp only [allF] at Kone Kall
      obtain ⟨r1, r2⟩ : ∃ a, a = comeF es bad most f o x := ⟨_, rfl⟩
      rw [← r2] at KS Kone Kall
      clear r2 hc
      obtain ⟨o2, ok⟩ := r1
      go_wp2_with fail
      refine KS.out.mono ?_
      rintro e w2 ⟨A2, c2, rfl, hV2, hE2⟩
      have KV2 := Kept.mk hV2
      have KE2 := Kept.mk (KE.out.trans hE2)
      clear hV2 hE2
      cases ok with
      | true =>
        go_wp2_with fail
        go_roundg (gk - 1)
        case measure => have := Kr.out; omega
        case rel => exact ⟨i + 1, o2, A2, c2, by have := Kr.out; omega, rfl, by first | rfl | simp, by rw [Kst.out, Kone.out]; rfl, KV2.out, KE2.out⟩
      | false =>
        have Kend := Kept.mk (show allF (comeF es bad most f) out l = (o2, false) from by
          rw [Kdr.out]; exact Kall.out)
        go_wp2_with fail
        refine bodyPost_ret (v := .tuple #[.slice A2 o2.length c2, .bool false]) (by simp [results, Try.results36, go_sem]) rfl ?_
        rw [Kend.out]
        exact ⟨A2, c2, rfl, KV2.out, KE2.out⟩
    · have hltI : ¬ (i : Int) < (l.length : Int) := by omega
      have Kend := Kept.mk (show allF (comeF es bad most f) out l = (o, true) from by
        have := Kp.out
        rwa [List.take_of_length_le (by omega)] at this)
      go_wp2_with fail
      refine bodyPost_ret (v := .tuple #[.slice A o.length c, .bool true]) (by simp [results, Try.results36, go_sem]) rfl ?_
      rw [Kend.out]
      exact ⟨A, c, rfl, KV.out, KE.out⟩
set_option maxRecDepth 100000 in
set_option maxHeartbeats 2000000 in
theorem come_succ {w0 : World} {Ae : Option Addr} {ne ce : Nat} {es : List Edge} {Ab : Option Addr} {nb cb : Nat} {bad : List Int} {most : Int} {U : List Int} (hU : ∀ e ∈ es, e.t ∈ U) (hR : Reads w0 Ae ne ce es Ab nb cb bad) (f : Nat) (hA : AllT w0 Ae ne ce es Ab nb cb bad most U f) : ComeT w0 Ae ne ce es Ab nb cb bad most U (f + 1) := by
  intro B out A c k w hf ho hk h0 hB h
  obtain ⟨iI, hiI, hzI, hsI, hbI⟩ := infoI
  have KI := Kept.mk (in_any A out.length c out rfl (by omega) k w (row_of_buf h))
  have KH := Kept.mk h
  have hol : out.length ≤ 2000 := by omega
  by_cases hin : k ∈ out
  · have hr : comeF es bad most (f + 1) out k = (out, true) := by unfold comeF; rw [if_pos hin]
    rw [hr]
    rw [decide_eq_true hin] at KI
    clear h hr hf hin
    go_enter Try.func40, Try.ntmps40
    go_wp2_with fail
    refine KI.out.mono ?_
    rintro e w1 ⟨rfl, rfl⟩
    go_wp2_with fail
    exact bodyPost_ret (v := .tuple #[.slice A out.length c, .bool true]) (by simp [results, Try.results40, go_sem]) rfl ⟨A, c, rfl, KH.out, Ext.refl _⟩
  · rw [decide_eq_false hin] at KI
    by_cases hmo : most ≤ (out.length : Int)
    · have hr : comeF es bad most (f + 1) out k = (out, false) := by unfold comeF; rw [if_neg hin, if_pos hmo]
      rw [hr]
      clear h hr hf hin
      go_enter Try.func40, Try.ntmps40
      go_wp2_with fail
      refine KI.out.mono ?_
      rintro e w1 ⟨rfl, rfl⟩
      go_wp2_with fail
      exact bodyPost_ret (v := .tuple #[.slice A out.length c, .bool false]) (by simp [results, Try.results40, go_sem]) rfl ⟨A, c, rfl, KH.out, Ext.refl _⟩
    · have hmoI : ¬ most ≤ (out.length : Int) := hmo
      have Kin := Kept.mk hin
      have hs := Buf.src (P := Try.prog) _ (tx := 22) h Try.underlying22 (ints_one out)
      have KS := Kept.mk hs
      clear h hs hin
      go_enter Try.func40, Try.ntmps40
      go_wp2_with fail
      refine KI.out.mono ?_
      rintro e w1 ⟨rfl, rfl⟩
      have Kem := Kept.mk (Buf.lit w 3 B hB [] (by simp [maxLen]))
      have hs2 := Buf.src (P := Try.prog) _ (tx := 22) (KH.out.ext (Ext.alloc w (.cells (([] : List Value).toArray) 3))) Try.underlying22 (ints_one out)
      have KS2 := Kept.mk hs2
      clear hs2
      go_wp2_with (refine wpList_append_buf (P := Try.prog) _ rfl (.tmp 23) (.tmp 24) 22 22 rfl 3 iI (.int .i64 0) Try.underlying22 hiI hzI hsI rfl B (.slice (some ⟨w.heap.size, 0, none⟩) 0 0) [] rfl Kem.out (.slice A out.length c) out.length (ints out) rfl KS2.out (by simp; omega) (by simp only [maxLen, List.length_nil]; omega) (by rw [hbI]; simp only [List.length_nil]; omega) ?_)
      intro v1 w1 hV1 hT1 ho1
      have hE1 : Ext w w1 := Touch.below (Ext.alloc w (.cells (([] : List Value).toArray) 3)) hT1 (fun j hj => by simp [own] at hj; omega) (by simp)
      have hB1 : B ≤ w1.heap.size := Nat.le_trans hB (Ext.size hE1)
      obtain ⟨A1, c1, rfl⟩ := hV1.form
      rw [ints_length] at hV1 ho1 ⊢
      have KV1 := Kept.mk hV1
      have KE1 := Kept.mk hE1
      have Kow := Kept.mk (show ∀ j ∈ own (.slice A1 out.length c1), w.heap.size ≤ j from fun j hj => by
        rcases ho1 with h1 | h1
        · rw [h1] at hj; simp [own] at hj; omega
        · rw [h1, List.mem_singleton] at hj; omega)
      clear hV1 hE1 hT1 ho1
      go_wp2_with (refine wpList_append_lit (P := Try.prog) w1 rfl (.tmp 25) (.tmp 27) 22 rfl 3 iI (.int .i64 0) Try.underlying22 hiI hzI hsI rfl B (.slice A1 out.length c1) (ints out) rfl KV1.out [.int .i64 k] 1 rfl rfl (by simp [Value.oneCell']) hB1 (by rw [ints_length]; simp only [maxLen]; omega) (by rw [ints_length, hbI]; omega) ?_)
      intro v2 w2 hV2 hT2 ho2
      rw [show ints out ++ [.int .i64 k] = ints (out ++ [k]) by simp [numsV]] at hV2
      have hE2 : Ext w w2 := Touch.below KE1.out hT2 (fun j hj => Kow.out j hj) (Ext.size KE1.out)
      have hB2 : B ≤ w2.heap.size := Nat.le_trans hB (Ext.size hE2)
      have Kg : Kept (leftN U (out ++ [k]) ≤ f ∧ (out ++ [k]).length + leftN U (out ++ [k]) ≤ 2000) := Kept.mk (by
        have h1 := leftN_snoc hk Kin.out
        have h2 := (Grow.snoc (out := out) hk Kin.out).2
        exact ⟨by omega, by omega⟩)
      have KF := Kept.mk (show comeF es bad most (f + 1) out k = if k ∈ bad then (out ++ [k], false) else allF (comeF es bad most f) (out ++ [k]) (nextL es k) from by
        conv => lhs; unfold comeF
        rw [if_neg Kin.out, if_neg (show ¬ most ≤ (out.length : Int) from by omega)])
      generalize out ++ [k] = o2 at hV2 Kg KF
      obtain ⟨A2, c2, rfl⟩ := hV2.form
      rw [ints_length] at hV2 ⊢
      have KV2 := Kept.mk hV2
      have KE2 := Kept.mk hE2
      have K0 := Kept.mk h0
      have KA := Kept.mk hA
      have KN := Kept.mk (next_any Ae ne ce es w0 w2 hR.e (h0.trans hE2) hR.ne Ab nb cb bad hR.bl hR.bm (hR.b.ext (h0.trans hE2)) k)
      have Knl := Kept.mk (show (nextL es k).length ≤ 1000 from Nat.le_trans (nextL_length es k) (by have := hR.e.1.1; rw [List.length_map] at this; have := hR.ne; omega))
      have Knm := Kept.mk (nextL_mem hU k)
      clear hV2 hE2 hT2 ho2 h0 hA
      generalize nextL es k = nl at KN Knl Knm KF
      by_cases hb : k ∈ bad
      · rw [decide_eq_true hb] at KN
        rw [if_pos hb] at KF
        clear hb
        go_wp2_with fail
        refine KN.out.mono ?_
        rintro e w3 ⟨A3, c3, rfl, hV3, hE3⟩
        go_wp2_with fail
        refine bodyPost_ret (v := .tuple #[.slice A2 o2.length c2, .bool false]) (by simp [results, Try.results40, go_sem]) rfl ?_
        rw [KF.out]
        exact ⟨A2, c2, rfl, KV2.out.ext hE3, KE2.out.trans hE3⟩
      · rw [decide_eq_false hb] at KN
        rw [if_neg hb] at KF
        clear hb
        go_wp2_with fail
        refine KN.out.mono ?_
        rintro e w3 ⟨A3, c3, rfl, hV3, hE3⟩
        have KAA := Kept.mk (KA.out B o2 A2 c2 nl A3 c3 w3 Kg.out.1 Kg.out.2 Knm.out Knl.out (K0.out.trans (KE2.out.trans hE3)) (Nat.le_trans hB2 (Ext.size hE3)) (KV2.out.ext hE3) (row_of_buf hV3))
        have KE3 := Kept.mk (KE2.out.trans hE3)
        clear hV3 hE3
        generalize allF (comeF es bad most f) o2 nl = rr at KAA KF
        go_wp2_with fail
        refine KAA.out.mono ?_
        rintro e w4 ⟨A4, c4, rfl, hV4, hE4⟩
        have KV4 := Kept.mk hV4
        have KE4 := Kept.mk (KE3.out.trans hE4)
        clear hV4 hE4
        go_wp2_with fail
        refine bodyPost_ret (v := .tuple #[.slice A4 rr.1.length c4, .bool rr.2]) (by simp [results, Try.results40, go_sem]) rfl ?_
        rw [KF.out]
        exact ⟨A4, c4, rfl, KV4.out, KE4.out⟩
theorem all_every {w0 : World} {Ae : Option Addr} {ne ce : Nat} {es : List Edge} {Ab : Option Addr} {nb cb : Nat} {bad : List Int} {most : Int} {U : List Int} (hU : ∀ e ∈ es, e.t ∈ U) (hR : Reads w0 Ae ne ce es Ab nb cb bad) : ∀ f, AllT w0 Ae ne ce es Ab nb cb bad most U f
  | 0 => all_any hU 0 come_zero
  | f + 1 => all_any hU (f + 1) (come_succ hU hR f (all_every hU hR f))
/-- The universe of a walk. -/
def univ (first : List Int) (es : List Edge) : List Int := first ++ es.map (·.t)
/-- The document's walk. -/
def walkF (first : List Int) (most : Int) (es : List Edge) (bad : List Int) : List Int × Bool := allF (comeF es bad most (leftN (univ first es) [])) [] first
set_option maxRecDepth 100000 in
set_option maxHeartbeats 2000000 in
theorem refWalk_any (w0 w : World) (Ae : Option Addr) (ne ce : Nat) (es : List Edge) (Ab : Option Addr) (nb cb : Nat) (bad : List Int) (most : Int) (hR : Reads w0 Ae ne ce es Ab nb cb bad) (h0 : Ext w0 w) (first : List Int) (Al : Option Addr) (cl : Nat) (hl : first.length + es.length ≤ 1000) (hF : Row w Al (ints first)) :
    Calls Try.prog 12 #[.slice Al first.length cl, .int .i64 most, .slice Ae ne ce, .slice Ab nb cb] w (RowE w w.heap.size (walkF first most es bad)) := by
  have hU : ∀ e ∈ es, e.t ∈ univ first es := fun e he => List.mem_append_right _ (List.mem_map_of_mem he)
  have hle : leftN (univ first es) [] ≤ 1000 := by
    unfold leftN univ
    refine Nat.le_trans (List.length_filter_le _ _) ?_
    rw [List.length_append, List.length_map]; exact hl
  have KA := Kept.mk (all_every (most := most) hU hR (leftN (univ first es) []) w.heap.size [] none 0 first Al cl w (Nat.le_refl _) (by simp; omega) (fun k hk => List.mem_append_left _ hk) (by omega) h0 (Nat.le_refl _) (Buf.nil _ _ _) hF)
  rw [show allF (comeF es bad most (leftN (univ first es) [])) [] first = walkF first most es bad from rfl] at KA
  generalize walkF first most es bad = rr at KA
  clear hR h0 hF hU
  go_enter Try.func12, Try.ntmps12
  go_wp2_with fail
  refine KA.out.mono ?_
  rintro e w4 ⟨A4, c4, rfl, hV4, hE4⟩
  have KV4 := Kept.mk hV4
  have KE4 := Kept.mk hE4
  clear hV4 hE4
  go_wp2_with fail
  exact bodyPost_ret (v := .tuple #[.slice A4 rr.1.length c4, .bool rr.2]) (by simp [results, Try.results12, go_sem]) rfl ⟨A4, c4, rfl, KV4.out, KE4.out⟩
end Work
end Go.Proofs.Ytnbgdphnoopdpaa
