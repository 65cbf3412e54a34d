/- The walk of the document's Do: one is doubled. No condition. -/
import Derived.Test.YtpdaijmehaialaaNetWalkL
namespace Go.Proofs.Ytpdaijmehaialaa
open Go.RowKit Go.ChangeShapes Go.WideShapes
namespace Net
set_option linter.unusedSimpArgs false
set_option linter.unusedVariables false
attribute [local go_sem ↓] Go.wp_at_zero Go.wp_at_succ
set_option maxRecDepth 100000 in
set_option maxHeartbeats 4000000 in
theorem ref_dadd (B : Nat) (places : Int) (A : Option Addr) (c : Nat) (l : List Pk) (hl : l.length ≤ 100000) (hb : ∀ p ∈ l, p.b.length ≤ 1048576) (a : Act) (ha : ActOk a) (hk : a.k = 3) (hth : thereB l a.i = true) (hf : ¬ places ≤ (l.length : Int)) (w : World) (hB : B ≤ w.heap.size) (h : BufS 3 w B 31 (.slice A l.length c) (l.map pk)) :
    Calls Try.prog 15 #[.slice A l.length c, .int .i64 places, .agg (actV a).toArray] w (RefE w B (.slice A l.length c) (doP places l a)) := by
  obtain ⟨iR, hiR, hzR, hsR, hbR⟩ := infoR
  have hdo : doP places l a = (l ++ [l.getD a.i.toNat noPk], noPk, true, 0) := by unfold doP doubleP; rw [hth]; simp [hk, hf]
  rw [hdo]
  clear hdo
  obtain ⟨k, ⟨f, t, b⟩, i, at', turn⟩ := a
  obtain ⟨hab, hat0, hat1⟩ := ha
  simp only [] at hk hab hat0 hat1
  subst hk
  simp only [] at hth
  have hr : 0 ≤ i ∧ i < (l.length : Int) := by simpa [thereB] using hth
  obtain ⟨kk, hkk⟩ : ∃ kk : Nat, i = (kk : Int) := ⟨i.toNat, by omega⟩
  subst hkk
  have hkl : kk < l.length := by omega
  have hkI : (kk : Int) < (l.length : Int) := by omega
  simp only [Int.toNat_natCast]
  obtain ⟨p, hp⟩ : ∃ p, p = l.getD kk noPk := ⟨_, rfl⟩
  have hpk := pk_get hkl
  rw [← hp] at hpk ⊢
  obtain ⟨L2, hL2⟩ : ∃ L2, L2 = l ++ [p] := ⟨_, rfl⟩
  have KL2 := Kept.mk hL2
  rw [← hL2]
  have Kp := Kept.mk hp
  clear hp hr hL2
  have hbz := strOf_size b
  have hvo := fun j hj => (h.owns j hj).2
  have Kvo := Kept.mk hvo
  have hE1 := Ext.alloc w (.cells #[.int .i64 3, .int .i64 f, .int .i64 t, .string (strOf b), .int .i64 (kk : Int), .int .i64 at', .int .u8 turn] 33)
  have hX : Blk (w.alloc (.cells #[.int .i64 3, .int .i64 f, .int .i64 t, .string (strOf b), .int .i64 (kk : Int), .int .i64 at', .int .u8 turn] 33)) w.heap.size 33 [.int .i64 3, .int .i64 f, .int .i64 t, .string (strOf b), .int .i64 (kk : Int), .int .i64 at', .int .u8 turn] := Blk.new _ _ _
  have hs1 : (w.alloc (.cells #[.int .i64 3, .int .i64 f, .int .i64 t, .string (strOf b), .int .i64 (kk : Int), .int .i64 at', .int .u8 turn] 33)).heap.size = w.heap.size + 1 := by simp
  have hs2 : ((w.alloc (.cells #[.int .i64 3, .int .i64 f, .int .i64 t, .string (strOf b), .int .i64 (kk : Int), .int .i64 at', .int .u8 turn] 33)).alloc (.cells #[.int .i64 0, .int .i64 0, (.string (ByteArray.mk #[]))] 31)).heap.size = w.heap.size + 2 := by simp
  have KX := Kept.mk (show Blk ((w.alloc (.cells #[.int .i64 3, .int .i64 f, .int .i64 t, .string (strOf b), .int .i64 (kk : Int), .int .i64 at', .int .u8 turn] 33)).alloc (.cells #[.int .i64 0, .int .i64 0, (.string (ByteArray.mk #[]))] 31)) _ _ _ from hX.ext (Ext.alloc _ _))
  have KE := Kept.mk (show Ext w ((w.alloc (.cells #[.int .i64 3, .int .i64 f, .int .i64 t, .string (strOf b), .int .i64 (kk : Int), .int .i64 at', .int .u8 turn] 33)).alloc (.cells #[.int .i64 0, .int .i64 0, (.string (ByteArray.mk #[]))] 31)) from hE1.trans (Ext.alloc _ _))
  have KR := Kept.mk (show Blk ((w.alloc (.cells #[.int .i64 3, .int .i64 f, .int .i64 t, .string (strOf b), .int .i64 (kk : Int), .int .i64 at', .int .u8 turn] 33)).alloc (.cells #[.int .i64 0, .int .i64 0, (.string (ByteArray.mk #[]))] 31)) (w.alloc (.cells #[.int .i64 3, .int .i64 f, .int .i64 t, .string (strOf b), .int .i64 (kk : Int), .int .i64 at', .int .u8 turn] 33)).heap.size _ [.int .i64 0, .int .i64 0, (.string (ByteArray.mk #[]))] from Blk.new (w.alloc (.cells #[.int .i64 3, .int .i64 f, .int .i64 t, .string (strOf b), .int .i64 (kk : Int), .int .i64 at', .int .u8 turn] 33)) 31 [.int .i64 0, .int .i64 0, (.string (ByteArray.mk #[]))])
  rw [hs1] at KR
  have x0 := KX.out.cell 0
  have x1 := KX.out.cell 1
  have x2 := KX.out.cell 2
  have x3 := KX.out.cell 3
  have x4 := KX.out.cell 4
  have x5 := KX.out.cell 5
  have x6 := KX.out.cell 6
  simp only [List.getElem?_cons_zero, List.getElem?_cons_succ] at x0 x1 x2 x3 x4 x5 x6
  have KV := Kept.mk (show BufS 3 ((w.alloc (.cells #[.int .i64 3, .int .i64 f, .int .i64 t, .string (strOf b), .int .i64 (kk : Int), .int .i64 at', .int .u8 turn] 33)).alloc (.cells #[.int .i64 0, .int .i64 0, (.string (ByteArray.mk #[]))] 31)) B 31 (.slice A l.length c) (l.map pk) from h.ext KE.out)
  have Khb := Kept.mk hb
  obtain ⟨⟨r10, r11, r12⟩, r1f, r1g, r1h⟩ := Blk.three KR.out
  change Calls _ _ #[_, _, .agg #[.int .i64 3, .int .i64 f, .int .i64 t, .string (strOf b), .int .i64 (kk : Int), .int .i64 at', .int .u8 turn]] _ _
  have Khs := Kept.mk hs2
  clear h hb hE1 hX hs1 hs2 hvo
  have Kth := Kept.mk hth
  clear hth
  go_enter Try.func15, Try.ntmps15
  go_upto_region 1 with fail
  generalize ((w.alloc (.cells #[.int .i64 3, .int .i64 f, .int .i64 t, .string (strOf b), .int .i64 (kk : Int), .int .i64 at', .int .u8 turn] 33)).alloc (.cells #[.int .i64 0, .int .i64 0, (.string (ByteArray.mk #[]))] 31)) = wq at KE KX KR KV Khs x0 x1 x2 x3 x4 x5 x6 r10 r11 r12 r1f r1g r1h ⊢
  go_cut [10] (fun s10 wx => s10 = .bool (thereB l (kk : Int)) ∧ wq = wx)
  case first =>
    go_wp2_with fail
    go_meet
    exact ⟨by rw [Kth.out], rfl⟩
  case rest =>
  obtain ⟨rfl, rfl⟩ := hcut
  rw [Kth.out]
  obtain ⟨-, hcap, hmx⟩ := KV.out.len
  obtain ⟨b2, o2, rfl, p0, p1, p2⟩ := buf_atR KV.out (i := kk) (by simpa using hkl) hpk
  have hb2 : b2 < w.heap.size := Kvo.out b2 (by simp [own])
  have h63 : c ≤ 9223372036854775807 := hmx
  have hkb : kk ≤ 100000 := by omega
  have hRX : w.heap.size ≠ w.heap.size + 1 := by omega
  have hLX : b2 ≠ w.heap.size + 1 := by omega
  have L1 := Kept.mk (Blk.new wq 31 [.int .i64 p.f, .int .i64 p.t, .string (strOf p.b)])
  have L2' := Kept.mk (show Blk ((wq.alloc (.cells #[] 31)).alloc (.cells #[.int .i64 p.f, .int .i64 p.t, .string (strOf p.b)] 31)) (wq.heap.size + 1) 31 [.int .i64 p.f, .int .i64 p.t, .string (strOf p.b)] by
    have := Blk.new (wq.alloc (.cells #[] 31)) 31 [.int .i64 p.f, .int .i64 p.t, .string (strOf p.b)]
    rwa [show (wq.alloc (.cells #[] 31)).heap.size = wq.heap.size + 1 by simp] at this)
  clear hpk
  go_upto_region 18 with fail
  go_region_held3 (fun w' => w'.cell? ⟨w.heap.size, 4, none⟩ = some (.int .i64 (kk : Int)) ∧ w'.cell? ⟨b2, o2 + kk * 3, none⟩ = some (.int .i64 p.f) ∧ w'.cell? ⟨b2, o2 + kk * 3 + 1, none⟩ = some (.int .i64 p.t) ∧ w'.cell? ⟨b2, o2 + kk * 3 + 2, none⟩ = some (.string (strOf p.b)))
    (first
      | with_reducible exact ⟨x4, p0, p1, p2⟩
      | with_reducible exact ⟨(Ext.drew wq).cell x4, (Ext.drew wq).cell p0, (Ext.drew wq).cell p1, (Ext.drew wq).cell p2⟩
      | with_reducible exact ⟨(Ext.alloc wq _).cell x4, (Ext.alloc wq _).cell p0, (Ext.alloc wq _).cell p1, (Ext.alloc wq _).cell p2⟩
      | with_reducible exact ⟨((Ext.alloc wq _).trans (Ext.drew _)).cell x4, ((Ext.alloc wq _).trans (Ext.drew _)).cell p0, ((Ext.alloc wq _).trans (Ext.drew _)).cell p1, ((Ext.alloc wq _).trans (Ext.drew _)).cell p2⟩
      | with_reducible exact ⟨((Ext.alloc wq _).trans (Ext.alloc _ _)).cell x4, ((Ext.alloc wq _).trans (Ext.alloc _ _)).cell p0, ((Ext.alloc wq _).trans (Ext.alloc _ _)).cell p1, ((Ext.alloc wq _).trans (Ext.alloc _ _)).cell p2⟩
      | with_reducible exact ⟨(((Ext.alloc wq _).trans (Ext.alloc _ _)).trans (Ext.drew _)).cell x4, (((Ext.alloc wq _).trans (Ext.alloc _ _)).trans (Ext.drew _)).cell p0, (((Ext.alloc wq _).trans (Ext.alloc _ _)).trans (Ext.drew _)).cell p1, (((Ext.alloc wq _).trans (Ext.alloc _ _)).trans (Ext.drew _)).cell p2⟩
      | with_reducible exact ⟨hEq1.cell x4, hEq1.cell p0, hEq1.cell p1, hEq1.cell p2⟩
      | with_reducible exact ⟨(hEq1.trans (Ext.drew _)).cell x4, (hEq1.trans (Ext.drew _)).cell p0, (hEq1.trans (Ext.drew _)).cell p1, (hEq1.trans (Ext.drew _)).cell p2⟩
      | with_reducible exact ⟨(hEq1.trans (Ext.alloc _ _)).cell x4, (hEq1.trans (Ext.alloc _ _)).cell p0, (hEq1.trans (Ext.alloc _ _)).cell p1, (hEq1.trans (Ext.alloc _ _)).cell p2⟩
      | with_reducible exact ⟨((hEq1.trans (Ext.alloc _ _)).trans (Ext.drew _)).cell x4, ((hEq1.trans (Ext.alloc _ _)).trans (Ext.drew _)).cell p0, ((hEq1.trans (Ext.alloc _ _)).trans (Ext.drew _)).cell p1, ((hEq1.trans (Ext.alloc _ _)).trans (Ext.drew _)).cell p2⟩
      | with_reducible exact ⟨hEq2.cell x4, hEq2.cell p0, hEq2.cell p1, hEq2.cell p2⟩
      | with_reducible exact ⟨keep3 (hEq2.cell x4) _ hRX _ _ _, keep3 (hEq2.cell p0) _ hLX _ _ _, keep3 (hEq2.cell p1) _ hLX _ _ _, keep3 (hEq2.cell p2) _ hLX _ _ _⟩)
    ((first
      | (refine step_copyS (P := Try.prog) _ (by rfl) (.tmp 93) (.tmp 94) 44 44 (by rfl) 3 (by decide) 31 iR _ Try.underlying44 hiR hzR hsR (by rfl) wq.heap.size _ (by rfl) (by intro a' ha'; injection ha' with ha'; subst ha'; constructor <;> (first | (simp; done) | (simp; omega))) (.slice (some ⟨b2, o2, none⟩) l.length c) l.length (l.map pk) (pk_each l) (by rfl) (BufS.src (P := Try.prog) _ (KV.out.ext (by with_reducible repeat (first | exact Ext.refl _ | refine Ext.trans ?_ (Ext.drew _) | refine Ext.trans ?_ (Ext.alloc _ _)))) (by decide) Try.underlying44 (pk_one l)) (by first | (simp; done) | (simp; omega) | omega) (by simp only [maxLen]; omega) (by rw [hbR]; omega) ?_; intro v1 w1 hV1 hE1 ho1; have hEq1 : Ext wq w1 := Ext.trans (by with_reducible repeat (first | exact Ext.refl _ | refine Ext.trans ?_ (Ext.drew _) | refine Ext.trans ?_ (Ext.alloc _ _))) hE1)
      | (refine step_addS (P := Try.prog) _ (by rfl) (.tmp 95) (.tmp 101) 44 44 (by rfl) 3 (by decide) 31 iR _ Try.underlying44 hiR hzR hsR (by rfl) wq.heap.size v1 (l.map pk) (by rfl) (hV1.ext (by with_reducible repeat (first | exact Ext.refl _ | refine Ext.trans ?_ (Ext.drew _) | refine Ext.trans ?_ (Ext.alloc _ _) | refine Ext.trans ?_ hE1))) _ 1 ([[Value.int .i64 p.f, Value.int .i64 p.t, Value.string (strOf p.b)]]) (by simp) (by rfl) (by first | exact src_lit (by decide) Try.underlying44 (by rfl) (by simp [Value.oneCell']) L1.out (by with_reducible repeat (first | exact Ext.refl _ | refine Ext.trans ?_ (Ext.drew _) | refine Ext.trans ?_ (Ext.alloc _ _) | refine Ext.trans ?_ hE1)) | exact src_lit (by decide) Try.underlying44 (by rfl) (by simp [Value.oneCell']) L2'.out (by with_reducible repeat (first | exact Ext.refl _ | refine Ext.trans ?_ (Ext.drew _) | refine Ext.trans ?_ (Ext.alloc _ _) | refine Ext.trans ?_ hE1)) | exact src_lit (by decide) Try.underlying44 (by rfl) (by simp [Value.oneCell']) (Blk.new w1 _ _) (by with_reducible repeat (first | exact Ext.refl _ | refine Ext.trans ?_ (Ext.drew _) | refine Ext.trans ?_ (Ext.alloc _ _) | refine Ext.trans ?_ hE1))) (by have := Ext.size hEq1; first | (simp; done) | (simp; omega) | omega) (by rw [List.length_map]; simp only [maxLen]; omega) (by rw [List.length_map, hbR]; omega) ?_; intro v2 w2 hV2 hE2; have hEq2 : Ext wq w2 := Below.trans (show Ext wq _ from (by with_reducible repeat (first | exact Ext.refl _ | refine Ext.trans ?_ (Ext.drew _) | refine Ext.trans ?_ (Ext.alloc _ _) | refine Ext.trans ?_ hE1))) hE2; have hR2 := KR.out.ext hEq2; obtain ⟨⟨t10, t11, t12⟩, t1f, t1g, t1h⟩ := Blk.three hR2; obtain ⟨A2, c2, hv2⟩ := hV2.form; obtain ⟨N2, hN2⟩ : ∃ N2, N2 = (l.map pk ++ [[Value.int .i64 p.f, Value.int .i64 p.t, Value.string (strOf p.b)]]).length := ⟨_, rfl⟩; rw [← hN2] at hv2; subst hv2; have KN1 := Kept.mk hN2; clear hN2)))
  all_goals
    rw [show List.map pk l ++ [[.int .i64 p.f, .int .i64 p.t, .string (strOf p.b)]] = L2.map pk by rw [KL2.out]; simp [pk]] at hV2
    have KN2 := Kept.mk (show N2 = L2.length by rw [KN1.out, KL2.out, List.length_append, List.length_append, List.length_map, List.length_singleton, List.length_singleton])
    have KF := Kept.mk (ref_end KE.out hEq2 (Nat.le_succ _) KN2.out (hV2.lower (show B ≤ wq.heap.size by have := Khs.out; omega)) (fun hm => by have := (hV2.owns (w.heap.size + 1) hm).1; have := Khs.out; omega) (v0 := .slice (some ⟨b2, o2, none⟩) l.length c) (fun j hj => .inr (by have := (hV2.owns j hj).1; have := Khs.out; omega)) hR2 (.int .i64 0) (.int .i64 0) (.string (ByteArray.mk #[])))
    go_wp2_with fail
    all_goals
      obtain ⟨hN3⟩ := KN2
      subst hN3
      change bodyPost _ _ _ _ _ (put3 _ (w.heap.size + 1) (.int .i64 0) (.int .i64 0) (.string (ByteArray.mk #[])))
      obtain ⟨n1, n2, n4, n5⟩ := KF.out
      obtain ⟨⟨f0, f1, f2⟩, -⟩ := Blk.three n4
      exact bodyPost_ret (v := .tuple #[.slice A2 (L2.length) c2, .agg #[(.int .i64 0), (.int .i64 0), (.string (ByteArray.mk #[]))], .bool true, .int .i64 0]) (by simp [results, Try.results15, go_sem, f0, f1, f2]) rfl ⟨A2, c2, rfl, n1, n2, n5⟩
end Net
end Go.Proofs.Ytpdaijmehaialaa
