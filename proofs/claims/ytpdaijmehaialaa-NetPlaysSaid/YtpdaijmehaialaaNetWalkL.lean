/- The walk of the document's Do: one is taken. No condition. -/
import Derived.Test.YtpdaijmehaialaaNetWalkK
import Derived.IntWalk
import Derived.Deep.DrawnRows
namespace Go.Proofs.Ytpdaijmehaialaa
open Go.RowKit Go.ChangeShapes Go.WideShapes
namespace Net
set_option linter.unusedSimpArgs false
set_option linter.unusedVariables false
attribute [local go_sem ↓] Go.wp_at_zero Go.wp_at_succ
theorem keep3 {w : World} {a : Addr} {v : Value} (h : w.cell? a = some v) (g : Nat) (hn : a.block ≠ g) (x y z : Value) : (((w.setCell ⟨g, 0, none⟩ x).setCell ⟨g, 1, none⟩ y).setCell ⟨g, 2, none⟩ z).cell? a = some v := by
  have h1 := (Touch.set w ⟨g, 0, none⟩ x).cell h (by simpa using hn)
  have h2 := (Touch.set _ ⟨g, 1, none⟩ y).cell h1 (by simpa using hn)
  exact (Touch.set _ ⟨g, 2, none⟩ z).cell h2 (by simpa using hn)
set_option maxRecDepth 100000 in
set_option maxHeartbeats 4000000 in
theorem ref_take (B : Nat) (places : Int) (A : Option Addr) (c : Nat) (l : List Pk) (hl : l.length ≤ 100000) (hb : ∀ p ∈ l, p.b.length ≤ 1048576) (a : Act) (ha : ActOk a) (hk : a.k = 1) (hth : thereB l a.i = true) (w : World) (hB : B ≤ w.heap.size) (h : BufS 3 w B 31 (.slice A l.length c) (l.map pk)) :
    Calls Try.prog 15 #[.slice A l.length c, .int .i64 places, .agg (actV a).toArray] w (RefE w B (.slice A l.length c) (doP places l a)) := by
  obtain ⟨iR, hiR, hzR, hsR, hbR⟩ := infoR
  have hdo : doP places l a = (l.take a.i.toNat ++ l.drop (a.i.toNat + 1), l.getD a.i.toNat noPk, true, 0) := by unfold doP takeP; rw [hth]; simp [hk]
  rw [hdo]
  clear hdo
  obtain ⟨k, ⟨f, t, b⟩, i, at', turn⟩ := a
  obtain ⟨hab, hat0, hat1⟩ := ha
  simp only [] at hk hab hat0 hat1
  subst hk
  simp only [] at hth
  have hr : 0 ≤ i ∧ i < (l.length : Int) := by simpa [thereB] using hth
  obtain ⟨kk, hkk⟩ : ∃ kk : Nat, i = (kk : Int) := ⟨i.toNat, by omega⟩
  subst hkk
  have hkl : kk < l.length := by omega
  have hkI : (kk : Int) < (l.length : Int) := by omega
  simp only [Int.toNat_natCast]
  obtain ⟨p, hp⟩ : ∃ p, p = l.getD kk noPk := ⟨_, rfl⟩
  have hpk := pk_get hkl
  rw [← hp] at hpk
  try rw [← hp]
  obtain ⟨L2, hL2⟩ : ∃ L2, L2 = l.take kk ++ l.drop (kk + 1) := ⟨_, rfl⟩
  have KL2 := Kept.mk hL2
  rw [← hL2]
  have Kp := Kept.mk hp
  clear hp hr hL2
  have hbz := strOf_size b
  have hvo := fun j hj => (h.owns j hj).2
  have Kvo := Kept.mk hvo
  have hE1 := Ext.alloc w (.cells #[.int .i64 1, .int .i64 f, .int .i64 t, .string (strOf b), .int .i64 (kk : Int), .int .i64 at', .int .u8 turn] 33)
  have hX : Blk (w.alloc (.cells #[.int .i64 1, .int .i64 f, .int .i64 t, .string (strOf b), .int .i64 (kk : Int), .int .i64 at', .int .u8 turn] 33)) w.heap.size 33 [.int .i64 1, .int .i64 f, .int .i64 t, .string (strOf b), .int .i64 (kk : Int), .int .i64 at', .int .u8 turn] := Blk.new _ _ _
  have hs1 : (w.alloc (.cells #[.int .i64 1, .int .i64 f, .int .i64 t, .string (strOf b), .int .i64 (kk : Int), .int .i64 at', .int .u8 turn] 33)).heap.size = w.heap.size + 1 := by simp
  have hs2 : ((w.alloc (.cells #[.int .i64 1, .int .i64 f, .int .i64 t, .string (strOf b), .int .i64 (kk : Int), .int .i64 at', .int .u8 turn] 33)).alloc (.cells #[.int .i64 0, .int .i64 0, (.string (ByteArray.mk #[]))] 31)).heap.size = w.heap.size + 2 := by simp
  have KX := Kept.mk (show Blk ((w.alloc (.cells #[.int .i64 1, .int .i64 f, .int .i64 t, .string (strOf b), .int .i64 (kk : Int), .int .i64 at', .int .u8 turn] 33)).alloc (.cells #[.int .i64 0, .int .i64 0, (.string (ByteArray.mk #[]))] 31)) _ _ _ from hX.ext (Ext.alloc _ _))
  have KE := Kept.mk (show Ext w ((w.alloc (.cells #[.int .i64 1, .int .i64 f, .int .i64 t, .string (strOf b), .int .i64 (kk : Int), .int .i64 at', .int .u8 turn] 33)).alloc (.cells #[.int .i64 0, .int .i64 0, (.string (ByteArray.mk #[]))] 31)) from hE1.trans (Ext.alloc _ _))
  have KR := Kept.mk (show Blk ((w.alloc (.cells #[.int .i64 1, .int .i64 f, .int .i64 t, .string (strOf b), .int .i64 (kk : Int), .int .i64 at', .int .u8 turn] 33)).alloc (.cells #[.int .i64 0, .int .i64 0, (.string (ByteArray.mk #[]))] 31)) (w.alloc (.cells #[.int .i64 1, .int .i64 f, .int .i64 t, .string (strOf b), .int .i64 (kk : Int), .int .i64 at', .int .u8 turn] 33)).heap.size _ [.int .i64 0, .int .i64 0, (.string (ByteArray.mk #[]))] from Blk.new (w.alloc (.cells #[.int .i64 1, .int .i64 f, .int .i64 t, .string (strOf b), .int .i64 (kk : Int), .int .i64 at', .int .u8 turn] 33)) 31 [.int .i64 0, .int .i64 0, (.string (ByteArray.mk #[]))])
  rw [hs1] at KR
  have x0 := KX.out.cell 0
  have x1 := KX.out.cell 1
  have x2 := KX.out.cell 2
  have x3 := KX.out.cell 3
  have x4 := KX.out.cell 4
  have x5 := KX.out.cell 5
  have x6 := KX.out.cell 6
  simp only [List.getElem?_cons_zero, List.getElem?_cons_succ] at x0 x1 x2 x3 x4 x5 x6
  have KV := Kept.mk (show BufS 3 ((w.alloc (.cells #[.int .i64 1, .int .i64 f, .int .i64 t, .string (strOf b), .int .i64 (kk : Int), .int .i64 at', .int .u8 turn] 33)).alloc (.cells #[.int .i64 0, .int .i64 0, (.string (ByteArray.mk #[]))] 31)) B 31 (.slice A l.length c) (l.map pk) from h.ext KE.out)
  have Khb := Kept.mk hb
  obtain ⟨⟨r10, r11, r12⟩, r1f, r1g, r1h⟩ := Blk.three KR.out
  change Calls _ _ #[_, _, .agg #[.int .i64 1, .int .i64 f, .int .i64 t, .string (strOf b), .int .i64 (kk : Int), .int .i64 at', .int .u8 turn]] _ _
  have Khs := Kept.mk hs2
  clear h hb hE1 hX hs1 hs2 hvo
  have Kth := Kept.mk hth
  clear hth
  go_enter Try.func15, Try.ntmps15
  go_upto_region 1 with fail
  generalize ((w.alloc (.cells #[.int .i64 1, .int .i64 f, .int .i64 t, .string (strOf b), .int .i64 (kk : Int), .int .i64 at', .int .u8 turn] 33)).alloc (.cells #[.int .i64 0, .int .i64 0, (.string (ByteArray.mk #[]))] 31)) = wq at KE KX KR KV Khs x0 x1 x2 x3 x4 x5 x6 r10 r11 r12 r1f r1g r1h ⊢
  go_cut [10] (fun s10 wx => s10 = .bool (thereB l (kk : Int)) ∧ wq = wx)
  case first =>
    go_wp2_with fail
    go_meet
    exact ⟨by rw [Kth.out], rfl⟩
  case rest =>
  obtain ⟨rfl, rfl⟩ := hcut
  rw [Kth.out]
  obtain ⟨-, hcap, hmx⟩ := KV.out.len
  obtain ⟨b2, o2, rfl, p0, p1, p2⟩ := buf_atR KV.out (i := kk) (by simpa using hkl) hpk
  have hRv : w.heap.size + 1 ∉ own (.slice (some ⟨b2, o2, none⟩) l.length c) := fun hm => by have := Kvo.out _ hm; omega
  have hEp := Ext.alloc wq (.cells #[.int .i64 p.f, .int .i64 p.t, .string (strOf p.b)] 31)
  have hBp : Blk (wq.alloc (.cells #[.int .i64 p.f, .int .i64 p.t, .string (strOf p.b)] 31)) wq.heap.size 31 [.int .i64 p.f, .int .i64 p.t, .string (strOf p.b)] := Blk.new _ _ _
  have y0 := hEp.cell x0
  have y4 := hEp.cell x4
  obtain ⟨⟨g0, g1, g2⟩, g3, g4, g5⟩ := Blk.three hBp
  have h63 : c ≤ 9223372036854775807 := hmx
  have hic : kk ≤ c := by omega
  have hi0 : (0 : Int) ≤ (kk : Int) + 1 := by omega
  have hi1 : kk + 1 ≤ l.length := by omega
  have hnn : ((kk : Int) + 1).toNat = kk + 1 := by omega
  have hkb : kk ≤ 100000 := by omega
  clear hpk
  have hi2 : (kk : Int) + 1 ≤ (l.length : Int) := by omega
  have hi3 : (l.length : Int) ≤ (c : Int) := by omega
  have hwr : IntKind.i64.wrap ((kk : Int) + 1) = (kk : Int) + 1 := IntWalk.i64_in _ (by omega)
  have KEp := Kept.mk hEp
  have KBp := Kept.mk hBp
  clear hEp hBp
  go_upto_region 14 with fail
  generalize wq.alloc (.cells #[.int .i64 p.f, .int .i64 p.t, .string (strOf p.b)] 31) = wx at KEp KBp y0 y4 g0 g1 g2 g3 g4 g5 ⊢
  have KEx := Kept.mk KEp.out
  have KRx := Kept.mk (KR.out.ext KEx.out)
  have KFx := Kept.mk ((KV.out.front kk (by rw [List.length_map]; omega)).ext KEx.out)
  have hcut := (KV.out.cut (kk + 1) (by rw [List.length_map]; omega)).ext KEx.out
  have Kc1 := Kept.mk (show ∀ cc ∈ (l.map pk).take kk, cc.length = 3 from fun cc hc => pk_each l cc (List.mem_of_mem_take hc))
  have Kc2 := Kept.mk (show ∀ cc ∈ (l.map pk).drop (kk + 1), cc.length = 3 from fun cc hc => pk_each l cc (List.mem_of_mem_drop hc))
  have Kc3 := Kept.mk (show ∀ cc ∈ (l.map pk).take kk, ∀ u ∈ cc, u.oneCell' = true from fun cc hc => pk_one l cc (List.mem_of_mem_take hc))
  have Kc4 := Kept.mk (show ∀ cc ∈ (l.map pk).drop (kk + 1), ∀ u ∈ cc, u.oneCell' = true from fun cc hc => pk_one l cc (List.mem_of_mem_drop hc))
  have hRX : w.heap.size ≠ w.heap.size + 1 := by omega
  have hPX : wq.heap.size ≠ w.heap.size + 1 := by have := Khs.out; omega
  have hxz := Ext.size KEx.out
  have hlt1 : ((l.map pk).take kk).length = kk := by rw [List.length_take, List.length_map]; omega
  have hld1 : ((l.map pk).drop (kk + 1)).length = l.length - (kk + 1) := by rw [List.length_drop, List.length_map]
  have Klt := Kept.mk hlt1
  have Kld := Kept.mk hld1
  clear hlt1 hld1
  simp only [Option.map_some, Addr.add_lit] at hcut
  have Kct := Kept.mk hcut
  clear hcut
  go_region_held3 (fun w' => w'.cell? ⟨w.heap.size, 4, none⟩ = some (.int .i64 (kk : Int)) ∧ w'.cell? ⟨wq.heap.size, 0, none⟩ = some (.int .i64 p.f) ∧ w'.cell? ⟨wq.heap.size, 1, none⟩ = some (.int .i64 p.t) ∧ w'.cell? ⟨wq.heap.size, 2, none⟩ = some (.string (strOf p.b)))
    (first
      | with_reducible exact ⟨y4, g0, g1, g2⟩
      | with_reducible exact ⟨(Ext.drew _).cell y4, (Ext.drew _).cell g0, (Ext.drew _).cell g1, (Ext.drew _).cell g2⟩
      | with_reducible exact ⟨(Ext.alloc _ _).cell y4, (Ext.alloc _ _).cell g0, (Ext.alloc _ _).cell g1, (Ext.alloc _ _).cell g2⟩
      | with_reducible exact ⟨((Ext.alloc _ _).trans (Ext.drew _)).cell y4, ((Ext.alloc _ _).trans (Ext.drew _)).cell g0, ((Ext.alloc _ _).trans (Ext.drew _)).cell g1, ((Ext.alloc _ _).trans (Ext.drew _)).cell g2⟩
      | with_reducible exact ⟨hEq1.cell y4, hEq1.cell g0, hEq1.cell g1, hEq1.cell g2⟩
      | with_reducible exact ⟨hEq2.cell y4, hEq2.cell g0, hEq2.cell g1, hEq2.cell g2⟩
      | with_reducible exact ⟨keep3 (hEq2.cell y4) _ hRX _ _ _, keep3 (hEq2.cell g0) _ hPX _ _ _, keep3 (hEq2.cell g1) _ hPX _ _ _, keep3 (hEq2.cell g2) _ hPX _ _ _⟩)
    ((first
      | (refine step_copyS (P := Try.prog) _ (by rfl) (.tmp 68) (.tmp 72) 44 44 (by rfl) 3 (by decide) 31 iR _ Try.underlying44 hiR hzR hsR (by rfl) wx.heap.size _ (by rfl) (by intro a' ha'; injection ha' with ha'; subst ha'; constructor <;> (first | (simp; done) | (simp; omega))) (.slice (some ⟨b2, o2, none⟩) kk c) kk ((l.map pk).take kk) Kc1.out (by rfl) (BufS.src (P := Try.prog) _ (KFx.out.ext (by with_reducible repeat (first | exact Ext.refl _ | refine Ext.trans ?_ (Ext.drew _) | refine Ext.trans ?_ (Ext.alloc _ _)))) (by decide) Try.underlying44 Kc3.out) (by first | (simp; done) | (simp; omega) | omega) (by simp only [maxLen]; omega) (by rw [hbR]; omega) ?_; intro v1 w1 hV1 hE1 ho1; have hEq1 : Ext wx w1 := Ext.trans (by with_reducible repeat (first | exact Ext.refl _ | refine Ext.trans ?_ (Ext.drew _) | refine Ext.trans ?_ (Ext.alloc _ _))) hE1)
      | (refine step_addS (P := Try.prog) _ (by rfl) (.tmp 73) (.tmp 78) 44 44 (by rfl) 3 (by decide) 31 iR _ Try.underlying44 hiR hzR hsR (by rfl) wx.heap.size v1 ((l.map pk).take kk) (by rfl) (hV1.ext (by with_reducible repeat (first | exact Ext.refl _ | refine Ext.trans ?_ (Ext.drew _) | refine Ext.trans ?_ (Ext.alloc _ _)))) (.slice (if c = kk + 1 then some ⟨b2, o2, none⟩ else some ⟨b2, o2 + (kk + 1) * 3, none⟩) (l.length - (kk + 1)) (c - (kk + 1))) (l.length - (kk + 1)) ((l.map pk).drop (kk + 1)) Kc2.out (by rfl) (BufS.src (P := Try.prog) _ (Kct.out.ext (by with_reducible repeat (first | exact Ext.refl _ | refine Ext.trans ?_ (Ext.drew _) | refine Ext.trans ?_ (Ext.alloc _ _) | refine Ext.trans ?_ hE1))) (by decide) Try.underlying44 Kc4.out) (by have := Ext.size hEq1; first | (simp; done) | (simp; omega) | omega) (by rw [Klt.out]; simp only [maxLen]; omega) (by rw [Klt.out, hbR]; omega) ?_; intro v2 w2 hV2 hE2; have hEq2 : Ext wx w2 := Below.trans (show Ext wx _ from (by with_reducible repeat (first | exact Ext.refl _ | refine Ext.trans ?_ (Ext.drew _) | refine Ext.trans ?_ (Ext.alloc _ _) | refine Ext.trans ?_ hE1))) hE2; have hR2 := KRx.out.ext hEq2; obtain ⟨⟨t10, t11, t12⟩, t1f, t1g, t1h⟩ := Blk.three hR2; obtain ⟨A2, c2, hv2⟩ := hV2.form; obtain ⟨N2, hN2⟩ : ∃ N2, N2 = ((l.map pk).take kk ++ (l.map pk).drop (kk + 1)).length := ⟨_, rfl⟩; rw [← hN2] at hv2; subst hv2; have KN1 := Kept.mk hN2; clear hN2)))
  all_goals
    rw [← List.map_take, ← List.map_drop, ← List.map_append, ← KL2.out] at hV2
    have KN2 := Kept.mk (show N2 = L2.length by rw [KN1.out, ← List.map_take, ← List.map_drop, ← List.map_append, ← KL2.out, List.length_map])
    have KF := Kept.mk (ref_end (KE.out.trans KEx.out) hEq2 (Nat.le_succ _) KN2.out (hV2.lower (show B ≤ wx.heap.size by have := Khs.out; omega)) (fun hm => by have := (hV2.owns (w.heap.size + 1) hm).1; have := Khs.out; omega) (v0 := .slice (some ⟨b2, o2, none⟩) l.length c) (fun j hj => .inr (by have := (hV2.owns j hj).1; have := Khs.out; omega)) hR2 (.int .i64 p.f) (.int .i64 p.t) (.string (strOf p.b)))
    go_wp2_with fail
    all_goals
      obtain ⟨hN3⟩ := KN2
      subst hN3
      change bodyPost _ _ _ _ _ (put3 _ (w.heap.size + 1) (.int .i64 p.f) (.int .i64 p.t) (.string (strOf p.b)))
      obtain ⟨n1, n2, n4, n5⟩ := KF.out
      obtain ⟨⟨f0, f1, f2⟩, -⟩ := Blk.three n4
      exact bodyPost_ret (v := .tuple #[.slice A2 (L2.length) c2, .agg #[(.int .i64 p.f), (.int .i64 p.t), (.string (strOf p.b))], .bool true, .int .i64 0]) (by simp [results, Try.results15, go_sem, f0, f1, f2]) rfl ⟨A2, c2, rfl, n1, n2, n5⟩
set_option maxRecDepth 100000 in
set_option maxHeartbeats 4000000 in
theorem ref_lose (B : Nat) (places : Int) (A : Option Addr) (c : Nat) (l : List Pk) (hl : l.length ≤ 100000) (hb : ∀ p ∈ l, p.b.length ≤ 1048576) (a : Act) (ha : ActOk a) (hk : a.k = 2) (hth : thereB l a.i = true) (w : World) (hB : B ≤ w.heap.size) (h : BufS 3 w B 31 (.slice A l.length c) (l.map pk)) :
    Calls Try.prog 15 #[.slice A l.length c, .int .i64 places, .agg (actV a).toArray] w (RefE w B (.slice A l.length c) (doP places l a)) := by
  obtain ⟨iR, hiR, hzR, hsR, hbR⟩ := infoR
  have hdo : doP places l a = (l.take a.i.toNat ++ l.drop (a.i.toNat + 1), noPk, true, 0) := by unfold doP takeP; rw [hth]; simp [hk]
  rw [hdo]
  clear hdo
  obtain ⟨k, ⟨f, t, b⟩, i, at', turn⟩ := a
  obtain ⟨hab, hat0, hat1⟩ := ha
  simp only [] at hk hab hat0 hat1
  subst hk
  simp only [] at hth
  have hr : 0 ≤ i ∧ i < (l.length : Int) := by simpa [thereB] using hth
  obtain ⟨kk, hkk⟩ : ∃ kk : Nat, i = (kk : Int) := ⟨i.toNat, by omega⟩
  subst hkk
  have hkl : kk < l.length := by omega
  have hkI : (kk : Int) < (l.length : Int) := by omega
  simp only [Int.toNat_natCast]
  obtain ⟨p, hp⟩ : ∃ p, p = l.getD kk noPk := ⟨_, rfl⟩
  have hpk := pk_get hkl
  rw [← hp] at hpk
  try rw [← hp]
  obtain ⟨L2, hL2⟩ : ∃ L2, L2 = l.take kk ++ l.drop (kk + 1) := ⟨_, rfl⟩
  have KL2 := Kept.mk hL2
  rw [← hL2]
  have Kp := Kept.mk hp
  clear hp hr hL2
  have hbz := strOf_size b
  have hvo := fun j hj => (h.owns j hj).2
  have Kvo := Kept.mk hvo
  have hE1 := Ext.alloc w (.cells #[.int .i64 2, .int .i64 f, .int .i64 t, .string (strOf b), .int .i64 (kk : Int), .int .i64 at', .int .u8 turn] 33)
  have hX : Blk (w.alloc (.cells #[.int .i64 2, .int .i64 f, .int .i64 t, .string (strOf b), .int .i64 (kk : Int), .int .i64 at', .int .u8 turn] 33)) w.heap.size 33 [.int .i64 2, .int .i64 f, .int .i64 t, .string (strOf b), .int .i64 (kk : Int), .int .i64 at', .int .u8 turn] := Blk.new _ _ _
  have hs1 : (w.alloc (.cells #[.int .i64 2, .int .i64 f, .int .i64 t, .string (strOf b), .int .i64 (kk : Int), .int .i64 at', .int .u8 turn] 33)).heap.size = w.heap.size + 1 := by simp
  have hs2 : ((w.alloc (.cells #[.int .i64 2, .int .i64 f, .int .i64 t, .string (strOf b), .int .i64 (kk : Int), .int .i64 at', .int .u8 turn] 33)).alloc (.cells #[.int .i64 0, .int .i64 0, (.string (ByteArray.mk #[]))] 31)).heap.size = w.heap.size + 2 := by simp
  have KX := Kept.mk (show Blk ((w.alloc (.cells #[.int .i64 2, .int .i64 f, .int .i64 t, .string (strOf b), .int .i64 (kk : Int), .int .i64 at', .int .u8 turn] 33)).alloc (.cells #[.int .i64 0, .int .i64 0, (.string (ByteArray.mk #[]))] 31)) _ _ _ from hX.ext (Ext.alloc _ _))
  have KE := Kept.mk (show Ext w ((w.alloc (.cells #[.int .i64 2, .int .i64 f, .int .i64 t, .string (strOf b), .int .i64 (kk : Int), .int .i64 at', .int .u8 turn] 33)).alloc (.cells #[.int .i64 0, .int .i64 0, (.string (ByteArray.mk #[]))] 31)) from hE1.trans (Ext.alloc _ _))
  have KR := Kept.mk (show Blk ((w.alloc (.cells #[.int .i64 2, .int .i64 f, .int .i64 t, .string (strOf b), .int .i64 (kk : Int), .int .i64 at', .int .u8 turn] 33)).alloc (.cells #[.int .i64 0, .int .i64 0, (.string (ByteArray.mk #[]))] 31)) (w.alloc (.cells #[.int .i64 2, .int .i64 f, .int .i64 t, .string (strOf b), .int .i64 (kk : Int), .int .i64 at', .int .u8 turn] 33)).heap.size _ [.int .i64 0, .int .i64 0, (.string (ByteArray.mk #[]))] from Blk.new (w.alloc (.cells #[.int .i64 2, .int .i64 f, .int .i64 t, .string (strOf b), .int .i64 (kk : Int), .int .i64 at', .int .u8 turn] 33)) 31 [.int .i64 0, .int .i64 0, (.string (ByteArray.mk #[]))])
  rw [hs1] at KR
  have x0 := KX.out.cell 0
  have x1 := KX.out.cell 1
  have x2 := KX.out.cell 2
  have x3 := KX.out.cell 3
  have x4 := KX.out.cell 4
  have x5 := KX.out.cell 5
  have x6 := KX.out.cell 6
  simp only [List.getElem?_cons_zero, List.getElem?_cons_succ] at x0 x1 x2 x3 x4 x5 x6
  have KV := Kept.mk (show BufS 3 ((w.alloc (.cells #[.int .i64 2, .int .i64 f, .int .i64 t, .string (strOf b), .int .i64 (kk : Int), .int .i64 at', .int .u8 turn] 33)).alloc (.cells #[.int .i64 0, .int .i64 0, (.string (ByteArray.mk #[]))] 31)) B 31 (.slice A l.length c) (l.map pk) from h.ext KE.out)
  have Khb := Kept.mk hb
  obtain ⟨⟨r10, r11, r12⟩, r1f, r1g, r1h⟩ := Blk.three KR.out
  change Calls _ _ #[_, _, .agg #[.int .i64 2, .int .i64 f, .int .i64 t, .string (strOf b), .int .i64 (kk : Int), .int .i64 at', .int .u8 turn]] _ _
  have Khs := Kept.mk hs2
  clear h hb hE1 hX hs1 hs2 hvo
  have Kth := Kept.mk hth
  clear hth
  go_enter Try.func15, Try.ntmps15
  go_upto_region 1 with fail
  generalize ((w.alloc (.cells #[.int .i64 2, .int .i64 f, .int .i64 t, .string (strOf b), .int .i64 (kk : Int), .int .i64 at', .int .u8 turn] 33)).alloc (.cells #[.int .i64 0, .int .i64 0, (.string (ByteArray.mk #[]))] 31)) = wq at KE KX KR KV Khs x0 x1 x2 x3 x4 x5 x6 r10 r11 r12 r1f r1g r1h ⊢
  go_cut [10] (fun s10 wx => s10 = .bool (thereB l (kk : Int)) ∧ wq = wx)
  case first =>
    go_wp2_with fail
    go_meet
    exact ⟨by rw [Kth.out], rfl⟩
  case rest =>
  obtain ⟨rfl, rfl⟩ := hcut
  rw [Kth.out]
  obtain ⟨-, hcap, hmx⟩ := KV.out.len
  obtain ⟨b2, o2, rfl, p0, p1, p2⟩ := buf_atR KV.out (i := kk) (by simpa using hkl) hpk
  have hRv : w.heap.size + 1 ∉ own (.slice (some ⟨b2, o2, none⟩) l.length c) := fun hm => by have := Kvo.out _ hm; omega
  have hEp := Ext.alloc wq (.cells #[.int .i64 0, .int .i64 0, (.string (ByteArray.mk #[]))] 31)
  have hBp : Blk (wq.alloc (.cells #[.int .i64 0, .int .i64 0, (.string (ByteArray.mk #[]))] 31)) wq.heap.size 31 [.int .i64 0, .int .i64 0, (.string (ByteArray.mk #[]))] := Blk.new _ _ _
  have y0 := hEp.cell x0
  have y0p := (Ext.alloc wq (.cells #[.int .i64 p.f, .int .i64 p.t, .string (strOf p.b)] 31)).cell x0
  have y4 := hEp.cell x4
  obtain ⟨⟨g0, g1, g2⟩, g3, g4, g5⟩ := Blk.three hBp
  have h63 : c ≤ 9223372036854775807 := hmx
  have hic : kk ≤ c := by omega
  have hi0 : (0 : Int) ≤ (kk : Int) + 1 := by omega
  have hi1 : kk + 1 ≤ l.length := by omega
  have hnn : ((kk : Int) + 1).toNat = kk + 1 := by omega
  have hkb : kk ≤ 100000 := by omega
  clear hpk
  have hi2 : (kk : Int) + 1 ≤ (l.length : Int) := by omega
  have hi3 : (l.length : Int) ≤ (c : Int) := by omega
  have hwr : IntKind.i64.wrap ((kk : Int) + 1) = (kk : Int) + 1 := IntWalk.i64_in _ (by omega)
  have KEp := Kept.mk hEp
  have KBp := Kept.mk hBp
  clear hEp hBp
  go_upto_region 14 with fail
  generalize wq.alloc (.cells #[.int .i64 0, .int .i64 0, (.string (ByteArray.mk #[]))] 31) = wx at KEp KBp y0 y4 g0 g1 g2 g3 g4 g5 ⊢
  have KEx := Kept.mk KEp.out
  have KRx := Kept.mk (KR.out.ext KEx.out)
  have KFx := Kept.mk ((KV.out.front kk (by rw [List.length_map]; omega)).ext KEx.out)
  have hcut := (KV.out.cut (kk + 1) (by rw [List.length_map]; omega)).ext KEx.out
  have Kc1 := Kept.mk (show ∀ cc ∈ (l.map pk).take kk, cc.length = 3 from fun cc hc => pk_each l cc (List.mem_of_mem_take hc))
  have Kc2 := Kept.mk (show ∀ cc ∈ (l.map pk).drop (kk + 1), cc.length = 3 from fun cc hc => pk_each l cc (List.mem_of_mem_drop hc))
  have Kc3 := Kept.mk (show ∀ cc ∈ (l.map pk).take kk, ∀ u ∈ cc, u.oneCell' = true from fun cc hc => pk_one l cc (List.mem_of_mem_take hc))
  have Kc4 := Kept.mk (show ∀ cc ∈ (l.map pk).drop (kk + 1), ∀ u ∈ cc, u.oneCell' = true from fun cc hc => pk_one l cc (List.mem_of_mem_drop hc))
  have hRX : w.heap.size ≠ w.heap.size + 1 := by omega
  have hPX : wq.heap.size ≠ w.heap.size + 1 := by have := Khs.out; omega
  have hxz := Ext.size KEx.out
  have hlt1 : ((l.map pk).take kk).length = kk := by rw [List.length_take, List.length_map]; omega
  have hld1 : ((l.map pk).drop (kk + 1)).length = l.length - (kk + 1) := by rw [List.length_drop, List.length_map]
  have Klt := Kept.mk hlt1
  have Kld := Kept.mk hld1
  clear hlt1 hld1
  simp only [Option.map_some, Addr.add_lit] at hcut
  have Kct := Kept.mk hcut
  clear hcut
  go_region_held3 (fun w' => w'.cell? ⟨w.heap.size, 4, none⟩ = some (.int .i64 (kk : Int)) ∧ w'.cell? ⟨wq.heap.size, 0, none⟩ = some (.int .i64 0) ∧ w'.cell? ⟨wq.heap.size, 1, none⟩ = some (.int .i64 0) ∧ w'.cell? ⟨wq.heap.size, 2, none⟩ = some (.string (ByteArray.mk #[])))
    (first
      | with_reducible exact ⟨y4, g0, g1, g2⟩
      | with_reducible exact ⟨(Ext.drew _).cell y4, (Ext.drew _).cell g0, (Ext.drew _).cell g1, (Ext.drew _).cell g2⟩
      | with_reducible exact ⟨(Ext.alloc _ _).cell y4, (Ext.alloc _ _).cell g0, (Ext.alloc _ _).cell g1, (Ext.alloc _ _).cell g2⟩
      | with_reducible exact ⟨((Ext.alloc _ _).trans (Ext.drew _)).cell y4, ((Ext.alloc _ _).trans (Ext.drew _)).cell g0, ((Ext.alloc _ _).trans (Ext.drew _)).cell g1, ((Ext.alloc _ _).trans (Ext.drew _)).cell g2⟩
      | with_reducible exact ⟨hEq1.cell y4, hEq1.cell g0, hEq1.cell g1, hEq1.cell g2⟩
      | with_reducible exact ⟨hEq2.cell y4, hEq2.cell g0, hEq2.cell g1, hEq2.cell g2⟩
      | with_reducible exact ⟨keep3 (hEq2.cell y4) _ hRX _ _ _, keep3 (hEq2.cell g0) _ hPX _ _ _, keep3 (hEq2.cell g1) _ hPX _ _ _, keep3 (hEq2.cell g2) _ hPX _ _ _⟩)
    ((first
      | (refine step_copyS (P := Try.prog) _ (by rfl) (.tmp 68) (.tmp 72) 44 44 (by rfl) 3 (by decide) 31 iR _ Try.underlying44 hiR hzR hsR (by rfl) wx.heap.size _ (by rfl) (by intro a' ha'; injection ha' with ha'; subst ha'; constructor <;> (first | (simp; done) | (simp; omega))) (.slice (some ⟨b2, o2, none⟩) kk c) kk ((l.map pk).take kk) Kc1.out (by rfl) (BufS.src (P := Try.prog) _ (KFx.out.ext (by with_reducible repeat (first | exact Ext.refl _ | refine Ext.trans ?_ (Ext.drew _) | refine Ext.trans ?_ (Ext.alloc _ _)))) (by decide) Try.underlying44 Kc3.out) (by first | (simp; done) | (simp; omega) | omega) (by simp only [maxLen]; omega) (by rw [hbR]; omega) ?_; intro v1 w1 hV1 hE1 ho1; have hEq1 : Ext wx w1 := Ext.trans (by with_reducible repeat (first | exact Ext.refl _ | refine Ext.trans ?_ (Ext.drew _) | refine Ext.trans ?_ (Ext.alloc _ _))) hE1)
      | (refine step_addS (P := Try.prog) _ (by rfl) (.tmp 73) (.tmp 78) 44 44 (by rfl) 3 (by decide) 31 iR _ Try.underlying44 hiR hzR hsR (by rfl) wx.heap.size v1 ((l.map pk).take kk) (by rfl) (hV1.ext (by with_reducible repeat (first | exact Ext.refl _ | refine Ext.trans ?_ (Ext.drew _) | refine Ext.trans ?_ (Ext.alloc _ _)))) (.slice (if c = kk + 1 then some ⟨b2, o2, none⟩ else some ⟨b2, o2 + (kk + 1) * 3, none⟩) (l.length - (kk + 1)) (c - (kk + 1))) (l.length - (kk + 1)) ((l.map pk).drop (kk + 1)) Kc2.out (by rfl) (BufS.src (P := Try.prog) _ (Kct.out.ext (by with_reducible repeat (first | exact Ext.refl _ | refine Ext.trans ?_ (Ext.drew _) | refine Ext.trans ?_ (Ext.alloc _ _) | refine Ext.trans ?_ hE1))) (by decide) Try.underlying44 Kc4.out) (by have := Ext.size hEq1; first | (simp; done) | (simp; omega) | omega) (by rw [Klt.out]; simp only [maxLen]; omega) (by rw [Klt.out, hbR]; omega) ?_; intro v2 w2 hV2 hE2; have hEq2 : Ext wx w2 := Below.trans (show Ext wx _ from (by with_reducible repeat (first | exact Ext.refl _ | refine Ext.trans ?_ (Ext.drew _) | refine Ext.trans ?_ (Ext.alloc _ _) | refine Ext.trans ?_ hE1))) hE2; have hR2 := KRx.out.ext hEq2; obtain ⟨⟨t10, t11, t12⟩, t1f, t1g, t1h⟩ := Blk.three hR2; obtain ⟨A2, c2, hv2⟩ := hV2.form; obtain ⟨N2, hN2⟩ : ∃ N2, N2 = ((l.map pk).take kk ++ (l.map pk).drop (kk + 1)).length := ⟨_, rfl⟩; rw [← hN2] at hv2; subst hv2; have KN1 := Kept.mk hN2; clear hN2)))
  all_goals
    rw [← List.map_take, ← List.map_drop, ← List.map_append, ← KL2.out] at hV2
    have KN2 := Kept.mk (show N2 = L2.length by rw [KN1.out, ← List.map_take, ← List.map_drop, ← List.map_append, ← KL2.out, List.length_map])
    have KF := Kept.mk (ref_end (KE.out.trans KEx.out) hEq2 (Nat.le_succ _) KN2.out (hV2.lower (show B ≤ wx.heap.size by have := Khs.out; omega)) (fun hm => by have := (hV2.owns (w.heap.size + 1) hm).1; have := Khs.out; omega) (v0 := .slice (some ⟨b2, o2, none⟩) l.length c) (fun j hj => .inr (by have := (hV2.owns j hj).1; have := Khs.out; omega)) hR2 (.int .i64 0) (.int .i64 0) (.string (ByteArray.mk #[])))
    go_wp2_with fail
    all_goals
      obtain ⟨hN3⟩ := KN2
      subst hN3
      change bodyPost _ _ _ _ _ (put3 _ (w.heap.size + 1) (.int .i64 0) (.int .i64 0) (.string (ByteArray.mk #[])))
      obtain ⟨n1, n2, n4, n5⟩ := KF.out
      obtain ⟨⟨f0, f1, f2⟩, -⟩ := Blk.three n4
      exact bodyPost_ret (v := .tuple #[.slice A2 (L2.length) c2, .agg #[(.int .i64 0), (.int .i64 0), (.string (ByteArray.mk #[]))], .bool true, .int .i64 0]) (by simp [results, Try.results15, go_sem, f0, f1, f2]) rfl ⟨A2, c2, rfl, n1, n2, n5⟩
end Net
end Go.Proofs.Ytpdaijmehaialaa
