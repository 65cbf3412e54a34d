/- The walk of the document's Do. No condition. -/
import Derived.Test.YtpdaijmehaialaaNetWalkI
import Derived.Test.YtpdaijmehaialaaNetLawA
import Derived.Test.YtpdaijmehaialaaBufReg
import Derived.Deep.DeepCutAuto
namespace Go.Proofs.Ytpdaijmehaialaa
open Go.RowKit Go.ChangeShapes Go.WideShapes
namespace Net
set_option linter.unusedSimpArgs false
set_option linter.unusedVariables false
theorem infoR : ∃ i : TypeInfo, Try.prog.info? 31 = some i ∧ i.zero = some (.agg #[.int .i64 0, .int .i64 0, .string ByteArray.empty]) ∧ i.size = 3 ∧ i.bytes = 32 := by
  have h : (Try.prog.info? 31).map (fun i => (i.zero, i.size, i.bytes)) = some (some (.agg #[.int .i64 0, .int .i64 0, .string ByteArray.empty]), 3, 32) := by kernel_rfl
  obtain ⟨i, hi, he⟩ := Option.map_eq_some_iff.1 h
  injection he with e1 e2
  injection e2 with e2 e3
  exact ⟨i, hi, e1, e2, e3⟩
/-- What the document's Do leaves. -/
def RefE (w : World) (B : Nat) (v0 : Value) (r : List Pk × Pk × Bool × Int) (e : Ending) (w' : World) : Prop :=
  ∃ A c, e = .returned (.tuple #[.slice A r.1.length c, .agg (pk r.2.1).toArray, .bool r.2.2.1, .int .i64 r.2.2.2]) ∧ BufS 3 w' B 31 (.slice A r.1.length c) (r.1.map pk) ∧ Ext w w' ∧ ∀ j ∈ own (.slice A r.1.length c), j ∈ own v0 ∨ w.heap.size ≤ j
theorem ref_end {w wq w2 : World} {B R : Nat} {A : Option Addr} {c : Nat} {l' : List Pk} (hE : Ext w wq) (hE2 : Ext wq w2) (hR : w.heap.size ≤ R) {n : Nat} (hn : n = l'.length) (hV : BufS 3 w2 B 31 (.slice A n c) (l'.map pk)) (hRv : R ∉ own (.slice A n c)) {v0 : Value} (hO : ∀ j ∈ own (.slice A n c), j ∈ own v0 ∨ w.heap.size ≤ j) {T : TypeId} {a b d : Value} (hRb : Blk w2 R T [a, b, d]) (x y z : Value) :
    BufS 3 (put3 w2 R x y z) B 31 (.slice A n c) (l'.map pk) ∧ Ext w (put3 w2 R x y z) ∧ Blk (put3 w2 R x y z) R T [x, y, z] ∧ ∀ j ∈ own (.slice A n c), j ∈ own v0 ∨ w.heap.size ≤ j := by
  obtain ⟨h1, h2⟩ := Blk.put3 hRb x y z
  exact ⟨hV.touch h2 (fun j hj hm => by rw [List.mem_singleton] at hm; subst hm; exact hRv hj), Touch.below (hE.trans hE2) h2 (fun j hj => by rw [List.mem_singleton] at hj; omega) (Ext.size (hE.trans hE2)), h1, hO⟩
set_option maxRecDepth 100000 in
set_option maxHeartbeats 4000000 in
theorem ref_full (B : Nat) (places : Int) (A : Option Addr) (c : Nat) (l : List Pk) (hl : l.length ≤ 100000) (hb : ∀ p ∈ l, p.b.length ≤ 1048576) (a : Act) (ha : ActOk a) (hk : a.k = 0) (hf : places ≤ (l.length : Int) ∨ 1048576 < (a.p.b.length : Int)) (w : World) (hB : B ≤ w.heap.size) (h : BufS 3 w B 31 (.slice A l.length c) (l.map pk)) :
    Calls Try.prog 15 #[.slice A l.length c, .int .i64 places, .agg (actV a).toArray] w (RefE w B (.slice A l.length c) (doP places l a)) := by
  obtain ⟨iR, hiR, hzR, hsR, hbR⟩ := infoR
  have hdo : doP places l a = (l, noPk, false, 0) := by unfold doP sendP; rw [if_pos hk, if_pos hf]
  rw [hdo]
  clear hdo
  obtain ⟨k, ⟨f, t, b⟩, i, at', turn⟩ := a
  obtain ⟨hab, hat0, hat1⟩ := ha
  simp only [] at hk hab hat0 hat1
  subst hk
  have hbz := strOf_size b
  have hvo := fun j hj => (h.owns j hj).2
  have Kvo := Kept.mk hvo
  have hE1 := Ext.alloc w (.cells #[.int .i64 0, .int .i64 f, .int .i64 t, .string (strOf b), .int .i64 i, .int .i64 at', .int .u8 turn] 33)
  have hX : Blk (w.alloc (.cells #[.int .i64 0, .int .i64 f, .int .i64 t, .string (strOf b), .int .i64 i, .int .i64 at', .int .u8 turn] 33)) w.heap.size 33 [.int .i64 0, .int .i64 f, .int .i64 t, .string (strOf b), .int .i64 i, .int .i64 at', .int .u8 turn] := Blk.new _ _ _
  have hs1 : (w.alloc (.cells #[.int .i64 0, .int .i64 f, .int .i64 t, .string (strOf b), .int .i64 i, .int .i64 at', .int .u8 turn] 33)).heap.size = w.heap.size + 1 := by simp
  have hs2 : ((w.alloc (.cells #[.int .i64 0, .int .i64 f, .int .i64 t, .string (strOf b), .int .i64 i, .int .i64 at', .int .u8 turn] 33)).alloc (.cells #[.int .i64 0, .int .i64 0, (.string (ByteArray.mk #[]))] 31)).heap.size = w.heap.size + 2 := by simp
  have KX := Kept.mk (show Blk ((w.alloc (.cells #[.int .i64 0, .int .i64 f, .int .i64 t, .string (strOf b), .int .i64 i, .int .i64 at', .int .u8 turn] 33)).alloc (.cells #[.int .i64 0, .int .i64 0, (.string (ByteArray.mk #[]))] 31)) _ _ _ from hX.ext (Ext.alloc _ _))
  have KE := Kept.mk (show Ext w ((w.alloc (.cells #[.int .i64 0, .int .i64 f, .int .i64 t, .string (strOf b), .int .i64 i, .int .i64 at', .int .u8 turn] 33)).alloc (.cells #[.int .i64 0, .int .i64 0, (.string (ByteArray.mk #[]))] 31)) from hE1.trans (Ext.alloc _ _))
  have KR := Kept.mk (show Blk ((w.alloc (.cells #[.int .i64 0, .int .i64 f, .int .i64 t, .string (strOf b), .int .i64 i, .int .i64 at', .int .u8 turn] 33)).alloc (.cells #[.int .i64 0, .int .i64 0, (.string (ByteArray.mk #[]))] 31)) (w.alloc (.cells #[.int .i64 0, .int .i64 f, .int .i64 t, .string (strOf b), .int .i64 i, .int .i64 at', .int .u8 turn] 33)).heap.size _ [.int .i64 0, .int .i64 0, (.string (ByteArray.mk #[]))] from Blk.new (w.alloc (.cells #[.int .i64 0, .int .i64 f, .int .i64 t, .string (strOf b), .int .i64 i, .int .i64 at', .int .u8 turn] 33)) 31 [.int .i64 0, .int .i64 0, (.string (ByteArray.mk #[]))])
  rw [hs1] at KR
  have x0 := KX.out.cell 0
  have x1 := KX.out.cell 1
  have x2 := KX.out.cell 2
  have x3 := KX.out.cell 3
  have x4 := KX.out.cell 4
  have x5 := KX.out.cell 5
  have x6 := KX.out.cell 6
  simp only [List.getElem?_cons_zero, List.getElem?_cons_succ] at x0 x1 x2 x3 x4 x5 x6
  have KV := Kept.mk (show BufS 3 ((w.alloc (.cells #[.int .i64 0, .int .i64 f, .int .i64 t, .string (strOf b), .int .i64 i, .int .i64 at', .int .u8 turn] 33)).alloc (.cells #[.int .i64 0, .int .i64 0, (.string (ByteArray.mk #[]))] 31)) B 31 (.slice A l.length c) (l.map pk) from h.ext KE.out)
  have Khb := Kept.mk hb
  obtain ⟨⟨r10, r11, r12⟩, r1f, r1g, r1h⟩ := Blk.three KR.out
  change Calls _ _ #[_, _, .agg #[.int .i64 0, .int .i64 f, .int .i64 t, .string (strOf b), .int .i64 i, .int .i64 at', .int .u8 turn]] _ _
  have Khs := Kept.mk hs2
  clear h hb hE1 hX hs1 hs2 hvo
  go_enter Try.func15, Try.ntmps15
  go_upto_region 1 with fail
  generalize ((w.alloc (.cells #[.int .i64 0, .int .i64 f, .int .i64 t, .string (strOf b), .int .i64 i, .int .i64 at', .int .u8 turn] 33)).alloc (.cells #[.int .i64 0, .int .i64 0, (.string (ByteArray.mk #[]))] 31)) = wq at KE KX KR KV Khs x0 x1 x2 x3 x4 x5 x6 r10 r11 r12 r1f r1g r1h ⊢
  go_cut [10] (fun s10 wx => s10 = .bool (thereB l i) ∧ wq = wx)
  case first =>
    rcases (show i < 0 ∨ (0 ≤ i ∧ i < (l.length : Int)) ∨ (0 ≤ i ∧ ¬ i < (l.length : Int)) by omega) with hi | ⟨hi0, hi1⟩ | ⟨hi0, hi1⟩
    · have hth : thereB l i = false := by simp [thereB]; omega
      have Kth := Kept.mk hth
      clear hth
      go_wp2_with fail
      go_meet
      exact ⟨by rw [Kth.out], rfl⟩
    · have hth : thereB l i = true := by simp [thereB]; omega
      have Kth := Kept.mk hth
      clear hth
      go_wp2_with fail
      go_meet
      exact ⟨by rw [Kth.out], rfl⟩
    · have hth : thereB l i = false := by simp [thereB]; omega
      have Kth := Kept.mk hth
      clear hth
      go_wp2_with fail
      go_meet
      exact ⟨by rw [Kth.out], rfl⟩
  case rest =>
  obtain ⟨rfl, rfl⟩ := hcut
  have hRv : w.heap.size + 1 ∉ own (.slice A l.length c) := fun hm => by have := Kvo.out _ hm; omega
  have KF := Kept.mk (ref_end KE.out (Ext.refl _) (Nat.le_succ _) rfl KV.out hRv (v0 := .slice A l.length c) (fun j hj => .inl hj) KR.out (.int .i64 0) (.int .i64 0) (.string (ByteArray.mk #[])))
  clear KE KR KV KX
  simp only [] at hf
  have hf2 : places ≤ (l.length : Int) ∨ (¬ places ≤ (l.length : Int) ∧ (b.length : Int) > 1048576) := by
    by_cases h1 : places ≤ (l.length : Int)
    · exact .inl h1
    · exact .inr ⟨h1, by rcases hf with h | h <;> first | exact absurd h h1 | exact h⟩
  clear hf
  generalize thereB l i = th
  rcases hf2 with hg | ⟨hg, hg2⟩
  all_goals
    go_wp2_with fail
    change bodyPost _ _ _ _ _ (put3 _ (w.heap.size + 1) (.int .i64 0) (.int .i64 0) (.string (ByteArray.mk #[])))
    obtain ⟨n1, n2, n4, n5⟩ := KF.out
    obtain ⟨⟨f0, f1, f2⟩, -⟩ := Blk.three n4
    exact bodyPost_ret (v := .tuple #[.slice A (l.length) c, .agg #[(.int .i64 0), (.int .i64 0), (.string (ByteArray.mk #[]))], .bool false, .int .i64 0]) (by simp [results, Try.results15, go_sem, f0, f1, f2]) rfl ⟨A, c, rfl, n1, n2, n5⟩
set_option maxRecDepth 100000 in
set_option maxHeartbeats 4000000 in
theorem ref_add (B : Nat) (places : Int) (A : Option Addr) (c : Nat) (l : List Pk) (hl : l.length ≤ 100000) (hb : ∀ p ∈ l, p.b.length ≤ 1048576) (a : Act) (ha : ActOk a) (hk : a.k = 0) (hf : ¬ (places ≤ (l.length : Int) ∨ 1048576 < (a.p.b.length : Int))) (w : World) (hB : B ≤ w.heap.size) (h : BufS 3 w B 31 (.slice A l.length c) (l.map pk)) :
    Calls Try.prog 15 #[.slice A l.length c, .int .i64 places, .agg (actV a).toArray] w (RefE w B (.slice A l.length c) (doP places l a)) := by
  obtain ⟨iR, hiR, hzR, hsR, hbR⟩ := infoR
  have hdo : doP places l a = (l ++ [a.p], noPk, true, 0) := by unfold doP sendP; rw [if_pos hk, if_neg hf]
  rw [hdo]
  clear hdo
  obtain ⟨k, ⟨f, t, b⟩, i, at', turn⟩ := a
  obtain ⟨hab, hat0, hat1⟩ := ha
  simp only [] at hk hab hat0 hat1
  subst hk
  have hbz := strOf_size b
  have hvo := fun j hj => (h.owns j hj).2
  have Kvo := Kept.mk hvo
  have hE1 := Ext.alloc w (.cells #[.int .i64 0, .int .i64 f, .int .i64 t, .string (strOf b), .int .i64 i, .int .i64 at', .int .u8 turn] 33)
  have hX : Blk (w.alloc (.cells #[.int .i64 0, .int .i64 f, .int .i64 t, .string (strOf b), .int .i64 i, .int .i64 at', .int .u8 turn] 33)) w.heap.size 33 [.int .i64 0, .int .i64 f, .int .i64 t, .string (strOf b), .int .i64 i, .int .i64 at', .int .u8 turn] := Blk.new _ _ _
  have hs1 : (w.alloc (.cells #[.int .i64 0, .int .i64 f, .int .i64 t, .string (strOf b), .int .i64 i, .int .i64 at', .int .u8 turn] 33)).heap.size = w.heap.size + 1 := by simp
  have hs2 : ((w.alloc (.cells #[.int .i64 0, .int .i64 f, .int .i64 t, .string (strOf b), .int .i64 i, .int .i64 at', .int .u8 turn] 33)).alloc (.cells #[.int .i64 0, .int .i64 0, (.string (ByteArray.mk #[]))] 31)).heap.size = w.heap.size + 2 := by simp
  have KX := Kept.mk (show Blk ((w.alloc (.cells #[.int .i64 0, .int .i64 f, .int .i64 t, .string (strOf b), .int .i64 i, .int .i64 at', .int .u8 turn] 33)).alloc (.cells #[.int .i64 0, .int .i64 0, (.string (ByteArray.mk #[]))] 31)) _ _ _ from hX.ext (Ext.alloc _ _))
  have KE := Kept.mk (show Ext w ((w.alloc (.cells #[.int .i64 0, .int .i64 f, .int .i64 t, .string (strOf b), .int .i64 i, .int .i64 at', .int .u8 turn] 33)).alloc (.cells #[.int .i64 0, .int .i64 0, (.string (ByteArray.mk #[]))] 31)) from hE1.trans (Ext.alloc _ _))
  have KR := Kept.mk (show Blk ((w.alloc (.cells #[.int .i64 0, .int .i64 f, .int .i64 t, .string (strOf b), .int .i64 i, .int .i64 at', .int .u8 turn] 33)).alloc (.cells #[.int .i64 0, .int .i64 0, (.string (ByteArray.mk #[]))] 31)) (w.alloc (.cells #[.int .i64 0, .int .i64 f, .int .i64 t, .string (strOf b), .int .i64 i, .int .i64 at', .int .u8 turn] 33)).heap.size _ [.int .i64 0, .int .i64 0, (.string (ByteArray.mk #[]))] from Blk.new (w.alloc (.cells #[.int .i64 0, .int .i64 f, .int .i64 t, .string (strOf b), .int .i64 i, .int .i64 at', .int .u8 turn] 33)) 31 [.int .i64 0, .int .i64 0, (.string (ByteArray.mk #[]))])
  rw [hs1] at KR
  have x0 := KX.out.cell 0
  have x1 := KX.out.cell 1
  have x2 := KX.out.cell 2
  have x3 := KX.out.cell 3
  have x4 := KX.out.cell 4
  have x5 := KX.out.cell 5
  have x6 := KX.out.cell 6
  simp only [List.getElem?_cons_zero, List.getElem?_cons_succ] at x0 x1 x2 x3 x4 x5 x6
  have KV := Kept.mk (show BufS 3 ((w.alloc (.cells #[.int .i64 0, .int .i64 f, .int .i64 t, .string (strOf b), .int .i64 i, .int .i64 at', .int .u8 turn] 33)).alloc (.cells #[.int .i64 0, .int .i64 0, (.string (ByteArray.mk #[]))] 31)) B 31 (.slice A l.length c) (l.map pk) from h.ext KE.out)
  have Khb := Kept.mk hb
  obtain ⟨⟨r10, r11, r12⟩, r1f, r1g, r1h⟩ := Blk.three KR.out
  change Calls _ _ #[_, _, .agg #[.int .i64 0, .int .i64 f, .int .i64 t, .string (strOf b), .int .i64 i, .int .i64 at', .int .u8 turn]] _ _
  have Khs := Kept.mk hs2
  clear h hb hE1 hX hs1 hs2 hvo
  go_enter Try.func15, Try.ntmps15
  go_upto_region 1 with fail
  generalize ((w.alloc (.cells #[.int .i64 0, .int .i64 f, .int .i64 t, .string (strOf b), .int .i64 i, .int .i64 at', .int .u8 turn] 33)).alloc (.cells #[.int .i64 0, .int .i64 0, (.string (ByteArray.mk #[]))] 31)) = wq at KE KX KR KV Khs x0 x1 x2 x3 x4 x5 x6 r10 r11 r12 r1f r1g r1h ⊢
  go_cut [10] (fun s10 wx => s10 = .bool (thereB l i) ∧ wq = wx)
  case first =>
    rcases (show i < 0 ∨ (0 ≤ i ∧ i < (l.length : Int)) ∨ (0 ≤ i ∧ ¬ i < (l.length : Int)) by omega) with hi | ⟨hi0, hi1⟩ | ⟨hi0, hi1⟩
    · have hth : thereB l i = false := by simp [thereB]; omega
      have Kth := Kept.mk hth
      clear hth
      go_wp2_with fail
      go_meet
      exact ⟨by rw [Kth.out], rfl⟩
    · have hth : thereB l i = true := by simp [thereB]; omega
      have Kth := Kept.mk hth
      clear hth
      go_wp2_with fail
      go_meet
      exact ⟨by rw [Kth.out], rfl⟩
    · have hth : thereB l i = false := by simp [thereB]; omega
      have Kth := Kept.mk hth
      clear hth
      go_wp2_with fail
      go_meet
      exact ⟨by rw [Kth.out], rfl⟩
  case rest =>
  obtain ⟨rfl, rfl⟩ := hcut
  have hRv : w.heap.size + 1 ∉ own (.slice A l.length c) := fun hm => by have := Kvo.out _ hm; omega
  simp only [not_or] at hf
  have hf1 := hf.1
  have hf2 : ¬ (b.length : Int) > 1048576 := fun h => hf.2 h
  clear hf
  have L1 := Kept.mk (Blk.new wq 31 [.int .i64 f, .int .i64 t, .string (strOf b)])
  have L2 := Kept.mk (show Blk ((wq.alloc (.cells #[] 31)).alloc (.cells #[.int .i64 f, .int .i64 t, .string (strOf b)] 31)) (wq.heap.size + 1) 31 [.int .i64 f, .int .i64 t, .string (strOf b)] by
    have := Blk.new (wq.alloc (.cells #[] 31)) 31 [.int .i64 f, .int .i64 t, .string (strOf b)]
    rwa [show (wq.alloc (.cells #[] 31)).heap.size = wq.heap.size + 1 by simp] at this)
  have z1 := (Ext.alloc wq (.cells #[] 31)).cell x1
  have z2 := (Ext.alloc wq (.cells #[] 31)).cell x2
  have z3 := (Ext.alloc wq (.cells #[] 31)).cell x3
  generalize thereB l i = th
  all_goals
    go_wp2_with fail
    go_region_law ((first
      | (refine step_copyS (P := Try.prog) _ (by rfl) (.tmp 44) (.tmp 45) 44 44 (by rfl) 3 (by decide) 31 iR _ Try.underlying44 hiR hzR hsR (by rfl) wq.heap.size _ (by rfl) (by intro a' ha'; injection ha' with ha'; subst ha'; constructor <;> (first | (simp; done) | (simp; omega))) (.slice A l.length c) l.length (l.map pk) (pk_each l) (by rfl) (BufS.src (P := Try.prog) _ (KV.out.ext (by with_reducible repeat (first | exact Ext.refl _ | refine Ext.trans ?_ (Ext.drew _) | refine Ext.trans ?_ (Ext.alloc _ _)))) (by decide) Try.underlying44 (pk_one l)) (by first | (simp; done) | (simp; omega) | omega) (by simp only [maxLen]; omega) (by rw [hbR]; omega) ?_; intro v1 w1 hV1 hE1 ho1; have hEq1 : Ext wq w1 := Ext.trans (by with_reducible repeat (first | exact Ext.refl _ | refine Ext.trans ?_ (Ext.drew _) | refine Ext.trans ?_ (Ext.alloc _ _))) hE1; have y1 := hEq1.cell x1; have y2 := hEq1.cell x2; have y3 := hEq1.cell x3)
      | (refine step_addS (P := Try.prog) _ (by rfl) (.tmp 46) (.tmp 49) 44 44 (by rfl) 3 (by decide) 31 iR _ Try.underlying44 hiR hzR hsR (by rfl) wq.heap.size v1 (l.map pk) (by rfl) (hV1.ext (by with_reducible repeat (first | exact Ext.refl _ | refine Ext.trans ?_ (Ext.drew _) | refine Ext.trans ?_ (Ext.alloc _ _) | refine Ext.trans ?_ hE1))) _ 1 ([[.int .i64 f, .int .i64 t, .string (strOf b)]]) (by simp) (by rfl) (by first | exact src_lit (by decide) Try.underlying44 (by rfl) (by simp [Value.oneCell']) L1.out (by with_reducible repeat (first | exact Ext.refl _ | refine Ext.trans ?_ (Ext.drew _) | refine Ext.trans ?_ (Ext.alloc _ _) | refine Ext.trans ?_ hE1)) | exact src_lit (by decide) Try.underlying44 (by rfl) (by simp [Value.oneCell']) L2.out (by with_reducible repeat (first | exact Ext.refl _ | refine Ext.trans ?_ (Ext.drew _) | refine Ext.trans ?_ (Ext.alloc _ _) | refine Ext.trans ?_ hE1)) | exact src_lit (by decide) Try.underlying44 (by rfl) (by simp [Value.oneCell']) (Blk.new w1 _ _) (by with_reducible repeat (first | exact Ext.refl _ | refine Ext.trans ?_ (Ext.drew _) | refine Ext.trans ?_ (Ext.alloc _ _) | refine Ext.trans ?_ hE1))) (by have := Ext.size hEq1; first | (simp; done) | (simp; omega) | omega) (by rw [List.length_map]; simp only [maxLen]; omega) (by rw [List.length_map, hbR]; omega) ?_; intro v2 w2 hV2 hE2; have hEq2 : Ext wq w2 := Below.trans (show Ext wq _ from (by with_reducible repeat (first | exact Ext.refl _ | refine Ext.trans ?_ (Ext.drew _) | refine Ext.trans ?_ (Ext.alloc _ _) | refine Ext.trans ?_ hE1))) hE2; have hR2 := KR.out.ext hEq2; obtain ⟨⟨t10, t11, t12⟩, t1f, t1g, t1h⟩ := Blk.three hR2; obtain ⟨A2, c2, rfl⟩ := hV2.form)))
    all_goals
      have hmap : List.map pk l ++ [[.int .i64 f, .int .i64 t, .string (strOf b)]] = (l ++ [(⟨f, t, b⟩ : Pk)]).map pk := by simp [pk]
      have hV2' := hV2
      rw [hmap] at hV2'
      rw [List.length_map] at hV2'
      have KF := Kept.mk (ref_end KE.out hEq2 (Nat.le_succ _) rfl (hV2'.lower (show B ≤ wq.heap.size by have := Khs.out; omega)) (fun hm => by have := (hV2'.owns (w.heap.size + 1) hm).1; have := Khs.out; omega) (v0 := .slice A l.length c) (fun j hj => .inr (by have := (hV2'.owns j hj).1; have := Khs.out; omega)) hR2 (.int .i64 0) (.int .i64 0) (.string (ByteArray.mk #[])))
      clear KE KR KV KX hV2 hV2' hE2 hEq2 hR2 hV1 hE1 hEq1
      go_wp2_with fail
      change bodyPost _ _ _ _ _ (put3 _ (w.heap.size + 1) (.int .i64 0) (.int .i64 0) (.string (ByteArray.mk #[])))
      obtain ⟨n1, n2, n4, n5⟩ := KF.out
      obtain ⟨⟨f0, f1, f2⟩, -⟩ := Blk.three n4
      exact bodyPost_ret (v := .tuple #[.slice A2 (l.length + 1) c2, .agg #[(.int .i64 0), (.int .i64 0), (.string (ByteArray.mk #[]))], .bool true, .int .i64 0]) (by simp [results, Try.results15, go_sem, f0, f1, f2]) rfl ⟨A2, c2, by simp [pk, noPk]; rfl, n1, n2, n5⟩
end Net
end Go.Proofs.Ytpdaijmehaialaa
