/- The walk of the document's Do, where nothing is done. No condition. -/
import Derived.Test.YtpdaijmehaialaaNetWalkJ
namespace Go.Proofs.Ytpdaijmehaialaa
open Go.RowKit Go.ChangeShapes Go.WideShapes
namespace Net
set_option linter.unusedSimpArgs false
set_option linter.unusedVariables false
theorem buf_atR {w : World} {B : Nat} {A : Option Addr} {n cap : Nat} {css : List (List Value)} (h : BufS 3 w B 31 (.slice A n cap) css) {i : Nat} (hi : i < css.length) {p : Pk} (hp : css[i]? = some (pk p)) :
    ∃ b off, A = some ⟨b, off, none⟩ ∧ w.cell? ⟨b, off + i * 3, none⟩ = some (.int .i64 p.f) ∧ w.cell? ⟨b, off + i * 3 + 1, none⟩ = some (.int .i64 p.t) ∧ w.cell? ⟨b, off + i * 3 + 2, none⟩ = some (.string (strOf p.b)) := by
  obtain ⟨b, off, e, hc⟩ := h.at (by decide) hi
  have c (j : Nat) (u : Value) (hu : (pk p)[j]? = some u) := hc j u (by rw [hp]; exact hu)
  exact ⟨b, off, e, c 0 _ rfl, c 1 _ rfl, c 2 _ rfl⟩
set_option maxRecDepth 100000 in
set_option maxHeartbeats 4000000 in
theorem ref_gone1 (B : Nat) (places : Int) (A : Option Addr) (c : Nat) (l : List Pk) (hl : l.length ≤ 100000) (hb : ∀ p ∈ l, p.b.length ≤ 1048576) (a : Act) (ha : ActOk a) (hk : a.k = 1) (hth : thereB l a.i = false) (w : World) (hB : B ≤ w.heap.size) (h : BufS 3 w B 31 (.slice A l.length c) (l.map pk)) :
    Calls Try.prog 15 #[.slice A l.length c, .int .i64 places, .agg (actV a).toArray] w (RefE w B (.slice A l.length c) (doP places l a)) := by
  obtain ⟨iR, hiR, hzR, hsR, hbR⟩ := infoR
  have hdo : doP places l a = (l, noPk, false, 0) := by unfold doP takeP; rw [hth]; simp [hk]
  rw [hdo]
  clear hdo
  obtain ⟨k, ⟨f, t, b⟩, i, at', turn⟩ := a
  obtain ⟨hab, hat0, hat1⟩ := ha
  simp only [] at hk hab hat0 hat1
  subst hk
  have hbz := strOf_size b
  have hvo := fun j hj => (h.owns j hj).2
  have Kvo := Kept.mk hvo
  have hE1 := Ext.alloc w (.cells #[.int .i64 1, .int .i64 f, .int .i64 t, .string (strOf b), .int .i64 i, .int .i64 at', .int .u8 turn] 33)
  have hX : Blk (w.alloc (.cells #[.int .i64 1, .int .i64 f, .int .i64 t, .string (strOf b), .int .i64 i, .int .i64 at', .int .u8 turn] 33)) w.heap.size 33 [.int .i64 1, .int .i64 f, .int .i64 t, .string (strOf b), .int .i64 i, .int .i64 at', .int .u8 turn] := Blk.new _ _ _
  have hs1 : (w.alloc (.cells #[.int .i64 1, .int .i64 f, .int .i64 t, .string (strOf b), .int .i64 i, .int .i64 at', .int .u8 turn] 33)).heap.size = w.heap.size + 1 := by simp
  have hs2 : ((w.alloc (.cells #[.int .i64 1, .int .i64 f, .int .i64 t, .string (strOf b), .int .i64 i, .int .i64 at', .int .u8 turn] 33)).alloc (.cells #[.int .i64 0, .int .i64 0, (.string (ByteArray.mk #[]))] 31)).heap.size = w.heap.size + 2 := by simp
  have KX := Kept.mk (show Blk ((w.alloc (.cells #[.int .i64 1, .int .i64 f, .int .i64 t, .string (strOf b), .int .i64 i, .int .i64 at', .int .u8 turn] 33)).alloc (.cells #[.int .i64 0, .int .i64 0, (.string (ByteArray.mk #[]))] 31)) _ _ _ from hX.ext (Ext.alloc _ _))
  have KE := Kept.mk (show Ext w ((w.alloc (.cells #[.int .i64 1, .int .i64 f, .int .i64 t, .string (strOf b), .int .i64 i, .int .i64 at', .int .u8 turn] 33)).alloc (.cells #[.int .i64 0, .int .i64 0, (.string (ByteArray.mk #[]))] 31)) from hE1.trans (Ext.alloc _ _))
  have KR := Kept.mk (show Blk ((w.alloc (.cells #[.int .i64 1, .int .i64 f, .int .i64 t, .string (strOf b), .int .i64 i, .int .i64 at', .int .u8 turn] 33)).alloc (.cells #[.int .i64 0, .int .i64 0, (.string (ByteArray.mk #[]))] 31)) (w.alloc (.cells #[.int .i64 1, .int .i64 f, .int .i64 t, .string (strOf b), .int .i64 i, .int .i64 at', .int .u8 turn] 33)).heap.size _ [.int .i64 0, .int .i64 0, (.string (ByteArray.mk #[]))] from Blk.new (w.alloc (.cells #[.int .i64 1, .int .i64 f, .int .i64 t, .string (strOf b), .int .i64 i, .int .i64 at', .int .u8 turn] 33)) 31 [.int .i64 0, .int .i64 0, (.string (ByteArray.mk #[]))])
  rw [hs1] at KR
  have x0 := KX.out.cell 0
  have x1 := KX.out.cell 1
  have x2 := KX.out.cell 2
  have x3 := KX.out.cell 3
  have x4 := KX.out.cell 4
  have x5 := KX.out.cell 5
  have x6 := KX.out.cell 6
  simp only [List.getElem?_cons_zero, List.getElem?_cons_succ] at x0 x1 x2 x3 x4 x5 x6
  have KV := Kept.mk (show BufS 3 ((w.alloc (.cells #[.int .i64 1, .int .i64 f, .int .i64 t, .string (strOf b), .int .i64 i, .int .i64 at', .int .u8 turn] 33)).alloc (.cells #[.int .i64 0, .int .i64 0, (.string (ByteArray.mk #[]))] 31)) B 31 (.slice A l.length c) (l.map pk) from h.ext KE.out)
  have Khb := Kept.mk hb
  obtain ⟨⟨r10, r11, r12⟩, r1f, r1g, r1h⟩ := Blk.three KR.out
  change Calls _ _ #[_, _, .agg #[.int .i64 1, .int .i64 f, .int .i64 t, .string (strOf b), .int .i64 i, .int .i64 at', .int .u8 turn]] _ _
  have Khs := Kept.mk hs2
  clear h hb hE1 hX hs1 hs2 hvo
  simp only [] at hth
  go_enter Try.func15, Try.ntmps15
  go_upto_region 1 with fail
  generalize ((w.alloc (.cells #[.int .i64 1, .int .i64 f, .int .i64 t, .string (strOf b), .int .i64 i, .int .i64 at', .int .u8 turn] 33)).alloc (.cells #[.int .i64 0, .int .i64 0, (.string (ByteArray.mk #[]))] 31)) = wq at KE KX KR KV Khs x0 x1 x2 x3 x4 x5 x6 r10 r11 r12 r1f r1g r1h ⊢
  go_cut [10] (fun s10 wx => s10 = .bool (thereB l i) ∧ wq = wx)
  case first =>
    rcases (show i < 0 ∨ (0 ≤ i ∧ i < (l.length : Int)) ∨ (0 ≤ i ∧ ¬ i < (l.length : Int)) by omega) with hi | ⟨hi0, hi1⟩ | ⟨hi0, hi1⟩
    · have hth : thereB l i = false := by simp [thereB]; omega
      have Kth := Kept.mk hth
      clear hth
      go_wp2_with fail
      go_meet
      exact ⟨by rw [Kth.out], rfl⟩
    · have hth : thereB l i = true := by simp [thereB]; omega
      have Kth := Kept.mk hth
      clear hth
      go_wp2_with fail
      go_meet
      exact ⟨by rw [Kth.out], rfl⟩
    · have hth : thereB l i = false := by simp [thereB]; omega
      have Kth := Kept.mk hth
      clear hth
      go_wp2_with fail
      go_meet
      exact ⟨by rw [Kth.out], rfl⟩
  case rest =>
  obtain ⟨rfl, rfl⟩ := hcut
  have hRv : w.heap.size + 1 ∉ own (.slice A l.length c) := fun hm => by have := Kvo.out _ hm; omega
  have KF := Kept.mk (ref_end KE.out (Ext.refl _) (Nat.le_succ _) rfl KV.out hRv (v0 := .slice A l.length c) (fun j hj => .inl hj) KR.out (.int .i64 0) (.int .i64 0) (.string (ByteArray.mk #[])))
  clear KE KR KV KX
  rw [hth]
  go_wp2_with fail
  change bodyPost _ _ _ _ _ (put3 _ (w.heap.size + 1) (.int .i64 0) (.int .i64 0) (.string (ByteArray.mk #[])))
  obtain ⟨n1, n2, n4, n5⟩ := KF.out
  obtain ⟨⟨f0, f1, f2⟩, -⟩ := Blk.three n4
  exact bodyPost_ret (v := .tuple #[.slice A (l.length) c, .agg #[(.int .i64 0), (.int .i64 0), (.string (ByteArray.mk #[]))], .bool false, .int .i64 0]) (by simp [results, Try.results15, go_sem, f0, f1, f2]) rfl ⟨A, c, rfl, n1, n2, n5⟩
set_option maxRecDepth 100000 in
set_option maxHeartbeats 4000000 in
theorem ref_gone2 (B : Nat) (places : Int) (A : Option Addr) (c : Nat) (l : List Pk) (hl : l.length ≤ 100000) (hb : ∀ p ∈ l, p.b.length ≤ 1048576) (a : Act) (ha : ActOk a) (hk : a.k = 2) (hth : thereB l a.i = false) (w : World) (hB : B ≤ w.heap.size) (h : BufS 3 w B 31 (.slice A l.length c) (l.map pk)) :
    Calls Try.prog 15 #[.slice A l.length c, .int .i64 places, .agg (actV a).toArray] w (RefE w B (.slice A l.length c) (doP places l a)) := by
  obtain ⟨iR, hiR, hzR, hsR, hbR⟩ := infoR
  have hdo : doP places l a = (l, noPk, false, 0) := by unfold doP takeP; rw [hth]; simp [hk]
  rw [hdo]
  clear hdo
  obtain ⟨k, ⟨f, t, b⟩, i, at', turn⟩ := a
  obtain ⟨hab, hat0, hat1⟩ := ha
  simp only [] at hk hab hat0 hat1
  subst hk
  have hbz := strOf_size b
  have hvo := fun j hj => (h.owns j hj).2
  have Kvo := Kept.mk hvo
  have hE1 := Ext.alloc w (.cells #[.int .i64 2, .int .i64 f, .int .i64 t, .string (strOf b), .int .i64 i, .int .i64 at', .int .u8 turn] 33)
  have hX : Blk (w.alloc (.cells #[.int .i64 2, .int .i64 f, .int .i64 t, .string (strOf b), .int .i64 i, .int .i64 at', .int .u8 turn] 33)) w.heap.size 33 [.int .i64 2, .int .i64 f, .int .i64 t, .string (strOf b), .int .i64 i, .int .i64 at', .int .u8 turn] := Blk.new _ _ _
  have hs1 : (w.alloc (.cells #[.int .i64 2, .int .i64 f, .int .i64 t, .string (strOf b), .int .i64 i, .int .i64 at', .int .u8 turn] 33)).heap.size = w.heap.size + 1 := by simp
  have hs2 : ((w.alloc (.cells #[.int .i64 2, .int .i64 f, .int .i64 t, .string (strOf b), .int .i64 i, .int .i64 at', .int .u8 turn] 33)).alloc (.cells #[.int .i64 0, .int .i64 0, (.string (ByteArray.mk #[]))] 31)).heap.size = w.heap.size + 2 := by simp
  have KX := Kept.mk (show Blk ((w.alloc (.cells #[.int .i64 2, .int .i64 f, .int .i64 t, .string (strOf b), .int .i64 i, .int .i64 at', .int .u8 turn] 33)).alloc (.cells #[.int .i64 0, .int .i64 0, (.string (ByteArray.mk #[]))] 31)) _ _ _ from hX.ext (Ext.alloc _ _))
  have KE := Kept.mk (show Ext w ((w.alloc (.cells #[.int .i64 2, .int .i64 f, .int .i64 t, .string (strOf b), .int .i64 i, .int .i64 at', .int .u8 turn] 33)).alloc (.cells #[.int .i64 0, .int .i64 0, (.string (ByteArray.mk #[]))] 31)) from hE1.trans (Ext.alloc _ _))
  have KR := Kept.mk (show Blk ((w.alloc (.cells #[.int .i64 2, .int .i64 f, .int .i64 t, .string (strOf b), .int .i64 i, .int .i64 at', .int .u8 turn] 33)).alloc (.cells #[.int .i64 0, .int .i64 0, (.string (ByteArray.mk #[]))] 31)) (w.alloc (.cells #[.int .i64 2, .int .i64 f, .int .i64 t, .string (strOf b), .int .i64 i, .int .i64 at', .int .u8 turn] 33)).heap.size _ [.int .i64 0, .int .i64 0, (.string (ByteArray.mk #[]))] from Blk.new (w.alloc (.cells #[.int .i64 2, .int .i64 f, .int .i64 t, .string (strOf b), .int .i64 i, .int .i64 at', .int .u8 turn] 33)) 31 [.int .i64 0, .int .i64 0, (.string (ByteArray.mk #[]))])
  rw [hs1] at KR
  have x0 := KX.out.cell 0
  have x1 := KX.out.cell 1
  have x2 := KX.out.cell 2
  have x3 := KX.out.cell 3
  have x4 := KX.out.cell 4
  have x5 := KX.out.cell 5
  have x6 := KX.out.cell 6
  simp only [List.getElem?_cons_zero, List.getElem?_cons_succ] at x0 x1 x2 x3 x4 x5 x6
  have KV := Kept.mk (show BufS 3 ((w.alloc (.cells #[.int .i64 2, .int .i64 f, .int .i64 t, .string (strOf b), .int .i64 i, .int .i64 at', .int .u8 turn] 33)).alloc (.cells #[.int .i64 0, .int .i64 0, (.string (ByteArray.mk #[]))] 31)) B 31 (.slice A l.length c) (l.map pk) from h.ext KE.out)
  have Khb := Kept.mk hb
  obtain ⟨⟨r10, r11, r12⟩, r1f, r1g, r1h⟩ := Blk.three KR.out
  change Calls _ _ #[_, _, .agg #[.int .i64 2, .int .i64 f, .int .i64 t, .string (strOf b), .int .i64 i, .int .i64 at', .int .u8 turn]] _ _
  have Khs := Kept.mk hs2
  clear h hb hE1 hX hs1 hs2 hvo
  simp only [] at hth
  go_enter Try.func15, Try.ntmps15
  go_upto_region 1 with fail
  generalize ((w.alloc (.cells #[.int .i64 2, .int .i64 f, .int .i64 t, .string (strOf b), .int .i64 i, .int .i64 at', .int .u8 turn] 33)).alloc (.cells #[.int .i64 0, .int .i64 0, (.string (ByteArray.mk #[]))] 31)) = wq at KE KX KR KV Khs x0 x1 x2 x3 x4 x5 x6 r10 r11 r12 r1f r1g r1h ⊢
  go_cut [10] (fun s10 wx => s10 = .bool (thereB l i) ∧ wq = wx)
  case first =>
    rcases (show i < 0 ∨ (0 ≤ i ∧ i < (l.length : Int)) ∨ (0 ≤ i ∧ ¬ i < (l.length : Int)) by omega) with hi | ⟨hi0, hi1⟩ | ⟨hi0, hi1⟩
    · have hth : thereB l i = false := by simp [thereB]; omega
      have Kth := Kept.mk hth
      clear hth
      go_wp2_with fail
      go_meet
      exact ⟨by rw [Kth.out], rfl⟩
    · have hth : thereB l i = true := by simp [thereB]; omega
      have Kth := Kept.mk hth
      clear hth
      go_wp2_with fail
      go_meet
      exact ⟨by rw [Kth.out], rfl⟩
    · have hth : thereB l i = false := by simp [thereB]; omega
      have Kth := Kept.mk hth
      clear hth
      go_wp2_with fail
      go_meet
      exact ⟨by rw [Kth.out], rfl⟩
  case rest =>
  obtain ⟨rfl, rfl⟩ := hcut
  have hRv : w.heap.size + 1 ∉ own (.slice A l.length c) := fun hm => by have := Kvo.out _ hm; omega
  have KF := Kept.mk (ref_end KE.out (Ext.refl _) (Nat.le_succ _) rfl KV.out hRv (v0 := .slice A l.length c) (fun j hj => .inl hj) KR.out (.int .i64 0) (.int .i64 0) (.string (ByteArray.mk #[])))
  clear KE KR KV KX
  rw [hth]
  go_wp2_with fail
  change bodyPost _ _ _ _ _ (put3 _ (w.heap.size + 1) (.int .i64 0) (.int .i64 0) (.string (ByteArray.mk #[])))
  obtain ⟨n1, n2, n4, n5⟩ := KF.out
  obtain ⟨⟨f0, f1, f2⟩, -⟩ := Blk.three n4
  exact bodyPost_ret (v := .tuple #[.slice A (l.length) c, .agg #[(.int .i64 0), (.int .i64 0), (.string (ByteArray.mk #[]))], .bool false, .int .i64 0]) (by simp [results, Try.results15, go_sem, f0, f1, f2]) rfl ⟨A, c, rfl, n1, n2, n5⟩
set_option maxRecDepth 100000 in
set_option maxHeartbeats 4000000 in
theorem ref_dno (B : Nat) (places : Int) (A : Option Addr) (c : Nat) (l : List Pk) (hl : l.length ≤ 100000) (hb : ∀ p ∈ l, p.b.length ≤ 1048576) (a : Act) (ha : ActOk a) (hk : a.k = 3) (hth : thereB l a.i = false ∨ places ≤ (l.length : Int)) (w : World) (hB : B ≤ w.heap.size) (h : BufS 3 w B 31 (.slice A l.length c) (l.map pk)) :
    Calls Try.prog 15 #[.slice A l.length c, .int .i64 places, .agg (actV a).toArray] w (RefE w B (.slice A l.length c) (doP places l a)) := by
  obtain ⟨iR, hiR, hzR, hsR, hbR⟩ := infoR
  have hdo : doP places l a = (l, noPk, false, 0) := by unfold doP doubleP; simp only [hk]; rcases hth with h | h <;> simp [h]
  rw [hdo]
  clear hdo
  obtain ⟨k, ⟨f, t, b⟩, i, at', turn⟩ := a
  obtain ⟨hab, hat0, hat1⟩ := ha
  simp only [] at hk hab hat0 hat1
  subst hk
  have hbz := strOf_size b
  have hvo := fun j hj => (h.owns j hj).2
  have Kvo := Kept.mk hvo
  have hE1 := Ext.alloc w (.cells #[.int .i64 3, .int .i64 f, .int .i64 t, .string (strOf b), .int .i64 i, .int .i64 at', .int .u8 turn] 33)
  have hX : Blk (w.alloc (.cells #[.int .i64 3, .int .i64 f, .int .i64 t, .string (strOf b), .int .i64 i, .int .i64 at', .int .u8 turn] 33)) w.heap.size 33 [.int .i64 3, .int .i64 f, .int .i64 t, .string (strOf b), .int .i64 i, .int .i64 at', .int .u8 turn] := Blk.new _ _ _
  have hs1 : (w.alloc (.cells #[.int .i64 3, .int .i64 f, .int .i64 t, .string (strOf b), .int .i64 i, .int .i64 at', .int .u8 turn] 33)).heap.size = w.heap.size + 1 := by simp
  have hs2 : ((w.alloc (.cells #[.int .i64 3, .int .i64 f, .int .i64 t, .string (strOf b), .int .i64 i, .int .i64 at', .int .u8 turn] 33)).alloc (.cells #[.int .i64 0, .int .i64 0, (.string (ByteArray.mk #[]))] 31)).heap.size = w.heap.size + 2 := by simp
  have KX := Kept.mk (show Blk ((w.alloc (.cells #[.int .i64 3, .int .i64 f, .int .i64 t, .string (strOf b), .int .i64 i, .int .i64 at', .int .u8 turn] 33)).alloc (.cells #[.int .i64 0, .int .i64 0, (.string (ByteArray.mk #[]))] 31)) _ _ _ from hX.ext (Ext.alloc _ _))
  have KE := Kept.mk (show Ext w ((w.alloc (.cells #[.int .i64 3, .int .i64 f, .int .i64 t, .string (strOf b), .int .i64 i, .int .i64 at', .int .u8 turn] 33)).alloc (.cells #[.int .i64 0, .int .i64 0, (.string (ByteArray.mk #[]))] 31)) from hE1.trans (Ext.alloc _ _))
  have KR := Kept.mk (show Blk ((w.alloc (.cells #[.int .i64 3, .int .i64 f, .int .i64 t, .string (strOf b), .int .i64 i, .int .i64 at', .int .u8 turn] 33)).alloc (.cells #[.int .i64 0, .int .i64 0, (.string (ByteArray.mk #[]))] 31)) (w.alloc (.cells #[.int .i64 3, .int .i64 f, .int .i64 t, .string (strOf b), .int .i64 i, .int .i64 at', .int .u8 turn] 33)).heap.size _ [.int .i64 0, .int .i64 0, (.string (ByteArray.mk #[]))] from Blk.new (w.alloc (.cells #[.int .i64 3, .int .i64 f, .int .i64 t, .string (strOf b), .int .i64 i, .int .i64 at', .int .u8 turn] 33)) 31 [.int .i64 0, .int .i64 0, (.string (ByteArray.mk #[]))])
  rw [hs1] at KR
  have x0 := KX.out.cell 0
  have x1 := KX.out.cell 1
  have x2 := KX.out.cell 2
  have x3 := KX.out.cell 3
  have x4 := KX.out.cell 4
  have x5 := KX.out.cell 5
  have x6 := KX.out.cell 6
  simp only [List.getElem?_cons_zero, List.getElem?_cons_succ] at x0 x1 x2 x3 x4 x5 x6
  have KV := Kept.mk (show BufS 3 ((w.alloc (.cells #[.int .i64 3, .int .i64 f, .int .i64 t, .string (strOf b), .int .i64 i, .int .i64 at', .int .u8 turn] 33)).alloc (.cells #[.int .i64 0, .int .i64 0, (.string (ByteArray.mk #[]))] 31)) B 31 (.slice A l.length c) (l.map pk) from h.ext KE.out)
  have Khb := Kept.mk hb
  obtain ⟨⟨r10, r11, r12⟩, r1f, r1g, r1h⟩ := Blk.three KR.out
  change Calls _ _ #[_, _, .agg #[.int .i64 3, .int .i64 f, .int .i64 t, .string (strOf b), .int .i64 i, .int .i64 at', .int .u8 turn]] _ _
  have Khs := Kept.mk hs2
  clear h hb hE1 hX hs1 hs2 hvo
  simp only [] at hth
  go_enter Try.func15, Try.ntmps15
  go_upto_region 1 with fail
  generalize ((w.alloc (.cells #[.int .i64 3, .int .i64 f, .int .i64 t, .string (strOf b), .int .i64 i, .int .i64 at', .int .u8 turn] 33)).alloc (.cells #[.int .i64 0, .int .i64 0, (.string (ByteArray.mk #[]))] 31)) = wq at KE KX KR KV Khs x0 x1 x2 x3 x4 x5 x6 r10 r11 r12 r1f r1g r1h ⊢
  go_cut [10] (fun s10 wx => s10 = .bool (thereB l i) ∧ wq = wx)
  case first =>
    rcases (show i < 0 ∨ (0 ≤ i ∧ i < (l.length : Int)) ∨ (0 ≤ i ∧ ¬ i < (l.length : Int)) by omega) with hi | ⟨hi0, hi1⟩ | ⟨hi0, hi1⟩
    · have hth : thereB l i = false := by simp [thereB]; omega
      have Kth := Kept.mk hth
      clear hth
      go_wp2_with fail
      go_meet
      exact ⟨by rw [Kth.out], rfl⟩
    · have hth : thereB l i = true := by simp [thereB]; omega
      have Kth := Kept.mk hth
      clear hth
      go_wp2_with fail
      go_meet
      exact ⟨by rw [Kth.out], rfl⟩
    · have hth : thereB l i = false := by simp [thereB]; omega
      have Kth := Kept.mk hth
      clear hth
      go_wp2_with fail
      go_meet
      exact ⟨by rw [Kth.out], rfl⟩
  case rest =>
  obtain ⟨rfl, rfl⟩ := hcut
  have hRv : w.heap.size + 1 ∉ own (.slice A l.length c) := fun hm => by have := Kvo.out _ hm; omega
  have KF := Kept.mk (ref_end KE.out (Ext.refl _) (Nat.le_succ _) rfl KV.out hRv (v0 := .slice A l.length c) (fun j hj => .inl hj) KR.out (.int .i64 0) (.int .i64 0) (.string (ByteArray.mk #[])))
  clear KE KR KV KX
  rcases hth with h | h
  · rw [h]
    go_wp2_with fail
    change bodyPost _ _ _ _ _ (put3 _ (w.heap.size + 1) (.int .i64 0) (.int .i64 0) (.string (ByteArray.mk #[])))
    obtain ⟨n1, n2, n4, n5⟩ := KF.out
    obtain ⟨⟨f0, f1, f2⟩, -⟩ := Blk.three n4
    exact bodyPost_ret (v := .tuple #[.slice A (l.length) c, .agg #[(.int .i64 0), (.int .i64 0), (.string (ByteArray.mk #[]))], .bool false, .int .i64 0]) (by simp [results, Try.results15, go_sem, f0, f1, f2]) rfl ⟨A, c, rfl, n1, n2, n5⟩
  · cases thereB l i
    all_goals
      go_wp2_with fail
      change bodyPost _ _ _ _ _ (put3 _ (w.heap.size + 1) (.int .i64 0) (.int .i64 0) (.string (ByteArray.mk #[])))
      obtain ⟨n1, n2, n4, n5⟩ := KF.out
      obtain ⟨⟨f0, f1, f2⟩, -⟩ := Blk.three n4
      exact bodyPost_ret (v := .tuple #[.slice A (l.length) c, .agg #[(.int .i64 0), (.int .i64 0), (.string (ByteArray.mk #[]))], .bool false, .int .i64 0]) (by simp [results, Try.results15, go_sem, f0, f1, f2]) rfl ⟨A, c, rfl, n1, n2, n5⟩
set_option maxRecDepth 100000 in
set_option maxHeartbeats 4000000 in
theorem ref_other (B : Nat) (places : Int) (A : Option Addr) (c : Nat) (l : List Pk) (hl : l.length ≤ 100000) (hb : ∀ p ∈ l, p.b.length ≤ 1048576) (a : Act) (ha : ActOk a) (hk : a.k < 0 ∨ 5 < a.k) (w : World) (hB : B ≤ w.heap.size) (h : BufS 3 w B 31 (.slice A l.length c) (l.map pk)) :
    Calls Try.prog 15 #[.slice A l.length c, .int .i64 places, .agg (actV a).toArray] w (RefE w B (.slice A l.length c) (doP places l a)) := by
  obtain ⟨iR, hiR, hzR, hsR, hbR⟩ := infoR
  have hdo : doP places l a = (l, noPk, false, 0) := by unfold doP; rw [if_neg (by omega), if_neg (by omega), if_neg (by omega), if_neg (by omega), if_neg (by omega), if_neg (by omega)]
  rw [hdo]
  clear hdo
  obtain ⟨k, ⟨f, t, b⟩, i, at', turn⟩ := a
  obtain ⟨hab, hat0, hat1⟩ := ha
  simp only [] at hk hab hat0 hat1
  have hbz := strOf_size b
  have hvo := fun j hj => (h.owns j hj).2
  have Kvo := Kept.mk hvo
  have hE1 := Ext.alloc w (.cells #[.int .i64 k, .int .i64 f, .int .i64 t, .string (strOf b), .int .i64 i, .int .i64 at', .int .u8 turn] 33)
  have hX : Blk (w.alloc (.cells #[.int .i64 k, .int .i64 f, .int .i64 t, .string (strOf b), .int .i64 i, .int .i64 at', .int .u8 turn] 33)) w.heap.size 33 [.int .i64 k, .int .i64 f, .int .i64 t, .string (strOf b), .int .i64 i, .int .i64 at', .int .u8 turn] := Blk.new _ _ _
  have hs1 : (w.alloc (.cells #[.int .i64 k, .int .i64 f, .int .i64 t, .string (strOf b), .int .i64 i, .int .i64 at', .int .u8 turn] 33)).heap.size = w.heap.size + 1 := by simp
  have hs2 : ((w.alloc (.cells #[.int .i64 k, .int .i64 f, .int .i64 t, .string (strOf b), .int .i64 i, .int .i64 at', .int .u8 turn] 33)).alloc (.cells #[.int .i64 0, .int .i64 0, (.string (ByteArray.mk #[]))] 31)).heap.size = w.heap.size + 2 := by simp
  have KX := Kept.mk (show Blk ((w.alloc (.cells #[.int .i64 k, .int .i64 f, .int .i64 t, .string (strOf b), .int .i64 i, .int .i64 at', .int .u8 turn] 33)).alloc (.cells #[.int .i64 0, .int .i64 0, (.string (ByteArray.mk #[]))] 31)) _ _ _ from hX.ext (Ext.alloc _ _))
  have KE := Kept.mk (show Ext w ((w.alloc (.cells #[.int .i64 k, .int .i64 f, .int .i64 t, .string (strOf b), .int .i64 i, .int .i64 at', .int .u8 turn] 33)).alloc (.cells #[.int .i64 0, .int .i64 0, (.string (ByteArray.mk #[]))] 31)) from hE1.trans (Ext.alloc _ _))
  have KR := Kept.mk (show Blk ((w.alloc (.cells #[.int .i64 k, .int .i64 f, .int .i64 t, .string (strOf b), .int .i64 i, .int .i64 at', .int .u8 turn] 33)).alloc (.cells #[.int .i64 0, .int .i64 0, (.string (ByteArray.mk #[]))] 31)) (w.alloc (.cells #[.int .i64 k, .int .i64 f, .int .i64 t, .string (strOf b), .int .i64 i, .int .i64 at', .int .u8 turn] 33)).heap.size _ [.int .i64 0, .int .i64 0, (.string (ByteArray.mk #[]))] from Blk.new (w.alloc (.cells #[.int .i64 k, .int .i64 f, .int .i64 t, .string (strOf b), .int .i64 i, .int .i64 at', .int .u8 turn] 33)) 31 [.int .i64 0, .int .i64 0, (.string (ByteArray.mk #[]))])
  rw [hs1] at KR
  have x0 := KX.out.cell 0
  have x1 := KX.out.cell 1
  have x2 := KX.out.cell 2
  have x3 := KX.out.cell 3
  have x4 := KX.out.cell 4
  have x5 := KX.out.cell 5
  have x6 := KX.out.cell 6
  simp only [List.getElem?_cons_zero, List.getElem?_cons_succ] at x0 x1 x2 x3 x4 x5 x6
  have KV := Kept.mk (show BufS 3 ((w.alloc (.cells #[.int .i64 k, .int .i64 f, .int .i64 t, .string (strOf b), .int .i64 i, .int .i64 at', .int .u8 turn] 33)).alloc (.cells #[.int .i64 0, .int .i64 0, (.string (ByteArray.mk #[]))] 31)) B 31 (.slice A l.length c) (l.map pk) from h.ext KE.out)
  have Khb := Kept.mk hb
  obtain ⟨⟨r10, r11, r12⟩, r1f, r1g, r1h⟩ := Blk.three KR.out
  change Calls _ _ #[_, _, .agg #[.int .i64 k, .int .i64 f, .int .i64 t, .string (strOf b), .int .i64 i, .int .i64 at', .int .u8 turn]] _ _
  have Khs := Kept.mk hs2
  clear h hb hE1 hX hs1 hs2 hvo
  have q0 : (k == 0) = false := by rw [beq_eq_false_iff_ne]; omega
  have q1 : (k == 1) = false := by rw [beq_eq_false_iff_ne]; omega
  have q2 : (k == 2) = false := by rw [beq_eq_false_iff_ne]; omega
  have q3 : (k == 3) = false := by rw [beq_eq_false_iff_ne]; omega
  have q4 : (k == 4) = false := by rw [beq_eq_false_iff_ne]; omega
  have q5 : (k == 5) = false := by rw [beq_eq_false_iff_ne]; omega
  clear hk
  go_enter Try.func15, Try.ntmps15
  go_upto_region 1 with fail
  generalize ((w.alloc (.cells #[.int .i64 k, .int .i64 f, .int .i64 t, .string (strOf b), .int .i64 i, .int .i64 at', .int .u8 turn] 33)).alloc (.cells #[.int .i64 0, .int .i64 0, (.string (ByteArray.mk #[]))] 31)) = wq at KE KX KR KV Khs x0 x1 x2 x3 x4 x5 x6 r10 r11 r12 r1f r1g r1h ⊢
  go_cut [10] (fun s10 wx => s10 = .bool (thereB l i) ∧ wq = wx)
  case first =>
    rcases (show i < 0 ∨ (0 ≤ i ∧ i < (l.length : Int)) ∨ (0 ≤ i ∧ ¬ i < (l.length : Int)) by omega) with hi | ⟨hi0, hi1⟩ | ⟨hi0, hi1⟩
    · have hth : thereB l i = false := by simp [thereB]; omega
      have Kth := Kept.mk hth
      clear hth
      go_wp2_with fail
      go_meet
      exact ⟨by rw [Kth.out], rfl⟩
    · have hth : thereB l i = true := by simp [thereB]; omega
      have Kth := Kept.mk hth
      clear hth
      go_wp2_with fail
      go_meet
      exact ⟨by rw [Kth.out], rfl⟩
    · have hth : thereB l i = false := by simp [thereB]; omega
      have Kth := Kept.mk hth
      clear hth
      go_wp2_with fail
      go_meet
      exact ⟨by rw [Kth.out], rfl⟩
  case rest =>
  obtain ⟨rfl, rfl⟩ := hcut
  have hRv : w.heap.size + 1 ∉ own (.slice A l.length c) := fun hm => by have := Kvo.out _ hm; omega
  have KF := Kept.mk (ref_end KE.out (Ext.refl _) (Nat.le_succ _) rfl KV.out hRv (v0 := .slice A l.length c) (fun j hj => .inl hj) KR.out (.int .i64 0) (.int .i64 0) (.string (ByteArray.mk #[])))
  clear KE KR KV KX
  generalize thereB l i = th
  go_wp2_with fail
  change bodyPost _ _ _ _ _ (put3 _ (w.heap.size + 1) (.int .i64 0) (.int .i64 0) (.string (ByteArray.mk #[])))
  obtain ⟨n1, n2, n4, n5⟩ := KF.out
  obtain ⟨⟨f0, f1, f2⟩, -⟩ := Blk.three n4
  exact bodyPost_ret (v := .tuple #[.slice A (l.length) c, .agg #[(.int .i64 0), (.int .i64 0), (.string (ByteArray.mk #[]))], .bool false, .int .i64 0]) (by simp [results, Try.results15, go_sem, f0, f1, f2]) rfl ⟨A, c, rfl, n1, n2, n5⟩
set_option maxRecDepth 100000 in
set_option maxHeartbeats 4000000 in
theorem ref_sno (B : Nat) (places : Int) (A : Option Addr) (c : Nat) (l : List Pk) (hl : l.length ≤ 100000) (hb : ∀ p ∈ l, p.b.length ≤ 1048576) (a : Act) (ha : ActOk a) (hk : a.k = 4) (hno : thereB l a.i = false ∨ a.turn = 0 ∨ (l.getD a.i.toNat noPk).b = []) (w : World) (hB : B ≤ w.heap.size) (h : BufS 3 w B 31 (.slice A l.length c) (l.map pk)) :
    Calls Try.prog 15 #[.slice A l.length c, .int .i64 places, .agg (actV a).toArray] w (RefE w B (.slice A l.length c) (doP places l a)) := by
  obtain ⟨iR, hiR, hzR, hsR, hbR⟩ := infoR
  have hdo : doP places l a = (l, noPk, false, 0) := by unfold doP; rw [spoil_no hno]; simp [hk]
  rw [hdo]
  clear hdo
  obtain ⟨k, ⟨f, t, b⟩, i, at', turn⟩ := a
  obtain ⟨hab, hat0, hat1⟩ := ha
  simp only [] at hk hab hat0 hat1
  subst hk
  have hbz := strOf_size b
  have hvo := fun j hj => (h.owns j hj).2
  have Kvo := Kept.mk hvo
  have hE1 := Ext.alloc w (.cells #[.int .i64 4, .int .i64 f, .int .i64 t, .string (strOf b), .int .i64 i, .int .i64 at', .int .u8 turn] 33)
  have hX : Blk (w.alloc (.cells #[.int .i64 4, .int .i64 f, .int .i64 t, .string (strOf b), .int .i64 i, .int .i64 at', .int .u8 turn] 33)) w.heap.size 33 [.int .i64 4, .int .i64 f, .int .i64 t, .string (strOf b), .int .i64 i, .int .i64 at', .int .u8 turn] := Blk.new _ _ _
  have hs1 : (w.alloc (.cells #[.int .i64 4, .int .i64 f, .int .i64 t, .string (strOf b), .int .i64 i, .int .i64 at', .int .u8 turn] 33)).heap.size = w.heap.size + 1 := by simp
  have hs2 : ((w.alloc (.cells #[.int .i64 4, .int .i64 f, .int .i64 t, .string (strOf b), .int .i64 i, .int .i64 at', .int .u8 turn] 33)).alloc (.cells #[.int .i64 0, .int .i64 0, (.string (ByteArray.mk #[]))] 31)).heap.size = w.heap.size + 2 := by simp
  have KX := Kept.mk (show Blk ((w.alloc (.cells #[.int .i64 4, .int .i64 f, .int .i64 t, .string (strOf b), .int .i64 i, .int .i64 at', .int .u8 turn] 33)).alloc (.cells #[.int .i64 0, .int .i64 0, (.string (ByteArray.mk #[]))] 31)) _ _ _ from hX.ext (Ext.alloc _ _))
  have KE := Kept.mk (show Ext w ((w.alloc (.cells #[.int .i64 4, .int .i64 f, .int .i64 t, .string (strOf b), .int .i64 i, .int .i64 at', .int .u8 turn] 33)).alloc (.cells #[.int .i64 0, .int .i64 0, (.string (ByteArray.mk #[]))] 31)) from hE1.trans (Ext.alloc _ _))
  have KR := Kept.mk (show Blk ((w.alloc (.cells #[.int .i64 4, .int .i64 f, .int .i64 t, .string (strOf b), .int .i64 i, .int .i64 at', .int .u8 turn] 33)).alloc (.cells #[.int .i64 0, .int .i64 0, (.string (ByteArray.mk #[]))] 31)) (w.alloc (.cells #[.int .i64 4, .int .i64 f, .int .i64 t, .string (strOf b), .int .i64 i, .int .i64 at', .int .u8 turn] 33)).heap.size _ [.int .i64 0, .int .i64 0, (.string (ByteArray.mk #[]))] from Blk.new (w.alloc (.cells #[.int .i64 4, .int .i64 f, .int .i64 t, .string (strOf b), .int .i64 i, .int .i64 at', .int .u8 turn] 33)) 31 [.int .i64 0, .int .i64 0, (.string (ByteArray.mk #[]))])
  rw [hs1] at KR
  have x0 := KX.out.cell 0
  have x1 := KX.out.cell 1
  have x2 := KX.out.cell 2
  have x3 := KX.out.cell 3
  have x4 := KX.out.cell 4
  have x5 := KX.out.cell 5
  have x6 := KX.out.cell 6
  simp only [List.getElem?_cons_zero, List.getElem?_cons_succ] at x0 x1 x2 x3 x4 x5 x6
  have KV := Kept.mk (show BufS 3 ((w.alloc (.cells #[.int .i64 4, .int .i64 f, .int .i64 t, .string (strOf b), .int .i64 i, .int .i64 at', .int .u8 turn] 33)).alloc (.cells #[.int .i64 0, .int .i64 0, (.string (ByteArray.mk #[]))] 31)) B 31 (.slice A l.length c) (l.map pk) from h.ext KE.out)
  have Khb := Kept.mk hb
  obtain ⟨⟨r10, r11, r12⟩, r1f, r1g, r1h⟩ := Blk.three KR.out
  change Calls _ _ #[_, _, .agg #[.int .i64 4, .int .i64 f, .int .i64 t, .string (strOf b), .int .i64 i, .int .i64 at', .int .u8 turn]] _ _
  have Khs := Kept.mk hs2
  clear h hb hE1 hX hs1 hs2 hvo
  simp only [] at hno
  go_enter Try.func15, Try.ntmps15
  go_upto_region 1 with fail
  generalize ((w.alloc (.cells #[.int .i64 4, .int .i64 f, .int .i64 t, .string (strOf b), .int .i64 i, .int .i64 at', .int .u8 turn] 33)).alloc (.cells #[.int .i64 0, .int .i64 0, (.string (ByteArray.mk #[]))] 31)) = wq at KE KX KR KV Khs x0 x1 x2 x3 x4 x5 x6 r10 r11 r12 r1f r1g r1h ⊢
  go_cut [10] (fun s10 wx => s10 = .bool (thereB l i) ∧ wq = wx)
  case first =>
    rcases (show i < 0 ∨ (0 ≤ i ∧ i < (l.length : Int)) ∨ (0 ≤ i ∧ ¬ i < (l.length : Int)) by omega) with hi | ⟨hi0, hi1⟩ | ⟨hi0, hi1⟩
    · have hth : thereB l i = false := by simp [thereB]; omega
      have Kth := Kept.mk hth
      clear hth
      go_wp2_with fail
      go_meet
      exact ⟨by rw [Kth.out], rfl⟩
    · have hth : thereB l i = true := by simp [thereB]; omega
      have Kth := Kept.mk hth
      clear hth
      go_wp2_with fail
      go_meet
      exact ⟨by rw [Kth.out], rfl⟩
    · have hth : thereB l i = false := by simp [thereB]; omega
      have Kth := Kept.mk hth
      clear hth
      go_wp2_with fail
      go_meet
      exact ⟨by rw [Kth.out], rfl⟩
  case rest =>
  obtain ⟨rfl, rfl⟩ := hcut
  have hRv : w.heap.size + 1 ∉ own (.slice A l.length c) := fun hm => by have := Kvo.out _ hm; omega
  have KV3 := Kept.mk KV.out
  have KF := Kept.mk (ref_end KE.out (Ext.refl _) (Nat.le_succ _) rfl KV.out hRv (v0 := .slice A l.length c) (fun j hj => .inl hj) KR.out (.int .i64 0) (.int .i64 0) (.string (ByteArray.mk #[])))
  clear KE KR KV KX
  cases hth : thereB l i with
  | false =>
    go_wp2_with fail
    change bodyPost _ _ _ _ _ (put3 _ (w.heap.size + 1) (.int .i64 0) (.int .i64 0) (.string (ByteArray.mk #[])))
    obtain ⟨n1, n2, n4, n5⟩ := KF.out
    obtain ⟨⟨f0, f1, f2⟩, -⟩ := Blk.three n4
    exact bodyPost_ret (v := .tuple #[.slice A (l.length) c, .agg #[(.int .i64 0), (.int .i64 0), (.string (ByteArray.mk #[]))], .bool false, .int .i64 0]) (by simp [results, Try.results15, go_sem, f0, f1, f2]) rfl ⟨A, c, rfl, n1, n2, n5⟩
  | true =>
    have hno2 : turn = 0 ∨ (l.getD i.toNat noPk).b = [] := by
      rcases hno with h | h
      · rw [hth] at h; cases h
      · exact h
    have hr : 0 ≤ i ∧ i < (l.length : Int) := by simpa [thereB] using hth
    by_cases hu : turn = 0
    · have hu2 : (turn == 0) = true := by simpa using hu
      clear hno hno2 hth hr hu
      go_wp2_with fail
      change bodyPost _ _ _ _ _ (put3 _ (w.heap.size + 1) (.int .i64 0) (.int .i64 0) (.string (ByteArray.mk #[])))
      obtain ⟨n1, n2, n4, n5⟩ := KF.out
      obtain ⟨⟨f0, f1, f2⟩, -⟩ := Blk.three n4
      exact bodyPost_ret (v := .tuple #[.slice A (l.length) c, .agg #[(.int .i64 0), (.int .i64 0), (.string (ByteArray.mk #[]))], .bool false, .int .i64 0]) (by simp [results, Try.results15, go_sem, f0, f1, f2]) rfl ⟨A, c, rfl, n1, n2, n5⟩
    · have hu2 : (turn == 0) = false := by simpa using hu
      have hne : (l.getD i.toNat noPk).b = [] := by
        rcases hno2 with h | h
        · exact absurd h hu
        · exact h
      obtain ⟨kk, hkk⟩ : ∃ kk : Nat, i = (kk : Int) := ⟨i.toNat, by omega⟩
      subst hkk
      have hkl : kk < l.length := by omega
      have hkI : (kk : Int) < (l.length : Int) := by omega
      obtain ⟨b2, o2, rfl, p0, p1, p2⟩ := buf_atR KV3.out (i := kk) (by simpa using hkl) (pk_get hkl)
      rw [Int.toNat_natCast] at hne
      rw [hne] at p2
      have hz0 : (strOf ([] : List UInt8)).size = 0 := rfl
      clear hno hno2 hth hr hu hne
      go_wp2_with fail
      change bodyPost _ _ _ _ _ (put3 _ (w.heap.size + 1) (.int .i64 0) (.int .i64 0) (.string (ByteArray.mk #[])))
      obtain ⟨n1, n2, n4, n5⟩ := KF.out
      obtain ⟨⟨f0, f1, f2⟩, -⟩ := Blk.three n4
      exact bodyPost_ret (v := .tuple #[.slice (some ⟨b2, o2, none⟩) (l.length) c, .agg #[(.int .i64 0), (.int .i64 0), (.string (ByteArray.mk #[]))], .bool false, .int .i64 0]) (by simp [results, Try.results15, go_sem, f0, f1, f2]) rfl ⟨(some ⟨b2, o2, none⟩), c, rfl, n1, n2, n5⟩
end Net
end Go.Proofs.Ytpdaijmehaialaa
