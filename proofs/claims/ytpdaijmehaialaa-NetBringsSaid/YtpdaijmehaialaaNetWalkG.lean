/- The walks of the law's few and do. No condition. -/
import Derived.Test.YtpdaijmehaialaaNetWalkF
namespace Go.Proofs.Ytpdaijmehaialaa
open Go.RowKit Go.ChangeShapes Go.WideShapes
namespace Net
set_option linter.unusedSimpArgs false
set_option linter.unusedVariables false
def actV (a : Act) : List Value := [.int .i64 a.k, .int .i64 a.p.f, .int .i64 a.p.t, .string (strOf a.p.b), .int .i64 a.i, .int .i64 a.at', .int .u8 a.turn]
structure ActOk (a : Act) : Prop where
  b : a.p.b.length ≤ 140737488351232
  t0 : 0 ≤ a.turn
  t1 : a.turn ≤ 255
/-- What the law's do leaves. -/
def DoE (w : World) (B g : Nat) (places : Int) (v : Value) (r : List Pk × Pk × Bool × Int) (e : Ending) (w' : World) : Prop :=
  NetE w B g places v r.1 (.tuple #[.agg (pk r.2.1).toArray, .bool r.2.2.1, .int .i64 r.2.2.2]) e w'
/-- The result's block is written, and all is handed back. -/
theorem do_end {w wq w2 : World} {B g R : Nat} {places : Int} {v v' : Value} {l' : List Pk} (hw : Ext w wq) (hg : ∀ j ∈ g :: own v, j < w.heap.size) (hR : w.heap.size ≤ R) (hN : NetAt w2 B g places v' l') (hT : Touch (g :: own v) wq w2) (ho : ∀ j ∈ own v', j ∈ own v ∨ wq.heap.size ≤ j)
    {T : TypeId} {a b c : Value} (hRb : Blk w2 R T [a, b, c]) (hRl : R < wq.heap.size) (x y z : Value) :
    NetAt (put3 w2 R x y z) B g places v' l' ∧ Touch (g :: own v) w (put3 w2 R x y z) ∧ (∀ j ∈ own v', j ∈ own v ∨ w.heap.size ≤ j) ∧ Blk (put3 w2 R x y z) R T [x, y, z] := by
  obtain ⟨h1, h2⟩ := Blk.put3 hRb x y z
  refine ⟨hN.touch h2 (fun j hj hm => ?_), ((Touch.of_ext (S := g :: own v) hw).trans hT (fun j hj => .inl hj)).trans h2 (fun j hj => ?_), fun j hj => ?_, h1⟩
  · rw [List.mem_singleton] at hm
    subst hm
    rcases List.mem_cons.1 hj with h | h
    · have := hg g (by simp); omega
    · rcases ho _ h with h | h
      · have := hg _ (List.mem_cons_of_mem g h); omega
      · omega
  · rw [List.mem_singleton] at hj
    exact .inr (by omega)
  · rcases ho j hj with h | h
    · exact .inl h
    · have := hw.size; exact .inr (by omega)
set_option maxRecDepth 100000 in
set_option maxHeartbeats 2000000 in
theorem do_send (B g : Nat) (places : Int) (v : Value) (l : List Pk) (hl : l.length ≤ 100000) (hb : ∀ p ∈ l, p.b.length ≤ 1048576) (a : Act) (ha : ActOk a) (hk : a.k = 0) (w : World) (h : NetAt w B g places v l) :
    Calls Try.prog 10 #[.pointer (some ⟨g, 0, none⟩), .agg (actV a).toArray] w (DoE w B g places v (doP places l a)) := by
  have hdo : doP places l a = ((sendP places l a.p).1, noPk, (sendP places l a.p).2, 0) := by unfold doP; rw [if_pos hk]
  rw [hdo]
  clear hdo
  obtain ⟨k, ⟨f, t, b⟩, i, at', turn⟩ := a
  obtain ⟨hab, hat0, hat1⟩ := ha
  simp only [] at hk hab hat0 hat1
  subst hk
  have hgo : ∀ j ∈ g :: own v, j < w.heap.size := fun j hj => (h.owns j hj).2
  have hE1 := Ext.alloc w (.cells #[.int .i64 0, .int .i64 f, .int .i64 t, .string (strOf b), .int .i64 i, .int .i64 at', .int .u8 turn] 33)
  have hX : Blk (w.alloc (.cells #[.int .i64 0, .int .i64 f, .int .i64 t, .string (strOf b), .int .i64 i, .int .i64 at', .int .u8 turn] 33)) w.heap.size 33 [.int .i64 0, .int .i64 f, .int .i64 t, .string (strOf b), .int .i64 i, .int .i64 at', .int .u8 turn] := Blk.new _ _ _
  have hs1 : (w.alloc (.cells #[.int .i64 0, .int .i64 f, .int .i64 t, .string (strOf b), .int .i64 i, .int .i64 at', .int .u8 turn] 33)).heap.size = w.heap.size + 1 := by simp
  have KX1 := Kept.mk (show Blk ((w.alloc (.cells #[.int .i64 0, .int .i64 f, .int .i64 t, .string (strOf b), .int .i64 i, .int .i64 at', .int .u8 turn] 33)).alloc (.cells #[.int .i64 0, .int .i64 0, (.string (ByteArray.mk #[]))] 34)) _ _ _ from hX.ext (Ext.alloc _ _))
  have KE1 := Kept.mk (show Ext w ((w.alloc (.cells #[.int .i64 0, .int .i64 f, .int .i64 t, .string (strOf b), .int .i64 i, .int .i64 at', .int .u8 turn] 33)).alloc (.cells #[.int .i64 0, .int .i64 0, (.string (ByteArray.mk #[]))] 34)) from hE1.trans (Ext.alloc _ _))
  have KR1 := Kept.mk (show Blk ((w.alloc (.cells #[.int .i64 0, .int .i64 f, .int .i64 t, .string (strOf b), .int .i64 i, .int .i64 at', .int .u8 turn] 33)).alloc (.cells #[.int .i64 0, .int .i64 0, (.string (ByteArray.mk #[]))] 34)) (w.alloc (.cells #[.int .i64 0, .int .i64 f, .int .i64 t, .string (strOf b), .int .i64 i, .int .i64 at', .int .u8 turn] 33)).heap.size _ [.int .i64 0, .int .i64 0, (.string (ByteArray.mk #[]))] from Blk.new (w.alloc (.cells #[.int .i64 0, .int .i64 f, .int .i64 t, .string (strOf b), .int .i64 i, .int .i64 at', .int .u8 turn] 33)) 34 [.int .i64 0, .int .i64 0, (.string (ByteArray.mk #[]))])
  rw [hs1] at KR1
  have x0 := KX1.out.cell 0
  have x1 := KX1.out.cell 1
  have x2 := KX1.out.cell 2
  have x3 := KX1.out.cell 3
  have x4 := KX1.out.cell 4
  have x5 := KX1.out.cell 5
  have x6 := KX1.out.cell 6
  simp only [List.getElem?_cons_zero, List.getElem?_cons_succ] at x0 x1 x2 x3 x4 x5 x6
  have Kh := Kept.mk (show NetAt ((w.alloc (.cells #[.int .i64 0, .int .i64 f, .int .i64 t, .string (strOf b), .int .i64 i, .int .i64 at', .int .u8 turn] 33)).alloc (.cells #[.int .i64 0, .int .i64 0, (.string (ByteArray.mk #[]))] 34)) B g places v l from h.ext KE1.out)
  have Khb := Kept.mk hb
  have hRl := KR1.out.lt
  change Calls _ _ #[_, .agg #[.int .i64 0, .int .i64 f, .int .i64 t, .string (strOf b), .int .i64 i, .int .i64 at', .int .u8 turn]] _ _
  clear h hb hE1 hX hs1
  have KC := Kept.mk (send_any B g places v l hl ⟨f, t, b⟩ hab _ Kh.out)
  generalize sendP places l ⟨f, t, b⟩ = r at KC ⊢
  obtain ⟨r1, r2⟩ := r
  go_enter Try.func10, Try.ntmps10
  go_wp2_with fail
  generalize ((w.alloc (.cells #[.int .i64 0, .int .i64 f, .int .i64 t, .string (strOf b), .int .i64 i, .int .i64 at', .int .u8 turn] 33)).alloc (.cells #[.int .i64 0, .int .i64 0, (.string (ByteArray.mk #[]))] 34)) = wq at KE1 KX1 KR1 Kh KC hRl x0 x1 x2 x3 x4 x5 x6 ⊢
  refine KC.out.mono ?_
  rintro e w2 ⟨rfl, v', k1, k2, k3⟩
  have hnR : w.heap.size + 1 ∉ g :: own v := fun hm => by have := hgo _ hm; omega
  have hR2 := KR1.out.touch k2 hnR
  obtain ⟨⟨r10, r11, r12⟩, r1f, r1g, r1h⟩ := Blk.three hR2
  have KF := Kept.mk (do_end KE1.out hgo (Nat.le_succ _) k1 k2 k3 hR2 hRl (.int .i64 0) (.int .i64 0) (.string (ByteArray.mk #[])))
  clear KC hR2 k1 k2 k3 KE1 KR1 Kh KX1
  go_wp2_with fail
  change bodyPost _ _ _ _ _ (put3 _ (w.heap.size + 1) (.int .i64 0) (.int .i64 0) (.string (ByteArray.mk #[])))
  obtain ⟨n1, n2, n3, n4⟩ := KF.out
  obtain ⟨⟨f0, f1, f2⟩, -⟩ := Blk.three n4
  exact bodyPost_ret (v := .tuple #[.agg #[(.int .i64 0), (.int .i64 0), (.string (ByteArray.mk #[]))], .bool r2, .int .i64 0]) (by simp [results, Try.results10, go_sem, f0, f1, f2]) rfl ⟨rfl, _, n1, n2, n3⟩
set_option maxRecDepth 100000 in
set_option maxHeartbeats 2000000 in
theorem do_lose (B g : Nat) (places : Int) (v : Value) (l : List Pk) (hl : l.length ≤ 100000) (hb : ∀ p ∈ l, p.b.length ≤ 1048576) (a : Act) (ha : ActOk a) (hk : a.k = 2) (w : World) (h : NetAt w B g places v l) :
    Calls Try.prog 10 #[.pointer (some ⟨g, 0, none⟩), .agg (actV a).toArray] w (DoE w B g places v (doP places l a)) := by
  have hdo : doP places l a = ((takeP l a.i).1, noPk, (takeP l a.i).2.2, 0) := by unfold doP; rw [if_neg (by omega), if_neg (by omega), if_pos hk]
  rw [hdo]
  clear hdo
  obtain ⟨k, ⟨f, t, b⟩, i, at', turn⟩ := a
  obtain ⟨hab, hat0, hat1⟩ := ha
  simp only [] at hk hab hat0 hat1
  subst hk
  have hgo : ∀ j ∈ g :: own v, j < w.heap.size := fun j hj => (h.owns j hj).2
  have hE1 := Ext.alloc w (.cells #[.int .i64 2, .int .i64 f, .int .i64 t, .string (strOf b), .int .i64 i, .int .i64 at', .int .u8 turn] 33)
  have hX : Blk (w.alloc (.cells #[.int .i64 2, .int .i64 f, .int .i64 t, .string (strOf b), .int .i64 i, .int .i64 at', .int .u8 turn] 33)) w.heap.size 33 [.int .i64 2, .int .i64 f, .int .i64 t, .string (strOf b), .int .i64 i, .int .i64 at', .int .u8 turn] := Blk.new _ _ _
  have hs1 : (w.alloc (.cells #[.int .i64 2, .int .i64 f, .int .i64 t, .string (strOf b), .int .i64 i, .int .i64 at', .int .u8 turn] 33)).heap.size = w.heap.size + 1 := by simp
  have KX1 := Kept.mk (show Blk ((w.alloc (.cells #[.int .i64 2, .int .i64 f, .int .i64 t, .string (strOf b), .int .i64 i, .int .i64 at', .int .u8 turn] 33)).alloc (.cells #[.int .i64 0, .int .i64 0, (.string (ByteArray.mk #[]))] 34)) _ _ _ from hX.ext (Ext.alloc _ _))
  have KE1 := Kept.mk (show Ext w ((w.alloc (.cells #[.int .i64 2, .int .i64 f, .int .i64 t, .string (strOf b), .int .i64 i, .int .i64 at', .int .u8 turn] 33)).alloc (.cells #[.int .i64 0, .int .i64 0, (.string (ByteArray.mk #[]))] 34)) from hE1.trans (Ext.alloc _ _))
  have KR1 := Kept.mk (show Blk ((w.alloc (.cells #[.int .i64 2, .int .i64 f, .int .i64 t, .string (strOf b), .int .i64 i, .int .i64 at', .int .u8 turn] 33)).alloc (.cells #[.int .i64 0, .int .i64 0, (.string (ByteArray.mk #[]))] 34)) (w.alloc (.cells #[.int .i64 2, .int .i64 f, .int .i64 t, .string (strOf b), .int .i64 i, .int .i64 at', .int .u8 turn] 33)).heap.size _ [.int .i64 0, .int .i64 0, (.string (ByteArray.mk #[]))] from Blk.new (w.alloc (.cells #[.int .i64 2, .int .i64 f, .int .i64 t, .string (strOf b), .int .i64 i, .int .i64 at', .int .u8 turn] 33)) 34 [.int .i64 0, .int .i64 0, (.string (ByteArray.mk #[]))])
  rw [hs1] at KR1
  have x0 := KX1.out.cell 0
  have x1 := KX1.out.cell 1
  have x2 := KX1.out.cell 2
  have x3 := KX1.out.cell 3
  have x4 := KX1.out.cell 4
  have x5 := KX1.out.cell 5
  have x6 := KX1.out.cell 6
  simp only [List.getElem?_cons_zero, List.getElem?_cons_succ] at x0 x1 x2 x3 x4 x5 x6
  have Kh := Kept.mk (show NetAt ((w.alloc (.cells #[.int .i64 2, .int .i64 f, .int .i64 t, .string (strOf b), .int .i64 i, .int .i64 at', .int .u8 turn] 33)).alloc (.cells #[.int .i64 0, .int .i64 0, (.string (ByteArray.mk #[]))] 34)) B g places v l from h.ext KE1.out)
  have Khb := Kept.mk hb
  have hRl := KR1.out.lt
  change Calls _ _ #[_, .agg #[.int .i64 2, .int .i64 f, .int .i64 t, .string (strOf b), .int .i64 i, .int .i64 at', .int .u8 turn]] _ _
  clear h hb hE1 hX hs1
  have KC := Kept.mk (lose_any B g places v l hl i _ Kh.out)
  generalize takeP l i = r at KC ⊢
  obtain ⟨r1, r0, r2⟩ := r
  go_enter Try.func10, Try.ntmps10
  go_wp2_with fail
  generalize ((w.alloc (.cells #[.int .i64 2, .int .i64 f, .int .i64 t, .string (strOf b), .int .i64 i, .int .i64 at', .int .u8 turn] 33)).alloc (.cells #[.int .i64 0, .int .i64 0, (.string (ByteArray.mk #[]))] 34)) = wq at KE1 KX1 KR1 Kh KC hRl x0 x1 x2 x3 x4 x5 x6 ⊢
  refine KC.out.mono ?_
  rintro e w2 ⟨rfl, v', k1, k2, k3⟩
  have hnR : w.heap.size + 1 ∉ g :: own v := fun hm => by have := hgo _ hm; omega
  have hR2 := KR1.out.touch k2 hnR
  obtain ⟨⟨r10, r11, r12⟩, r1f, r1g, r1h⟩ := Blk.three hR2
  have KF := Kept.mk (do_end KE1.out hgo (Nat.le_succ _) k1 k2 k3 hR2 hRl (.int .i64 0) (.int .i64 0) (.string (ByteArray.mk #[])))
  clear KC hR2 k1 k2 k3 KE1 KR1 Kh KX1
  go_wp2_with fail
  change bodyPost _ _ _ _ _ (put3 _ (w.heap.size + 1) (.int .i64 0) (.int .i64 0) (.string (ByteArray.mk #[])))
  obtain ⟨n1, n2, n3, n4⟩ := KF.out
  obtain ⟨⟨f0, f1, f2⟩, -⟩ := Blk.three n4
  exact bodyPost_ret (v := .tuple #[.agg #[(.int .i64 0), (.int .i64 0), (.string (ByteArray.mk #[]))], .bool r2, .int .i64 0]) (by simp [results, Try.results10, go_sem, f0, f1, f2]) rfl ⟨rfl, _, n1, n2, n3⟩
set_option maxRecDepth 100000 in
set_option maxHeartbeats 2000000 in
theorem do_double (B g : Nat) (places : Int) (v : Value) (l : List Pk) (hl : l.length ≤ 100000) (hb : ∀ p ∈ l, p.b.length ≤ 1048576) (a : Act) (ha : ActOk a) (hk : a.k = 3) (w : World) (h : NetAt w B g places v l) :
    Calls Try.prog 10 #[.pointer (some ⟨g, 0, none⟩), .agg (actV a).toArray] w (DoE w B g places v (doP places l a)) := by
  have hdo : doP places l a = ((doubleP places l a.i).1, noPk, (doubleP places l a.i).2, 0) := by unfold doP; rw [if_neg (by omega), if_neg (by omega), if_neg (by omega), if_pos hk]
  rw [hdo]
  clear hdo
  obtain ⟨k, ⟨f, t, b⟩, i, at', turn⟩ := a
  obtain ⟨hab, hat0, hat1⟩ := ha
  simp only [] at hk hab hat0 hat1
  subst hk
  have hgo : ∀ j ∈ g :: own v, j < w.heap.size := fun j hj => (h.owns j hj).2
  have hE1 := Ext.alloc w (.cells #[.int .i64 3, .int .i64 f, .int .i64 t, .string (strOf b), .int .i64 i, .int .i64 at', .int .u8 turn] 33)
  have hX : Blk (w.alloc (.cells #[.int .i64 3, .int .i64 f, .int .i64 t, .string (strOf b), .int .i64 i, .int .i64 at', .int .u8 turn] 33)) w.heap.size 33 [.int .i64 3, .int .i64 f, .int .i64 t, .string (strOf b), .int .i64 i, .int .i64 at', .int .u8 turn] := Blk.new _ _ _
  have hs1 : (w.alloc (.cells #[.int .i64 3, .int .i64 f, .int .i64 t, .string (strOf b), .int .i64 i, .int .i64 at', .int .u8 turn] 33)).heap.size = w.heap.size + 1 := by simp
  have KX1 := Kept.mk (show Blk ((w.alloc (.cells #[.int .i64 3, .int .i64 f, .int .i64 t, .string (strOf b), .int .i64 i, .int .i64 at', .int .u8 turn] 33)).alloc (.cells #[.int .i64 0, .int .i64 0, (.string (ByteArray.mk #[]))] 34)) _ _ _ from hX.ext (Ext.alloc _ _))
  have KE1 := Kept.mk (show Ext w ((w.alloc (.cells #[.int .i64 3, .int .i64 f, .int .i64 t, .string (strOf b), .int .i64 i, .int .i64 at', .int .u8 turn] 33)).alloc (.cells #[.int .i64 0, .int .i64 0, (.string (ByteArray.mk #[]))] 34)) from hE1.trans (Ext.alloc _ _))
  have KR1 := Kept.mk (show Blk ((w.alloc (.cells #[.int .i64 3, .int .i64 f, .int .i64 t, .string (strOf b), .int .i64 i, .int .i64 at', .int .u8 turn] 33)).alloc (.cells #[.int .i64 0, .int .i64 0, (.string (ByteArray.mk #[]))] 34)) (w.alloc (.cells #[.int .i64 3, .int .i64 f, .int .i64 t, .string (strOf b), .int .i64 i, .int .i64 at', .int .u8 turn] 33)).heap.size _ [.int .i64 0, .int .i64 0, (.string (ByteArray.mk #[]))] from Blk.new (w.alloc (.cells #[.int .i64 3, .int .i64 f, .int .i64 t, .string (strOf b), .int .i64 i, .int .i64 at', .int .u8 turn] 33)) 34 [.int .i64 0, .int .i64 0, (.string (ByteArray.mk #[]))])
  rw [hs1] at KR1
  have x0 := KX1.out.cell 0
  have x1 := KX1.out.cell 1
  have x2 := KX1.out.cell 2
  have x3 := KX1.out.cell 3
  have x4 := KX1.out.cell 4
  have x5 := KX1.out.cell 5
  have x6 := KX1.out.cell 6
  simp only [List.getElem?_cons_zero, List.getElem?_cons_succ] at x0 x1 x2 x3 x4 x5 x6
  have Kh := Kept.mk (show NetAt ((w.alloc (.cells #[.int .i64 3, .int .i64 f, .int .i64 t, .string (strOf b), .int .i64 i, .int .i64 at', .int .u8 turn] 33)).alloc (.cells #[.int .i64 0, .int .i64 0, (.string (ByteArray.mk #[]))] 34)) B g places v l from h.ext KE1.out)
  have Khb := Kept.mk hb
  have hRl := KR1.out.lt
  change Calls _ _ #[_, .agg #[.int .i64 3, .int .i64 f, .int .i64 t, .string (strOf b), .int .i64 i, .int .i64 at', .int .u8 turn]] _ _
  clear h hb hE1 hX hs1
  have KC := Kept.mk (double_any B g places v l hl Khb.out i _ Kh.out)
  generalize doubleP places l i = r at KC ⊢
  obtain ⟨r1, r2⟩ := r
  go_enter Try.func10, Try.ntmps10
  go_wp2_with fail
  generalize ((w.alloc (.cells #[.int .i64 3, .int .i64 f, .int .i64 t, .string (strOf b), .int .i64 i, .int .i64 at', .int .u8 turn] 33)).alloc (.cells #[.int .i64 0, .int .i64 0, (.string (ByteArray.mk #[]))] 34)) = wq at KE1 KX1 KR1 Kh KC hRl x0 x1 x2 x3 x4 x5 x6 ⊢
  refine KC.out.mono ?_
  rintro e w2 ⟨rfl, v', k1, k2, k3⟩
  have hnR : w.heap.size + 1 ∉ g :: own v := fun hm => by have := hgo _ hm; omega
  have hR2 := KR1.out.touch k2 hnR
  obtain ⟨⟨r10, r11, r12⟩, r1f, r1g, r1h⟩ := Blk.three hR2
  have KF := Kept.mk (do_end KE1.out hgo (Nat.le_succ _) k1 k2 k3 hR2 hRl (.int .i64 0) (.int .i64 0) (.string (ByteArray.mk #[])))
  clear KC hR2 k1 k2 k3 KE1 KR1 Kh KX1
  go_wp2_with fail
  change bodyPost _ _ _ _ _ (put3 _ (w.heap.size + 1) (.int .i64 0) (.int .i64 0) (.string (ByteArray.mk #[])))
  obtain ⟨n1, n2, n3, n4⟩ := KF.out
  obtain ⟨⟨f0, f1, f2⟩, -⟩ := Blk.three n4
  exact bodyPost_ret (v := .tuple #[.agg #[(.int .i64 0), (.int .i64 0), (.string (ByteArray.mk #[]))], .bool r2, .int .i64 0]) (by simp [results, Try.results10, go_sem, f0, f1, f2]) rfl ⟨rfl, _, n1, n2, n3⟩
set_option maxRecDepth 100000 in
set_option maxHeartbeats 2000000 in
theorem do_spoil (B g : Nat) (places : Int) (v : Value) (l : List Pk) (hl : l.length ≤ 100000) (hb : ∀ p ∈ l, p.b.length ≤ 1048576) (a : Act) (ha : ActOk a) (hk : a.k = 4) (w : World) (h : NetAt w B g places v l) :
    Calls Try.prog 10 #[.pointer (some ⟨g, 0, none⟩), .agg (actV a).toArray] w (DoE w B g places v (doP places l a)) := by
  have hdo : doP places l a = ((spoilP l a.i a.at' a.turn).1, noPk, (spoilP l a.i a.at' a.turn).2, 0) := by unfold doP; rw [if_neg (by omega), if_neg (by omega), if_neg (by omega), if_neg (by omega), if_pos hk]
  rw [hdo]
  clear hdo
  obtain ⟨k, ⟨f, t, b⟩, i, at', turn⟩ := a
  obtain ⟨hab, hat0, hat1⟩ := ha
  simp only [] at hk hab hat0 hat1
  subst hk
  have hgo : ∀ j ∈ g :: own v, j < w.heap.size := fun j hj => (h.owns j hj).2
  have hE1 := Ext.alloc w (.cells #[.int .i64 4, .int .i64 f, .int .i64 t, .string (strOf b), .int .i64 i, .int .i64 at', .int .u8 turn] 33)
  have hX : Blk (w.alloc (.cells #[.int .i64 4, .int .i64 f, .int .i64 t, .string (strOf b), .int .i64 i, .int .i64 at', .int .u8 turn] 33)) w.heap.size 33 [.int .i64 4, .int .i64 f, .int .i64 t, .string (strOf b), .int .i64 i, .int .i64 at', .int .u8 turn] := Blk.new _ _ _
  have hs1 : (w.alloc (.cells #[.int .i64 4, .int .i64 f, .int .i64 t, .string (strOf b), .int .i64 i, .int .i64 at', .int .u8 turn] 33)).heap.size = w.heap.size + 1 := by simp
  have KX1 := Kept.mk (show Blk ((w.alloc (.cells #[.int .i64 4, .int .i64 f, .int .i64 t, .string (strOf b), .int .i64 i, .int .i64 at', .int .u8 turn] 33)).alloc (.cells #[.int .i64 0, .int .i64 0, (.string (ByteArray.mk #[]))] 34)) _ _ _ from hX.ext (Ext.alloc _ _))
  have KE1 := Kept.mk (show Ext w ((w.alloc (.cells #[.int .i64 4, .int .i64 f, .int .i64 t, .string (strOf b), .int .i64 i, .int .i64 at', .int .u8 turn] 33)).alloc (.cells #[.int .i64 0, .int .i64 0, (.string (ByteArray.mk #[]))] 34)) from hE1.trans (Ext.alloc _ _))
  have KR1 := Kept.mk (show Blk ((w.alloc (.cells #[.int .i64 4, .int .i64 f, .int .i64 t, .string (strOf b), .int .i64 i, .int .i64 at', .int .u8 turn] 33)).alloc (.cells #[.int .i64 0, .int .i64 0, (.string (ByteArray.mk #[]))] 34)) (w.alloc (.cells #[.int .i64 4, .int .i64 f, .int .i64 t, .string (strOf b), .int .i64 i, .int .i64 at', .int .u8 turn] 33)).heap.size _ [.int .i64 0, .int .i64 0, (.string (ByteArray.mk #[]))] from Blk.new (w.alloc (.cells #[.int .i64 4, .int .i64 f, .int .i64 t, .string (strOf b), .int .i64 i, .int .i64 at', .int .u8 turn] 33)) 34 [.int .i64 0, .int .i64 0, (.string (ByteArray.mk #[]))])
  rw [hs1] at KR1
  have x0 := KX1.out.cell 0
  have x1 := KX1.out.cell 1
  have x2 := KX1.out.cell 2
  have x3 := KX1.out.cell 3
  have x4 := KX1.out.cell 4
  have x5 := KX1.out.cell 5
  have x6 := KX1.out.cell 6
  simp only [List.getElem?_cons_zero, List.getElem?_cons_succ] at x0 x1 x2 x3 x4 x5 x6
  have Kh := Kept.mk (show NetAt ((w.alloc (.cells #[.int .i64 4, .int .i64 f, .int .i64 t, .string (strOf b), .int .i64 i, .int .i64 at', .int .u8 turn] 33)).alloc (.cells #[.int .i64 0, .int .i64 0, (.string (ByteArray.mk #[]))] 34)) B g places v l from h.ext KE1.out)
  have Khb := Kept.mk hb
  have hRl := KR1.out.lt
  change Calls _ _ #[_, .agg #[.int .i64 4, .int .i64 f, .int .i64 t, .string (strOf b), .int .i64 i, .int .i64 at', .int .u8 turn]] _ _
  clear h hb hE1 hX hs1
  have KC := Kept.mk (spoil_any B g places v l hl Khb.out i at' turn hat0 hat1 _ Kh.out)
  generalize spoilP l i at' turn = r at KC ⊢
  obtain ⟨r1, r2⟩ := r
  go_enter Try.func10, Try.ntmps10
  go_wp2_with fail
  generalize ((w.alloc (.cells #[.int .i64 4, .int .i64 f, .int .i64 t, .string (strOf b), .int .i64 i, .int .i64 at', .int .u8 turn] 33)).alloc (.cells #[.int .i64 0, .int .i64 0, (.string (ByteArray.mk #[]))] 34)) = wq at KE1 KX1 KR1 Kh KC hRl x0 x1 x2 x3 x4 x5 x6 ⊢
  refine KC.out.mono ?_
  rintro e w2 ⟨rfl, v', k1, k2, k3⟩
  have hnR : w.heap.size + 1 ∉ g :: own v := fun hm => by have := hgo _ hm; omega
  have hR2 := KR1.out.touch k2 hnR
  obtain ⟨⟨r10, r11, r12⟩, r1f, r1g, r1h⟩ := Blk.three hR2
  have KF := Kept.mk (do_end KE1.out hgo (Nat.le_succ _) k1 k2 k3 hR2 hRl (.int .i64 0) (.int .i64 0) (.string (ByteArray.mk #[])))
  clear KC hR2 k1 k2 k3 KE1 KR1 Kh KX1
  go_wp2_with fail
  change bodyPost _ _ _ _ _ (put3 _ (w.heap.size + 1) (.int .i64 0) (.int .i64 0) (.string (ByteArray.mk #[])))
  obtain ⟨n1, n2, n3, n4⟩ := KF.out
  obtain ⟨⟨f0, f1, f2⟩, -⟩ := Blk.three n4
  exact bodyPost_ret (v := .tuple #[.agg #[(.int .i64 0), (.int .i64 0), (.string (ByteArray.mk #[]))], .bool r2, .int .i64 0]) (by simp [results, Try.results10, go_sem, f0, f1, f2]) rfl ⟨rfl, _, n1, n2, n3⟩
set_option maxRecDepth 100000 in
set_option maxHeartbeats 2000000 in
theorem do_empty (B g : Nat) (places : Int) (v : Value) (l : List Pk) (hl : l.length ≤ 100000) (hb : ∀ p ∈ l, p.b.length ≤ 1048576) (a : Act) (ha : ActOk a) (hk : a.k = 5) (w : World) (h : NetAt w B g places v l) :
    Calls Try.prog 10 #[.pointer (some ⟨g, 0, none⟩), .agg (actV a).toArray] w (DoE w B g places v (doP places l a)) := by
  have hdo : doP places l a = (emptyP l a.i, noPk, false, (l.length : Int) - (emptyP l a.i).length) := by unfold doP; rw [if_neg (by omega), if_neg (by omega), if_neg (by omega), if_neg (by omega), if_neg (by omega), if_pos hk]
  rw [hdo]
  clear hdo
  obtain ⟨k, ⟨f, t, b⟩, i, at', turn⟩ := a
  obtain ⟨hab, hat0, hat1⟩ := ha
  simp only [] at hk hab hat0 hat1
  subst hk
  have hgo : ∀ j ∈ g :: own v, j < w.heap.size := fun j hj => (h.owns j hj).2
  have hE1 := Ext.alloc w (.cells #[.int .i64 5, .int .i64 f, .int .i64 t, .string (strOf b), .int .i64 i, .int .i64 at', .int .u8 turn] 33)
  have hX : Blk (w.alloc (.cells #[.int .i64 5, .int .i64 f, .int .i64 t, .string (strOf b), .int .i64 i, .int .i64 at', .int .u8 turn] 33)) w.heap.size 33 [.int .i64 5, .int .i64 f, .int .i64 t, .string (strOf b), .int .i64 i, .int .i64 at', .int .u8 turn] := Blk.new _ _ _
  have hs1 : (w.alloc (.cells #[.int .i64 5, .int .i64 f, .int .i64 t, .string (strOf b), .int .i64 i, .int .i64 at', .int .u8 turn] 33)).heap.size = w.heap.size + 1 := by simp
  have KX1 := Kept.mk (show Blk ((w.alloc (.cells #[.int .i64 5, .int .i64 f, .int .i64 t, .string (strOf b), .int .i64 i, .int .i64 at', .int .u8 turn] 33)).alloc (.cells #[.int .i64 0, .int .i64 0, (.string (ByteArray.mk #[]))] 34)) _ _ _ from hX.ext (Ext.alloc _ _))
  have KE1 := Kept.mk (show Ext w ((w.alloc (.cells #[.int .i64 5, .int .i64 f, .int .i64 t, .string (strOf b), .int .i64 i, .int .i64 at', .int .u8 turn] 33)).alloc (.cells #[.int .i64 0, .int .i64 0, (.string (ByteArray.mk #[]))] 34)) from hE1.trans (Ext.alloc _ _))
  have KR1 := Kept.mk (show Blk ((w.alloc (.cells #[.int .i64 5, .int .i64 f, .int .i64 t, .string (strOf b), .int .i64 i, .int .i64 at', .int .u8 turn] 33)).alloc (.cells #[.int .i64 0, .int .i64 0, (.string (ByteArray.mk #[]))] 34)) (w.alloc (.cells #[.int .i64 5, .int .i64 f, .int .i64 t, .string (strOf b), .int .i64 i, .int .i64 at', .int .u8 turn] 33)).heap.size _ [.int .i64 0, .int .i64 0, (.string (ByteArray.mk #[]))] from Blk.new (w.alloc (.cells #[.int .i64 5, .int .i64 f, .int .i64 t, .string (strOf b), .int .i64 i, .int .i64 at', .int .u8 turn] 33)) 34 [.int .i64 0, .int .i64 0, (.string (ByteArray.mk #[]))])
  rw [hs1] at KR1
  have x0 := KX1.out.cell 0
  have x1 := KX1.out.cell 1
  have x2 := KX1.out.cell 2
  have x3 := KX1.out.cell 3
  have x4 := KX1.out.cell 4
  have x5 := KX1.out.cell 5
  have x6 := KX1.out.cell 6
  simp only [List.getElem?_cons_zero, List.getElem?_cons_succ] at x0 x1 x2 x3 x4 x5 x6
  have Kh := Kept.mk (show NetAt ((w.alloc (.cells #[.int .i64 5, .int .i64 f, .int .i64 t, .string (strOf b), .int .i64 i, .int .i64 at', .int .u8 turn] 33)).alloc (.cells #[.int .i64 0, .int .i64 0, (.string (ByteArray.mk #[]))] 34)) B g places v l from h.ext KE1.out)
  have Khb := Kept.mk hb
  have hRl := KR1.out.lt
  change Calls _ _ #[_, .agg #[.int .i64 5, .int .i64 f, .int .i64 t, .string (strOf b), .int .i64 i, .int .i64 at', .int .u8 turn]] _ _
  clear h hb hE1 hX hs1
  have KC := Kept.mk (empty_any B g places v l hl i _ Kh.out)
  generalize emptyP l i = r at KC ⊢
  go_enter Try.func10, Try.ntmps10
  go_wp2_with fail
  generalize ((w.alloc (.cells #[.int .i64 5, .int .i64 f, .int .i64 t, .string (strOf b), .int .i64 i, .int .i64 at', .int .u8 turn] 33)).alloc (.cells #[.int .i64 0, .int .i64 0, (.string (ByteArray.mk #[]))] 34)) = wq at KE1 KX1 KR1 Kh KC hRl x0 x1 x2 x3 x4 x5 x6 ⊢
  refine KC.out.mono ?_
  rintro e w2 ⟨rfl, v', k1, k2, k3⟩
  have hnR : w.heap.size + 1 ∉ g :: own v := fun hm => by have := hgo _ hm; omega
  have hR2 := KR1.out.touch k2 hnR
  obtain ⟨⟨r10, r11, r12⟩, r1f, r1g, r1h⟩ := Blk.three hR2
  have KF := Kept.mk (do_end KE1.out hgo (Nat.le_succ _) k1 k2 k3 hR2 hRl (.int .i64 0) (.int .i64 0) (.string (ByteArray.mk #[])))
  clear KC hR2 k1 k2 k3 KE1 KR1 Kh KX1
  go_wp2_with fail
  change bodyPost _ _ _ _ _ (put3 _ (w.heap.size + 1) (.int .i64 0) (.int .i64 0) (.string (ByteArray.mk #[])))
  obtain ⟨n1, n2, n3, n4⟩ := KF.out
  obtain ⟨⟨f0, f1, f2⟩, -⟩ := Blk.three n4
  exact bodyPost_ret (v := .tuple #[.agg #[(.int .i64 0), (.int .i64 0), (.string (ByteArray.mk #[]))], .bool false, .int .i64 ((l.length : Int) - r.length)]) (by simp [results, Try.results10, go_sem, f0, f1, f2]) rfl ⟨rfl, _, n1, n2, n3⟩
set_option maxRecDepth 100000 in
set_option maxHeartbeats 2000000 in
theorem do_other (B g : Nat) (places : Int) (v : Value) (l : List Pk) (hl : l.length ≤ 100000) (hb : ∀ p ∈ l, p.b.length ≤ 1048576) (a : Act) (ha : ActOk a) (hk : a.k < 0 ∨ 5 < a.k) (w : World) (h : NetAt w B g places v l) :
    Calls Try.prog 10 #[.pointer (some ⟨g, 0, none⟩), .agg (actV a).toArray] w (DoE w B g places v (doP places l a)) := by
  have hdo : doP places l a = (l, noPk, false, 0) := by unfold doP; rw [if_neg (by omega), if_neg (by omega), if_neg (by omega), if_neg (by omega), if_neg (by omega), if_neg (by omega)]
  rw [hdo]
  clear hdo
  obtain ⟨k, ⟨f, t, b⟩, i, at', turn⟩ := a
  obtain ⟨hab, hat0, hat1⟩ := ha
  simp only [] at hk hab hat0 hat1
  have hgo : ∀ j ∈ g :: own v, j < w.heap.size := fun j hj => (h.owns j hj).2
  have hE1 := Ext.alloc w (.cells #[.int .i64 k, .int .i64 f, .int .i64 t, .string (strOf b), .int .i64 i, .int .i64 at', .int .u8 turn] 33)
  have hX : Blk (w.alloc (.cells #[.int .i64 k, .int .i64 f, .int .i64 t, .string (strOf b), .int .i64 i, .int .i64 at', .int .u8 turn] 33)) w.heap.size 33 [.int .i64 k, .int .i64 f, .int .i64 t, .string (strOf b), .int .i64 i, .int .i64 at', .int .u8 turn] := Blk.new _ _ _
  have hs1 : (w.alloc (.cells #[.int .i64 k, .int .i64 f, .int .i64 t, .string (strOf b), .int .i64 i, .int .i64 at', .int .u8 turn] 33)).heap.size = w.heap.size + 1 := by simp
  have KX1 := Kept.mk (show Blk ((w.alloc (.cells #[.int .i64 k, .int .i64 f, .int .i64 t, .string (strOf b), .int .i64 i, .int .i64 at', .int .u8 turn] 33)).alloc (.cells #[.int .i64 0, .int .i64 0, (.string (ByteArray.mk #[]))] 34)) _ _ _ from hX.ext (Ext.alloc _ _))
  have KE1 := Kept.mk (show Ext w ((w.alloc (.cells #[.int .i64 k, .int .i64 f, .int .i64 t, .string (strOf b), .int .i64 i, .int .i64 at', .int .u8 turn] 33)).alloc (.cells #[.int .i64 0, .int .i64 0, (.string (ByteArray.mk #[]))] 34)) from hE1.trans (Ext.alloc _ _))
  have KR1 := Kept.mk (show Blk ((w.alloc (.cells #[.int .i64 k, .int .i64 f, .int .i64 t, .string (strOf b), .int .i64 i, .int .i64 at', .int .u8 turn] 33)).alloc (.cells #[.int .i64 0, .int .i64 0, (.string (ByteArray.mk #[]))] 34)) (w.alloc (.cells #[.int .i64 k, .int .i64 f, .int .i64 t, .string (strOf b), .int .i64 i, .int .i64 at', .int .u8 turn] 33)).heap.size _ [.int .i64 0, .int .i64 0, (.string (ByteArray.mk #[]))] from Blk.new (w.alloc (.cells #[.int .i64 k, .int .i64 f, .int .i64 t, .string (strOf b), .int .i64 i, .int .i64 at', .int .u8 turn] 33)) 34 [.int .i64 0, .int .i64 0, (.string (ByteArray.mk #[]))])
  rw [hs1] at KR1
  have x0 := KX1.out.cell 0
  have x1 := KX1.out.cell 1
  have x2 := KX1.out.cell 2
  have x3 := KX1.out.cell 3
  have x4 := KX1.out.cell 4
  have x5 := KX1.out.cell 5
  have x6 := KX1.out.cell 6
  simp only [List.getElem?_cons_zero, List.getElem?_cons_succ] at x0 x1 x2 x3 x4 x5 x6
  have Kh := Kept.mk (show NetAt ((w.alloc (.cells #[.int .i64 k, .int .i64 f, .int .i64 t, .string (strOf b), .int .i64 i, .int .i64 at', .int .u8 turn] 33)).alloc (.cells #[.int .i64 0, .int .i64 0, (.string (ByteArray.mk #[]))] 34)) B g places v l from h.ext KE1.out)
  have Khb := Kept.mk hb
  have hRl := KR1.out.lt
  change Calls _ _ #[_, .agg #[.int .i64 k, .int .i64 f, .int .i64 t, .string (strOf b), .int .i64 i, .int .i64 at', .int .u8 turn]] _ _
  clear h hb hE1 hX hs1
  obtain ⟨⟨r10, r11, r12⟩, r1f, r1g, r1h⟩ := Blk.three KR1.out
  have KN := Kept.mk (show _ ∧ _ from ⟨Kh.out, Touch.of_ext (S := g :: own v) KE1.out⟩)
  have q0 : (k == 0) = false := by rw [beq_eq_false_iff_ne]; omega
  have q1 : (k == 1) = false := by rw [beq_eq_false_iff_ne]; omega
  have q2 : (k == 2) = false := by rw [beq_eq_false_iff_ne]; omega
  have q3 : (k == 3) = false := by rw [beq_eq_false_iff_ne]; omega
  have q4 : (k == 4) = false := by rw [beq_eq_false_iff_ne]; omega
  have q5 : (k == 5) = false := by rw [beq_eq_false_iff_ne]; omega
  clear KE1 KR1 Kh KX1 hk
  go_enter Try.func10, Try.ntmps10
  go_wp2_with fail
  obtain ⟨n1, n2⟩ := KN.out
  exact bodyPost_ret (v := .tuple #[.agg #[.int .i64 0, .int .i64 0, (.string (ByteArray.mk #[]))], .bool false, .int .i64 0]) (by simp [results, Try.results10, go_sem, r10, r11, r12]) rfl ⟨rfl, _, n1, n2, fun j hj => .inl hj⟩
set_option maxRecDepth 100000 in
set_option maxHeartbeats 2000000 in
theorem do_take (B g : Nat) (places : Int) (v : Value) (l : List Pk) (hl : l.length ≤ 100000) (hb : ∀ p ∈ l, p.b.length ≤ 1048576) (a : Act) (ha : ActOk a) (hk : a.k = 1) (w : World) (h : NetAt w B g places v l) :
    Calls Try.prog 10 #[.pointer (some ⟨g, 0, none⟩), .agg (actV a).toArray] w (DoE w B g places v (doP places l a)) := by
  have hdo : doP places l a = ((takeP l a.i).1, (takeP l a.i).2.1, (takeP l a.i).2.2, 0) := by unfold doP; rw [if_neg (by omega), if_pos hk]
  rw [hdo]
  clear hdo
  obtain ⟨k, ⟨f, t, b⟩, i, at', turn⟩ := a
  obtain ⟨hab, hat0, hat1⟩ := ha
  simp only [] at hk hab hat0 hat1
  subst hk
  have hgo : ∀ j ∈ g :: own v, j < w.heap.size := fun j hj => (h.owns j hj).2
  have hE1 := Ext.alloc w (.cells #[.int .i64 1, .int .i64 f, .int .i64 t, .string (strOf b), .int .i64 i, .int .i64 at', .int .u8 turn] 33)
  have hX : Blk (w.alloc (.cells #[.int .i64 1, .int .i64 f, .int .i64 t, .string (strOf b), .int .i64 i, .int .i64 at', .int .u8 turn] 33)) w.heap.size 33 [.int .i64 1, .int .i64 f, .int .i64 t, .string (strOf b), .int .i64 i, .int .i64 at', .int .u8 turn] := Blk.new _ _ _
  have hs1 : (w.alloc (.cells #[.int .i64 1, .int .i64 f, .int .i64 t, .string (strOf b), .int .i64 i, .int .i64 at', .int .u8 turn] 33)).heap.size = w.heap.size + 1 := by simp
  have KX1 := Kept.mk (show Blk ((w.alloc (.cells #[.int .i64 1, .int .i64 f, .int .i64 t, .string (strOf b), .int .i64 i, .int .i64 at', .int .u8 turn] 33)).alloc (.cells #[.int .i64 0, .int .i64 0, (.string (ByteArray.mk #[]))] 34)) _ _ _ from hX.ext (Ext.alloc _ _))
  have KE1 := Kept.mk (show Ext w ((w.alloc (.cells #[.int .i64 1, .int .i64 f, .int .i64 t, .string (strOf b), .int .i64 i, .int .i64 at', .int .u8 turn] 33)).alloc (.cells #[.int .i64 0, .int .i64 0, (.string (ByteArray.mk #[]))] 34)) from hE1.trans (Ext.alloc _ _))
  have KR1 := Kept.mk (show Blk ((w.alloc (.cells #[.int .i64 1, .int .i64 f, .int .i64 t, .string (strOf b), .int .i64 i, .int .i64 at', .int .u8 turn] 33)).alloc (.cells #[.int .i64 0, .int .i64 0, (.string (ByteArray.mk #[]))] 34)) (w.alloc (.cells #[.int .i64 1, .int .i64 f, .int .i64 t, .string (strOf b), .int .i64 i, .int .i64 at', .int .u8 turn] 33)).heap.size _ [.int .i64 0, .int .i64 0, (.string (ByteArray.mk #[]))] from Blk.new (w.alloc (.cells #[.int .i64 1, .int .i64 f, .int .i64 t, .string (strOf b), .int .i64 i, .int .i64 at', .int .u8 turn] 33)) 34 [.int .i64 0, .int .i64 0, (.string (ByteArray.mk #[]))])
  rw [hs1] at KR1
  have x0 := KX1.out.cell 0
  have x1 := KX1.out.cell 1
  have x2 := KX1.out.cell 2
  have x3 := KX1.out.cell 3
  have x4 := KX1.out.cell 4
  have x5 := KX1.out.cell 5
  have x6 := KX1.out.cell 6
  simp only [List.getElem?_cons_zero, List.getElem?_cons_succ] at x0 x1 x2 x3 x4 x5 x6
  have Kh := Kept.mk (show NetAt ((w.alloc (.cells #[.int .i64 1, .int .i64 f, .int .i64 t, .string (strOf b), .int .i64 i, .int .i64 at', .int .u8 turn] 33)).alloc (.cells #[.int .i64 0, .int .i64 0, (.string (ByteArray.mk #[]))] 34)) B g places v l from h.ext KE1.out)
  have Khb := Kept.mk hb
  have hRl := KR1.out.lt
  change Calls _ _ #[_, .agg #[.int .i64 1, .int .i64 f, .int .i64 t, .string (strOf b), .int .i64 i, .int .i64 at', .int .u8 turn]] _ _
  clear h hb hE1 hX hs1
  have KC := Kept.mk (take_any B g places v l hl i _ Kh.out)
  generalize takeP l i = r at KC ⊢
  obtain ⟨r1, ⟨pf, pt, pb⟩, r2⟩ := r
  go_enter Try.func10, Try.ntmps10
  go_wp2_with fail
  generalize ((w.alloc (.cells #[.int .i64 1, .int .i64 f, .int .i64 t, .string (strOf b), .int .i64 i, .int .i64 at', .int .u8 turn] 33)).alloc (.cells #[.int .i64 0, .int .i64 0, (.string (ByteArray.mk #[]))] 34)) = wq at KE1 KX1 KR1 Kh KC hRl x0 x1 x2 x3 x4 x5 x6 ⊢
  refine KC.out.mono ?_
  rintro e w2 ⟨rfl, v', k1, k2, k3⟩
  have hnR : w.heap.size + 1 ∉ g :: own v := fun hm => by have := hgo _ hm; omega
  have hE3 := Ext.alloc w2 (.cells #[.int .i64 pf, .int .i64 pt, .string (strOf pb)] 34)
  have hR3 : Blk (w2.alloc (.cells #[.int .i64 pf, .int .i64 pt, .string (strOf pb)] 34)) w2.heap.size 34 [.int .i64 pf, .int .i64 pt, .string (strOf pb)] := Blk.new _ _ _
  have hR2 := (KR1.out.touch k2 hnR).ext hE3
  have k1' := k1.ext hE3
  have k2' := k2.trans (Touch.of_ext (S := []) hE3) (by simp)
  obtain ⟨⟨r10, r11, r12⟩, r1f, r1g, r1h⟩ := Blk.three hR2
  obtain ⟨⟨s10, s11, s12⟩, -⟩ := Blk.three hR3
  have KF := Kept.mk (do_end KE1.out hgo (Nat.le_succ _) k1' k2' k3 hR2 hRl (.int .i64 pf) (.int .i64 pt) (.string (strOf pb)))
  simp only [pk]
  clear KC hR2 hE3 hR3 k1 k2 k3 k1' k2' KE1 KR1 Kh KX1
  go_wp2_with fail
  change bodyPost _ _ _ _ _ (put3 _ (w.heap.size + 1) (.int .i64 pf) (.int .i64 pt) (.string (strOf pb)))
  obtain ⟨n1, n2, n3, n4⟩ := KF.out
  obtain ⟨⟨f0, f1, f2⟩, -⟩ := Blk.three n4
  exact bodyPost_ret (v := .tuple #[.agg #[(.int .i64 pf), (.int .i64 pt), (.string (strOf pb))], .bool r2, .int .i64 0]) (by simp [results, Try.results10, go_sem, f0, f1, f2]) rfl ⟨rfl, _, n1, n2, n3⟩
theorem do_any (B g : Nat) (places : Int) (v : Value) (l : List Pk) (hl : l.length ≤ 100000) (hb : ∀ p ∈ l, p.b.length ≤ 1048576) (a : Act) (ha : ActOk a) (w : World) (h : NetAt w B g places v l) :
    Calls Try.prog 10 #[.pointer (some ⟨g, 0, none⟩), .agg (actV a).toArray] w (DoE w B g places v (doP places l a)) := by
  rcases (show a.k = 0 ∨ a.k = 1 ∨ a.k = 2 ∨ a.k = 3 ∨ a.k = 4 ∨ a.k = 5 ∨ (a.k < 0 ∨ 5 < a.k) by omega) with hk | hk | hk | hk | hk | hk | hk
  · exact do_send B g places v l hl hb a ha hk w h
  · exact do_take B g places v l hl hb a ha hk w h
  · exact do_lose B g places v l hl hb a ha hk w h
  · exact do_double B g places v l hl hb a ha hk w h
  · exact do_spoil B g places v l hl hb a ha hk w h
  · exact do_empty B g places v l hl hb a ha hk w h
  · exact do_other B g places v l hl hb a ha hk w h
end Net
end Go.Proofs.Ytpdaijmehaialaa
