/- The walks of net's Take and Lose. No condition. -/
import Derived.Test.YtpdaijmehaialaaNetWalkB
namespace Go.Proofs.Ytpdaijmehaialaa
open Go.RowKit
namespace Net
set_option linter.unusedSimpArgs false
set_option linter.unusedVariables false
theorem take_split {α : Type} (l : List α) (k : Nat) (h : k < l.length) : l.length = k + 1 + (l.length - (k + 1)) := by omega
def put3 (w : World) (g : Nat) (x y z : Value) : World := ((w.setCell ⟨g, 0, none⟩ x).setCell ⟨g, 1, none⟩ y).setCell ⟨g, 2, none⟩ z
theorem Blk.put3 {w : World} {g : Nat} {T : TypeId} {a b c : Value} (h : Blk w g T [a, b, c]) (x y z : Value) : Blk (put3 w g x y z) g T [x, y, z] ∧ Touch [g] w (put3 w g x y z) :=
  ⟨((h.set 0 x).set 1 y).set 2 z, ((Touch.set w ⟨g, 0, none⟩ x).trans (Touch.set _ ⟨g, 1, none⟩ y) (fun j hj => .inl hj)).trans (Touch.set _ ⟨g, 2, none⟩ z) (fun j hj => .inl hj)⟩
theorem Blk.three {w : World} {g : Nat} {T : TypeId} {a b c : Value} (h : Blk w g T [a, b, c]) : (w.cell? ⟨g, 0, none⟩ = some a ∧ w.cell? ⟨g, 1, none⟩ = some b ∧ w.cell? ⟨g, 2, none⟩ = some c) ∧ w.frozen? ⟨g, 0, none⟩ = false ∧ w.frozen? ⟨g, 1, none⟩ = false ∧ w.frozen? ⟨g, 2, none⟩ = false :=
  ⟨⟨h.cell 0, h.cell 1, h.cell 2⟩, h.free 0, h.free 1, h.free 2⟩
set_option maxRecDepth 100000 in
set_option maxHeartbeats 2000000 in
theorem take_any (B g : Nat) (places : Int) (v : Value) (l : List Pk) (hl : l.length ≤ 100000) (i : Int) (w : World) (h : NetAt w B g places v l) :
    Calls Try.prog 14 #[.pointer (some ⟨g, 0, none⟩), .int .i64 i] w (NetE w B g places v (takeP l i).1 (.tuple #[.agg (pk (takeP l i).2.1).toArray, .bool (takeP l i).2.2])) := by
  have hgo := h.owns
  have Kgo := Kept.mk hgo
  have hgw := (hgo g (by simp)).2
  have hBg := (hgo g (by simp)).1
  by_cases ht : thereB l i = true
  · obtain ⟨k, hk⟩ : ∃ k : Nat, i = (k : Int) := ⟨i.toNat, by simp [thereB] at ht; omega⟩
    subst hk
    have hkl : k < l.length := by simp [thereB] at ht; omega
    have hkI : (k : Int) < (l.length : Int) := by omega
    have hkI2 : (k : Int) + 1 ≤ (l.length : Int) := by omega
    have hd : takeP l (k : Int) = (l.take k ++ l.drop (k + 1), l.getD k noPk, true) := by
      unfold takeP
      rw [if_pos ht, Int.toNat_natCast]
    rw [hd]
    obtain ⟨A, cap, rfl⟩ := h.form
    obtain ⟨p, hp⟩ : ∃ p, p = l.getD k noPk := ⟨_, rfl⟩
    rw [← hp]
    have Kp := Kept.mk hp
    obtain ⟨L2, hL2⟩ : ∃ L2, L2 = l.take k ++ l.drop (k + 1) := ⟨_, rfl⟩
    show Calls _ _ _ _ (NetE w B g places _ (l.take k ++ l.drop (k + 1)) (.tuple #[.agg #[.int .i64 p.f, .int .i64 p.t, .string (strOf p.b)], .bool true]))
    rw [← hL2]
    have KL2 := Kept.mk hL2
    clear hp hL2
    have hE := Ext.alloc w (.cells #[.int .i64 0, .int .i64 0, .string (ByteArray.mk #[])] 34)
    have hR : Blk (w.alloc (.cells #[.int .i64 0, .int .i64 0, .string (ByteArray.mk #[])] 34)) w.heap.size 34 [.int .i64 0, .int .i64 0, .string (ByteArray.mk #[])] := Blk.new _ _ _
    have Kh := Kept.mk h
    have Kht := Kept.mk ht
    clear ht hd h
    go_enter Try.func14, Try.ntmps14
    go_wp2_with fail
    generalize (w.alloc (.cells #[.int .i64 0, .int .i64 0, .string (ByteArray.mk #[])] 34)) = wq at hE hR ⊢
    have h2 := Kh.out.ext hE
    have Kh2 := Kept.mk h2
    have KE := Kept.mk hE
    have KR := Kept.mk hR
    obtain ⟨b, off, rfl, p0, p1, p2⟩ := h2.at hkl
    have c1 := h2.c1
    rw [← Kp.out] at p0 p1 p2
    clear h2 hE hR
    refine (there_any B g places _ l k _ Kh2.out).mono ?_
    rintro e w1 ⟨rfl, rfl⟩
    rw [Kht.out]
    have hEz := Ext.alloc wq (.cells #[.int .i64 p.f, .int .i64 p.t, .string (strOf p.b)] 34)
    have hR2 : Blk (wq.alloc (.cells #[.int .i64 p.f, .int .i64 p.t, .string (strOf p.b)] 34)) wq.heap.size 34 [.int .i64 p.f, .int .i64 p.t, .string (strOf p.b)] := Blk.new _ _ _
    have c1b := hEz.cell c1
    have KEz := Kept.mk hEz
    have KR2 := Kept.mk hR2
    clear hEz hR2 hgo
    go_wp2_with fail
    generalize (wq.alloc (.cells #[.int .i64 p.f, .int .i64 p.t, .string (strOf p.b)] 34)) = wz at c1b KEz KR2 ⊢
    have hz := (Kh2.out.ext KEz.out)
    have hsp := take_split l k hkl
    have hR1 := KR.out.ext KEz.out
    refine (delete_any B _ l.length k (l.length - (k + 1)) cap hsp (l.map pk) (pk_one l) wz hz.2.1).mono ?_
    rintro e w5 ⟨rfl, hV, hT⟩
    have hnR : w.heap.size ∉ own (Value.slice (some ⟨b, off, none⟩) l.length cap) := fun hj => by have := (Kgo.out _ (List.mem_cons_of_mem g hj)).2; omega
    have hnR2 : wq.heap.size ∉ own (Value.slice (some ⟨b, off, none⟩) l.length cap) := fun hj => by have := (Kgo.out _ (List.mem_cons_of_mem g hj)).2; have := KE.out.size; omega
    have hng : g ∉ own (Value.slice (some ⟨b, off, none⟩) l.length cap) := Kh2.out.2.2.2
    have hR1' := hR1.touch hT hnR
    have hR2' := KR2.out.touch hT hnR2
    have c1c := hT.cell c1b hng
    have f1c := (hz.1.touch hT hng).free 1
    have hmap : List.take k (List.map pk l) ++ List.drop (k + 1) (List.map pk l) = L2.map pk := by rw [KL2.out, List.map_append, List.map_take, List.map_drop]
    rw [hmap] at hV
    obtain ⟨N2, hN2⟩ : ∃ N2, N2 = k + (l.length - (k + 1)) := ⟨_, rfl⟩
    rw [← hN2] at hV ⊢
    have Kf := Kept.mk (Kh.out.store (KE.out.trans KEz.out) hT hV (fun j hj => .inl (by rw [own_slice _ _ _ l.length cap] at hj; exact hj)))
    have hgR : w.heap.size ≠ g := by omega
    have hgR2 : wq.heap.size ≠ g := by have := KE.out.size; omega
    have hRR : w.heap.size ≠ wq.heap.size := fun e => by have := KR.out.lt; omega
    have r1 := hR1'.set_other ⟨g, 1, none⟩ (.slice (some ⟨b, off, none⟩) N2 cap) hgR
    have r2 := hR2'.set_other ⟨g, 1, none⟩ (.slice (some ⟨b, off, none⟩) N2 cap) hgR2
    have KR6 := Kept.mk r1
    have r10 := r1.cell 0
    have r11 := r1.cell 1
    have r12 := r1.cell 2
    have r1f := r1.free 0
    have r1g := r1.free 1
    have r1h := r1.free 2
    have r20 := r2.cell 0
    have r21 := r2.cell 1
    have r22 := r2.cell 2
    simp only [List.getElem?_cons_zero, List.getElem?_cons_succ] at r10 r11 r12 r20 r21 r22
    clear hz hR1 hR1' hR2' r1 r2 hV hT hN2 hmap p0 p1 p2 c1 c1b hsp
    go_wp2_with fail
    have hF := ((KR6.out.set 0 (.int .i64 p.f)).set 1 (.int .i64 p.t)).set 2 (.string (strOf p.b))
    have hTF : Touch [w.heap.size] (w5.setCell ⟨g, 1, none⟩ (.slice (some ⟨b, off, none⟩) N2 cap)) ((((w5.setCell ⟨g, 1, none⟩ (.slice (some ⟨b, off, none⟩) N2 cap)).setCell ⟨w.heap.size, 0, none⟩ (.int .i64 p.f)).setCell ⟨w.heap.size, 1, none⟩ (.int .i64 p.t)).setCell ⟨w.heap.size, 2, none⟩ (.string (strOf p.b))) :=
      ((Touch.set _ ⟨w.heap.size, 0, none⟩ _).trans (Touch.set _ ⟨w.heap.size, 1, none⟩ _) (fun j hj => .inl hj)).trans (Touch.set _ ⟨w.heap.size, 2, none⟩ _) (fun j hj => .inl hj)
    have KFt := Kept.mk hTF
    have f0 := hF.cell 0
    have f1 := hF.cell 1
    have f2 := hF.cell 2
    simp only [List.set_cons_zero, List.set_cons_succ, List.getElem?_cons_zero, List.getElem?_cons_succ] at f0 f1 f2
    clear hF hTF r10 r11 r12 r1f r1g r1h r20 r21 r22 KR6
    generalize ((((w5.setCell ⟨g, 1, none⟩ (.slice (some ⟨b, off, none⟩) N2 cap)).setCell ⟨w.heap.size, 0, none⟩ (.int .i64 p.f)).setCell ⟨w.heap.size, 1, none⟩ (.int .i64 p.t)).setCell ⟨w.heap.size, 2, none⟩ (.string (strOf p.b))) = wF at f0 f1 f2 KFt ⊢
    obtain ⟨k1, k2, k3⟩ := Kf.out
    refine bodyPost_ret (v := .tuple #[.agg #[.int .i64 p.f, .int .i64 p.t, .string (strOf p.b)], .bool true]) (by simp [results, Try.results14, go_sem, f0, f1, f2]) rfl ⟨rfl, _, k1.touch KFt.out (fun j hj hm => ?_), k2.trans KFt.out (fun j hj => .inr ?_), k3⟩
    · rw [List.mem_singleton] at hm
      subst hm
      rcases List.mem_cons.1 hj with h | h
      · omega
      · rw [own_slice _ _ _ l.length cap] at h
        exact hnR h
    · rw [List.mem_singleton] at hj
      omega
  · have ht' : thereB l i = false := by simpa using ht
    have hd : takeP l i = (l, noPk, false) := by unfold takeP; rw [if_neg (by simp [ht'])]
    rw [hd]
    have hE := Ext.alloc w (.cells #[.int .i64 0, .int .i64 0, .string (ByteArray.mk #[])] 34)
    have hR : Blk (w.alloc (.cells #[.int .i64 0, .int .i64 0, .string (ByteArray.mk #[])] 34)) w.heap.size 34 [.int .i64 0, .int .i64 0, .string (ByteArray.mk #[])] := Blk.new _ _ _
    have Kh := Kept.mk h
    have Kht := Kept.mk ht'
    clear ht hd h ht' hgo
    show Calls _ _ _ _ (NetE w B g places _ l (.tuple #[.agg #[.int .i64 0, .int .i64 0, .string (ByteArray.mk #[])], .bool false]))
    go_enter Try.func14, Try.ntmps14
    go_wp2_with fail
    generalize (w.alloc (.cells #[.int .i64 0, .int .i64 0, .string (ByteArray.mk #[])] 34)) = wq at hE hR ⊢
    refine (there_any B g places _ l i _ (Kh.out.ext hE)).mono ?_
    rintro e w1 ⟨rfl, rfl⟩
    rw [Kht.out]
    have KE := Kept.mk hE
    have KR := Kept.mk hR
    have r10 := hR.cell 0
    have r11 := hR.cell 1
    have r12 := hR.cell 2
    have r1f := hR.free 0
    have r1g := hR.free 1
    have r1h := hR.free 2
    simp only [List.getElem?_cons_zero, List.getElem?_cons_succ] at r10 r11 r12
    clear hE hR
    go_wp2_with fail
    obtain ⟨hF, hTF⟩ := Blk.put3 KR.out (.int .i64 0) (.int .i64 0) (.string (ByteArray.mk #[]))
    obtain ⟨⟨f0, f1, f2⟩, -⟩ := Blk.three hF
    have KFt := Kept.mk hTF
    change bodyPost _ _ _ _ _ (put3 wq w.heap.size (.int .i64 0) (.int .i64 0) (.string (ByteArray.mk #[])))
    clear hF hTF r10 r11 r12 r1f r1g r1h KR
    generalize put3 wq w.heap.size (.int .i64 0) (.int .i64 0) (.string (ByteArray.mk #[])) = wF at f0 f1 f2 KFt ⊢
    refine bodyPost_ret (v := .tuple #[.agg #[.int .i64 0, .int .i64 0, .string (ByteArray.mk #[])], .bool false]) (by simp [results, Try.results14, go_sem, f0, f1, f2]) rfl ⟨rfl, _, (Kh.out.ext KE.out).touch KFt.out (fun j hj hm => ?_), (Touch.of_ext KE.out).trans KFt.out (fun j hj => .inr ?_), fun j hj => .inl hj⟩
    · rw [List.mem_singleton] at hm
      subst hm
      have := (Kh.out.owns _ hj).2
      omega
    · rw [List.mem_singleton] at hj
      omega
set_option maxRecDepth 100000 in
set_option maxHeartbeats 2000000 in
theorem lose_any (B g : Nat) (places : Int) (v : Value) (l : List Pk) (hl : l.length ≤ 100000) (i : Int) (w : World) (h : NetAt w B g places v l) :
    Calls Try.prog 19 #[.pointer (some ⟨g, 0, none⟩), .int .i64 i] w (NetE w B g places v (takeP l i).1 (.bool (takeP l i).2.2)) := by
  have KT := Kept.mk (take_any B g places v l hl i w h)
  clear h
  generalize takeP l i = r at KT ⊢
  obtain ⟨r1, ⟨f, t, b⟩, r3⟩ := r
  go_enter Try.func19, Try.ntmps19
  go_wp2_with fail
  refine KT.out.mono ?_
  rintro e w1 ⟨rfl, h1⟩
  have K1 := Kept.mk h1
  simp only [pk]
  clear h1
  go_wp2_with fail
  go_ret
  obtain ⟨v', k1, k2, k3⟩ := K1.out
  exact ⟨rfl, v', k1.ext (Ext.alloc _ _), k2.trans (Touch.of_ext (S := []) (Ext.alloc _ _)) (by simp), k3⟩
end Net
end Go.Proofs.Ytpdaijmehaialaa
