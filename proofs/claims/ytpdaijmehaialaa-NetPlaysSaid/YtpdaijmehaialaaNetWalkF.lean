/- The walks of net's Empty and Spoil. No condition. -/
import Derived.Test.YtpdaijmehaialaaNetWalkE
import Derived.Test.YtpdaijmehaialaaNum
namespace Go.Proofs.Ytpdaijmehaialaa
open Go.RowKit
namespace Net
set_option linter.unusedSimpArgs false
set_option linter.unusedVariables false
set_option maxRecDepth 100000 in
set_option maxHeartbeats 2000000 in
theorem empty_any (B g : Nat) (places : Int) (v : Value) (l : List Pk) (hl : l.length ≤ 100000) (i : Int) (w : World) (h : NetAt w B g places v l) :
    Calls Try.prog 17 #[.pointer (some ⟨g, 0, none⟩), .int .i64 i] w (NetE w B g places v (emptyP l i) (.int .i64 ((l.length : Int) - (emptyP l i).length))) := by
  obtain ⟨A, cap, rfl⟩ := h.form
  have Kh := Kept.mk h
  have hgw := (h.owns g (by simp)).2
  have hE := Ext.alloc w (.cells #[.int .i64 i] 3)
  have hR : Blk (w.alloc (.cells #[.int .i64 i] 3)) w.heap.size 3 [.int .i64 i] := Blk.new _ _ _
  have Kle := Kept.mk (show (emptyP l i).length ≤ l.length from List.length_filter_le _ _)
  generalize hL2 : emptyP l i = L2 at Kle ⊢
  have KL2 := Kept.mk hL2
  have hL2b : L2.length ≤ 100000 := by have := Kle.out; omega
  clear hL2
  have h2 := h.ext hE
  have c1 := h2.c1
  have Kh2 := Kept.mk h2
  have KE := Kept.mk hE
  have KR := Kept.mk hR
  have hbo : w.heap.size ∉ own (.slice A l.length cap) := fun hj => by have := (Kh.out.2.1.owns _ hj).2; omega
  clear h2 hE hR h
  go_enter Try.func17, Try.ntmps17
  go_wp2_with fail
  generalize w.alloc (.cells #[.int .i64 i] 3) = wq at c1 Kh2 KE KR ⊢
  refine (deleteFunc_any B A cap w.heap.size i l hl _ Kh2.out.2.1 (KR.out.cell 0) hbo).mono ?_
  rintro e w1 ⟨rfl, hV, hT⟩
  rw [KL2.out] at hV ⊢
  have hng : g ∉ own (Value.slice A l.length cap) := Kh2.out.2.2.2
  have c1c := hT.cell c1 hng
  have f1c := (Kh2.out.1.touch hT hng).free 1
  have Kf := Kept.mk (Kh.out.store KE.out hT hV (fun j hj => .inl (by rw [own_slice _ _ _ l.length cap] at hj; exact hj)))
  clear hV hT c1
  have cf := Kf.out.1.c1
  go_wp2_with fail
  go_ret
  exact ⟨by first | rfl | simp, _, Kf.out⟩
theorem infoB : ∃ i : TypeInfo, Try.prog.info? 5 = some i ∧ i.zero = some (.int .u8 0) ∧ i.size = 1 ∧ i.bytes = 1 := by
  have h : (Try.prog.info? 5).map (fun i => (i.zero, i.size, i.bytes)) = some (some (.int .u8 0), 1, 1) := by kernel_rfl
  obtain ⟨i, hi, he⟩ := Option.map_eq_some_iff.1 h
  injection he with e1 e2
  injection e2 with e2 e3
  exact ⟨i, hi, e1, e2, e3⟩
theorem pk_setB (l : List Pk) (k : Nat) (hk : k < l.length) (p : Pk) (hp : p = l.getD k noPk) (nb : List UInt8) : (l.map pk).set k (((l.map pk).getD k []).set 2 (.string (strOf nb))) = (l.set k { p with b := nb }).map pk := by
  have h1 : (l.map pk).getD k [] = pk p := by rw [List.getD_eq_getElem?_getD, pk_get hk, ← hp]; rfl
  rw [h1, List.map_set]
  rfl
theorem spoil_no {l : List Pk} {i at' turn : Int} (h : thereB l i = false ∨ turn = 0 ∨ (l.getD i.toNat noPk).b = []) : spoilP l i at' turn = (l, false) := by
  unfold spoilP; rw [if_pos h]
set_option maxRecDepth 100000 in
set_option maxHeartbeats 2000000 in
theorem spoil_any (B g : Nat) (places : Int) (v : Value) (l : List Pk) (hl : l.length ≤ 100000) (hb : ∀ p ∈ l, p.b.length ≤ 1048576) (i at' turn : Int) (ht0 : 0 ≤ turn) (ht1 : turn ≤ 255) (w : World) (h : NetAt w B g places v l) :
    Calls Try.prog 18 #[.pointer (some ⟨g, 0, none⟩), .int .i64 i, .int .i64 at', .int .u8 turn] w (NetE w B g places v (spoilP l i at' turn).1 (.bool (spoilP l i at' turn).2)) := by
  have Kh := Kept.mk h
  have KT := Kept.mk (there_any B g places v l i w h)
  by_cases ht : thereB l i = true
  · rw [ht] at KT
    by_cases hu : turn = 0
    · rw [spoil_no (.inr (.inl hu))]
      clear h ht hb
      have hu2 : (turn == 0) = true := by simpa using hu
      clear hu
      go_enter Try.func18, Try.ntmps18
      go_wp2_with fail
      refine KT.out.mono ?_
      rintro e w1 ⟨rfl, rfl⟩
      go_wp2_with fail
      go_ret
      exact ⟨rfl, _, Kh.out, Touch.refl _ _, fun j hj => .inl hj⟩
    · have hu2 : (turn == 0) = false := by simpa using hu
      obtain ⟨k, hk⟩ : ∃ k : Nat, i = (k : Int) := ⟨i.toNat, by simp [thereB] at ht; omega⟩
      subst hk
      have hkl : k < l.length := by simp [thereB] at ht; omega
      have hkI : (k : Int) < (l.length : Int) := by omega
      obtain ⟨A, cap, rfl⟩ := h.form
      obtain ⟨b, off, rfl, p0, p1, p2⟩ := h.at hkl
      have c1 := h.c1
      obtain ⟨p, hp⟩ : ∃ p, p = l.getD k noPk := ⟨_, rfl⟩
      rw [← hp] at p0 p1 p2
      have hpb : p.b.length ≤ 1048576 := by rw [hp]; exact hb _ (by rw [List.getD_eq_getElem?_getD, List.getElem?_eq_getElem hkl]; exact List.getElem_mem _)
      have hpz := strOf_size p.b
      by_cases hne : p.b = []
      · rw [spoil_no (.inr (.inr (by rw [Int.toNat_natCast, ← hp]; exact hne)))]
        have hemp : (strOf p.b).toList.isEmpty = true := by rw [hne, ByteArray.toList_eq]; rfl
        clear h ht hb hu hp hne
        go_enter Try.func18, Try.ntmps18
        go_wp2_with fail
        refine KT.out.mono ?_
        rintro e w1 ⟨rfl, rfl⟩
        go_wp2_with fail
        go_ret
        exact ⟨rfl, _, Kh.out, Touch.refl _ _, fun j hj => .inl hj⟩
      · have hemp : (strOf p.b).toList.isEmpty = false := by rw [ByteArray.toList_eq, strOf_list]; simpa using hne
        have hsp : spoilP l (k : Int) at' turn = (l.set k (spoilPk p at' turn), true) := by
          unfold spoilP
          rw [if_neg (by rw [Int.toNat_natCast, ← hp]; simp [ht, hu, hne]), Int.toNat_natCast, ← hp]
        rw [hsp]
        have hpos : 0 < p.b.length := List.length_pos_iff.2 hne
        have Kp := Kept.mk hp
        obtain ⟨cb, wb, hcv, hEb, hVb⟩ := conv_bytes (P := Try.prog) w 9 54 5 Try.underlying9 Try.underlying54 Try.underlying5 w.heap.size (Nat.le_refl _) (strOf p.b) (by rw [hpz]; simp only [maxLen]; omega)
        have KEb := Kept.mk hEb
        have KVb := Kept.mk hVb
        rw [hpz] at hcv
        obtain ⟨M, hM⟩ : ∃ M : Nat, (if at' < 0 then 0 else at') = (M : Int) := ⟨(if at' < 0 then 0 else at').toNat, by split <;> omega⟩
        obtain ⟨m, hm⟩ : ∃ m : Nat, m = M % p.b.length := ⟨_, rfl⟩
        have hml : m < p.b.length := by rw [hm]; exact Nat.mod_lt _ hpos
        have hmI : (M : Int) % (p.b.length : Int) = (m : Int) := by rw [hm]; rfl
        have hmI2 : (m : Int) < (p.b.length : Int) := by omega
        have hposI : (0 : Int) < (p.b.length : Int) := by omega
        have hMx : (spoilPk p at' turn).b = turnB p.b m turn := by
          unfold spoilPk
          rw [hM, Int.toNat_natCast, ← hm]
        obtain ⟨tn, htn⟩ : ∃ tn : Nat, turn = (tn : Int) := ⟨turn.toNat, by omega⟩
        subst htn
        have htn1 : tn < 256 := by omega
        obtain ⟨x, hx⟩ : ∃ x : UInt8, x = p.b.getD m 0 := ⟨_, rfl⟩
        have hxb : x.toNat < 256 := x.toNat_lt
        have hxor : bits .xor .u8 (x.toNat : Int) (tn : Int) = ((x.toNat ^^^ tn : Nat) : Int) := xor8 hxb htn1
        have hxl : x.toNat ^^^ tn < 256 := xor_lt8 hxb htn1
        obtain ⟨y, hy⟩ : ∃ y : UInt8, y = UInt8.ofNat (x.toNat ^^^ tn) := ⟨_, rfl⟩
        have hyn : ((y.toNat : Nat) : Int) = ((x.toNat ^^^ tn : Nat) : Int) := congrArg Nat.cast (by rw [hy, UInt8.toNat_ofNat']; exact Nat.mod_eq_of_lt hxl)
        rw [← hyn] at hxor
        have hset : turnB p.b m (tn : Int) = p.b.set m y := by rw [turnB, Int.toNat_natCast, ← hx, ← hy]
        rw [strOf_list] at hVb
        rw [hpz] at hVb
        have hbl : (bytesV p.b).length = p.b.length := bytesV_length _
        have hxm : (bytesV p.b)[m]? = some (.int .u8 (x.toNat : Int)) := by
          rw [bytesV_at _ _ hml, hx, List.getD_eq_getElem?_getD, List.getElem?_eq_getElem hml]; rfl
        have b0 : wb.cell? ⟨w.heap.size, m, none⟩ = some (.int .u8 (x.toNat : Int)) := by
          obtain ⟨b', off', he, hc⟩ := hVb.cell hxm
          injection he with he
          injection he with e1 e2
          subst e1 e2
          rwa [Nat.zero_add] at hc
        have b1 : wb.frozen? ⟨w.heap.size, m, none⟩ = false := by
          have := hVb.free m (by omega)
          rwa [Nat.zero_add] at this
        have hVs := hVb.set m (by omega) (.int .u8 (y.toNat : Int))
        rw [Nat.zero_add, bytesV_set] at hVs
        have hT1 : Touch [w.heap.size] wb (wb.setCell ⟨w.heap.size, m, none⟩ (.int .u8 (y.toNat : Int))) := Touch.set wb ⟨w.heap.size, m, none⟩ _
        have hn4 := (h.ext hEb).touch hT1 (fun j hj hm => by rw [List.mem_singleton] at hm; have := (h.owns j hj).2; omega)
        have Ksx := Kept.mk hMx
        have Kset := Kept.mk hset
        have KVs := Kept.mk hVs
        have Kn4 := Kept.mk hn4
        have KT4 := Kept.mk ((Touch.of_ext (S := [w.heap.size]) hEb).trans hT1 (fun j hj => .inl hj))
        have d1 := hn4.c1
        obtain ⟨b', off', he, -, -, d2⟩ := hn4.at hkl
        injection he with he
        injection he with e1 e2
        subst e1 e2
        obtain ⟨u4, -, d3⟩ := hn4.2.1.slot (i := k) (j := 2) (by simpa using hkl) (by decide)
        have kc := conv_buf (P := Try.prog) _ 54 5 9 Try.underlying54 Try.underlying5 Try.underlying9 _ (hVs.ext (Ext.drew _))
        have hyb : y.toNat < 256 := y.toNat_lt
        clear h ht hb hu hp hne hsp hEb hVb hm hx hy hyn hset hVs hT1 hn4 hMx hxm hbl hxl
        go_enter Try.func18, Try.ntmps18
        go_wp2_with fail
        refine KT.out.mono ?_
        rintro e w1 ⟨rfl, rfl⟩
        rw [← Kp.out] at d2
        go_wp2_with fail
        generalize wb.setCell ⟨w.heap.size, m, none⟩ (.int .u8 (y.toNat : Int)) = wx at d1 d2 d3 kc KVs Kn4 KT4 ⊢
        clear b0 b1 c1 p0 p1 p2 hcv KEb KVb hmI hmI2 hposI hml
        go_region_law (fail)
        all_goals
          have hd := (Kn4.out.ext (Ext.drew wx))
          have hbs := hd.2.1.setAt (by decide) k (by simpa using hkl) 2 (by decide) (.string (strOf (p.b.set m y)))
          rw [pk_setB l k hkl p Kp.out] at hbs
          have hTs : Touch (own (.slice (some ⟨b, off, none⟩) l.length cap)) wx.drew (wx.drew.setCell ⟨b, off + k * 3 + 2, none⟩ (.string (strOf (p.b.set m y)))) := (Touch.set wx.drew ⟨b, off + k * 3 + 2, none⟩ _)
          have hpe : ({ p with b := p.b.set m y } : Pk) = spoilPk p at' (tn : Int) := by
            have := Ksx.out
            rw [Kset.out] at this
            rw [← this]
            rfl
          rw [hpe] at hbs
          have Kf := Kept.mk (show NetAt (wx.drew.setCell ⟨b, off + k * 3 + 2, none⟩ (.string (strOf (p.b.set m y)))) B g places (.slice (some ⟨b, off, none⟩) l.length cap) (l.set k (spoilPk p at' (tn : Int))) from ⟨hd.1.touch hTs hd.2.2.2, hbs, hd.2.2.1, hd.2.2.2⟩)
          have KTf := Kept.mk (((KT4.out.more (S' := w.heap.size :: g :: own (.slice (some ⟨b, off, none⟩) l.length cap)) (by simp)).trans (Touch.of_ext (S := []) (Ext.drew wx)) (by simp)).trans hTs (fun j hj => .inl (by simp [hj])))
          clear hd hbs hTs hpe d1 d2 d3 kc
          go_wp2_with fail
          go_ret
          refine ⟨rfl, _, Kf.out, ⟨KTf.out.os, KTf.out.tape, KTf.out.output, KTf.out.size, fun j hj hn => KTf.out.block j hj (fun hm => ?_)⟩, fun j hj => .inl hj⟩
          rcases List.mem_cons.1 hm with h | h
          · omega
          · exact hn h
  · have ht' : thereB l i = false := by simpa using ht
    rw [spoil_no (.inl ht')]
    rw [ht'] at KT
    clear h ht ht' hb
    go_enter Try.func18, Try.ntmps18
    go_wp2_with fail
    refine KT.out.mono ?_
    rintro e w1 ⟨rfl, rfl⟩
    go_wp2_with fail
    go_ret
    exact ⟨rfl, _, Kh.out, Touch.refl _ _, fun j hj => .inl hj⟩
end Net
end Go.Proofs.Ytpdaijmehaialaa
