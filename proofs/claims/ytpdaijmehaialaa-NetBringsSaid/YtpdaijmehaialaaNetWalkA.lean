/- The walks of net's New, there, Len, Send, Double. No condition. -/
import Derived.Test.YtpdaijmehaialaaProg
import Derived.Test.YtpdaijmehaialaaNetPlain
import Derived.Test.YtpdaijmehaialaaCalm
import Derived.Deep.RegionLaw
namespace Go.Proofs.Ytpdaijmehaialaa
open Go.RowKit
namespace Net
set_option linter.unusedSimpArgs false
set_option linter.unusedVariables false
theorem infoP : ∃ i : TypeInfo, Try.prog.info? 34 = some i ∧ i.zero = some (.agg #[.int .i64 0, .int .i64 0, .string ByteArray.empty]) ∧ i.size = 3 ∧ i.bytes = 32 := by
  have h : (Try.prog.info? 34).map (fun i => (i.zero, i.size, i.bytes)) = some (some (.agg #[.int .i64 0, .int .i64 0, .string ByteArray.empty]), 3, 32) := by kernel_rfl
  obtain ⟨i, hi, he⟩ := Option.map_eq_some_iff.1 h
  injection he with e1 e2
  injection e2 with e2 e3
  exact ⟨i, hi, e1, e2, e3⟩
def NewE (places : Int) (w : World) (e : Ending) (w' : World) : Prop :=
  e = .returned (.tuple #[.pointer (some ⟨w.heap.size, 0, none⟩), .int .i64 0]) ∧ NetAt w' w.heap.size w.heap.size places (.slice none 0 0) [] ∧ Ext w w'
def NewBad (w : World) (e : Ending) (w' : World) : Prop := e = .returned (.tuple #[.pointer none, .int .i64 1]) ∧ w = w'
set_option maxRecDepth 100000 in
set_option maxHeartbeats 1000000 in
theorem new_any (n : Int) (h0 : 1 ≤ n) (h1 : n ≤ 64) (w : World) : Calls Try.prog 9 #[.int .i64 n] w (NewE n w) := by
  go_enter Try.func9, Try.ntmps9
  go_wp2_with fail
  go_ret2
  refine ⟨rfl, ⟨Blk.new _ _ _, BufS.nil _ _ _ _, Nat.le_refl _, by simp [own]⟩, Ext.alloc _ _⟩
set_option maxRecDepth 100000 in
set_option maxHeartbeats 1000000 in
theorem new_bad (n : Int) (h0 : n < 1 ∨ 64 < n) (w : World) : Calls Try.prog 9 #[.int .i64 n] w (NewBad w) := by
  by_cases h : n < 1
  · clear h0
    go_enter Try.func9, Try.ntmps9
    go_wp2_with fail
    go_ret2
    exact ⟨rfl, rfl⟩
  · have h2 : 64 < n := by omega
    clear h0
    go_enter Try.func9, Try.ntmps9
    go_wp2_with fail
    go_ret2
    exact ⟨rfl, rfl⟩
def BoolIs (w : World) (b : Bool) (e : Ending) (w' : World) : Prop := e = .returned (.bool b) ∧ w = w'
def IntIs (w : World) (x : Int) (e : Ending) (w' : World) : Prop := e = .returned (.int .i64 x) ∧ w = w'
set_option maxRecDepth 100000 in
set_option maxHeartbeats 1000000 in
theorem there_any (B g : Nat) (places : Int) (v : Value) (l : List Pk) (i : Int) (w : World) (h : NetAt w B g places v l) : Calls Try.prog 20 #[.pointer (some ⟨g, 0, none⟩), .int .i64 i] w (BoolIs w (thereB l i)) := by
  obtain ⟨A, cap, rfl⟩ := h.form
  have c1 := h.c1
  clear h
  by_cases h0 : 0 ≤ i
  · by_cases h1 : i < (l.length : Int)
    · have hb : thereB l i = true := by simp [thereB, h0, h1]
      rw [hb]
      clear hb
      go_enter Try.func20, Try.ntmps20
      go_wp2_with fail
      go_ret
      exact ⟨rfl, rfl⟩
    · have hb : thereB l i = false := by simp [thereB]; omega
      rw [hb]
      clear hb
      go_enter Try.func20, Try.ntmps20
      go_wp2_with fail
      go_ret
      exact ⟨rfl, rfl⟩
  · have hb : thereB l i = false := by simp [thereB]; omega
    rw [hb]
    clear hb
    go_enter Try.func20, Try.ntmps20
    go_wp2_with fail
    go_ret
    exact ⟨rfl, rfl⟩
set_option maxRecDepth 100000 in
set_option maxHeartbeats 1000000 in
theorem len_any (B g : Nat) (places : Int) (v : Value) (l : List Pk) (w : World) (h : NetAt w B g places v l) : Calls Try.prog 11 #[.pointer (some ⟨g, 0, none⟩)] w (IntIs w l.length) := by
  obtain ⟨A, cap, rfl⟩ := h.form
  have c1 := h.c1
  clear h
  go_enter Try.func11, Try.ntmps11
  go_wp2_with fail
  go_ret
  exact ⟨rfl, rfl⟩
set_option maxRecDepth 100000 in
set_option maxHeartbeats 1000000 in
theorem send_any (B g : Nat) (places : Int) (v : Value) (l : List Pk) (hl : l.length ≤ 100000) (p : Pk) (hp : p.b.length ≤ 140737488351232) (w : World) (h : NetAt w B g places v l) :
    Calls Try.prog 12 #[.pointer (some ⟨g, 0, none⟩), .agg (pk p).toArray] w (NetE w B g places v (sendP places l p).1 (.bool (sendP places l p).2)) := by
  obtain ⟨iP, hiP, hzP, hsP, hbP⟩ := infoP
  have hm : Try.prog.follows .mixedOrders = true := by kernel_rfl
  obtain ⟨f, t, b⟩ := p
  obtain ⟨A, cap, rfl⟩ := h.form
  have hbz := strOf_size b
  simp only [] at hp
  by_cases h0 : places ≤ (l.length : Int)
  · have hs : sendP places l ⟨f, t, b⟩ = (l, false) := by simp [sendP, h0]
    rw [hs]
    have Kh := Kept.mk h
    clear hs h
    show Calls Try.prog _ #[.pointer (some ⟨g, 0, none⟩), .agg #[.int .i64 f, .int .i64 t, .string (strOf b)]] w _
    go_enter Try.func12, Try.ntmps12
    go_wp2_with fail
    have hE := Ext.alloc w (.cells #[.int .i64 f, .int .i64 t, .string (strOf b)] 34)
    have h2 := Kh.out.ext hE
    have Kh2 := Kept.mk h2
    have KE := Kept.mk hE
    have c0 := h2.c0
    have c1 := h2.c1
    clear h2 hE
    go_quiet (fail)
    go_wp2_with fail
    go_ret
    exact ⟨rfl, _, (Kh2.out.ext (Ext.drewN _ _)), Touch.of_ext (KE.out.trans (Ext.drewN _ _)), fun j hj => .inl hj⟩
  · by_cases h1 : 1048576 < (b.length : Int)
    · have hs : sendP places l ⟨f, t, b⟩ = (l, false) := by simp [sendP, h1]
      rw [hs]
      have Kh := Kept.mk h
      clear hs h
      show Calls Try.prog _ #[.pointer (some ⟨g, 0, none⟩), .agg #[.int .i64 f, .int .i64 t, .string (strOf b)]] w _
      go_enter Try.func12, Try.ntmps12
      go_wp2_with fail
      have hd0 : decide (places ≤ (l.length : Int)) = false := by simpa using h0
      have hE := Ext.alloc w (.cells #[.int .i64 f, .int .i64 t, .string (strOf b)] 34)
      have hP : Blk (w.alloc (.cells #[.int .i64 f, .int .i64 t, .string (strOf b)] 34)) w.heap.size 34 [.int .i64 f, .int .i64 t, .string (strOf b)] := Blk.new _ _ _
      generalize (w.alloc (.cells #[.int .i64 f, .int .i64 t, .string (strOf b)] 34)) = wq at hE hP ⊢
      have h2 := Kh.out.ext hE
      have Kh2 := Kept.mk h2
      have KE := Kept.mk hE
      have c0 := h2.c0
      have c1 := h2.c1
      have p2 := hP.cell 2
      simp only [List.getElem?_cons_zero, List.getElem?_cons_succ] at p2
      clear h2 hE hP
      go_quiet (fail)
      go_wp2_with fail
      go_ret
      exact ⟨rfl, _, (Kh2.out.ext (Ext.drewN _ _)), Touch.of_ext (KE.out.trans (Ext.drewN _ _)), fun j hj => .inl hj⟩
    · have hs : sendP places l ⟨f, t, b⟩ = (l ++ [⟨f, t, b⟩], true) := by simp [sendP, h0, h1]
      rw [hs]
      have Kh := Kept.mk h
      clear hs h
      show Calls Try.prog _ #[.pointer (some ⟨g, 0, none⟩), .agg #[.int .i64 f, .int .i64 t, .string (strOf b)]] w _
      go_enter Try.func12, Try.ntmps12
      go_wp2_with fail
      have hd0 : decide (places ≤ (l.length : Int)) = false := by simpa using h0
      have hd1 : decide ((b.length : Int) > 1048576) = false := by simpa using h1
      have hE := Ext.alloc w (.cells #[.int .i64 f, .int .i64 t, .string (strOf b)] 34)
      have hP : Blk (w.alloc (.cells #[.int .i64 f, .int .i64 t, .string (strOf b)] 34)) w.heap.size 34 [.int .i64 f, .int .i64 t, .string (strOf b)] := Blk.new _ _ _
      have hgw := (Kh.out.owns g (by simp)).2
      generalize (w.alloc (.cells #[.int .i64 f, .int .i64 t, .string (strOf b)] 34)) = wq at hE hP ⊢
      have h2 := Kh.out.ext hE
      have Kh2 := Kept.mk h2
      have KE := Kept.mk hE
      have c0 := h2.c0
      have c1 := h2.c1
      have p0 := hP.cell 0
      have p1 := hP.cell 1
      have p2 := hP.cell 2
      simp only [List.getElem?_cons_zero, List.getElem?_cons_succ] at p0 p1 p2
      have hqz := hE.size
      clear h2 hE
      go_quiet (fail)
      go_wp2_with fail
      have hQ := KE.out.trans (Ext.drewN wq nq)
      have KQ := Kept.mk hQ
      have Kh3 := Kept.mk (Kh2.out.ext (Ext.drewN wq nq))
      replace c1 : (wq.drewN nq).cell? ⟨g, 1, none⟩ = _ := c1
      replace p0 : (wq.drewN nq).cell? ⟨w.heap.size, 0, none⟩ = _ := p0
      replace p1 : (wq.drewN nq).cell? ⟨w.heap.size, 1, none⟩ = _ := p1
      replace p2 : (wq.drewN nq).cell? ⟨w.heap.size, 2, none⟩ = _ := p2
      replace hqz : w.heap.size < (wq.drewN nq).heap.size := World.block_lt_of_cell? _ _ p0
      clear hP Kh2 KE c0 hQ
      generalize wq.drewN nq = wr at *
      have hBw : B ≤ wr.heap.size := by have := (Kh3.out.owns g (by simp)).1; omega
      have hgv := Kept.mk Kh3.out.2.2.2
      have hpv := Kept.mk (show w.heap.size ∉ own (Value.slice A l.length cap) from fun h => by have := (Kh.out.2.1.owns _ h).2; omega)
      have c1a := (Ext.alloc wr (.cells #[.int .i64 f, .int .i64 t, .string (strOf b)] 34)).cell c1
      go_region_law
        ((refine step_append_litS (P := Try.prog) wr (by rfl) _ _ 39 (by rfl) 3 (by decide) 34 iP _ Try.underlying39 hiP hzP hsP (by rfl) B (.slice A l.length cap) (l.map pk) (by rfl) Kh3.out.2.1 [.int .i64 f, .int .i64 t, .string (strOf b)] (by rfl) (by rfl) (by simp [Value.oneCell']) hBw (by rw [List.length_map]; simp only [maxLen]; omega) (by rw [List.length_map, hbP]; omega) ?_; intro v' w1 hV hT ho; obtain ⟨A', cap', rfl⟩ := hV.form; have c1' := hT.cell c1 hgv.out; have f1' := (Kh3.out.1.touch hT hgv.out).free 1))
      all_goals
        have hmap : List.map pk l ++ [[.int .i64 f, .int .i64 t, .string (strOf b)]] = (l ++ [(⟨f, t, b⟩ : Pk)]).map pk := by simp [pk]
        have hlen : (List.map pk l ++ [[Value.int .i64 f, .int .i64 t, .string (strOf b)]]).length = l.length + 1 := by simp
        rw [hlen] at hV ho
        rw [hmap] at hV
        have Kf := Kept.mk (Kh.out.store KQ.out hT hV ho)
        clear hmap hlen hV ho hT c1' f1' c1 c1a
        go_wp2_with fail
        go_ret
        exact ⟨rfl, _, Kf.out⟩
set_option maxRecDepth 100000 in
set_option maxHeartbeats 1000000 in
theorem double_any (B g : Nat) (places : Int) (v : Value) (l : List Pk) (hl : l.length ≤ 100000) (hb : ∀ p ∈ l, p.b.length ≤ 1048576) (i : Int) (w : World) (h : NetAt w B g places v l) :
    Calls Try.prog 13 #[.pointer (some ⟨g, 0, none⟩), .int .i64 i] w (NetE w B g places v (doubleP places l i).1 (.bool (doubleP places l i).2)) := by
  have Kh := Kept.mk h
  by_cases ht : thereB l i = true
  · obtain ⟨k, hk⟩ : ∃ k : Nat, i = (k : Int) := ⟨i.toNat, by simp [thereB] at ht; omega⟩
    subst hk
    have hkl : k < l.length := by simp [thereB] at ht; omega
    have hkI : (k : Int) < (l.length : Int) := by omega
    have hp : (l.getD k noPk).b.length ≤ 1048576 := hb _ (by rw [List.getD_eq_getElem?_getD, List.getElem?_eq_getElem hkl]; exact List.getElem_mem _)
    have hd : doubleP places l (k : Int) = sendP places l (l.getD k noPk) := by
      unfold doubleP sendP
      rw [if_pos ht, Int.toNat_natCast]
      by_cases hq : places ≤ (l.length : Int)
      · rw [if_pos hq, if_pos (.inl hq)]
      · rw [if_neg hq, if_neg (by omega)]
    rw [hd]
    obtain ⟨A, cap, rfl⟩ := h.form
    obtain ⟨b, off, rfl, p0, p1, p2⟩ := h.at hkl
    have c1 := h.c1
    generalize hpk : l.getD k noPk = p at p0 p1 p2 hp
    have Kpk := Kept.mk hpk
    have Kht := Kept.mk ht
    have hagg : (pk p).toArray = #[.int .i64 p.f, .int .i64 p.t, .string (strOf p.b)] := rfl
    clear h ht hd hpk
    go_enter Try.func13, Try.ntmps13
    go_wp2_with fail
    refine (there_any B g places _ l k _ Kh.out).mono ?_
    rintro e w1 ⟨rfl, rfl⟩
    rw [Kht.out]
    go_wp2_with fail
    refine (send_any B g places _ l hl p (by omega) _ Kh.out).mono ?_
    rintro e w1 ⟨rfl, h1⟩
    have K1 := Kept.mk h1
    clear h1
    go_wp2_with fail
    go_ret
    exact ⟨by first | rfl | simp, K1.out⟩
  · have ht' : thereB l i = false := by simpa using ht
    have hd : doubleP places l i = (l, false) := by unfold doubleP; rw [if_neg (by simp [ht'])]
    rw [hd]
    clear ht h hb
    have Kht := Kept.mk ht'
    clear ht' hd
    go_enter Try.func13, Try.ntmps13
    go_wp2_with fail
    refine (there_any B g places _ l i _ Kh.out).mono ?_
    rintro e w1 ⟨rfl, rfl⟩
    rw [Kht.out]
    go_wp2_with fail
    go_ret
    exact ⟨rfl, _, Kh.out, Touch.refl _ _, fun j hj => .inl hj⟩
end Net
end Go.Proofs.Ytpdaijmehaialaa
