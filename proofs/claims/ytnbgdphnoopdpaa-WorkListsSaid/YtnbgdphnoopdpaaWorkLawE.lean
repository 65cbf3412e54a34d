/- The law on todo lists and keys. No condition. -/
import Derived.Test.YtnbgdphnoopdpaaWorkLawD
import Derived.Test.YtnbgdphnoopdpaaWorkAll
import Derived.Deep.RegionHeldLaw
import Derived.Shelf.SlSortCmp.QuietGrown
namespace Go.Proofs.Ytnbgdphnoopdpaa
open Go.RowKit Go.Maps Go.ChangeShapes Go.WideShapes
namespace Work
set_option linter.unusedSimpArgs false
set_option linter.unusedVariables false
/-- The state of the law's loop: the todo list, the seen keys, the law's two lists. -/
structure LSt (w0 w : World) (g1 g2 : Nat) (tv lv kv : Value) (mb : Option Nat) (ts ls ks js : List Int) : Prop where
  todo : TodoAt w w0.heap.size g1 tv ts
  seen : SeenAt w w0.heap.size g2 mb ks
  l : Buf w w0.heap.size 3 lv (ints ls)
  k : Buf w w0.heap.size 3 kv (ints js)
  t : Ext w0 w
  s12 : Sep (g1 :: own tv) (g2 :: ownM mb)
  s13 : Sep (g1 :: own tv) (own lv)
  s14 : Sep (g1 :: own tv) (own kv)
  s23 : Sep (g2 :: ownM mb) (own lv)
  s24 : Sep (g2 :: ownM mb) (own kv)
  s34 : Sep (own lv) (own kv)
section
variable {w0 w w' : World} {g1 g2 : Nat} {tv lv kv : Value} {mb : Option Nat} {ts ls ks js : List Int}
theorem cons_new {g n : Nat} {a a' : List Nat} (o : ∀ j ∈ a', j ∈ a ∨ n ≤ j) : ∀ j ∈ g :: a', j ∈ g :: a ∨ n ≤ j := fun j hj => by
  rcases List.mem_cons.1 hj with rfl | hj
  · exact .inl (by simp)
  · rcases o j hj with h | h
    · exact .inl (by simp [h])
    · exact .inr h
theorem LSt.stepTodo (h : LSt w0 w g1 g2 tv lv kv mb ts ls ks js) {tv' : Value} {ts' : List Int} (h1 : TodoAt w' w0.heap.size g1 tv' ts') (k : Touch (g1 :: own tv) w w') (o : ∀ j ∈ own tv', j ∈ own tv ∨ w.heap.size ≤ j) : LSt w0 w' g1 g2 tv' lv kv mb ts' ls ks js :=
  ⟨h1, h.seen.touch k h.s12.symm, h.l.touch k h.s13.symm, h.k.touch k h.s14.symm, Touch.below h.t k (fun j hj => (h.todo.owns j hj).1) h.t.size,
    h.s12.new (cons_new o) (fun j hj => (h.seen.owns j hj).2), h.s13.new (cons_new o) (fun j hj => (h.l.owns j hj).2), h.s14.new (cons_new o) (fun j hj => (h.k.owns j hj).2), h.s23, h.s24, h.s34⟩
theorem LSt.stepSeen (h : LSt w0 w g1 g2 tv lv kv mb ts ls ks js) {mb' : Option Nat} {ks' : List Int} (h1 : SeenAt w' w0.heap.size g2 mb' ks') (k : Touch (g2 :: ownM mb) w w') (o : ∀ j ∈ ownM mb', j ∈ ownM mb ∨ w.heap.size ≤ j) : LSt w0 w' g1 g2 tv lv kv mb' ts ls ks' js :=
  ⟨h.todo.touch k h.s12, h1, h.l.touch k h.s23.symm, h.k.touch k h.s24.symm, Touch.below h.t k (fun j hj => (h.seen.owns j hj).1) h.t.size,
    (h.s12.symm.new (cons_new o) (fun j hj => (h.todo.owns j hj).2)).symm, h.s13, h.s14, h.s23.new (cons_new o) (fun j hj => (h.l.owns j hj).2), h.s24.new (cons_new o) (fun j hj => (h.k.owns j hj).2), h.s34⟩
theorem LSt.stepL (h : LSt w0 w g1 g2 tv lv kv mb ts ls ks js) {lv' : Value} {ls' : List Int} (h1 : Buf w' w0.heap.size 3 lv' (ints ls')) (k : Touch (own lv) w w') (o : ∀ j ∈ own lv', j ∈ own lv ∨ w.heap.size ≤ j) : LSt w0 w' g1 g2 tv lv' kv mb ts ls' ks js :=
  ⟨h.todo.touch k h.s13, h.seen.touch k h.s23, h1, h.k.touch k h.s34.symm, Touch.below h.t k (fun j hj => (h.l.owns j hj).1) h.t.size,
    h.s12, (h.s13.symm.new o (fun j hj => (h.todo.owns j hj).2)).symm, h.s14, (h.s23.symm.new o (fun j hj => (h.seen.owns j hj).2)).symm, h.s24, h.s34.new o (fun j hj => (h.k.owns j hj).2)⟩
theorem LSt.stepK (h : LSt w0 w g1 g2 tv lv kv mb ts ls ks js) {kv' : Value} {js' : List Int} (h1 : Buf w' w0.heap.size 3 kv' (ints js')) (k : Touch (own kv) w w') (o : ∀ j ∈ own kv', j ∈ own kv ∨ w.heap.size ≤ j) : LSt w0 w' g1 g2 tv lv kv' mb ts ls ks js' :=
  ⟨h.todo.touch k h.s14, h.seen.touch k h.s24, h.l.touch k h.s34, h1, Touch.below h.t k (fun j hj => (h.k.owns j hj).1) h.t.size,
    h.s12, h.s13, (h.s14.symm.new o (fun j hj => (h.todo.owns j hj).2)).symm, h.s23, (h.s24.symm.new o (fun j hj => (h.seen.owns j hj).2)).symm, (h.s34.symm.new o (fun j hj => (h.l.owns j hj).2)).symm⟩
theorem LSt.ext (h : LSt w0 w g1 g2 tv lv kv mb ts ls ks js) (k : Ext w w') : LSt w0 w' g1 g2 tv lv kv mb ts ls ks js :=
  ⟨h.todo.ext k, h.seen.ext k, h.l.ext k, h.k.ext k, h.t.trans k, h.s12, h.s13, h.s14, h.s23, h.s24, h.s34⟩
/-- A block that lies outside all of them stays through each step. -/
theorem LSt.apart (h : LSt w0 w g1 g2 tv lv kv mb ts ls ks js) {b : Nat} (hb : w.heap.size ≤ b) : b ∉ g1 :: own tv ∧ b ∉ g2 :: ownM mb ∧ b ∉ own lv ∧ b ∉ own kv :=
  ⟨fun hm => by have := (h.todo.owns b hm).2; omega, fun hm => by have := (h.seen.owns b hm).2; omega, fun hm => by have := (h.l.owns b hm).2; omega, fun hm => by have := (h.k.owns b hm).2; omega⟩
end
theorem ext_grow (w : World) (n : Nat) (os : Array Obj) : Ext w (Sort.grow (w.drewN n) os) := ⟨rfl, rfl, rfl, by simp, fun k hk => Sort.heap_grow_old _ _ hk⟩
set_option maxRecDepth 100000 in
set_option maxHeartbeats 2000000 in
theorem has_alloc (B g : Nat) (mb : Option Nat) (ks : List Int) (k : Int) (hk : Wf k) (w : World) (h : SeenAt w B g mb ks) :
    Calls Try.prog 25 #[.pointer (some ⟨g, 0, none⟩), .int .i64 k] w fun e w' => e = .returned (.bool (decide (k ∈ ks))) ∧ ∃ q os', w' = Sort.grow (w.drewN q) os' := by
  have c0 := h.c0
  have hl := h.look hk
  clear h
  go_enter Try.func25, Try.ntmps25
  go_wp2_with fail
  go_ret
  exact ⟨by first | rfl | simp, 0, _, Sort.alloc_eq_grow _ _⟩
theorem has_grow (B g : Nat) (mb : Option Nat) (ks : List Int) (k : Int) (hk : Wf k) (w : World) (h : SeenAt w B g mb ks) (n : Nat) (os : Array Obj) :
    Calls Try.prog 25 #[.pointer (some ⟨g, 0, none⟩), .int .i64 k] (Sort.grow (w.drewN n) os) fun e w' => e = .returned (.bool (decide (k ∈ ks))) ∧ ∃ q os', w' = Sort.grow ((Sort.grow (w.drewN n) os).drewN q) os' :=
  has_alloc B g mb ks k hk _ (h.ext (ext_grow w n os))
theorem in_grow (A : Option Addr) (n cap : Nat) (xs : List Int) (hn : xs.length = n) (hm : n ≤ 9223372036854775807) (k : Int) (w : World) (h : Row w A (ints xs)) (m : Nat) (os : Array Obj) :
    Calls Try.prog 15 #[.slice A n cap, .int .i64 k] (Sort.grow (w.drewN m) os) fun e w' => e = .returned (.bool (decide (k ∈ xs))) ∧ ∃ q os', w' = Sort.grow ((Sort.grow (w.drewN m) os).drewN q) os' :=
  (in_any A n cap xs hn hm k _ (h.ext (ext_grow w m os))).mono fun _ _ h => ⟨h.1, 0, #[], by rw [Sort.grow_empty]; exact h.2.symm⟩
theorem in_still (A : Option Addr) (n cap : Nat) (xs : List Int) (hn : xs.length = n) (hm : n ≤ 9223372036854775807) (k : Int) (w : World) (h : Row w A (ints xs)) (m : Nat) :
    Calls Try.prog 15 #[.slice A n cap, .int .i64 k] (w.drewN m) fun e w' => e = .returned (.bool (decide (k ∈ xs))) ∧ w' = w.drewN m :=
  (in_any A n cap xs hn hm k (w.drewN m) (h.ext (Ext.drewN w m))).mono fun _ _ h => ⟨h.1, h.2.symm⟩
theorem rise_of {zs : List Int} (h : zs.Pairwise (· ≤ ·)) (hn : zs.Nodup) {m : Nat} (hm : m + 1 < zs.length) : zs.getD m 0 < zs.getD (m + 1) 0 := by
  rw [List.getD_eq_getElem?_getD, List.getD_eq_getElem?_getD, List.getElem?_eq_getElem (show m < zs.length by omega), List.getElem?_eq_getElem hm]
  have h1 : zs[m] ≤ zs[m + 1] := (List.pairwise_iff_getElem.1 h) m (m + 1) _ hm (by omega)
  have h2 : zs[m] ≠ zs[m + 1] := (List.pairwise_iff_getElem.1 hn) m (m + 1) _ hm (by omega)
  simp only [Option.getD_some]
  omega
theorem popP_snoc (xs : List Int) (y : Int) : popP (xs ++ [y]) = (xs, y, true) := by
  unfold popP
  rw [if_neg (by simp)]
  simp
set_option maxRecDepth 100000 in
set_option maxHeartbeats 8000000 in
theorem lists_law (w : World) (a0 : Option Addr) (len0 cap0 : Nat) (acs : List Act) (h0 : InActs w a0 len0 cap0 acs) :
    Calls Try.prog 7 #[.slice a0 len0 cap0] w (TrueIs w) := by
  obtain ⟨iI, hiI, hzI, hsI, hbI⟩ := infoI
  have hl0 : acs.length = len0 := by simpa using h0.1.1
  have K1 := Kept.mk h0
  have KA := Kept.mk (awake_any w)
  clear h0
  go_enter Try.func7, Try.ntmps7
  go_wp2_with fail
  refine KA.out.mono ?_
  rintro e wN ⟨rfl, hE2⟩
  have KEN := Kept.mk hE2
  clear hE2
  by_cases g1 : 500 < len0
  · have g1I : (500 : Int) < (len0 : Int) := by omega
    go_wp2_with fail
    go_ret
    exact ⟨rfl, KEN.out⟩
  · have g1I : ¬ (500 : Int) < (len0 : Int) := by omega
    have K0 : Kept (LSt wN ((wN.alloc (.cells #[.slice none 0 0] 50)).alloc (.cells #[.map none] 38)) wN.heap.size (wN.heap.size + 1) (.slice none 0 0) (.slice none 0 0) (.slice none 0 0) none [] [] [] []) := Kept.mk (by
      have hE1 := Ext.alloc wN (.cells #[.slice none 0 0] 50)
      have hE2 := Ext.alloc (wN.alloc (.cells #[.slice none 0 0] 50)) (.cells #[.map none] 38)
      have b1 : Blk (wN.alloc (.cells #[.slice none 0 0] 50)) wN.heap.size 50 [.slice none 0 0] := Blk.new wN _ _
      have b2 : Blk ((wN.alloc (.cells #[.slice none 0 0] 50)).alloc (.cells #[.map none] 38)) (wN.heap.size + 1) 38 [.map none] := by
        have := Blk.new (wN.alloc (.cells #[.slice none 0 0] 50)) 38 [.map none]
        rwa [World.size_alloc] at this
      exact ⟨⟨b1.ext hE2, Buf.nil _ _ _, Nat.le_refl _, by simp [own]⟩, ⟨b2, by omega, by simp, by simp, .inl ⟨rfl, rfl⟩⟩, Buf.nil _ _ _, Buf.nil _ _ _, hE1.trans hE2,
        fun j hj => by simp [own, ownM] at hj ⊢; omega, fun j hj => by simp [own], fun j hj => by simp [own], fun j hj => by simp [own], fun j hj => by simp [own], fun j hj => by simp [own] at hj⟩)
    go_wp2_with fail
    go_loopg [5, 6, 7] len0 (fun r lv kv iv wi => ∃ (i : Nat) (ls ks : List Int) (tv : Value) (mb : Option Nat), i + r = len0 ∧ iv = .int .i64 (i : Int) ∧ ls.length ≤ i ∧ ks.length ≤ i ∧ LSt wN wi wN.heap.size (wN.heap.size + 1) tv lv kv mb ls ls ks ks)
    case atStart => exact ⟨0, [], [], .slice none 0 0, none, by omega, rfl, by simp, by simp, K0.out⟩
    case round =>
      obtain ⟨i, ls, ks, tv, mb, hr, rfl, hli, hki, hS⟩ := hrel
      have Kr := Kept.mk hr
      have KS := Kept.mk hS
      have hil : i ≤ len0 := by omega
      clear hr hS
      obtain ⟨lA, lc, hlv⟩ := KS.out.l.form
      rw [ints_length] at hlv
      subst hlv
      obtain ⟨kA, kc, hkv⟩ := KS.out.k.form
      rw [ints_length] at hkv
      subst hkv
      by_cases hlt : i < len0
      · have hltI : (i : Int) < (len0 : Int) := by omega
        obtain ⟨b, off, e, he, rfl, e0, e1⟩ := K1.out.at hlt
        have f0 := (KEN.out.trans KS.out.t).cell e0
        have f1 := (KEN.out.trans KS.out.t).cell e1
        have hwx : Wf e.x := (K1.out.2 e (List.mem_of_getElem? he)).2
        obtain ⟨k, x⟩ := e
        simp only [] at f0 f1 hwx
        clear he e0 e1
        obtain ⟨W1, hW1⟩ : ∃ W1, W1 = wr.alloc (.cells #[.int .i64 k, .int .i64 x] 44) := ⟨_, rfl⟩
        have KS1 : Kept (LSt wN W1 wN.heap.size (wN.heap.size + 1) tv (.slice lA ls.length lc) (.slice kA ks.length kc) mb ls ls ks ks) := Kept.mk (by rw [hW1]; exact KS.out.ext (Ext.alloc _ _))
        have Kc1 : Kept (W1.cell? ⟨wr.heap.size, 1, none⟩ = some (.int .i64 x)) := Kept.mk (by rw [hW1, World.cell?_alloc_at _ _ _ _ rfl]; rfl)
        have Kap := Kept.mk (KS.out.apart (b := wr.heap.size) (Nat.le_refl _))
        by_cases k0 : k = 0
        · subst k0
          have KP := Kept.mk (push_any wN.heap.size wN.heap.size tv ls (by omega) x W1 KS1.out.todo)
          go_wp2_with fail
          rw [← hW1]
          clear hW1
          refine KP.out.mono ?_
          rintro e w2 ⟨rfl, tv2, t1, t2, t3⟩
          have KS2 := Kept.mk (KS1.out.stepTodo t1 t2 t3)
          have c2 := t2.cell Kc1.out Kap.out.1
          have hB2 : wN.heap.size ≤ w2.heap.size := KS2.out.t.size
          clear t1 t2 t3
          go_wp2_with (refine wpList_append_lit (P := Try.prog) w2 rfl (.tmp 34) (.tmp 37) 22 rfl 3 iI (.int .i64 0) Try.underlying22 hiI hzI hsI rfl wN.heap.size (.slice lA ls.length lc) (ints ls) rfl KS2.out.l [.int .i64 x] 1 rfl rfl (by simp [Value.oneCell']) hB2 (by rw [ints_length]; simp only [maxLen]; omega) (by rw [ints_length, hbI]; omega) ?_)
          intro v3 w3 hV3 hT3 ho3
          rw [show ints ls ++ [.int .i64 x] = ints (ls ++ [x]) by simp [numsV]] at hV3
          have hfo : ∃ A c, v3 = .slice A (ls ++ [x]).length c := by
            obtain ⟨A5, c5, h5⟩ := hV3.form
            rw [ints_length] at h5
            exact ⟨A5, c5, h5⟩
          obtain ⟨A3, c3, rfl⟩ := hfo
          have KS3 := Kept.mk (KS2.out.stepL hV3 hT3 ho3)
          have c4 := hT3.cell c2 Kap.out.2.2.1
          have hll := Kept.mk (show (ls ++ [x]).length = ls.length + 1 from by simp)
          clear hV3 hT3 ho3 c2
          generalize ls ++ [x] = ls2 at *
          have KS3d := Kept.mk (KS3.out.ext (Ext.drew w3))
          have KAd := Kept.mk (add_any wN.heap.size (wN.heap.size + 1) mb ks (by omega) x hwx w3.drew KS3d.out.seen)
          have KIn := Kept.mk (in_any kA ks.length kc ks rfl (by omega) x w3.drew (row_of_buf KS3d.out.k))
          have c5 := (Ext.drew w3).cell c4
          by_cases hin : x ∈ ks
          · rw [decide_eq_true hin] at KIn
            have Kin := Kept.mk hin
            clear hin
            go_wp2_with fail
            go_region_held_law (fun w' => w'.cell? ⟨wr.heap.size, 1, none⟩ = some (.int .i64 x))
              (first
                | with_reducible exact c5
                | with_reducible exact c6
                | with_reducible assumption)
              (first
                | (go_at_call 17; refine KAd.out.mono ?_; rintro e w4 ⟨rfl, mb4, t1, t2, t3⟩; rw [if_pos Kin.out] at t1; rw [decide_eq_false (fun h => h Kin.out)]; have KS4 := Kept.mk (KS3d.out.stepSeen t1 t2 t3); have c6 := t2.cell c5 Kap.out.2.1; clear t1 t2 t3)
                | (go_at_call 15; refine KIn.out.mono ?_; rintro e w4 ⟨rfl, rfl⟩)
                | (go_at_call 15; refine (in_any kA ks.length kc ks rfl (by omega) x _ (row_of_buf KS4.out.k)).mono ?_; rw [decide_eq_true Kin.out]; rintro e w5 ⟨rfl, rfl⟩))
            all_goals
              have KIa := Kept.mk (in_any kA ks.length kc ks rfl (by omega) x w4 (row_of_buf KS4.out.k))
              rw [decide_eq_true Kin.out] at KIa
              have KTl := Kept.mk (tlen_any wN.heap.size wN.heap.size tv2 ls2 w4 KS4.out.todo)
              have KSl := Kept.mk (slen_any wN.heap.size (wN.heap.size + 1) mb4 ks w4 KS4.out.seen)
              go_wp2_with fail
              refine KIa.out.mono ?_
              rintro e w5 ⟨rfl, rfl⟩
              go_wp2_with fail
              refine KTl.out.mono ?_
              rintro e w5 ⟨rfl, rfl⟩
              go_wp2_with fail
              refine KSl.out.mono ?_
              rintro e w5 ⟨rfl, rfl⟩
              go_wp2_with fail
              go_roundg (gk - 1)
              case measure => have := Kr.out; omega
              case rel => exact ⟨i + 1, ls2, ks, tv2, mb4, by have := Kr.out; omega, by first | rfl | simp, by have := hll.out; omega, by omega, KS4.out⟩
          · rw [decide_eq_false hin] at KIn
            have Kin := Kept.mk hin
            clear hin
            go_wp2_with fail
            go_region_held_law (fun w' => w'.cell? ⟨wr.heap.size, 1, none⟩ = some (.int .i64 x))
              (first
                | with_reducible exact c5
                | with_reducible exact c6
                | with_reducible assumption)
              (first
                | (go_at_call 17; refine KAd.out.mono ?_; rintro e w4 ⟨rfl, mb4, t1, t2, t3⟩; rw [if_neg Kin.out] at t1; rw [decide_eq_true Kin.out]; have KS4 := Kept.mk (KS3d.out.stepSeen t1 t2 t3); have c6 := t2.cell c5 Kap.out.2.1; clear t1 t2 t3)
                | (go_at_call 15; refine KIn.out.mono ?_; rintro e w4 ⟨rfl, rfl⟩)
                | (go_at_call 15; refine (in_any kA ks.length kc ks rfl (by omega) x _ (row_of_buf KS4.out.k)).mono ?_; rw [decide_eq_false Kin.out]; rintro e w5 ⟨rfl, rfl⟩))
            all_goals
              have KIa := Kept.mk (in_any kA ks.length kc ks rfl (by omega) x w4 (row_of_buf KS4.out.k))
              rw [decide_eq_false Kin.out] at KIa
              have hB4 : wN.heap.size ≤ w4.heap.size := KS4.out.t.size
              go_wp2_with fail
              refine KIa.out.mono ?_
              rintro e w5 ⟨rfl, rfl⟩
              go_wp2_with (refine wpList_append_lit (P := Try.prog) w4 rfl (.tmp 53) (.tmp 56) 22 rfl 3 iI (.int .i64 0) Try.underlying22 hiI hzI hsI rfl wN.heap.size (.slice kA ks.length kc) (ints ks) rfl KS4.out.k [.int .i64 x] 1 rfl rfl (by simp [Value.oneCell']) hB4 (by rw [ints_length]; simp only [maxLen]; omega) (by rw [ints_length, hbI]; omega) ?_)
              intro v5 w5 hV5 hT5 ho5
              rw [show ints ks ++ [.int .i64 x] = ints (ks ++ [x]) by simp [numsV]] at hV5
              have hfo : ∃ A c, v5 = .slice A (ks ++ [x]).length c := by
                obtain ⟨A5, c5, h5⟩ := hV5.form
                rw [ints_length] at h5
                exact ⟨A5, c5, h5⟩
              obtain ⟨A5, c7, rfl⟩ := hfo
              have KS5 := Kept.mk (KS4.out.stepK hV5 hT5 ho5)
              have hkk := Kept.mk (show (ks ++ [x]).length = ks.length + 1 from by simp)
              clear hV5 hT5 ho5
              generalize ks ++ [x] = ks2 at KS5 hkk ⊢
              have KTl := Kept.mk (tlen_any wN.heap.size wN.heap.size tv2 ls2 w5 KS5.out.todo)
              have KSl := Kept.mk (slen_any wN.heap.size (wN.heap.size + 1) mb4 ks2 w5 KS5.out.seen)
              go_wp2_with fail
              refine KTl.out.mono ?_
              rintro e w6 ⟨rfl, rfl⟩
              go_wp2_with fail
              refine KSl.out.mono ?_
              rintro e w6 ⟨rfl, rfl⟩
              go_wp2_with fail
              go_roundg (gk - 1)
              case measure => have := Kr.out; omega
              case rel => exact ⟨i + 1, ls2, ks2, tv2, mb4, by have := Kr.out; omega, by first | rfl | simp, by have := hll.out; omega, by have := hkk.out; omega, KS5.out⟩
        · have k0b : (k == 0) = false := by simpa using k0
          rcases List.eq_nil_or_concat ls with hz | ⟨ys, y, hz⟩
          · subst hz
            have KP := Kept.mk (pop_any wN.heap.size wN.heap.size tv [] (by simp) W1 KS1.out.todo)
            rw [show popP [] = ([], 0, false) from rfl] at KP
            simp only [List.length_nil] at *
            go_wp2_with fail
            rw [← hW1]
            clear hW1
            refine KP.out.mono ?_
            rintro e w2 ⟨rfl, tv2, t1, t2, t3⟩
            have KS2 := Kept.mk (KS1.out.stepTodo t1 t2 t3)
            have c2 := t2.cell Kc1.out Kap.out.1
            clear t1 t2 t3
            have hcx := fun n os => Sort.cell?_grow (w2.drewN n) os ⟨wr.heap.size, 1, none⟩ (by exact World.block_lt_of_cell? w2 _ c2)
            simp only [World.cell?_drewN, c2] at hcx
            have KHa := Kept.mk (has_grow wN.heap.size (wN.heap.size + 1) mb ks x hwx w2 KS2.out.seen)
            have KIn := Kept.mk (in_grow kA ks.length kc ks rfl (by omega) x w2 (row_of_buf KS2.out.k))
            obtain ⟨q, hq⟩ : ∃ q, q = decide (x ∈ ks) := ⟨_, rfl⟩
            rw [← hq] at KHa KIn
            clear hq
            go_wp2_with fail
            refine wp_region_quiet_grown (by kernel_rfl) (by kernel_rfl) ?_
            repeat (go_big_quiet_step ((first | (go_at_call 25; exact Calls.grown_of (KHa.out _ _)) | (go_at_call 15; exact Calls.grown_of (KIn.out _ _)))))
            refine wpQuiet_nil ?_
            intro _ hw'
            obtain ⟨⟨nq, osq⟩, rfl⟩ := hw'
            have KS3 := Kept.mk (KS2.out.ext (ext_grow w2 nq osq))
            clear hcx
            generalize Sort.grow (w2.drewN nq) osq = w4 at KS3 ⊢
            have KTl := Kept.mk (tlen_any wN.heap.size wN.heap.size tv2 [] w4 KS3.out.todo)
            have KSl := Kept.mk (slen_any wN.heap.size (wN.heap.size + 1) mb ks w4 KS3.out.seen)
            go_wp2_with fail
            refine KTl.out.mono ?_
            rintro e w5 ⟨rfl, rfl⟩
            go_wp2_with fail
            refine KSl.out.mono ?_
            rintro e w5 ⟨rfl, rfl⟩
            go_wp2_with fail
            go_roundg (gk - 1)
            case measure => have := Kr.out; omega
            case rel => exact ⟨i + 1, [], ks, tv2, mb, by have := Kr.out; omega, by first | rfl | simp, by simp, by omega, KS3.out⟩
          · rw [List.concat_eq_append] at hz
            subst hz
            have KP := Kept.mk (pop_any wN.heap.size wN.heap.size tv (ys ++ [y]) (by have := hli; omega) W1 KS1.out.todo)
            rw [popP_snoc] at KP
            simp only [List.length_append, List.length_singleton] at *
            go_wp2_with fail
            rw [← hW1]
            clear hW1
            refine KP.out.mono ?_
            rintro e w2 ⟨rfl, tv2, t1, t2, t3⟩
            have KS2 := Kept.mk (KS1.out.stepTodo t1 t2 t3)
            have c2 := t2.cell Kc1.out Kap.out.1
            clear t1 t2 t3
            have hcx := fun n os => Sort.cell?_grow (w2.drewN n) os ⟨wr.heap.size, 1, none⟩ (by exact World.block_lt_of_cell? w2 _ c2)
            simp only [World.cell?_drewN, c2] at hcx
            obtain ⟨b3, o3, rfl, c3⟩ := KS2.out.l.cell (j := ys.length) (u := .int .i64 y) (by rw [ints_append]; simp [numsV])
            have hcy := fun n os => Sort.cell?_grow (w2.drewN n) os ⟨b3, o3 + ys.length, none⟩ (by exact World.block_lt_of_cell? w2 _ c3)
            simp only [World.cell?_drewN, c3] at hcy
            obtain ⟨hcap, hmx⟩ := buf_len KS2.out.l
            rw [ints_length, List.length_append, List.length_singleton] at hcap
            have hfr := KS2.out.l.front ys.length (by rw [ints_length, List.length_append]; omega)
            rw [← ints_take, List.take_left] at hfr
            have Kfr := Kept.mk hfr
            have KHa := Kept.mk (has_grow wN.heap.size (wN.heap.size + 1) mb ks x hwx w2 KS2.out.seen)
            have KIn := Kept.mk (in_grow kA ks.length kc ks rfl (by omega) x w2 (row_of_buf KS2.out.k))
            obtain ⟨q, hq⟩ : ∃ q, q = decide (x ∈ ks) := ⟨_, rfl⟩
            rw [← hq] at KHa KIn
            have hsub : ((ys.length + 1 : Nat) : Int) - 1 = (ys.length : Int) := by omega
            have hpos : (0 : Int) < ((ys.length + 1 : Nat) : Int) := by omega
            clear hq hfr c3
            go_wp2_with fail
            refine wp_region_quiet_grown (by kernel_rfl) (by kernel_rfl) ?_
            repeat (go_big_quiet_step ((first | (go_at_call 25; exact Calls.grown_of (KHa.out _ _)) | (go_at_call 15; exact Calls.grown_of (KIn.out _ _)))))
            refine wpQuiet_nil ?_
            intro _ hw'
            obtain ⟨⟨nq, osq⟩, rfl⟩ := hw'
            have KS3 := Kept.mk ((KS2.out.stepL Kfr.out (Touch.refl _ _) (fun j hj => .inl (by rw [own_slice _ _ _ (ys.length + 1) lc] at hj; exact hj))).ext (ext_grow w2 nq osq))
            clear hcx hcy
            generalize Sort.grow (w2.drewN nq) osq = w4 at KS3 ⊢
            have KTl := Kept.mk (tlen_any wN.heap.size wN.heap.size tv2 ys w4 KS3.out.todo)
            have KSl := Kept.mk (slen_any wN.heap.size (wN.heap.size + 1) mb ks w4 KS3.out.seen)
            go_wp2_with fail
            refine KTl.out.mono ?_
            rintro e w5 ⟨rfl, rfl⟩
            go_wp2_with fail
            refine KSl.out.mono ?_
            rintro e w5 ⟨rfl, rfl⟩
            go_wp2_with fail
            go_roundg (gk - 1)
            case measure => have := Kr.out; omega
            case rel => exact ⟨i + 1, ys, ks, tv2, mb, by have := Kr.out; omega, by first | rfl | simp, by omega, by omega, KS3.out⟩
      · have hltI : ¬ (i : Int) < (len0 : Int) := by omega
        have KAll := Kept.mk (sall_any wN.heap.size (wN.heap.size + 1) mb ks (by omega) wr KS.out.seen)
        have Knd := Kept.mk KS.out.seen.2.2.2.1
        go_wp2_with fail
        refine KAll.out.mono ?_
        rintro e w2 ⟨zA, zc, zs, rfl, hz1, hz2, hz3, hz4, hz5⟩
        have Kz1 := Kept.mk hz1
        have Kz3 := Kept.mk hz3
        have Kz4 := Kept.mk hz4
        have Kz5 := Kept.mk hz5
        have hzl : zs.length = ks.length := hz3.length_eq
        have hzlI : ((zs.length : Nat) : Int) = ((ks.length : Nat) : Int) := by omega
        have Kkr := Kept.mk (row_of_buf (KS.out.k.ext hz5))
        have KEf := Kept.mk ((KEN.out.trans KS.out.t).trans hz5)
        have Kzn := Kept.mk (hz3.symm.nodup Knd.out)
        clear hz1 hz3 hz4 hz5
        go_wp2_with fail
        have KzI := Kept.mk hzlI
        clear hzlI
        go_loopg [12] zs.length (fun r iv wi => ∃ j : Nat, j + r = zs.length ∧ iv = .int .i64 (j : Int) ∧ Ext w2 wi)
        case atStart => exact ⟨0, by omega, rfl, Ext.refl _⟩
        case round =>
          obtain ⟨j, hr, rfl, hE⟩ := hrel
          have Kr2 := Kept.mk hr
          have KE3 := Kept.mk hE
          have hjl : j ≤ zs.length := by omega
          clear hr hE
          by_cases hjt : j < zs.length
          · have hjtI : (j : Int) < (zs.length : Int) := by omega
            obtain ⟨b3, o3, rfl, hc⟩ := Kz1.out.at (by rw [ints_length]; omega)
            have c0 := KE3.out.cell (hc j _ (ints_at zs j hjt))
            have hmem : zs.getD j 0 ∈ ks := by
              refine Kz3.out.mem_iff.1 ?_
              rw [List.getD_eq_getElem?_getD, List.getElem?_eq_getElem hjt]
              exact List.getElem_mem _
            have KJ := Kept.mk (fun m => in_still kA ks.length kc ks rfl (by omega) (zs.getD j 0) wr (Kkr.out.ext KE3.out) m)
            rw [decide_eq_true hmem] at KJ
            cases j with
            | zero =>
              generalize zs.getD 0 0 = z at c0 KJ
              rw [Nat.add_zero] at c0
              have h0I : (0 : Int) < (zs.length : Int) := by omega
              clear hc hmem hjtI
              rw [show ((0 : Nat) : Int) = 0 from rfl]
              go_wp2_with fail
              go_quiet ((go_at_call 15; exact Calls.quiet_of_same (KJ.out _)))
              go_wp2_with fail
              go_roundg (gk - 1)
              case measure => have := Kr2.out; omega
              case rel => exact ⟨0 + 1, by have := Kr2.out; omega, by first | rfl | simp, KE3.out.trans (Ext.drewN _ _)⟩
            | succ m =>
              have c1 := KE3.out.cell (hc m _ (ints_at zs m (by omega)))
              have hrise : zs.getD m 0 < zs.getD (m + 1) 0 := rise_of Kz4.out Kzn.out (by omega)
              generalize zs.getD (m + 1) 0 = z at c0 KJ hrise
              generalize zs.getD m 0 = y at c1 hrise
              have hsub : ((m + 1 : Nat) : Int) - 1 = (m : Int) := by omega
              have hpos : (0 : Int) < ((m + 1 : Nat) : Int) := by omega
              have hmI : (m : Int) < (zs.length : Int) := by omega
              have hno : ¬ z ≤ y := by omega
              clear hc hmem
              go_wp2_with fail
              go_quiet ((go_at_call 15; exact Calls.quiet_of_same (KJ.out _)))
              go_wp2_with fail
              go_roundg (gk - 1)
              case measure => have := Kr2.out; omega
              case rel => exact ⟨m + 1 + 1, by have := Kr2.out; omega, by first | rfl | simp, KE3.out.trans (Ext.drewN _ _)⟩
          · have hjtI : ¬ (j : Int) < (zs.length : Int) := by omega
            have hzlI := KzI.out
            go_wp2_with fail
            go_ret
            exact ⟨by first | rfl | simp [KzI.out], KEf.out.trans KE3.out⟩
end Work
end Go.Proofs.Ytnbgdphnoopdpaa
