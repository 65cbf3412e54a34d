/- The law NetBrings. No condition. -/
import Derived.Test.YtpdaijmehaialaaNetKey
import Derived.Test.YtpdaijmehaialaaNetLawB
namespace Go.Proofs.Ytpdaijmehaialaa
open Go.RowKit Go.Maps Go.ChangeShapes Go.WideShapes
namespace Net
set_option linter.unusedSimpArgs false
set_option linter.unusedVariables false
theorem ownsMap_block {H : Type} {w w' : World} {P : Program} {k : TypeId} {R : Value → Option (DataW H × List MemPlace)} {b n : Nat} {D : DataW H} (h : w.ownsMap P k R b n D) (he : w'.heap[b]? = w.heap[b]?) : w'.ownsMap P k R b n D := by
  obtain ⟨es, c, h1, h2⟩ := h
  exact ⟨es, c, he.trans h1, h2⟩
theorem touch_grown {w w' : World} {b : Nat} (h : w.grownBy w' (some b)) : Touch [b] w w' := ⟨h.os, h.tape, h.output, h.size, fun k hk hn => h.block k hk (by simpa using hn)⟩
theorem InActsW.at {W : World} {a : Option Addr} {len cap : Nat} {zs : List Act} (h : InActsW W a len cap zs) {i : Nat} (hi : i < len) :
    ∃ b off z, zs[i]? = some z ∧ a = some ⟨b, off, none⟩ ∧ b < W.heap.size ∧ ActOk z ∧ PkOk z.p ∧ ∀ j u, (actV z)[j]? = some u → W.cell? ⟨b, off + i * 7 + j, none⟩ = some u := by
  obtain ⟨b, off, z, h1, h2, h3, h4, h5⟩ := h.1.at hi
  exact ⟨b, off, z, h1, h2, h3, h4, h.2 z (List.mem_of_getElem? h1), h5⟩
set_option maxRecDepth 100000 in
set_option maxHeartbeats 4000000 in
theorem brings_law (w : World) (places : Int) (hpl : (Lit.int .i64 places).wf = true) (a : Option Addr) (len cap : Nat) (zs : List Act) (h : InActsW w a len cap zs) : Calls Try.prog 3 #[.int .i64 places, .slice a len cap] w fun e w1 => e = .returned (.bool true) ∧ Below w.heap.size w w1 := by
  have hm : Try.prog.follows .mixedOrders = true := by kernel_rfl
  have hmm := @run_makeMap Try.prog
  have KP := Kept.mk h
  clear h hpl
  by_cases hp1 : places < 1
  · go_enter Try.func3, Try.ntmps3
    go_wp2_with fail
    refine (awake_any w).mono ?_
    rintro e w1 ⟨rfl, h1⟩
    have KE1 := Kept.mk h1
    clear h1
    go_wp2_with fail
    refine (few_any w w1 a len cap zs KP.out.1 KE1.out).mono ?_
    rintro e w2 ⟨r, rfl, hr, rfl⟩
    cases r <;> (go_wp2_with fail; go_ret; exact ⟨rfl, KE1.out⟩)
  · by_cases hp2 : 64 < places
    · go_enter Try.func3, Try.ntmps3
      go_wp2_with fail
      refine (awake_any w).mono ?_
      rintro e w1 ⟨rfl, h1⟩
      have KE1 := Kept.mk h1
      clear h1
      go_wp2_with fail
      refine (few_any w w1 a len cap zs KP.out.1 KE1.out).mono ?_
      rintro e w2 ⟨r, rfl, hr, rfl⟩
      cases r <;> (go_wp2_with fail; go_ret; exact ⟨rfl, KE1.out⟩)
    · go_enter Try.func3, Try.ntmps3
      go_wp2_with fail
      refine (awake_any w).mono ?_
      rintro e w1 ⟨rfl, h1⟩
      have KE1 := Kept.mk h1
      clear h1
      go_wp2_with fail
      refine (few_any w w1 a len cap zs KP.out.1 KE1.out).mono ?_
      rintro e w2 ⟨r, rfl, hr, rfl⟩
      cases r with
      | false =>
        go_wp2_with fail
        go_ret
        exact ⟨rfl, KE1.out⟩
      | true =>
        have hlen : len ≤ 400 := hr rfl
        clear hr
        go_wp2_with fail
        refine (new_any places (by omega) (by omega) w1).mono ?_
        rintro e w3 ⟨rfl, hN3, hE3⟩
        have KE3 := Kept.mk (KE1.out.trans hE3)
        have KN3 := Kept.mk hN3
        have hB : w.heap.size ≤ w1.heap.size := Ext.size KE1.out
        have Kmb := Kept.mk (Ext.size KE3.out)
        clear hN3 hE3
        go_wp2_with fail
        have KM := Kept.mk (World.ownsMap_made (H := Unit) w3 Try.prog 34 (plainElem Try.prog 4))
        have KNm := Kept.mk (KN3.out.ext (Ext.alloc w3 (.map #[] 0)))
        have KEm := Kept.mk (KE3.out.trans (Ext.alloc w3 (.map #[] 0)))
        have Kmn := Kept.mk (fun (j : Nat) (hj : j ∈ _) => (KN3.out.owns j hj).2)
        generalize w1.heap.size = g at hB KNm Kmn ⊢
        generalize w3.alloc (.map #[] 0) = w4 at KM KNm KEm ⊢
        generalize w3.heap.size = mb at KM Kmn Kmb ⊢
        clear KN3 KE3
        go_loopg [8] len (fun r iv wi => ∃ (i : Nat) (v : Value) (l : List Pk) (D : DataW Unit), i + r = len ∧ iv = .int .i64 (i : Int) ∧ NetAt wi w.heap.size g places v l ∧ (l.length : Int) ≤ places ∧ Small l ∧ Sent D l ∧ wi.ownsMap Try.prog 34 (plainElem Try.prog 4) mb i D ∧ mb ∉ g :: own v ∧ Ext w wi)
        case atStart => exact ⟨0, _, [], .map [], by omega, rfl, ⟨KNm.out.1, KNm.out.2.1.lower hB, hB, KNm.out.2.2.2⟩, by simp; omega, by simp [Small], by simp [Sent], KM.out, fun hj => by have := Kmn.out _ hj; omega, KEm.out⟩
        case round =>
          obtain ⟨i, v, l, D, hr, rfl, hN, hl, hsm, hS, hM, hmn, hE⟩ := hrel
          clear KM KNm KEm Kmn
          have Kr := Kept.mk hr
          have KN := Kept.mk hN
          have KE := Kept.mk hE
          have Ksm := Kept.mk hsm
          have KS := Kept.mk hS
          have KM := Kept.mk hM
          have Kmn := Kept.mk hmn
          have hil : i ≤ len := by omega
          have hll : l.length ≤ 64 := by omega
          clear hr hN hE hsm hS hM hmn
          by_cases hlt : i < len
          · have hltI : (i : Int) < (len : Int) := by omega
            obtain ⟨b, off, z, hz, rfl, hb, hok, hpk, hc⟩ := KP.out.at hlt
            have Kc (j : Nat) (u : Value) (hu : (actV z)[j]? = some u) := KE.out.cell (hc j u hu)
            obtain ⟨c0, c1, c2, c3, c4, c5, c6⟩ := act_cells Kc
            obtain ⟨zk, ⟨zf, zt, zb⟩, zi, za, zu⟩ := z
            simp only [] at c0 c1 c2 c3 c4 c5 c6
            have hEz := Ext.alloc wr (.cells #[.int .i64 zk, .int .i64 zf, .int .i64 zt, .string (strOf zb), .int .i64 zi, .int .i64 za, .int .u8 zu] 33)
            have hX : Blk (wr.alloc (.cells #[.int .i64 zk, .int .i64 zf, .int .i64 zt, .string (strOf zb), .int .i64 zi, .int .i64 za, .int .u8 zu] 33)) wr.heap.size 33 [.int .i64 zk, .int .i64 zf, .int .i64 zt, .string (strOf zb), .int .i64 zi, .int .i64 za, .int .u8 zu] := Blk.new _ _ _
            have KEz := Kept.mk hEz
            have KX := Kept.mk hX
            have x0 := hX.cell 0
            have x1 := hX.cell 1
            have x2 := hX.cell 2
            have x3 := hX.cell 3
            have x4 := hX.cell 4
            have x5 := hX.cell 5
            have x6 := hX.cell 6
            simp only [List.getElem?_cons_zero, List.getElem?_cons_succ] at x0 x1 x2 x3 x4 x5 x6
            have Kok := Kept.mk hok
            have Kpk := Kept.mk hpk
            clear hz hb hc Kc hok hEz hX hpk
            by_cases hk4 : zk = 4
            · subst hk4
              go_wp2_with fail
              go_roundg (gk - 1)
              case measure => have := Kr.out; omega
              case rel => exact ⟨i + 1, v, l, D, by have := Kr.out; omega, by first | rfl | simp, KN.out.ext KEz.out, hl, Ksm.out, KS.out, (ownsMap_block KM.out (KEz.out.block _ KM.out.lt)).mono (by omega), Kmn.out, KE.out.trans KEz.out⟩
            · have hk4b : (zk == 4) = false := by simpa using hk4
              have KD := Kept.mk (do_any w.heap.size g places v l (by omega) Ksm.out ⟨zk, ⟨zf, zt, zb⟩, zi, za, zu⟩ Kok.out _ (KN.out.ext KEz.out))
              have Kl2 := Kept.mk (doP_len ⟨zk, ⟨zf, zt, zb⟩, zi, za, zu⟩ hl)
              have Ks2 := Kept.mk (doP_small (places := places) ⟨zk, ⟨zf, zt, zb⟩, zi, za, zu⟩ Ksm.out)
              have Kmem := Kept.mk (doP_mem (places := places) (l := l) ⟨zk, ⟨zf, zt, zb⟩, zi, za, zu⟩ hk4)
              have Kgot := Kept.mk (doP_got (places := places) (l := l) ⟨zk, ⟨zf, zt, zb⟩, zi, za, zu⟩)
              have hXn : wr.heap.size ∉ g :: own v := fun hm => by have := (KN.out.owns _ hm).2; omega
              have hmb : mb < wr.heap.size := KM.out.lt
              generalize doP places l ⟨zk, ⟨zf, zt, zb⟩, zi, za, zu⟩ = q at KD Kl2 Ks2 Kmem Kgot
              obtain ⟨q1, ⟨pf, pt, pb⟩, q3, q4⟩ := q
              go_wp2_with fail
              refine KD.out.mono ?_
              rintro e w5 ⟨rfl, v5, n1, n2, n3⟩
              have hEp := Ext.alloc w5 (.cells #[.int .i64 pf, .int .i64 pt, .string (strOf pb)] 34)
              have hXp : Blk (w5.alloc (.cells #[.int .i64 pf, .int .i64 pt, .string (strOf pb)] 34)) w5.heap.size 34 [.int .i64 pf, .int .i64 pt, .string (strOf pb)] := Blk.new _ _ _
              have y0 := hEp.cell (n2.cell x0 hXn)
              have y1 := hEp.cell (n2.cell x1 hXn)
              have y2 := hEp.cell (n2.cell x2 hXn)
              have y3 := hEp.cell (n2.cell x3 hXn)
              obtain ⟨⟨s0, s1, s2⟩, -⟩ := Blk.three hXp
              have KN5 := Kept.mk (n1.ext hEp)
              have hEw : Ext w w5 := Touch.below (KE.out.trans KEz.out) n2 (fun j hj => (KN.out.owns j hj).1) (Ext.size (KE.out.trans KEz.out))
              have KE5 := Kept.mk (hEw.trans hEp)
              have hmbz : mb < (wr.alloc (.cells #[.int .i64 zk, .int .i64 zf, .int .i64 zt, .string (strOf zb), .int .i64 zi, .int .i64 za, .int .u8 zu] 33)).heap.size := Nat.lt_of_lt_of_le hmb (Ext.size KEz.out)
              have hM5 := ownsMap_block (ownsMap_block (ownsMap_block KM.out (KEz.out.block _ KM.out.lt)) (n2.block _ hmbz Kmn.out)) (hEp.block _ (Nat.lt_of_lt_of_le hmbz n2.size))
              have KM5 := Kept.mk hM5
              have Kmn5 := Kept.mk (show mb ∉ g :: own v5 from fun hj => by
                rcases List.mem_cons.1 hj with h1 | h1
                · exact Kmn.out (by simp [h1])
                · rcases n3 mb h1 with h2 | h2
                  · exact Kmn.out (by simp [h2])
                  · omega)
              have Kx0 := Kept.mk (show wr.heap.size ≠ mb by omega)
              clear n1 n2 n3 hEp hXp hEw hM5 hmbz
              simp only [pk]
              by_cases hk0 : zk = 0
              · subst hk0
                obtain ⟨kl, hkey⟩ := key_pk _ Kpk.out
                have KKe := Kept.mk hkey
                simp only [KeyP] at hkey
                go_wp2_with (at_mapUpdate; refine wpList_mapUpdate_own _ rfl _ _ _ 29 rfl 34 4 lawP Try.underlying29 _ mb i D rfl KM5.out (by simp only [maxLen]; omega) _ _ kl rfl rfl hkey _ [] (plainElem_bool Try.underlying4 true) ?_)
                intro w7 hM7 hg7
                have KM7 := Kept.mk hM7
                have hT7 := touch_grown hg7
                have z0 := hT7.cell y0 (by simpa using Kx0.out)
                have KN7 := Kept.mk (KN5.out.touch hT7 (fun j hj hm => by rw [List.mem_singleton] at hm; subst hm; exact Kmn5.out hj))
                have KE7 := Kept.mk (show Ext w w7 from Touch.below KE5.out hT7 (fun j hj => by rw [List.mem_singleton] at hj; subst hj; exact Kmb.out) (Ext.size KE5.out))
                have Ks7 := Kept.mk (KS.out.put (l' := q1) KM.out.isMap KKe.out (fun p hp => by
                  rcases Kmem.out p hp with h1 | h1
                  · exact .inl h1
                  · exact .inr h1.2))
                clear hM7 hg7 hT7
                go_wp2_with fail
                refine (len_any w.heap.size g places v5 q1 _ KN7.out).mono ?_
                rintro e w8 ⟨rfl, rfl⟩
                have hle2 : (q1.length : Int) ≤ places := Kl2.out
                go_wp2_with fail
                go_roundg (gk - 1)
                case measure => have := Kr.out; omega
                case rel => exact ⟨i + 1, v5, q1, _, by have := Kr.out; omega, by first | rfl | simp, KN7.out, Kl2.out, Ks2.out, Ks7.out, KM7.out, Kmn5.out, KE7.out⟩
              · have hk0b : (zk == 0) = false := by simpa using hk0
                have Ks5 := Kept.mk (KS.out.sub (l' := q1) (fun p hp => by
                  rcases Kmem.out p hp with h1 | h1
                  · exact h1
                  · exact absurd h1.1 hk0))
                by_cases hk1 : zk = 1
                · subst hk1
                  cases q3 with
                  | true =>
                    have hin := Kgot.out rfl rfl
                    have hrun := sent_run KM5.out KS.out hin
                    simp only [] at hrun
                    go_wp2_with fail
                    refine (len_any w.heap.size g places v5 q1 _ KN5.out).mono ?_
                    rintro e w8 ⟨rfl, rfl⟩
                    have hle2 : (q1.length : Int) ≤ places := Kl2.out
                    go_wp2_with fail
                    go_roundg (gk - 1)
                    case measure => have := Kr.out; omega
                    case rel => exact ⟨i + 1, v5, q1, _, by have := Kr.out; omega, by first | rfl | simp, KN5.out, Kl2.out, Ks2.out, Ks5.out, KM5.out.mono (by omega), Kmn5.out, KE5.out⟩
                  | false =>
                    go_wp2_with fail
                    refine (len_any w.heap.size g places v5 q1 _ KN5.out).mono ?_
                    rintro e w8 ⟨rfl, rfl⟩
                    have hle2 : (q1.length : Int) ≤ places := Kl2.out
                    go_wp2_with fail
                    go_roundg (gk - 1)
                    case measure => have := Kr.out; omega
                    case rel => exact ⟨i + 1, v5, q1, _, by have := Kr.out; omega, by first | rfl | simp, KN5.out, Kl2.out, Ks2.out, Ks5.out, KM5.out.mono (by omega), Kmn5.out, KE5.out⟩
                · have hk1b : (zk == 1) = false := by simpa using hk1
                  go_wp2_with fail
                  refine (len_any w.heap.size g places v5 q1 _ KN5.out).mono ?_
                  rintro e w8 ⟨rfl, rfl⟩
                  have hle2 : (q1.length : Int) ≤ places := Kl2.out
                  go_wp2_with fail
                  go_roundg (gk - 1)
                  case measure => have := Kr.out; omega
                  case rel => exact ⟨i + 1, v5, q1, _, by have := Kr.out; omega, by first | rfl | simp, KN5.out, Kl2.out, Ks2.out, Ks5.out, KM5.out.mono (by omega), Kmn5.out, KE5.out⟩
          · have hltI : ¬ (i : Int) < (len : Int) := by omega
            go_wp2_with fail
            go_ret
            exact ⟨by first | rfl | simp, KE.out⟩
end Net
end Go.Proofs.Ytpdaijmehaialaa
