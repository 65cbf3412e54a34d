/- The law NetOrder. No condition. -/
import Derived.Test.YtpdaijmehaialaaNetLawA
namespace Go.Proofs.Ytpdaijmehaialaa
open Go.RowKit Go.ChangeShapes Go.WideShapes
namespace Net
set_option linter.unusedSimpArgs false
set_option linter.unusedVariables false
theorem take0 (p : Pk) (l : List Pk) : takeP (p :: l) 0 = (l, p, true) := by
  have : thereB (p :: l) 0 = true := by simp [thereB]
  simp [takeP, this]
theorem take0_nil : takeP [] 0 = ([], noPk, false) := by decide
/-- The row of what was sent stands apart from the net. -/
def Apart (g : Nat) (v lv : Value) : Prop := ∀ j ∈ own lv, j ∉ g :: own v
theorem Apart.net {g : Nat} {v v' lv : Value} {w : World} (h : Apart g v lv) (ho : ∀ j ∈ own v', j ∈ own v ∨ w.heap.size ≤ j) (hl : ∀ j ∈ own lv, j < w.heap.size) : Apart g v' lv := by
  intro j hj hm
  rcases List.mem_cons.1 hm with h1 | h1
  · exact h j hj (by simp [h1])
  · rcases ho j h1 with h2 | h2
    · exact h j hj (by simp [h2])
    · have := hl j hj; omega
theorem Apart.row {g : Nat} {v lv lv' : Value} {w : World} (h : Apart g v lv) (ho : ∀ j ∈ own lv', j ∈ own lv ∨ w.heap.size ≤ j) (hl : ∀ j ∈ g :: own v, j < w.heap.size) : Apart g v lv' := by
  intro j hj hm
  rcases ho j hj with h2 | h2
  · exact h j h2 hm
  · have := hl j hm; omega
set_option maxRecDepth 100000 in
set_option maxHeartbeats 4000000 in
theorem order_law (w : World) (places : Int) (hpl : (Lit.int .i64 places).wf = true) (a : Option Addr) (len cap : Nat) (zs : List Act) (h : InActs w a len cap zs) : Calls Try.prog 4 #[.int .i64 places, .slice a len cap] w fun e w1 => e = .returned (.bool true) ∧ Below w.heap.size w w1 := by
  obtain ⟨iP, hiP, hzP, hsP, hbP⟩ := infoP
  have KP := Kept.mk h
  clear h hpl
  by_cases hp1 : places < 1
  · go_enter Try.func4, Try.ntmps4
    go_wp2_with fail
    refine (awake_any w).mono ?_
    rintro e w1 ⟨rfl, h1⟩
    have KE1 := Kept.mk h1
    clear h1
    go_wp2_with fail
    refine (few_any w w1 a len cap zs KP.out KE1.out).mono ?_
    rintro e w2 ⟨r, rfl, hr, rfl⟩
    cases r <;> (go_wp2_with fail; go_ret; exact ⟨rfl, KE1.out⟩)
  · by_cases hp2 : 64 < places
    · go_enter Try.func4, Try.ntmps4
      go_wp2_with fail
      refine (awake_any w).mono ?_
      rintro e w1 ⟨rfl, h1⟩
      have KE1 := Kept.mk h1
      clear h1
      go_wp2_with fail
      refine (few_any w w1 a len cap zs KP.out KE1.out).mono ?_
      rintro e w2 ⟨r, rfl, hr, rfl⟩
      cases r <;> (go_wp2_with fail; go_ret; exact ⟨rfl, KE1.out⟩)
    · go_enter Try.func4, Try.ntmps4
      go_wp2_with fail
      refine (awake_any w).mono ?_
      rintro e w1 ⟨rfl, h1⟩
      have KE1 := Kept.mk h1
      clear h1
      go_wp2_with fail
      refine (few_any w w1 a len cap zs KP.out KE1.out).mono ?_
      rintro e w2 ⟨r, rfl, hr, rfl⟩
      cases r with
      | false =>
        go_wp2_with fail
        go_ret
        exact ⟨rfl, KE1.out⟩
      | true =>
        have hlen : len ≤ 400 := hr rfl
        clear hr
        go_wp2_with fail
        refine (new_any places (by omega) (by omega) w1).mono ?_
        rintro e w3 ⟨rfl, hN3, hE3⟩
        have KE3 := Kept.mk (KE1.out.trans hE3)
        have KN3 := Kept.mk hN3
        have hB : w.heap.size ≤ w1.heap.size := Ext.size KE1.out
        clear hN3 hE3
        go_wp2_with fail
        generalize w1.heap.size = g at hB KN3 ⊢
        go_loopg [7, 8] len (fun r lv iv wi => ∃ (i : Nat) (v : Value) (l : List Pk) (A : Option Addr) (c : Nat), i + r = len ∧ lv = .slice A l.length c ∧ iv = .int .i64 (i : Int) ∧ NetAt wi w.heap.size g places v l ∧ (l.length : Int) ≤ places ∧ Small l ∧ BufS 3 wi w.heap.size 34 (.slice A l.length c) (l.map pk) ∧ Apart g v (.slice A l.length c) ∧ Ext w wi)
        case atStart => exact ⟨0, _, [], none, 0, by omega, rfl, rfl, ⟨KN3.out.1, KN3.out.2.1.lower hB, hB, KN3.out.2.2.2⟩, by simp; omega, by simp [Small], BufS.nil _ _ _ _, by intro j hj; simp [own] at hj, KE3.out⟩
        case round =>
          obtain ⟨i, v, l, A, c, hr, rfl, rfl, hN, hl, hsm, hV, hA, hE⟩ := hrel
          have Kr := Kept.mk hr
          have KN := Kept.mk hN
          have KE := Kept.mk hE
          have Ksm := Kept.mk hsm
          have KV := Kept.mk hV
          have KA := Kept.mk hA
          have hil : i ≤ len := by omega
          have hll : l.length ≤ 64 := by omega
          clear hr hN hE hsm hV hA
          by_cases hlt : i < len
          · have hltI : (i : Int) < (len : Int) := by omega
            obtain ⟨b, off, z, hz, rfl, hb, hok, hc⟩ := KP.out.at hlt
            have Kc (j : Nat) (u : Value) (hu : (actV z)[j]? = some u) := KE.out.cell (hc j u hu)
            obtain ⟨c0, c1, c2, c3, c4, c5, c6⟩ := act_cells Kc
            obtain ⟨zk, ⟨zf, zt, zb⟩, zi, za, zu⟩ := z
            simp only [] at c0 c1 c2 c3 c4 c5 c6
            have hzb : zb.length ≤ 140737488351232 := hok.b
            have hEz := Ext.alloc wr (.cells #[.int .i64 zk, .int .i64 zf, .int .i64 zt, .string (strOf zb), .int .i64 zi, .int .i64 za, .int .u8 zu] 33)
            have hX : Blk (wr.alloc (.cells #[.int .i64 zk, .int .i64 zf, .int .i64 zt, .string (strOf zb), .int .i64 zi, .int .i64 za, .int .u8 zu] 33)) wr.heap.size 33 [.int .i64 zk, .int .i64 zf, .int .i64 zt, .string (strOf zb), .int .i64 zi, .int .i64 za, .int .u8 zu] := Blk.new _ _ _
            have KEz := Kept.mk hEz
            have KX := Kept.mk hX
            have x0 := hX.cell 0
            have x1 := hX.cell 1
            have x2 := hX.cell 2
            have x3 := hX.cell 3
            have x4 := hX.cell 4
            simp only [List.getElem?_cons_zero, List.getElem?_cons_succ] at x0 x1 x2 x3 x4
            clear hz hb hc Kc hok hEz hX
            by_cases hk0 : zk = 0
            · subst hk0
              have KS := Kept.mk (send_any w.heap.size g places v l (by omega) ⟨zf, zt, zb⟩ hzb _ (KN.out.ext KEz.out))
              have hXn : wr.heap.size ∉ g :: own v := fun hm => by have := (KN.out.owns _ hm).2; omega
              by_cases hfull : places ≤ (l.length : Int) ∨ 1048576 < (zb.length : Int)
              · have hs : sendP places l ⟨zf, zt, zb⟩ = (l, false) := by unfold sendP; rw [if_pos hfull]
                rw [hs] at KS
                clear hs hfull
                go_wp2_with fail
                refine KS.out.mono ?_
                rintro e w5 ⟨rfl, v5, n1, n2, n3⟩
                have x0' := n2.cell x0 hXn
                have KN5 := Kept.mk n1
                have KE5 := Kept.mk (show Ext w w5 from Touch.below (KE.out.trans KEz.out) n2 (fun j hj => (KN.out.owns j hj).1) (Ext.size (KE.out.trans KEz.out)))
                have KV5 := Kept.mk ((KV.out.ext KEz.out).touch n2 KA.out)
                have KA5 := Kept.mk (KA.out.net n3 (fun j hj => Nat.lt_of_lt_of_le (KV.out.owns j hj).2 (Ext.size KEz.out)))
                clear n1 n2 n3
                go_wp2_with fail
                go_roundg (gk - 1)
                case measure => have := Kr.out; omega
                case rel => exact ⟨i + 1, v5, l, A, c, by have := Kr.out; omega, rfl, by first | rfl | simp, KN5.out, hl, Ksm.out, KV5.out, KA5.out, KE5.out⟩
              · have hs : sendP places l ⟨zf, zt, zb⟩ = (l ++ [⟨zf, zt, zb⟩], true) := by unfold sendP; rw [if_neg hfull]
                rw [hs] at KS
                have Kfull := Kept.mk hfull
                clear hs hfull
                go_wp2_with fail
                refine KS.out.mono ?_
                rintro e w5 ⟨rfl, v5, n1, n2, n3⟩
                have x0' := n2.cell x0 hXn
                have x1' := n2.cell x1 hXn
                have x2' := n2.cell x2 hXn
                have x3' := n2.cell x3 hXn
                have KN5 := Kept.mk n1
                have KE5 := Kept.mk (show Ext w w5 from Touch.below (KE.out.trans KEz.out) n2 (fun j hj => (KN.out.owns j hj).1) (Ext.size (KE.out.trans KEz.out)))
                have KV5 := Kept.mk ((KV.out.ext KEz.out).touch n2 KA.out)
                have KA5 := Kept.mk (KA.out.net n3 (fun j hj => Nat.lt_of_lt_of_le (KV.out.owns j hj).2 (Ext.size KEz.out)))
                have hBw : w.heap.size ≤ w5.heap.size := Ext.size KE5.out
                clear n1 n2 n3
                go_wp2_with (refine wpList_append_litS (P := Try.prog) w5 rfl (.tmp 58) (.tmp 61) 39 rfl 3 (by decide) 34 iP _ Try.underlying39 hiP hzP hsP rfl w.heap.size (.slice A l.length c) (l.map pk) rfl KV5.out [.int .i64 zf, .int .i64 zt, .string (strOf zb)] rfl rfl (by simp [Value.oneCell']) hBw (by rw [List.length_map]; simp only [maxLen]; omega) (by rw [List.length_map, hbP]; omega) ?_)
                intro lv' w6 hV6 hT6 ho6
                have hmap : List.map pk l ++ [[.int .i64 zf, .int .i64 zt, .string (strOf zb)]] = (l ++ [(⟨zf, zt, zb⟩ : Pk)]).map pk := by simp [pk]
                rw [hmap] at hV6
                obtain ⟨A6, c6', rfl⟩ := hV6.form
                rw [List.length_map] at hV6 ho6 ⊢
                have Kx := Kept.mk (show wr.heap.size ∉ own (.slice A l.length c) from fun hm => by have := (KV.out.owns _ hm).2; omega)
                have x0'' := hT6.cell x0' Kx.out
                have KA6 := Kept.mk (KA5.out.row ho6 (fun j hj => (KN5.out.owns j hj).2))
                have KN6 := Kept.mk (KN5.out.touch hT6 (fun j hj hm => KA5.out j hm hj))
                have KV6 := Kept.mk hV6
                have KE6 := Kept.mk (show Ext w w6 from Touch.below KE5.out hT6 (fun j hj => (KV5.out.owns j hj).1) hBw)
                have Kl6 := Kept.mk (show ((l ++ [(⟨zf, zt, zb⟩ : Pk)]).length : Int) ≤ places ∧ Small (l ++ [(⟨zf, zt, zb⟩ : Pk)]) from by
                  have hf := Kfull.out
                  simp only [not_or] at hf
                  refine ⟨by rw [List.length_append, List.length_singleton]; omega, fun p hp => ?_⟩
                  rcases List.mem_append.1 hp with h2 | h2
                  · exact Ksm.out p h2
                  · rw [List.mem_singleton] at h2; subst h2; have := hf.2; simp only []; omega)
                clear hV6 hT6 ho6 hmap
                generalize l ++ [(⟨zf, zt, zb⟩ : Pk)] = l6 at KA6 KN6 KV6 Kl6 KN5 KA5 ⊢
                go_wp2_with fail
                go_roundg (gk - 1)
                case measure => have := Kr.out; omega
                case rel => exact ⟨i + 1, v5, l6, A6, c6', by have := Kr.out; omega, rfl, by first | rfl | simp, KN6.out, Kl6.out.1, Kl6.out.2, KV6.out, KA6.out, KE6.out⟩
            · have hk0b : (zk == 0) = false := by simpa using hk0
              by_cases hk3 : zk = 3
              · subst hk3
                have KS := Kept.mk (double_any w.heap.size g places v l (by omega) Ksm.out zi _ (KN.out.ext KEz.out))
                have hXn : wr.heap.size ∉ g :: own v := fun hm => by have := (KN.out.owns _ hm).2; omega
                by_cases hgo : thereB l zi = true ∧ (l.length : Int) < places
                · obtain ⟨k, hk⟩ : ∃ k : Nat, zi = (k : Int) := ⟨zi.toNat, by have := hgo.1; simp [thereB] at this; omega⟩
                  subst hk
                  have hkl : k < l.length := by have := hgo.1; simp [thereB] at this; omega
                  have hkI : (k : Int) < (l.length : Int) := by omega
                  obtain ⟨p, hp⟩ : ∃ p, p = l.getD k noPk := ⟨_, rfl⟩
                  have hs : doubleP places l (k : Int) = (l ++ [p], true) := by unfold doubleP; rw [if_pos hgo.1, if_neg (by have := hgo.2; omega), Int.toNat_natCast, ← hp]
                  rw [hs] at KS
                  have Kgo := Kept.mk hgo
                  have hpk := pk_get hkl
                  rw [← hp] at hpk
                  have Kpb := Kept.mk (show p.b.length ≤ 1048576 by rw [hp]; exact small_getD Ksm.out k)
                  clear hs hgo hp
                  go_wp2_with fail
                  refine KS.out.mono ?_
                  rintro e w5 ⟨rfl, v5, n1, n2, n3⟩
                  have x0' := n2.cell x0 hXn
                  have x4' := n2.cell x4 hXn
                  have KN5 := Kept.mk n1
                  have KE5 := Kept.mk (show Ext w w5 from Touch.below (KE.out.trans KEz.out) n2 (fun j hj => (KN.out.owns j hj).1) (Ext.size (KE.out.trans KEz.out)))
                  have KV5 := Kept.mk ((KV.out.ext KEz.out).touch n2 KA.out)
                  have KA5 := Kept.mk (KA.out.net n3 (fun j hj => Nat.lt_of_lt_of_le (KV.out.owns j hj).2 (Ext.size KEz.out)))
                  have hBw : w.heap.size ≤ w5.heap.size := Ext.size KE5.out
                  obtain ⟨bL, oL, rfl, p0, p1, p2⟩ := buf_at KV5.out (i := k) (by simpa using hkl) (p := p) hpk
                  have hkn : ¬ (k : Int) ≥ (l.length : Int) := by omega
                  clear n1 n2 n3 hpk
                  go_wp2_with (refine wpList_append_litS (P := Try.prog) w5 rfl (.tmp 82) (.tmp 88) 39 rfl 3 (by decide) 34 iP _ Try.underlying39 hiP hzP hsP rfl w.heap.size (.slice (some ⟨bL, oL, none⟩) l.length c) (l.map pk) rfl KV5.out [.int .i64 p.f, .int .i64 p.t, .string (strOf p.b)] rfl rfl (by simp [Value.oneCell']) hBw (by rw [List.length_map]; simp only [maxLen]; omega) (by rw [List.length_map, hbP]; omega) ?_)
                  intro lv' w6 hV6 hT6 ho6
                  have hmap : List.map pk l ++ [[.int .i64 p.f, .int .i64 p.t, .string (strOf p.b)]] = (l ++ [p]).map pk := by simp [pk]
                  rw [hmap] at hV6
                  obtain ⟨A6, c6', rfl⟩ := hV6.form
                  rw [List.length_map] at hV6 ho6 ⊢
                  have KA6 := Kept.mk (KA5.out.row ho6 (fun j hj => (KN5.out.owns j hj).2))
                  have KN6 := Kept.mk (KN5.out.touch hT6 (fun j hj hm => KA5.out j hm hj))
                  have KV6 := Kept.mk hV6
                  have KE6 := Kept.mk (show Ext w w6 from Touch.below KE5.out hT6 (fun j hj => (KV5.out.owns j hj).1) hBw)
                  have Kl6 := Kept.mk (show ((l ++ [p]).length : Int) ≤ places ∧ Small (l ++ [p]) from by
                    have hf := Kgo.out.2
                    refine ⟨by rw [List.length_append, List.length_singleton]; omega, fun q hq => ?_⟩
                    rcases List.mem_append.1 hq with h2 | h2
                    · exact Ksm.out q h2
                    · rw [List.mem_singleton] at h2; subst h2; exact Kpb.out)
                  clear hV6 hT6 ho6 hmap p0 p1 p2
                  generalize l ++ [p] = l6 at KA6 KN6 KV6 Kl6 KN5 KA5 KS ⊢
                  go_wp2_with fail
                  go_roundg (gk - 1)
                  case measure => have := Kr.out; omega
                  case rel => exact ⟨i + 1, v5, l6, A6, c6', by have := Kr.out; omega, rfl, by first | rfl | simp, KN6.out, Kl6.out.1, Kl6.out.2, KV6.out, KA6.out, KE6.out⟩
                · have hs : doubleP places l zi = (l, false) := by
                    unfold doubleP
                    split
                    · rename_i ht
                      rw [if_pos (by
                        have : ¬ (l.length : Int) < places := fun h => hgo ⟨ht, h⟩
                        omega)]
                    · rfl
                  rw [hs] at KS
                  clear hs hgo
                  go_wp2_with fail
                  refine KS.out.mono ?_
                  rintro e w5 ⟨rfl, v5, n1, n2, n3⟩
                  have x0' := n2.cell x0 hXn
                  have KN5 := Kept.mk n1
                  have KE5 := Kept.mk (show Ext w w5 from Touch.below (KE.out.trans KEz.out) n2 (fun j hj => (KN.out.owns j hj).1) (Ext.size (KE.out.trans KEz.out)))
                  have KV5 := Kept.mk ((KV.out.ext KEz.out).touch n2 KA.out)
                  have KA5 := Kept.mk (KA.out.net n3 (fun j hj => Nat.lt_of_lt_of_le (KV.out.owns j hj).2 (Ext.size KEz.out)))
                  clear n1 n2 n3
                  go_wp2_with fail
                  go_roundg (gk - 1)
                  case measure => have := Kr.out; omega
                  case rel => exact ⟨i + 1, v5, l, A, c, by have := Kr.out; omega, rfl, by first | rfl | simp, KN5.out, hl, Ksm.out, KV5.out, KA5.out, KE5.out⟩
              · have hk3b : (zk == 3) = false := by simpa using hk3
                go_wp2_with fail
                go_roundg (gk - 1)
                case measure => have := Kr.out; omega
                case rel => exact ⟨i + 1, v, l, A, c, by have := Kr.out; omega, rfl, by first | rfl | simp, KN.out.ext KEz.out, hl, Ksm.out, KV.out.ext KEz.out, KA.out, KE.out.trans KEz.out⟩
          · have hltI : ¬ (i : Int) < (len : Int) := by omega
            go_wp2_with fail
            go_loopg [10] l.length (fun r iv wi => ∃ (j : Nat) (v : Value), j + r = l.length ∧ iv = .int .i64 (j : Int) ∧ NetAt wi w.heap.size g places v (l.drop j) ∧ BufS 3 wi w.heap.size 34 (.slice A l.length c) (l.map pk) ∧ Apart g v (.slice A l.length c) ∧ Ext w wi)
            case atStart => exact ⟨0, v, by omega, rfl, by rw [List.drop_zero]; exact KN.out, KV.out, KA.out, KE.out⟩
            case round =>
              clear KN KV KA KE
              obtain ⟨j, v, hr, rfl, hN, hV, hA, hE⟩ := hrel
              have Kr := Kept.mk hr
              have KN := Kept.mk hN
              have KE := Kept.mk hE
              have KV := Kept.mk hV
              have KA := Kept.mk hA
              have hjl : j ≤ l.length := by omega
              clear hr hN hE hV hA
              by_cases hlt2 : j < l.length
              · have hlt2I : (j : Int) < (l.length : Int) := by omega
                obtain ⟨p, hp⟩ : ∃ p, p = l.getD j noPk := ⟨_, rfl⟩
                have hpk := pk_get hlt2
                rw [← hp] at hpk
                have hdr : l.drop j = p :: l.drop (j + 1) := by
                  rw [List.drop_eq_getElem_cons hlt2, hp, List.getD_eq_getElem?_getD, List.getElem?_eq_getElem hlt2]; rfl
                have hdl : (l.drop j).length ≤ 100000 := by rw [List.length_drop]; omega
                have KS := Kept.mk (take_any w.heap.size g places v (l.drop j) hdl 0 wr KN.out)
                rw [hdr, take0] at KS
                simp only [pk] at KS
                clear hp hdr hdl
                go_wp2_with fail
                refine KS.out.mono ?_
                rintro e w5 ⟨rfl, v5, n1, n2, n3⟩
                have hE6 := Ext.alloc w5 (.cells #[.int .i64 p.f, .int .i64 p.t, .string (strOf p.b)] 34)
                have hX6 : Blk (w5.alloc (.cells #[.int .i64 p.f, .int .i64 p.t, .string (strOf p.b)] 34)) w5.heap.size 34 [.int .i64 p.f, .int .i64 p.t, .string (strOf p.b)] := Blk.new _ _ _
                have KE5 := Kept.mk ((show Ext w w5 from Touch.below KE.out n2 (fun j hj => (KN.out.owns j hj).1) (Ext.size KE.out)).trans hE6)
                have hV5 := (KV.out.touch n2 KA.out).ext hE6
                have KN5 := Kept.mk (n1.ext hE6)
                have KV5 := Kept.mk hV5
                have KA5 := Kept.mk (KA.out.net n3 (fun j hj => (KV.out.owns j hj).2))
                obtain ⟨bL, oL, rfl, p0, p1, p2⟩ := buf_at hV5 (i := j) (by simpa using hlt2) (p := p) hpk
                obtain ⟨⟨s0, s1, s2⟩, -⟩ := Blk.three hX6
                have hneq := fun W => neq_pk p p W
                simp only [decide_true, Bool.not_true] at hneq
                clear n1 n2 n3 hE6 hX6 hV5 hpk
                go_wp2_with fail
                generalize w5.alloc (.cells #[.int .i64 p.f, .int .i64 p.t, .string (strOf p.b)] 34) = w6 at KE5 KN5 KV5 p0 p1 p2 s0 s1 s2 ⊢
                go_quiet (fail)
                go_wp2_with fail
                go_roundg (gk - 1)
                case measure => have := Kr.out; omega
                case rel => exact ⟨j + 1, v5, by have := Kr.out; omega, by first | rfl | simp, KN5.out.ext (Ext.drewN _ _), KV5.out.ext (Ext.drewN _ _), KA5.out, KE5.out.trans (Ext.drewN _ _)⟩
              · have hlt2I : ¬ (j : Int) < (l.length : Int) := by omega
                have hdr : l.drop j = [] := List.drop_of_length_le (by omega)
                have KS := Kept.mk (take_any w.heap.size g places v [] (by simp) 0 wr (by rw [← hdr]; exact KN.out))
                rw [take0_nil] at KS
                simp only [pk, noPk] at KS
                clear hdr
                go_wp2_with fail
                refine KS.out.mono ?_
                rintro e w5 ⟨rfl, v5, n1, n2, n3⟩
                have KE5 := Kept.mk (show Ext w w5 from Touch.below KE.out n2 (fun j hj => (KN.out.owns j hj).1) (Ext.size KE.out))
                have KN5 := Kept.mk n1
                clear n1 n2 n3
                go_wp2_with fail
                refine (len_any w.heap.size g places v5 [] _ (KN5.out.ext (Ext.alloc _ _))).mono ?_
                rintro e w6 ⟨rfl, rfl⟩
                go_wp2_with fail
                go_ret
                exact ⟨by first | rfl | simp, KE5.out.trans (Ext.alloc _ _)⟩
end Net
end Go.Proofs.Ytpdaijmehaialaa
