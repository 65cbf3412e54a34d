/- The law NetPlays. No condition. -/
import Derived.Test.YtpdaijmehaialaaNetWalkO
import Derived.Test.YtpdaijmehaialaaNetLawB
namespace Go.Proofs.Ytpdaijmehaialaa
open Go.RowKit Go.ChangeShapes Go.WideShapes
namespace Net
set_option linter.unusedSimpArgs false
set_option linter.unusedVariables false
theorem neq_pkR (p q : Pk) (w : World) : (binOp .neq 31 (.agg #[.int .i64 p.f, .int .i64 p.t, .string (strOf p.b)]) (.agg #[.int .i64 q.f, .int .i64 q.t, .string (strOf q.b)])).run Try.prog w = .ok (.bool (!decide (p = q))) w := by
  have hS : Try.prog.underlying 31 = some (.struct (Try.prog.fieldsOf 31)) := by kernel_rfl
  have hp : Try.prog.stoodInHeld 31 = false := by kernel_rfl
  rw [run_neq_struct, show (10000 : Nat) = 9999 + 1 from rfl, run_equalIn_agg w 9999 31 _ _ hS hp]
  have hb := pk_same p q
  simp only [Program.fieldsOf, Try.underlying31]
  have u3 := Try.underlying3
  have u9 := Try.underlying9
  go_simp
  rw [← hb]
  by_cases h1 : p.f = q.f <;> by_cases h2 : p.t = q.t <;> by_cases h3 : (strOf p.b).toList = (strOf q.b).toList <;> simp [h1, h2, h3]
set_option maxRecDepth 100000 in
set_option maxHeartbeats 4000000 in
theorem plays_law (w : World) (places : Int) (hpl : (Lit.int .i64 places).wf = true) (a : Option Addr) (len cap : Nat) (zs : List Act) (h : InActs w a len cap zs) : Calls Try.prog 5 #[.int .i64 places, .slice a len cap] w fun e w1 => e = .returned (.bool true) ∧ Below w.heap.size w w1 := by
  have KP := Kept.mk h
  clear h hpl
  by_cases hp0 : places < 1 ∨ 64 < places
  · have Kbad := Kept.mk (fun W => new_bad places hp0 W)
    rcases (show places < 1 ∨ (¬ places < 1 ∧ 64 < places) by omega) with hp1 | ⟨hp1, hp2⟩
    all_goals
      clear hp0
      go_enter Try.func5, Try.ntmps5
      go_wp2_with fail
      refine (awake_any w).mono ?_
      rintro e w1 ⟨rfl, h1⟩
      have KE1 := Kept.mk h1
      clear h1
      go_wp2_with fail
      refine (few_any w w1 a len cap zs KP.out KE1.out).mono ?_
      rintro e w2 ⟨r, rfl, hr, rfl⟩
      clear hr
      cases r with
      | false =>
        go_wp2_with fail
        go_ret
        exact ⟨rfl, KE1.out⟩
      | true =>
        go_wp2_with fail
        refine (Kbad.out w1).mono ?_
        rintro e w2 ⟨rfl, rfl⟩
        go_wp2_with fail
        go_ret
        exact ⟨by first | rfl | simp, KE1.out⟩
  · have hp1 : ¬ places < 1 := fun h => hp0 (.inl h)
    have hp2 : ¬ 64 < places := fun h => hp0 (.inr h)
    clear hp0
    go_enter Try.func5, Try.ntmps5
    go_wp2_with fail
    refine (awake_any w).mono ?_
    rintro e w1 ⟨rfl, h1⟩
    have KE1 := Kept.mk h1
    clear h1
    go_wp2_with fail
    refine (few_any w w1 a len cap zs KP.out KE1.out).mono ?_
    rintro e w2 ⟨r, rfl, hr, rfl⟩
    cases r with
    | false =>
      go_wp2_with fail
      go_ret
      exact ⟨rfl, KE1.out⟩
    | true =>
      have hlen : len ≤ 400 := hr rfl
      clear hr
      go_wp2_with fail
      refine (new_any places (by omega) (by omega) w1).mono ?_
      rintro e w3 ⟨rfl, hN3, hE3⟩
      have KE3 := Kept.mk (KE1.out.trans hE3)
      have KN3 := Kept.mk hN3
      have hB : w.heap.size ≤ w1.heap.size := Ext.size KE1.out
      clear hN3 hE3
      go_wp2_with fail
      generalize w1.heap.size = g at hB KN3 ⊢
      go_loopg [7, 8] len (fun r lv iv wi => ∃ (i : Nat) (v : Value) (l : List Pk) (A : Option Addr) (c : Nat), i + r = len ∧ lv = .slice A l.length c ∧ iv = .int .i64 (i : Int) ∧ NetAt wi w.heap.size g places v l ∧ (l.length : Int) ≤ places ∧ Small l ∧ BufS 3 wi w.heap.size 31 (.slice A l.length c) (l.map pk) ∧ Apart g v (.slice A l.length c) ∧ Ext w wi)
      case atStart => exact ⟨0, _, [], none, 0, by omega, rfl, rfl, ⟨KN3.out.1, KN3.out.2.1.lower hB, hB, KN3.out.2.2.2⟩, by simp; omega, by simp [Small], BufS.nil _ _ _ _, by intro j hj; simp [own] at hj, KE3.out⟩
      case round =>
        obtain ⟨i, v, l, A, c, hr, rfl, rfl, hN, hl, hsm, hV, hA, hE⟩ := hrel
        have Kr := Kept.mk hr
        have KN := Kept.mk hN
        have KE := Kept.mk hE
        have Ksm := Kept.mk hsm
        have KV := Kept.mk hV
        have KA := Kept.mk hA
        have hil : i ≤ len := by omega
        have hll : l.length ≤ 64 := by omega
        clear hr hN hE hsm hV hA
        by_cases hlt : i < len
        · have hltI : (i : Int) < (len : Int) := by omega
          obtain ⟨b, off, z, hz, rfl, hb, hok, hc⟩ := KP.out.at hlt
          have hc0 := fun j u hu => KE.out.cell (hc j u hu)
          obtain ⟨c0, c1, c2, c3, c4, c5, c6⟩ := act_cells hc0
          have Khc := Kept.mk hc
          have KD := Kept.mk (do_any w.heap.size g places v l (by omega) Ksm.out z hok wr KN.out)
          have KRf := Kept.mk (fun W hB h => refDo_any w.heap.size places A c l (by omega) Ksm.out z hok W hB h)
          have Kl2 := Kept.mk (doP_len (places := places) z hl)
          have Ks2 := Kept.mk (doP_small (places := places) z Ksm.out)
          generalize doP places l z = q at KD KRf Kl2 Ks2
          obtain ⟨q1, ⟨pf, pt, pb⟩, q3, q4⟩ := q
          have hq1 : (q1.length : Int) ≤ places := Kl2.out
          have hq1b : q1.length ≤ 64 := by omega
          clear hz hb hc hok hc0
          go_wp2_with fail
          refine KD.out.mono ?_
          rintro e w5 ⟨rfl, v5, n1, n2, n3⟩
          have hEa := Ext.alloc w5 (.cells #[.int .i64 pf, .int .i64 pt, .string (strOf pb)] 34)
          have hXa : Blk (w5.alloc (.cells #[.int .i64 pf, .int .i64 pt, .string (strOf pb)] 34)) w5.heap.size 34 [.int .i64 pf, .int .i64 pt, .string (strOf pb)] := Blk.new _ _ _
          have KN5 := Kept.mk (n1.ext hEa)
          have KE5 := Kept.mk ((show Ext w w5 from Touch.below KE.out n2 (fun j hj => (KN.out.owns j hj).1) (Ext.size KE.out)).trans hEa)
          have KV5 := Kept.mk ((KV.out.touch n2 KA.out).ext hEa)
          have KA5 := Kept.mk (KA.out.net n3 (fun j hj => (KV.out.owns j hj).2))
          have KXa := Kept.mk hXa
          obtain ⟨d0, d1, d2, d3, d4, d5, d6⟩ := act_cells (fun j u hu => KE5.out.cell (Khc.out j u hu))
          have hBw : w.heap.size ≤ (w5.alloc (.cells #[.int .i64 pf, .int .i64 pt, .string (strOf pb)] 34)).heap.size := Ext.size KE5.out
          simp only [pk]
          clear n1 n2 n3 hEa hXa
          go_wp2_with fail
          generalize w5.alloc (.cells #[.int .i64 pf, .int .i64 pt, .string (strOf pb)] 34) = wa at KN5 KE5 KV5 KXa d0 d1 d2 d3 d4 d5 d6 hBw ⊢
          refine (KRf.out wa hBw KV5.out).mono ?_
          rintro e w6 ⟨A6, c6, rfl, hV6, hE6, ho6⟩
          have hEb := Ext.alloc w6 (.cells #[.int .i64 pf, .int .i64 pt, .string (strOf pb)] 31)
          have hXb : Blk (w6.alloc (.cells #[.int .i64 pf, .int .i64 pt, .string (strOf pb)] 31)) w6.heap.size 31 [.int .i64 pf, .int .i64 pt, .string (strOf pb)] := Blk.new _ _ _
          have KN6 := Kept.mk (KN5.out.ext (hE6.trans hEb))
          have KE6 := Kept.mk (KE5.out.trans (hE6.trans hEb))
          have KV6 := Kept.mk (hV6.ext hEb)
          have KA6 := Kept.mk (KA5.out.row ho6 (fun j hj => (KN5.out.owns j hj).2))
          have KXa6 := Kept.mk (KXa.out.ext (hE6.trans hEb))
          have KXb := Kept.mk hXb
          simp only [pk]
          clear hV6 hE6 ho6 hEb hXb d0 d1 d2 d3 d4 d5 d6
          go_wp2_with fail
          generalize w6.alloc (.cells #[.int .i64 pf, .int .i64 pt, .string (strOf pb)] 31) = wb at KN6 KE6 KV6 KXa6 KXb ⊢
          refine (packets_any w.heap.size g places v5 q1 (by omega) wb KN6.out).mono ?_
          rintro e w7 ⟨v7, rfl, hV7, hE7⟩
          have KV7 := Kept.mk hV7
          have KN7 := Kept.mk (KN6.out.ext hE7)
          have KE7 := Kept.mk (KE6.out.trans hE7)
          have KM7 := Kept.mk (KV6.out.ext hE7)
          obtain ⟨⟨s0, s1, s2⟩, -⟩ := Blk.three (KXa6.out.ext hE7)
          obtain ⟨⟨u0, u1, u2⟩, -⟩ := Blk.three (KXb.out.ext hE7)
          obtain ⟨A7, c7, rfl⟩ := hV7.form
          rw [List.length_map] at KV7 ⊢
          have hneq := fun W => neq_pkR ⟨pf, pt, pb⟩ ⟨pf, pt, pb⟩ W
          simp only [decide_true, Bool.not_true] at hneq
          clear hV7 hE7
          go_wp2_with fail
          refine (len_any w.heap.size g places v5 q1 w7 KN7.out).mono ?_
          rintro e w8 ⟨rfl, rfl⟩
          go_wp2_with fail
          obtain ⟨g1, hg1⟩ : ∃ g, g = gk := ⟨gk, rfl⟩
          subst hg1
          clear hneq
          go_loopg [17] q1.length (fun r kv wi => ∃ k : Nat, k + r = q1.length ∧ kv = .int .i64 (k : Int) ∧ Ext w7 wi)
          case atStart => exact ⟨0, by omega, rfl, Ext.refl _⟩
          case round =>
            obtain ⟨k, hr, rfl, hE⟩ := hrel
            have Kk := Kept.mk hr
            have KEk := Kept.mk hE
            have hkl : k ≤ q1.length := by omega
            clear hr hE
            by_cases hlt2 : k < q1.length
            · have hlt2I : (k : Int) < (q1.length : Int) := by omega
              obtain ⟨p, hp⟩ : ∃ p, p = q1.getD k noPk := ⟨_, rfl⟩
              have hpk := pk_get hlt2
              rw [← hp] at hpk
              obtain ⟨bL, oL, rfl, p0, p1, p2⟩ := buf_at (KV7.out.ext KEk.out) (i := k) (by simpa using hlt2) (p := p) hpk
              obtain ⟨bM, oM, rfl, m0, m1, m2⟩ := buf_atR (KM7.out.ext KEk.out) (i := k) (by simpa using hlt2) (p := p) hpk
              have hneq := fun W => neq_pkR p p W
              simp only [decide_true, Bool.not_true] at hneq
              clear hp hpk
              go_wp2_with fail
              go_quiet (fail)
              go_wp2_with fail
              go_roundg (gk - 1)
              case measure => have := Kk.out; omega
              case rel => exact ⟨k + 1, by have := Kk.out; omega, by first | rfl | simp, KEk.out.trans (Ext.drewN _ _)⟩
            · have hlt2I : ¬ (k : Int) < (q1.length : Int) := by omega
              go_wp2_with fail
              go_roundg (g1 - 1)
              case measure => have := Kr.out; omega
              case rel => exact ⟨i + 1, v5, q1, A6, c6, by have := Kr.out; omega, rfl, by first | rfl | simp, KN7.out.ext KEk.out, hq1, Ks2.out, KM7.out.ext KEk.out, KA6.out, KE7.out.trans KEk.out⟩
        · have hltI : ¬ (i : Int) < (len : Int) := by omega
          go_wp2_with fail
          go_ret
          exact ⟨rfl, KE.out⟩
end Net
end Go.Proofs.Ytpdaijmehaialaa
