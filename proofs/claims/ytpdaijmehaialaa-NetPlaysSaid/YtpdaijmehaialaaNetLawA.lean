/- The law NetEmpties. No condition. -/
import Derived.Test.YtpdaijmehaialaaNetWalkI
import Derived.Laws.StructEq
namespace Go.Proofs.Ytpdaijmehaialaa
open Go.RowKit Go.ChangeShapes Go.WideShapes
namespace Net
set_option linter.unusedSimpArgs false
set_option linter.unusedVariables false
theorem pk_same (p q : Pk) : (p.f == q.f && (p.t == q.t && (strOf p.b).toList == (strOf q.b).toList)) = decide (p = q) := by
  rw [ByteArray.toList_eq, ByteArray.toList_eq, strOf_list, strOf_list]
  obtain ⟨f, t, b⟩ := p
  obtain ⟨f', t', b'⟩ := q
  by_cases h1 : f = f' <;> by_cases h2 : t = t' <;> by_cases h3 : b = b' <;> simp [h1, h2, h3]
theorem neq_pk (p q : Pk) (w : World) : (binOp .neq 34 (.agg #[.int .i64 p.f, .int .i64 p.t, .string (strOf p.b)]) (.agg #[.int .i64 q.f, .int .i64 q.t, .string (strOf q.b)])).run Try.prog w = .ok (.bool (!decide (p = q))) w := by
  have hS : Try.prog.underlying 34 = some (.struct (Try.prog.fieldsOf 34)) := by kernel_rfl
  have hp : Try.prog.stoodInHeld 34 = false := by kernel_rfl
  rw [run_neq_struct, show (10000 : Nat) = 9999 + 1 from rfl, run_equalIn_agg w 9999 34 _ _ hS hp]
  have hb := pk_same p q
  simp only [Program.fieldsOf, Try.underlying34]
  have u3 := Try.underlying3
  have u9 := Try.underlying9
  go_simp
  rw [← hb]
  by_cases h1 : p.f = q.f <;> by_cases h2 : p.t = q.t <;> by_cases h3 : (strOf p.b).toList = (strOf q.b).toList <;> simp [h1, h2, h3]
theorem doP_len {places : Int} {l : List Pk} (a : Act) (h : (l.length : Int) ≤ places) : ((doP places l a).1.length : Int) ≤ places := by
  unfold doP
  split
  · unfold sendP
    simp only []
    split
    · exact h
    · rw [List.length_append, List.length_singleton]; rename_i h1; simp only [not_or] at h1; omega
  split
  · unfold takeP
    simp only []
    split
    · rw [List.length_append, List.length_take, List.length_drop]; omega
    · exact h
  split
  · unfold takeP
    simp only []
    split
    · rw [List.length_append, List.length_take, List.length_drop]; omega
    · exact h
  split
  · unfold doubleP
    simp only []
    split
    · split
      · exact h
      · rw [List.length_append, List.length_singleton]; omega
    · exact h
  split
  · unfold spoilP
    simp only []
    split
    · exact h
    · rw [List.length_set]; exact h
  split
  · have := List.length_filter_le (fun p : Pk => decide (p.f ≠ a.i ∧ p.t ≠ a.i)) l
    unfold emptyP
    simp only []
    omega
  · exact h
def Small (l : List Pk) : Prop := ∀ p ∈ l, p.b.length ≤ 1048576
theorem small_getD {l : List Pk} (h : Small l) (k : Nat) : (l.getD k noPk).b.length ≤ 1048576 := by
  rw [List.getD_eq_getElem?_getD]
  cases hh : l[k]? with
  | none => simp [noPk]
  | some p => exact h p (List.mem_of_getElem? hh)
theorem turnB_len (b : List UInt8) (k : Nat) (t : Int) : (turnB b k t).length = b.length := by unfold turnB; rw [List.length_set]
theorem doP_small {places : Int} {l : List Pk} (a : Act) (h : Small l) : Small (doP places l a).1 := by
  unfold doP
  split
  · unfold sendP
    simp only []
    split
    · exact h
    · rename_i h1
      simp only [not_or] at h1
      intro p hp
      rcases List.mem_append.1 hp with h2 | h2
      · exact h p h2
      · rw [List.mem_singleton] at h2; subst h2; omega
  have htake : Small (takeP l a.i).1 := by
    unfold takeP
    split
    · intro p hp
      rcases List.mem_append.1 hp with h2 | h2
      · exact h p (List.mem_of_mem_take h2)
      · exact h p (List.mem_of_mem_drop h2)
    · exact h
  split
  · exact htake
  split
  · exact htake
  split
  · unfold doubleP
    simp only []
    split
    · split
      · exact h
      · intro p hp
        rcases List.mem_append.1 hp with h2 | h2
        · exact h p h2
        · rw [List.mem_singleton] at h2; subst h2; exact small_getD h _
    · exact h
  split
  · unfold spoilP
    simp only []
    split
    · exact h
    · intro p hp
      rcases List.mem_or_eq_of_mem_set hp with h2 | h2
      · exact h p h2
      · subst h2
        unfold spoilPk
        simp only [turnB_len]
        exact small_getD h _
  split
  · intro p hp
    exact h p ((List.mem_filter.1 hp).1)
  · exact h
theorem act_cells {w : World} {b o : Nat} {z : Act} (h : ∀ j u, (actV z)[j]? = some u → w.cell? ⟨b, o + j, none⟩ = some u) :
    w.cell? ⟨b, o, none⟩ = some (.int .i64 z.k) ∧ w.cell? ⟨b, o + 1, none⟩ = some (.int .i64 z.p.f) ∧ w.cell? ⟨b, o + 2, none⟩ = some (.int .i64 z.p.t) ∧ w.cell? ⟨b, o + 3, none⟩ = some (.string (strOf z.p.b)) ∧ w.cell? ⟨b, o + 4, none⟩ = some (.int .i64 z.i) ∧ w.cell? ⟨b, o + 5, none⟩ = some (.int .i64 z.at') ∧ w.cell? ⟨b, o + 6, none⟩ = some (.int .u8 z.turn) :=
  ⟨h 0 _ rfl, h 1 _ rfl, h 2 _ rfl, h 3 _ rfl, h 4 _ rfl, h 5 _ rfl, h 6 _ rfl⟩
theorem empty_idem (l : List Pk) (i : Int) : emptyP (emptyP l i) i = emptyP l i := by
  unfold emptyP
  exact List.filter_eq_self.2 fun p hp => (List.mem_filter.1 hp).2
theorem filter_at {α : Type} (p : α → Bool) : ∀ (l : List α) (i : Nat) (x : α), l[i]? = some x → p x = true → (l.filter p)[((l.take i).filter p).length]? = some x
  | [], i, x, h, _ => by simp at h
  | a :: l, 0, x, h, hp => by
    simp at h
    subst h
    simp [List.filter_cons, hp]
  | a :: l, i + 1, x, h, hp => by
    have ih := filter_at p l i x (by simpa using h) hp
    rw [List.take_succ_cons, List.filter_cons, List.filter_cons]
    split
    · simpa using ih
    · exact ih
set_option maxRecDepth 100000 in
set_option maxHeartbeats 4000000 in
theorem empties_law (w : World) (a : Option Addr) (len cap : Nat) (zs : List Act) (h : InActs w a len cap zs) (side : Int) (hs : (Lit.int .i64 side).wf = true) : Calls Try.prog 6 #[.slice a len cap, .int .i64 side] w fun e w1 => e = .returned (.bool true) ∧ Below w.heap.size w w1 := by
  have KP := Kept.mk h
  clear h hs
  go_enter Try.func6, Try.ntmps6
  go_wp2_with fail
  refine (awake_any w).mono ?_
  rintro e w1 ⟨rfl, h1⟩
  have KE1 := Kept.mk h1
  clear h1
  go_wp2_with fail
  refine (few_any w w1 a len cap zs KP.out KE1.out).mono ?_
  rintro e w2 ⟨r, rfl, hr, rfl⟩
  cases r with
  | false =>
    go_wp2_with fail
    go_ret
    exact ⟨rfl, KE1.out⟩
  | true =>
    have hlen : len ≤ 400 := hr rfl
    clear hr
    go_wp2_with fail
    refine (new_any 64 (by decide) (by decide) w1).mono ?_
    rintro e w3 ⟨rfl, hN3, hE3⟩
    have KE3 := Kept.mk (KE1.out.trans hE3)
    have KN3 := Kept.mk hN3
    have hB : w.heap.size ≤ w1.heap.size := Ext.size KE1.out
    clear hN3 hE3
    go_wp2_with fail
    generalize w1.heap.size = g at hB KN3 ⊢
    go_loopg [7] len (fun r iv wi => ∃ (i : Nat) (v : Value) (l : List Pk), i + r = len ∧ iv = .int .i64 (i : Int) ∧ NetAt wi w.heap.size g 64 v l ∧ (l.length : Int) ≤ 64 ∧ Small l ∧ Ext w wi)
    case atStart => exact ⟨0, _, [], by omega, rfl, ⟨KN3.out.1, KN3.out.2.1.lower hB, hB, KN3.out.2.2.2⟩, by simp, by simp [Small], KE3.out⟩
    case round =>
      obtain ⟨i, v, l, hr, rfl, hN, hl, hsm, hE⟩ := hrel
      have Kr := Kept.mk hr
      have KN := Kept.mk hN
      have KE := Kept.mk hE
      have Ksm := Kept.mk hsm
      have hil : i ≤ len := by omega
      have hll : l.length ≤ 64 := by omega
      clear hr hN hE hsm
      by_cases hlt : i < len
      · have hltI : (i : Int) < (len : Int) := by omega
        obtain ⟨b, off, z, hz, rfl, hb, hok, hc⟩ := KP.out.at hlt
        have Kc (j : Nat) (u : Value) (hu : (actV z)[j]? = some u) := KE.out.cell (hc j u hu)
        obtain ⟨c0, c1, c2, c3, c4, c5, c6⟩ := act_cells Kc
        have KD := Kept.mk (do_any w.heap.size g 64 v l (by omega) Ksm.out z hok wr KN.out)
        have Kl2 := Kept.mk (doP_len (places := 64) z hl)
        have Ks2 := Kept.mk (doP_small (places := 64) z Ksm.out)
        generalize doP 64 l z = q at KD Kl2 Ks2
        obtain ⟨q1, ⟨pf, pt, pb⟩, q3, q4⟩ := q
        clear hz hb hc Kc hok
        go_wp2_with fail
        refine KD.out.mono ?_
        rintro e w5 ⟨rfl, v5, n1, n2, n3⟩
        have KN5 := Kept.mk n1
        have KE5 := Kept.mk (show Ext w w5 from Touch.below KE.out n2 (fun j hj => (KN.out.owns j hj).1) (Ext.size KE.out))
        clear n1 n2 n3
        go_wp2_with fail
        go_roundg (gk - 1)
        case measure => have := Kr.out; omega
        case rel => exact ⟨i + 1, v5, q1, by have := Kr.out; omega, by first | rfl | simp, KN5.out, Kl2.out, Ks2.out, KE5.out⟩
      · have hltI : ¬ (i : Int) < (len : Int) := by omega
        go_wp2_with fail
        refine (packets_any w.heap.size g 64 v l (by omega) wr KN.out).mono ?_
        rintro e w5 ⟨v5, rfl, hV5, hE5⟩
        have KV5 := Kept.mk hV5
        have KN5 := Kept.mk (KN.out.ext hE5)
        have KE5 := Kept.mk (KE.out.trans hE5)
        clear hE5
        obtain ⟨A5, c5, rfl⟩ := hV5.form
        rw [List.length_map] at KV5 ⊢
        clear hV5
        go_wp2_with fail
        refine (empty_any w.heap.size g 64 v l (by omega) side w5 KN5.out).mono ?_
        rintro e w6 ⟨rfl, v6, n1, n2, n3⟩
        have hdis : ∀ j ∈ own (.slice A5 l.length c5), j ∉ g :: own v := fun j hj hm => by
          have h1 := (KV5.out.owns j hj).1
          have h2 := (KN.out.owns j hm).2
          omega
        have KV6 := Kept.mk (KV5.out.touch n2 hdis)
        have KN6 := Kept.mk n1
        have KE6 := Kept.mk (show Ext w w6 from Touch.below KE5.out n2 (fun j hj => (KN.out.owns j hj).1) (Ext.size KE5.out))
        obtain ⟨M, hM⟩ : ∃ M, M = emptyP l side := ⟨_, rfl⟩
        have KM := Kept.mk hM
        have Kid := Kept.mk (show emptyP M side = M by rw [hM]; exact empty_idem l side)
        have hMl : M.length ≤ l.length := by rw [hM]; exact List.length_filter_le _ _
        rw [← hM] at KN6 ⊢
        clear n1 n2 n3 hdis hM
        go_wp2_with fail
        refine (packets_any w.heap.size g 64 v6 M (by omega) w6 KN6.out).mono ?_
        rintro e w7 ⟨v7, rfl, hV7, hE7⟩
        have KV7 := Kept.mk hV7
        have KN7 := Kept.mk (KN6.out.ext hE7)
        have KL7 := Kept.mk (KV6.out.ext hE7)
        have KE7 := Kept.mk (KE6.out.trans hE7)
        obtain ⟨A7, c7, rfl⟩ := hV7.form
        rw [List.length_map] at KV7 ⊢
        clear hE7 hV7
        go_wp2_with fail
        go_loopg [11, 12] l.length (fun r kv iv wi => ∃ (i k : Nat), i + r = l.length ∧ kv = .int .i64 (k : Int) ∧ iv = .int .i64 (i : Int) ∧ k = ((l.take i).filter (fun p => decide (p.f ≠ side ∧ p.t ≠ side))).length ∧ Ext w7 wi)
        case atStart => exact ⟨0, 0, by omega, rfl, rfl, by simp, Ext.refl _⟩
        case round =>
          obtain ⟨i, k, hr, rfl, rfl, hk, hE⟩ := hrel
          have Kr := Kept.mk hr
          have Kk := Kept.mk hk
          have KE := Kept.mk hE
          have hkb : k ≤ 64 := by
            rw [hk]
            exact Nat.le_trans (List.length_filter_le _ _) (by rw [List.length_take]; omega)
          have hil : i ≤ l.length := by omega
          clear hr hk hE
          by_cases hlt : i < l.length
          · have hltI : (i : Int) < (l.length : Int) := by omega
            obtain ⟨p, hp⟩ : ∃ p, p = l.getD i noPk := ⟨_, rfl⟩
            have hpi : l[i]? = some p := by rw [hp, List.getD_eq_getElem?_getD, List.getElem?_eq_getElem hlt]; rfl
            obtain ⟨b5, o5, rfl, p0, p1, p2⟩ := buf_at (KL7.out.ext KE.out) (i := i) (by simpa using hlt) (p := p) (by rw [List.getElem?_map, hpi]; rfl)
            have Kst := Kept.mk (show ((l.take (i + 1)).filter (fun p => decide (p.f ≠ side ∧ p.t ≠ side))).length = k + (if p.f ≠ side ∧ p.t ≠ side then 1 else 0) by
              rw [take_succ_get l i hlt, ← hp, List.filter_append, List.length_append, ← Kk.out]
              congr 1
              by_cases h1 : p.f ≠ side ∧ p.t ≠ side
              · rw [if_pos h1, List.filter_cons, if_pos (by simpa using h1)]; rfl
              · rw [if_neg h1, List.filter_cons, if_neg (by simpa using h1)]; rfl)
            have Kpi := Kept.mk hpi
            clear hp hpi
            by_cases h1 : p.f = side
            · have h1b : (p.f == side) = true := by simpa using h1
              have Kn := Kept.mk (show ¬ (p.f ≠ side ∧ p.t ≠ side) from fun h => h.1 h1)
              clear h1
              go_wp2_with fail
              go_roundg (gk - 1)
              case measure => have := Kr.out; omega
              case rel => exact ⟨i + 1, k, by have := Kr.out; omega, rfl, by first | rfl | simp, by rw [Kst.out, if_neg Kn.out, Nat.add_zero], KE.out⟩
            · have h1b : (p.f == side) = false := by simpa using h1
              by_cases h2 : p.t = side
              · have h2b : (p.t == side) = true := by simpa using h2
                have Kn := Kept.mk (show ¬ (p.f ≠ side ∧ p.t ≠ side) from fun h => h.2 h2)
                clear h1 h2
                go_wp2_with fail
                go_roundg (gk - 1)
                case measure => have := Kr.out; omega
                case rel => exact ⟨i + 1, k, by have := Kr.out; omega, rfl, by first | rfl | simp, by rw [Kst.out, if_neg Kn.out, Nat.add_zero], KE.out⟩
              · have h2b : (p.t == side) = false := by simpa using h2
                have Kn := Kept.mk (show (p.f ≠ side ∧ p.t ≠ side) from ⟨h1, h2⟩)
                have hMk : M[k]? = some p := by
                  rw [KM.out, Kk.out]
                  exact filter_at _ l i p Kpi.out (by simpa using Kn.out)
                have hkM : k < M.length := (List.getElem?_eq_some_iff.1 hMk).1
                have hkMI : ¬ (M.length : Int) ≤ (k : Int) := by omega
                have hkMB : decide ((k : Int) ≥ (M.length : Int)) = false := by simpa using hkMI
                have hkMI2 : (k : Int) < (M.length : Int) := by omega
                obtain ⟨b7, o7, rfl, q0, q1, q2⟩ := buf_at (KV7.out.ext KE.out) (i := k) (by simpa using hkM) (p := p) (by rw [List.getElem?_map, hMk]; rfl)
                have hneq := fun W => neq_pk p p W
                simp only [decide_true, Bool.not_true] at hneq
                clear h1 h2 hMk
                go_wp2_with fail
                go_quiet (fail)
                go_wp2_with fail
                go_roundg (gk - 1)
                case measure => have := Kr.out; omega
                case rel => exact ⟨i + 1, k + 1, by have := Kr.out; omega, by first | rfl | simp, by first | rfl | simp, by rw [Kst.out, if_pos Kn.out], KE.out.trans (Ext.drewN _ _)⟩
          · have hltI : ¬ (i : Int) < (l.length : Int) := by omega
            have hkM : k = M.length := by
              rw [Kk.out, KM.out, List.take_of_length_le (by omega)]
              rfl
            subst hkM
            have hgo : (M.length : Int) ≤ (l.length : Int) := by omega
            go_wp2_with fail
            refine (empty_any w.heap.size g 64 v6 M (by omega) side wr (KN7.out.ext KE.out)).mono ?_
            rintro e w8 ⟨rfl, v8, n1, n2, n3⟩
            rw [Kid.out]
            have KE8 := Kept.mk (show Ext w w8 from Touch.below (KE7.out.trans KE.out) n2 (fun j hj => (KN7.out.owns j hj).1) (Ext.size (KE7.out.trans KE.out)))
            clear n1 n2 n3
            go_wp2_with fail
            go_ret
            exact ⟨by first | rfl | simp, KE8.out⟩
end Net
end Go.Proofs.Ytpdaijmehaialaa
