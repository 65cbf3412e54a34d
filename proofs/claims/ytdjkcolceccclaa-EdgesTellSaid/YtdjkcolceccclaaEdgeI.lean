/- The walks of the document's comparisons, where both are the same. No condition. -/
import Derived.Test.YtdjkcolceccclaaEdgeA
import Derived.BigQuiet
namespace Go.Proofs.Ytdjkcolceccclaa
open Go.RowKit
namespace Edge
set_option linter.unusedSimpArgs false
set_option linter.unusedVariables false
set_option maxRecDepth 100000 in
theorem texts_any (l : List S) (a b : Value) (w : World) (ha : Rd 1 w a (l.map sV)) (hb : Rd 1 w b (l.map sV)) :
    Calls Try.prog 10 #[a, b] w fun e w' => e = .returned (.bool true) ∧ Ext w w' := by
  obtain ⟨aA, ac, rfl⟩ := ha.form
  obtain ⟨bA, bc, rfl⟩ := hb.form
  rw [List.length_map] at *
  have hle := ha.le
  rw [List.length_map] at hle
  have Ka := Kept.mk ha
  have Kb := Kept.mk hb
  clear ha hb
  obtain ⟨n, hn⟩ : ∃ n, n = l.length := ⟨_, rfl⟩
  have Kn := Kept.mk hn
  rw [← hn] at Ka Kb hle ⊢
  clear hn
  go_enter Try.func10, Try.ntmps10
  go_wp2_with fail
  go_loopg [5] n (fun r iv wi => ∃ i : Nat, i + r = n ∧ iv = .int .i64 (i : Int) ∧ Kept (Ext w wi))
  case atStart => exact ⟨0, by omega, rfl, Kept.mk (Ext.refl _)⟩
  case round =>
    obtain ⟨i, hr, rfl, KE⟩ := hrel
    have Kr := Kept.mk hr
    have hil : i ≤ n := by omega
    clear hr
    by_cases hlt : i < n
    · have hltI : (i : Int) < (n : Int) := by omega
      have hi2 : i < l.length := by rw [← Kn.out]; exact hlt
      obtain ⟨b1, o1, rfl, hb1, hc1⟩ := Ka.out.get (by decide) (i := i) hi2
      obtain ⟨b2, o2, rfl, hb2, hc2⟩ := Kb.out.get (by decide) (i := i) hi2
      have s1 := KE.out.cell (hc1 0 (.string (strOf l[i])) rfl)
      have s2 := KE.out.cell (hc2 0 (.string (strOf l[i])) rfl)
      generalize l[i] = x at s1 s2
      rw [Nat.add_zero, Nat.mul_one] at s1 s2
      clear hc1 hc2
      go_wp2_with fail
      go_quiet (fail)
      have KE2 := Kept.mk (KE.out.trans (Ext.drewN wr nq))
      clear s1 s2
      go_wp2_with fail
      go_roundg (gk - 1)
      case measure => have := Kr.out; omega
      case rel => exact ⟨i + 1, by have := Kr.out; omega, by first | rfl | simp, KE2⟩
    · have hltI : ¬ (i : Int) < (n : Int) := by omega
      go_wp2_with fail
      go_ret
      exact ⟨rfl, KE.out⟩
theorem ent_same (p q : Ent) : (p.m == q.m && ((strOf p.n).toList == (strOf q.n).toList && (strOf p.i).toList == (strOf q.i).toList)) = decide (p.m = q.m ∧ p.n = q.n ∧ p.i = q.i) := by
  rw [ByteArray.toList_eq, ByteArray.toList_eq, ByteArray.toList_eq, ByteArray.toList_eq, strOf_list, strOf_list, strOf_list, strOf_list]
  by_cases h1 : p.m = q.m <;> by_cases h2 : p.n = q.n <;> by_cases h3 : p.i = q.i <;> simp [h1, h2, h3]
theorem neq_ent (p q : Ent) (w : World) : (binOp .neq 46 (.agg #[.int .i64 p.m, .string (strOf p.n), .string (strOf p.i)]) (.agg #[.int .i64 q.m, .string (strOf q.n), .string (strOf q.i)])).run Try.prog w = .ok (.bool (!decide (p.m = q.m ∧ p.n = q.n ∧ p.i = q.i))) w := by
  have hS : Try.prog.underlying 46 = some (.struct (Try.prog.fieldsOf 46)) := by kernel_rfl
  have hp : Try.prog.stoodInHeld 46 = false := by kernel_rfl
  rw [run_neq_struct, show (10000 : Nat) = 9999 + 1 from rfl, run_equalIn_agg w 9999 46 _ _ hS hp]
  have hb := ent_same p q
  simp only [Program.fieldsOf, Try.underlying46]
  have u3 := Try.underlying3
  have u9 := Try.underlying9
  go_simp
  have hb2 : (!decide (p.m = q.m) || (!decide (p.n = q.n) || !decide (p.i = q.i))) = !decide (p.m = q.m ∧ p.n = q.n ∧ p.i = q.i) := by
    by_cases h1 : p.m = q.m <;> by_cases h2 : p.n = q.n <;> by_cases h3 : p.i = q.i <;> simp [h1, h2, h3]
  rw [hb2, ← hb]
  by_cases h1 : p.m = q.m <;> by_cases h2 : (strOf p.n).toList = (strOf q.n).toList <;> by_cases h3 : (strOf p.i).toList = (strOf q.i).toList <;> simp [h1, h2, h3]
set_option maxRecDepth 100000 in
theorem ents_any (l : List Ent) (a b : Value) (w : World) (ha : Rd 3 w a (l.map entV)) (hb : Rd 3 w b (l.map entV)) :
    Calls Try.prog 28 #[a, b] w fun e w' => e = .returned (.bool true) ∧ Ext w w' := by
  obtain ⟨aA, ac, rfl⟩ := ha.form
  obtain ⟨bA, bc, rfl⟩ := hb.form
  rw [List.length_map] at *
  have hle := ha.le
  rw [List.length_map] at hle
  have Ka := Kept.mk ha
  have Kb := Kept.mk hb
  clear ha hb
  obtain ⟨n, hn⟩ : ∃ n, n = l.length := ⟨_, rfl⟩
  have Kn := Kept.mk hn
  rw [← hn] at Ka Kb hle ⊢
  clear hn
  go_enter Try.func28, Try.ntmps28
  go_wp2_with fail
  go_loopg [5] n (fun r iv wi => ∃ i : Nat, i + r = n ∧ iv = .int .i64 (i : Int) ∧ Kept (Ext w wi))
  case atStart => exact ⟨0, by omega, rfl, Kept.mk (Ext.refl _)⟩
  case round =>
    obtain ⟨i, hr, rfl, KE⟩ := hrel
    have Kr := Kept.mk hr
    have hil : i ≤ n := by omega
    clear hr
    by_cases hlt : i < n
    · have hltI : (i : Int) < (n : Int) := by omega
      have hi2 : i < l.length := by rw [← Kn.out]; exact hlt
      obtain ⟨b1, o1, rfl, hb1, hc1⟩ := Ka.out.get (by decide) (i := i) hi2
      obtain ⟨b2, o2, rfl, hb2, hc2⟩ := Kb.out.get (by decide) (i := i) hi2
      have s1 := KE.out.cell (hc1 0 (.int .i64 l[i].m) rfl)
      have s2 := KE.out.cell (hc2 0 (.int .i64 l[i].m) rfl)
      have t1 := KE.out.cell (hc1 1 (.string (strOf l[i].n)) rfl)
      have t2 := KE.out.cell (hc2 1 (.string (strOf l[i].n)) rfl)
      have u1 := KE.out.cell (hc1 2 (.string (strOf l[i].i)) rfl)
      have u2 := KE.out.cell (hc2 2 (.string (strOf l[i].i)) rfl)
      generalize l[i] = x at s1 s2 t1 t2 u1 u2
      rw [Nat.add_zero] at s1 s2
      have hq := fun W => neq_ent x x W
      simp only [and_self, decide_true, Bool.not_true] at hq
      clear hc1 hc2
      go_wp2_with fail
      go_quiet (fail)
      have KE2 := Kept.mk (KE.out.trans (Ext.drewN wr nq))
      clear s1 s2 t1 t2 u1 u2 hq
      go_wp2_with fail
      go_roundg (gk - 1)
      case measure => have := Kr.out; omega
      case rel => exact ⟨i + 1, by have := Kr.out; omega, by first | rfl | simp, KE2⟩
    · have hltI : ¬ (i : Int) < (n : Int) := by omega
      go_wp2_with fail
      go_ret
      exact ⟨rfl, KE.out⟩
set_option maxRecDepth 100000 in
set_option maxHeartbeats 8000000 in
theorem same_any (o : Ob) (ev pv ev2 pv2 : Value) (w : World) (h1 : ObIn w o ev pv) (h2 : ObIn w o ev2 pv2) :
    Calls Try.prog 15 #[.agg (obV o ev pv).toArray, .agg (obV o ev2 pv2).toArray] w fun e w' => e = .returned (.bool true) ∧ Ext w w' := by
  obtain ⟨k, text, ents, tree, pars, targ, of, name, who, when⟩ := o
  have hE1 := Ext.alloc w (.cells (obV ⟨k, text, ents, tree, pars, targ, of, name, who, when⟩ ev pv).toArray 25)
  have hE2 := Ext.alloc (w.alloc (.cells (obV ⟨k, text, ents, tree, pars, targ, of, name, who, when⟩ ev pv).toArray 25)) (.cells (obV ⟨k, text, ents, tree, pars, targ, of, name, who, when⟩ ev2 pv2).toArray 25)
  have hb1 := (Blk.new w 25 (obV ⟨k, text, ents, tree, pars, targ, of, name, who, when⟩ ev pv)).ext hE2
  have hb2 := Blk.new (w.alloc (.cells (obV ⟨k, text, ents, tree, pars, targ, of, name, who, when⟩ ev pv).toArray 25)) 25 (obV ⟨k, text, ents, tree, pars, targ, of, name, who, when⟩ ev2 pv2)
  rw [World.size_alloc] at hb2
  have KT := Kept.mk (fun W hW => texts_any pars pv pv2 W (h1.p.ext hW) (h2.p.ext hW))
  have KN := Kept.mk (fun W hW => ents_any ents ev ev2 W (h1.e.ext hW) (h2.e.ext hW))
  have KE := Kept.mk (hE1.trans hE2)
  have Kb1 := Kept.mk hb1
  have Kb2 := Kept.mk hb2
  clear hb1 hb2 hE1 hE2
  obtain ⟨eA, ec, hev⟩ := h1.e.form
  obtain ⟨pA, pc, hpv⟩ := h1.p.form
  obtain ⟨eA2, ec2, hev2⟩ := h2.e.form
  obtain ⟨pA2, pc2, hpv2⟩ := h2.p.form
  subst hev hpv hev2 hpv2
  clear h1 h2
  simp only [obV, List.length_map] at *
  go_enter Try.func15, Try.ntmps15
  go_wp2_with fail
  refine (KN.out _ KE.out).mono ?_
  rintro e w1 ⟨rfl, hE1⟩
  have hB1 := Kb1.out.ext hE1
  have hB2 := Kb2.out.ext hE1
  have KE1 := Kept.mk (KE.out.trans hE1)
  have a3 := hB1.cell 3
  have a4 := hB1.cell 4
  have b3 := hB2.cell 3
  have b4 := hB2.cell 4
  simp only [List.getElem?_cons_zero, List.getElem?_cons_succ] at a3 a4 b3 b4
  have KB1 := Kept.mk hB1
  have KB2 := Kept.mk hB2
  clear hE1 hB1 hB2 KE
  go_wp2_with fail
  refine (KT.out _ KE1.out).mono ?_
  rintro e w2 ⟨rfl, hE2⟩
  have hB1 := KB1.out.ext hE2
  have hB2 := KB2.out.ext hE2
  have KE2 := Kept.mk (KE1.out.trans hE2)
  have a5 := hB1.cell 5
  have a6 := hB1.cell 6
  have a7 := hB1.cell 7
  have a8 := hB1.cell 8
  have a9 := hB1.cell 9
  have b5 := hB2.cell 5
  have b6 := hB2.cell 6
  have b7 := hB2.cell 7
  have b8 := hB2.cell 8
  have b9 := hB2.cell 9
  simp only [List.getElem?_cons_zero, List.getElem?_cons_succ] at a5 a6 a7 a8 a9 b5 b6 b7 b8 b9
  clear hE2 hB1 hB2
  go_wp2_with fail
  go_ret
  exact ⟨rfl, KE2.out⟩
end Edge
end Go.Proofs.Ytdjkcolceccclaa
