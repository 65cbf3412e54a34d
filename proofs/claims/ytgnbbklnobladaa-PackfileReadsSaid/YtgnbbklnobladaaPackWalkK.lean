/- The walks of the law's own helpers over packs: of, Same, Num, Plain of none; what was written is read. No condition. -/
import Derived.Test.YtgnbbklnobladaaPackWalkF
import Derived.Test.YtgnbbklnobladaaPackWalkG
import Derived.Test.YtgnbbklnobladaaPackWalkJ
import Derived.Test.YtgnbbklnobladaaWorkSame

namespace Go.Proofs.Ytgnbbklnobladaa
open Go.RowKit Go.ChangeShapes Go.WideShapes
namespace Pack
open Delta
open Work (ints ints_length)
set_option linter.unusedSimpArgs false
set_option linter.unusedVariables false
theorem Row.of_buf {w : World} {B : Nat} {e : TypeId} {A : Option Addr} {n cap : Nat} {xs : List Value} (h : Buf w B e (.slice A n cap) xs) : Row w A xs := by
  cases xs with
  | nil => exact Row.nil _ _
  | cons x r =>
    obtain ⟨b, off, rfl, _⟩ := h.cell (j := 0) (u := x) rfl
    refine .inr ⟨b, off, rfl, fun j v hv => ?_⟩
    obtain ⟨b', off', e1, hc⟩ := h.cell hv
    injection e1 with e1
    injection e1 with e2 e3
    subst e2 e3
    exact hc
/-! ### what was written is read -/
theorem open_press {s q : List UInt8} (h : Pressed s q) (M : Int) (hM : 0 ≤ M) : Sqz.openM M q = if M < (s.length : Int) then ([], 9) else (s, 0) := by
  rcases h.2 with h0 | ⟨T, h0, hL⟩
  · subst h0
    rw [Sqz.openM_stored M _ (by simp) rfl]
    have : ((0 :: s : List UInt8).length : Int) - 1 = (s.length : Int) := by simp
    rw [this]; rfl
  · subst h0
    rw [Sqz.openM_packed M _ (by simp) rfl]
    show Sqz.toks M [] T = _
    rw [hL.toks M]
    by_cases hl : M < (s.length : Int)
    · have hT : T ≠ [] := by
        intro e; subst e; cases hL; simp at hl; omega
      rw [if_pos ⟨hl, hT⟩, if_pos hl]
    · rw [if_neg (fun h => hl h.1), if_neg hl]
theorem val4_num4 (x : Nat) (hx : x ≤ 60000) (r : List UInt8) : val4 (num4 (x : Int) ++ r) = x := by
  have h := val4_byt (num4 (x : Int) ++ r)
  have e (y : Int) : ((UInt8.ofNat (y % 256).toNat).toNat : Int) = y % 256 := by
    have := Int.emod_nonneg y (show (256 : Int) ≠ 0 by decide)
    have := Int.emod_lt_of_pos y (show (0 : Int) < 256 by decide)
    simp; omega
  generalize val4 (num4 (x : Int) ++ r) = y at h ⊢
  simp only [num4, byt, List.cons_append, List.nil_append, List.getD_cons_zero, List.getD_cons_succ, e] at h
  omega
theorem item_ent (t q rest : List UInt8) (h : Pressed t q) (ht : t.length ≤ 1000) (its : List It) (chs : List Int) : itemP its chs (ent q ++ rest) = ⟨0, its ++ [⟨1, t⟩], chs ++ [0], rest⟩ := by
  have hq : q.length ≤ 60000 := by have := h.1; omega
  have hv := val4_num4 q.length hq (q ++ rest)
  have e1 : ent q ++ rest = 1 :: 0 :: (num4 (q.length : Int) ++ (q ++ rest)) := by simp [ent]
  have e2 : (num4 (q.length : Int) ++ (q ++ rest)).drop 4 = q ++ rest := rfl
  have e3 : 4 ≤ (num4 (q.length : Int) ++ (q ++ rest)).length := by simp [num4]
  rw [e1]
  have e4 : Sqz.openP q 1048576 = (t, 0) := by
    unfold Sqz.openP
    rw [if_neg (by decide), open_press h _ (by decide), if_neg (by omega)]
  unfold itemP
  have e5 : byt (1 :: 0 :: (num4 (q.length : Int) ++ (q ++ rest))) 1 = 0 := rfl
  have e6 : byt (1 :: 0 :: (num4 (q.length : Int) ++ (q ++ rest))) 0 = 1 := rfl
  have e7 : (1 :: 0 :: (num4 (q.length : Int) ++ (q ++ rest))).drop 2 = num4 (q.length : Int) ++ (q ++ rest) := rfl
  rw [if_neg (by simp), e5, e6, e7, if_neg (by decide)]
  generalize num4 (q.length : Int) ++ (q ++ rest) = Z at hv e2 e3
  unfold bodyP
  rw [if_neg (by omega), e2, hv, if_neg (by simp), if_neg (by simp), if_neg (by simp), List.take_left' rfl, List.drop_left' rfl, e4, if_neg (by simp), if_neg (by decide), if_neg (by simp only []; omega)]
theorem run_ents : ∀ (L : List (List UInt8 × List UInt8)) (its : List It) (chs : List Int), (∀ p ∈ L, Pressed p.1 p.2 ∧ p.1.length ≤ 1000) →
    runP L.length its chs (L.map fun p => ent p.2).flatten = (its ++ L.map (fun p => ⟨1, p.1⟩), chs ++ List.replicate L.length 0, 0)
  | [], its, chs, _ => by simp [runP]
  | p :: L, its, chs, h => by
    have hp := h p (by simp)
    have hi := item_ent p.1 p.2 (L.map fun p => ent p.2).flatten hp.1 hp.2 its chs
    have ih := run_ents L (its ++ [⟨1, p.1⟩]) (chs ++ [0]) (fun p hp => h p (by simp [hp]))
    simp only [List.map_cons, List.flatten_cons, List.length_cons]
    rw [runP_ok hi, ih]
    simp [List.replicate_succ]
theorem read_packed (L : List (List UInt8 × List UInt8)) (hL : L.length ≤ 512) (h : ∀ p ∈ L, Pressed p.1 p.2 ∧ p.1.length ≤ 1000) (hlen : (packedP L.length (L.map (·.2))).length ≤ 900000) :
    readP (packedP L.length (L.map (·.2)) ++ Sha2.digest (packedP L.length (L.map (·.2)))) = (L.map (fun p => ⟨1, p.1⟩), List.replicate L.length 0, 0) := by
  have hdl := Sha2.digest_length (packedP L.length (L.map (·.2)))
  have hr := run_ents L [] [] h
  have hv := val4_num4 L.length (by omega)
  have e0 : packedP L.length (L.map (·.2)) = 68 :: 80 :: 75 :: 49 :: (num4 (L.length : Int) ++ (L.map fun p => ent p.2).flatten) := by
    simp [packedP, Function.comp_def]
  have h8 : 8 ≤ (packedP L.length (L.map (·.2))).length := by rw [e0]; simp [num4]
  unfold readP
  have e1 : (packedP L.length (L.map (·.2)) ++ Sha2.digest (packedP L.length (L.map (·.2)))).length - 32 = (packedP L.length (L.map (·.2))).length := by rw [List.length_append]; omega
  rw [e1, List.take_left' rfl, List.drop_left' rfl, if_neg (by rw [List.length_append]; omega), if_neg (by rw [List.length_append]; omega)]
  generalize Sha2.digest (packedP L.length (L.map (·.2))) = dg
  rw [if_neg (by rw [e0]; simp), if_neg (by simp)]
  have e2 : val4 ((packedP L.length (L.map (·.2)) ++ dg).drop 4) = L.length := by
    rw [e0]
    show val4 (num4 (L.length : Int) ++ (L.map fun p => ent p.2).flatten ++ dg) = _
    rw [List.append_assoc]; exact hv _
  have e3 : (packedP L.length (L.map (·.2))).drop 8 = (L.map fun p => ent p.2).flatten := by rw [e0]; rfl
  rw [e2, e3, if_neg (by omega), hr]
  simp
/-! ### helpers -/
set_option maxRecDepth 100000 in
set_option maxHeartbeats 1000000 in
theorem of_any (B : Nat) (v : Value) (its : List It) (hn : its.length ≤ 1000) (w : World) (h : BufS 2 w B 42 v (its.map itV)) :
    Calls Try.prog 10 #[v] w fun e w' => ∃ u, e = .returned u ∧ BufS 2 w' w.heap.size 53 u (its.map itV) ∧ Ext w w' := by
  obtain ⟨iR, hiR, hzR, hsR, hbR⟩ := infoR
  obtain ⟨A, cap, rfl⟩ := h.form
  rw [List.length_map] at h ⊢
  obtain ⟨n, hnl⟩ : ∃ n, n = its.length := ⟨_, rfl⟩
  rw [← hnl] at h ⊢
  have KB := Kept.mk h
  have Kn := Kept.mk hnl
  have hn2 : n ≤ 1000 := by omega
  clear h hnl hn
  go_enter Try.func10, Try.ntmps10
  go_wp2_with fail
  go_loopg [3, 4] n (fun r ov iv wi => ∃ i : Nat, i + r = n ∧ iv = .int .i64 (i : Int) ∧ Kept (BufS 2 wi w.heap.size 53 ov ((its.take i).map itV) ∧ Ext w wi))
  case atStart => exact ⟨0, by omega, rfl, Kept.mk ⟨by simpa using BufS.nil 2 w w.heap.size 53, Ext.refl _⟩⟩
  case round =>
    obtain ⟨i, hr, rfl, KK⟩ := hrel
    have Kr := Kept.mk hr
    have hil : i ≤ n := by omega
    clear hr
    by_cases hlt : i < n
    · have hltI : (i : Int) < (n : Int) := by omega
      have hi2 : i < its.length := by rw [← Kn.out]; exact hlt
      obtain ⟨b, off, rfl, hc⟩ := KB.out.at (by decide) (i := i) (by rw [List.length_map]; exact hi2)
      have c0 := KK.out.2.cell (hc 0 (.int .i64 its[i].k) (by rw [List.getElem?_map, List.getElem?_eq_getElem hi2]; rfl))
      have c1 := KK.out.2.cell (hc 1 (.string (strOf its[i].c)) (by rw [List.getElem?_map, List.getElem?_eq_getElem hi2]; rfl))
      have Kst := Kept.mk (show its.take (i + 1) = its.take i ++ [its[i]] from List.take_succ_eq_append_getElem hi2)
      generalize its[i] = x at c0 c1 Kst
      obtain ⟨oA, oc, hov⟩ := KK.out.1.form
      rw [List.length_map, List.length_take, ← Kn.out, Nat.min_eq_left hil] at hov
      subst hov
      clear hc hi2
      rw [Nat.add_zero] at c0
      have hBw := KK.out.2.size
      have hlen : ((its.take i).map itV).length ≤ 1000 := by rw [List.length_map, List.length_take]; omega
      go_wp2_with (refine wpList_append_litS (P := Try.prog) _ rfl (.tmp 11) (.tmp 16) 32 rfl 2 (by decide) 53 iR _ Try.underlying32 hiR hzR hsR rfl w.heap.size (.slice oA i oc) ((its.take i).map itV) rfl KK.out.1 [.int .i64 x.k, .string (strOf x.c)] rfl rfl (by simp [Value.oneCell']) hBw (by simp only [maxLen]; omega) (by rw [hbR]; omega) ?_)
      intro v' w' hv' ht' ho'
      have KN := Kept.mk (show BufS 2 w' w.heap.size 53 v' ((its.take (i + 1)).map itV) ∧ Ext w w' from ⟨by rw [Kst.out, List.map_append, List.map_take]; exact hv', Touch.below KK.out.2 ht' (fun j hj => (KK.out.1.owns j hj).1) hBw⟩)
      obtain ⟨A', n', c', h'⟩ := BufS.form3 hv'
      subst h'
      clear hv' ht' ho' hlen hBw
      go_wp2_with fail
      go_roundg (gk - 1)
      case measure => have := Kr.out; omega
      case rel => exact ⟨i + 1, by have := Kr.out; omega, by first | rfl | simp, KN⟩
    · have hltI : ¬ (i : Int) < (n : Int) := by omega
      have Kall := Kept.mk (show its.take i = its from List.take_of_length_le (by rw [← Kn.out]; omega))
      obtain ⟨oA, on, oc, hov⟩ := BufS.form3 KK.out.1
      subst hov
      go_wp2_with fail
      go_ret
      exact ⟨_, rfl, by have := KK.out.1; rw [Kall.out] at this; exact this, KK.out.2⟩
theorem neq_it (x : It) (w : World) : (binOp .neq 53 (.agg #[.int .i64 x.k, .string (strOf x.c)]) (.agg #[.int .i64 x.k, .string (strOf x.c)])).run Try.prog w = .ok (.bool false) w := by
  have hS : Try.prog.underlying 53 = some (.struct (Try.prog.fieldsOf 53)) := by kernel_rfl
  have hp : Try.prog.stoodInHeld 53 = false := by kernel_rfl
  rw [run_neq_struct, show (10000 : Nat) = 9999 + 1 from rfl, run_equalIn_agg w 9999 53 _ _ hS hp]
  simp only [Program.fieldsOf, Try.underlying53]
  have u3 := Try.underlying3
  have u9 := Try.underlying9
  go_simp
set_option maxRecDepth 100000 in
set_option maxHeartbeats 1000000 in
theorem same_its (B B' : Nat) (v v' : Value) (its : List It) (hn : its.length ≤ 1000) (w : World) (h : BufS 2 w B 53 v (its.map itV)) (h' : BufS 2 w B' 53 v' (its.map itV)) :
    Calls Try.prog 9 #[v, v'] w fun e w' => e = .returned (.bool true) ∧ Ext w w' := by
  obtain ⟨A, cap, rfl⟩ := h.form
  obtain ⟨A', cap', rfl⟩ := h'.form
  rw [List.length_map] at h h' ⊢
  obtain ⟨n, hnl⟩ : ∃ n, n = its.length := ⟨_, rfl⟩
  rw [← hnl] at h h' ⊢
  have KB := Kept.mk h
  have KB' := Kept.mk h'
  have Kn := Kept.mk hnl
  have hn2 : n ≤ 1000 := by omega
  clear h h' hnl hn
  go_enter Try.func9, Try.ntmps9
  go_wp2_with fail
  go_loopg [5] n (fun r iv wi => ∃ i : Nat, i + r = n ∧ iv = .int .i64 (i : Int) ∧ Ext w wi)
  case atStart => exact ⟨0, by omega, rfl, Ext.refl _⟩
  case round =>
    obtain ⟨i, hr, rfl, hE⟩ := hrel
    have Kr := Kept.mk hr
    have KE := Kept.mk hE
    have hil : i ≤ n := by omega
    clear hr hE
    by_cases hlt : i < n
    · have hltI : (i : Int) < (n : Int) := by omega
      have hi0 : (0 : Int) ≤ (i : Int) := by omega
      have hi2 : i < its.length := by rw [← Kn.out]; exact hlt
      obtain ⟨b, off, rfl, hc⟩ := KB.out.at (by decide) (i := i) (by rw [List.length_map]; exact hi2)
      obtain ⟨b', off', rfl, hc'⟩ := KB'.out.at (by decide) (i := i) (by rw [List.length_map]; exact hi2)
      have c0 := KE.out.cell (hc 0 (.int .i64 its[i].k) (by rw [List.getElem?_map, List.getElem?_eq_getElem hi2]; rfl))
      have c1 := KE.out.cell (hc 1 (.string (strOf its[i].c)) (by rw [List.getElem?_map, List.getElem?_eq_getElem hi2]; rfl))
      have d0 := KE.out.cell (hc' 0 (.int .i64 its[i].k) (by rw [List.getElem?_map, List.getElem?_eq_getElem hi2]; rfl))
      have d1 := KE.out.cell (hc' 1 (.string (strOf its[i].c)) (by rw [List.getElem?_map, List.getElem?_eq_getElem hi2]; rfl))
      have hq := neq_it its[i]
      generalize its[i] = x at c0 c1 d0 d1 hq
      rw [Nat.add_zero] at c0 d0
      clear hc hc' hi2
      go_wp2_with fail
      go_quiet (fail)
      go_wp2_with fail
      go_roundg (gk - 1)
      case measure => have := Kr.out; omega
      case rel => exact ⟨i + 1, by have := Kr.out; omega, by first | rfl | simp, KE.out.trans (Ext.drewN _ _)⟩
    · have hltI : ¬ (i : Int) < (n : Int) := by omega
      go_wp2_with fail
      go_ret
      exact ⟨rfl, KE.out⟩
set_option maxRecDepth 100000 in
set_option maxHeartbeats 1000000 in
theorem num_zero (w : World) : Calls Try.prog 23 #[.int .i64 0] w (Sha2.StrIs w [0, 0, 0, 0]) := by
  have kc : ∀ W : World, (convert 54 9 (.slice (some ⟨W.heap.size, 0, none⟩) 4 4)).run Try.prog (W.alloc (.cells #[.int .u8 0, .int .u8 0, .int .u8 0, .int .u8 0] 5)) = .ok (.string (strOf [0, 0, 0, 0])) (W.alloc (.cells #[.int .u8 0, .int .u8 0, .int .u8 0, .int .u8 0] 5)) := fun W =>
    conv_buf _ _ _ _ Try.underlying54 Try.underlying5 Try.underlying9 [0, 0, 0, 0] (Buf.lit W 5 0 (by omega) [.int .u8 0, .int .u8 0, .int .u8 0, .int .u8 0] (by simp [maxLen]))
  go_enter Try.func23, Try.ntmps23
  go_wp2_with fail
  go_ret
  exact ⟨rfl, Ext.alloc _ _⟩
set_option maxRecDepth 100000 in
set_option maxHeartbeats 1000000 in
theorem plain_none (w : World) : Calls Try.prog 13 #[.slice none 0 0] w (Sha2.StrIs w (packedP 0 [] ++ Sha2.digest (packedP 0 []))) := by
  have ha : (⟨#[68, 80, 75, 49]⟩ : ByteArray) ++ strOf [0, 0, 0, 0] = strOf [68, 80, 75, 49, 0, 0, 0, 0] := strOf_append [68, 80, 75, 49] [0, 0, 0, 0]
  have hz : (strOf [0, 0, 0, 0]).size = 4 := rfl
  have KS := Kept.mk (seal_any [68, 80, 75, 49, 0, 0, 0, 0] (by decide))
  have KP := Kept.mk (show packedP 0 [] = [68, 80, 75, 49, 0, 0, 0, 0] from rfl)
  go_enter Try.func13, Try.ntmps13
  go_wp2_with fail
  refine (num_zero _).mono ?_
  rintro e w1 ⟨rfl, h1⟩
  generalize strOf [0, 0, 0, 0] = zz at ha hz ⊢
  generalize strOf [68, 80, 75, 49, 0, 0, 0, 0] = hd at ha KS
  have KE1 := Kept.mk h1
  clear h1
  go_wp2_with fail
  go_loopg [3, 4] 1 (fun r sv iv wi => r = 1 ∧ sv = .string hd ∧ iv = .int .i64 0 ∧ Ext w wi)
  case atStart => exact ⟨rfl, rfl, rfl, KE1.out⟩
  case round =>
    obtain ⟨hr, rfl, rfl, hE⟩ := hrel
    have KE := Kept.mk hE
    clear hE KE1
    go_wp2_with fail
    refine (KS.out _).mono ?_
    rintro e w2 ⟨rfl, h2⟩
    have KE2 := Kept.mk (KE.out.trans h2)
    clear h2
    go_wp2_with fail
    go_ret
    exact ⟨by rw [KP.out]; rfl, KE2.out⟩
end Pack
end Go.Proofs.Ytgnbbklnobladaa
