/- The walks of the document's Seal and Read of a pack. No condition. -/
import Derived.Test.YtgnbbklnobladaaPackWalkE
import Derived.Test.YtgnbbklnobladaaSha2WalkG
import Derived.Test.YtgnbbklnobladaaDeltaWalkD
import Derived.Test.YtgnbbklnobladaaSqzWalkC
namespace Go.Proofs.Ytgnbbklnobladaa
open Go.RowKit
namespace Pack
open Delta (wraps_i64 val4 val4_lt)
open Work (ints ints_length)
set_option linter.unusedSimpArgs false
set_option linter.unusedVariables false
set_option maxRecDepth 100000 in
set_option maxHeartbeats 1000000 in
theorem seal_any (l : List UInt8) (hl : l.length ≤ 900000) (w : World) : Calls Try.prog 5 #[.string (strOf l)] w (Sha2.StrIs w (l ++ Sha2.digest l)) := by
  have hsz := strOf_size l
  have hdl := Sha2.digest_length l
  have KC := Kept.mk (Sha2.refSum_any (strOf l) (by rw [strOf_size]; omega))
  rw [strOf_list] at KC
  have ha := strOf_append l (Sha2.digest l)
  generalize Sha2.digest l = dg at hdl ha KC ⊢
  have hdz := strOf_size dg
  have hss : (strOf l).size + (strOf dg).size ≤ 9223372036854775807 := by omega
  go_enter Try.func5, Try.ntmps5
  go_wp2_with fail
  refine (KC.out _).mono ?_
  rintro e w1 ⟨rfl, h1⟩
  go_wp2_with fail
  go_ret
  exact ⟨by first | rfl | rw [ha], h1⟩
/-- What is kept of the document's rows. -/
structure RfAt (w : World) (B : Nat) (lv cv : Value) (its : List It) (chs : List Int) : Prop where
  items : BufS 2 w B 53 lv (its.map itV)
  chains : Buf w B 3 cv (ints chs)
  sep : Sep (own lv) (own cv)
theorem RfAt.ext {w w' : World} {B : Nat} {lv cv : Value} {its : List It} {chs : List Int} (h : RfAt w B lv cv its chs) (k : Ext w w') : RfAt w' B lv cv its chs := ⟨h.items.ext k, h.chains.ext k, h.sep⟩
def RefReadE (w : World) (p : List UInt8) (e : Ending) (w' : World) : Prop :=
  ∃ lv cv, e = .returned (.tuple #[lv, cv, .int .i64 (readP p).2.2]) ∧ Ext w w' ∧ BufS 2 w' w.heap.size 53 lv ((readP p).1.map itV) ∧ Buf w' w.heap.size 3 cv (ints (readP p).2.1)
theorem RefReadE.bad {w w' : World} {p : List UInt8} {x : Int} (h : readP p = ([], [], x)) (hE : Ext w w') : RefReadE w p (.returned (.tuple #[.slice none 0 0, .slice none 0 0, .int .i64 x])) w' :=
  ⟨_, _, by rw [h], hE, by rw [h]; exact BufS.nil 2 _ _ _, by rw [h]; exact Buf.nil _ _ _⟩
theorem infoR : ∃ i : TypeInfo, Try.prog.info? 53 = some i ∧ i.zero = some (.agg #[.int .i64 0, .string ByteArray.empty]) ∧ i.size = 2 ∧ i.bytes = 24 := by
  have h : (Try.prog.info? 53).map (fun i => (i.zero, i.size, i.bytes)) = some (some (.agg #[.int .i64 0, .string ByteArray.empty]), 2, 24) := by kernel_rfl
  obtain ⟨i, hi, he⟩ := Option.map_eq_some_iff.1 h
  injection he with e1 e2
  injection e2 with e2 e3
  exact ⟨i, hi, e1, e2, e3⟩
theorem runP_err {k : Nat} {its : List It} {chs : List Int} {s : List UInt8} {x : Int} (h : itemP its chs s = Pack.bad x) (hx : x ≠ 0) : runP (k + 1) its chs s = ([], [], x) := by
  simp only [runP]
  rw [h, if_neg (by simpa [Pack.bad] using hx)]
  rfl
theorem runP_ok {k : Nat} {its its' : List It} {chs chs' : List Int} {s s' : List UInt8} (h : itemP its chs s = ⟨0, its', chs', s'⟩) : runP (k + 1) its chs s = runP k its' chs' s' := by
  simp only [runP]
  rw [h, if_pos rfl]
theorem byt_part (p : List UInt8) (n a j : Nat) (h : a + j < n) : byt ((p.take n).drop a) j = byt p (a + j) := by
  unfold byt
  rw [List.getD_eq_getElem?_getD, List.getD_eq_getElem?_getD, List.getElem?_drop, List.getElem?_take_of_lt h]
theorem val4_part (p : List UInt8) (n a : Nat) (h : a + 4 ≤ n) : val4 ((p.take n).drop a) = val4 (p.drop a) := by
  rw [List.drop_take]
  exact (val4_take _ _ (by omega)).symm
set_option maxRecDepth 100000 in
set_option maxHeartbeats 8000000 in
theorem refRead_any (p : List UInt8) (hp : p.length ≤ 900000) (w : World) : Calls Try.prog 8 #[.string (strOf p)] w (RefReadE w p) := by
  have hsz := strOf_size p
  have hbigI : ¬ (1048576 : Int) < (p.length : Int) := by omega
  by_cases h40 : p.length < 40
  · have h40I : (p.length : Int) < 40 := by omega
    have Kr : Kept (readP p = ([], [], 2)) := Kept.mk (by unfold readP; rw [if_neg (by omega), if_pos h40])
    clear h40
    go_enter Try.func8, Try.ntmps8
    go_wp2_with fail
    exact bodyPost_ret (v := .tuple #[.slice none 0 0, .slice none 0 0, .int .i64 2]) (by simp [results, Try.results8, go_sem]) rfl (RefReadE.bad (by rw [Kr.out]) (Ext.refl _))
  · have h40I : ¬ (p.length : Int) < 40 := by omega
    have h4I : (4 : Int) ≤ (p.length : Int) := by omega
    have hx4 : (strOf p).extract 0 4 = strOf (p.take 4) := by rw [strOf_extract]; rfl
    by_cases hmg : p.take 4 = [68, 80, 75, 49]
    · obtain ⟨n, hn⟩ : ∃ n, n = p.length - 32 := ⟨_, rfl⟩
      have hnI : (p.length : Int) - 32 = (n : Int) := by omega
      have hnw : IntKind.i64.wrap ((p.length : Int) - 32) = (n : Int) := by rw [hnI]; exact wraps_i64 _ (by omega) (by omega)
      have hnl : n ≤ p.length := by omega
      have hnlI : (n : Int) ≤ (p.length : Int) := by omega
      have hn0I : (0 : Int) ≤ (n : Int) := by omega
      have hn8 : 8 ≤ n := by omega
      have hx0 : (strOf p).extract 0 n = strOf (p.take n) := by rw [strOf_extract]; simp
      have hneq : ((strOf (p.take 4)).toList == [68, 80, 75, 49]) = true := by rw [ByteArray.toList_eq, strOf_list]; simpa using hmg
      have Kr0 : Kept (readP p = if Sha2.digest (p.take n) ≠ p.drop n then ([], [], 14) else if 512 < val4 (p.drop 4) then ([], [], 9) else runP (val4 (p.drop 4)) [] [] ((p.take n).drop 8)) := Kept.mk (by
        unfold readP; rw [if_neg (by omega), if_neg h40, if_neg (by simp [hmg]), hn])
      have KS := Kept.mk (seal_any (p.take n) (by rw [List.length_take]; omega))
      have htl : (p.take n).length = n := by rw [List.length_take]; omega
      by_cases hd : Sha2.digest (p.take n) = p.drop n
      · have hq : (strOf (p.take n ++ Sha2.digest (p.take n))).toList == (strOf p).toList := by
          rw [hd, List.take_append_drop]; simp
        have Kr1 : Kept (readP p = if 512 < val4 (p.drop 4) then ([], [], 9) else runP (val4 (p.drop 4)) [] [] ((p.take n).drop 8)) := Kept.mk (by rw [Kr0.out, if_neg (by simp [hd])])
        have KG := Kept.mk (Delta.get_any p 4 (by omega) (by omega))
        have hcl := val4_lt (p.drop 4)
        generalize val4 (p.drop 4) = cnt at hcl Kr1 KG
        generalize p.take n ++ Sha2.digest (p.take n) = sl at hq KS
        clear hd hmg Kr0 hnI h40 hn
        by_cases h512 : 512 < cnt
        · have h512I : (cnt : Int) > 512 := by omega
          have Kr2 := Kept.mk (show readP p = ([], [], 9) from by rw [Kr1.out, if_pos h512])
          clear h512
          go_enter Try.func8, Try.ntmps8
          go_wp2_with fail
          refine (KS.out _).mono ?_
          rintro e w1 ⟨rfl, h1⟩
          have KE1 := Kept.mk h1
          clear h1
          go_wp2_with fail
          refine (KG.out _).mono ?_
          rintro e w2 ⟨rfl, h2⟩
          have KE2 := Kept.mk (KE1.out.trans h2)
          clear h2
          go_wp2_with fail
          exact bodyPost_ret (v := .tuple #[.slice none 0 0, .slice none 0 0, .int .i64 9]) (by simp [results, Try.results8, go_sem]) rfl (RefReadE.bad (by rw [Kr2.out]) KE2.out)
        · have h512I : ¬ (cnt : Int) > 512 := by omega
          obtain ⟨R0, hR0⟩ : ∃ R, R = runP cnt [] [] ((p.take n).drop 8) := ⟨_, rfl⟩
          have Kr2 := Kept.mk (show readP p = R0 from by rw [Kr1.out, if_neg h512, hR0])
          have Krun := Kept.mk hR0.symm
          clear h512 hR0 Kr1
          go_enter Try.func8, Try.ntmps8
          go_wp2_with fail
          refine (KS.out _).mono ?_
          rintro e w1 ⟨rfl, h1⟩
          have KE1 := Kept.mk h1
          clear h1
          go_wp2_with fail
          refine (KG.out _).mono ?_
          rintro e w2 ⟨rfl, h2⟩
          have KE2 := Kept.mk (KE1.out.trans h2)
          clear h2 hq hneq hx4 hx0 hbigI h40I KS KG hnw
          go_wp2_with fail
          go_loopg [7, 8, 9, 10] cnt (fun r lv cv av iv wi => ∃ (i a : Nat) (its : List It) (chs : List Int), i + r = cnt ∧ av = .int .i64 (a : Int) ∧ iv = .int .i64 (i : Int) ∧ a ≤ n ∧ Kept (RfAt wi w.heap.size lv cv its chs ∧ Small its chs ∧ its.length = i ∧ Ext w wi ∧ runP (cnt - i) its chs ((p.take n).drop a) = R0))
          case atStart => exact ⟨0, 8, [], [], by omega, rfl, rfl, hn8, Kept.mk ⟨⟨BufS.nil 2 _ _ _, Buf.nil _ _ _, by simp [own, Sep]⟩, Small.nil, rfl, KE2.out, Krun.out⟩⟩
          case round =>
            obtain ⟨i, a, its, chs, hr, rfl, rfl, han, KK⟩ := hrel
            have Kr := Kept.mk hr
            have hil : i ≤ cnt := by omega
            have hi512 : i ≤ 512 := by omega
            clear hr KE2 Krun KE1
            obtain ⟨iA, ic, hiv⟩ := KK.out.1.items.form
            rw [List.length_map, KK.out.2.2.1] at hiv
            obtain ⟨cA, cc, hcv⟩ := KK.out.1.chains.form
            rw [ints_length, KK.out.2.1.c, KK.out.2.2.1] at hcv
            subst hiv hcv
            obtain ⟨s, hs⟩ : ∃ s, s = (p.take n).drop a := ⟨_, rfl⟩
            have hsl : s.length = n - a := by rw [hs, List.length_drop, htl]
            rw [← hs] at KK
            by_cases hlt : i < cnt
            · have hltI : (i : Int) < (cnt : Int) := by omega
              have Kst : Kept (∀ r, runP (cnt - (i + 1) + 1) its chs s = r → readP p = r) := Kept.mk (fun r hr => by rw [Kr2.out, ← KK.out.2.2.2.2, ← hr, show cnt - (i + 1) + 1 = cnt - i by omega])
              by_cases h2 : s.length < 2
              · have h2I : (n : Int) < (a : Int) + 2 := by omega
                have Ki := Kept.mk (show itemP its chs s = Pack.bad 2 from by unfold itemP; rw [if_pos h2])
                have Kx := Kept.mk (Kst.out _ (runP_err Ki.out (by decide)))
                clear h2
                go_wp2_with fail
                exact bodyPost_ret (v := .tuple #[.slice none 0 0, .slice none 0 0, .int .i64 2]) (by simp [results, Try.results8, go_sem]) rfl (RefReadE.bad (by rw [Kx.out]) KK.out.2.2.2.1)
              · have h2I : ¬ (n : Int) < (a : Int) + 2 := by omega
                have y0 := get_byte p a (by omega)
                have y1 := get_byte p (a + 1) (by omega)
                have i0 : (a : Int) < (p.length : Int) := by omega
                have i1 : (a : Int) + 1 < (p.length : Int) := by omega
                have hb0 : byt s 0 = byt p a := by rw [hs]; exact byt_part p n a 0 (by omega)
                have hb1 : byt s 1 = byt p (a + 1) := by rw [hs]; exact byt_part p n a 1 (by omega)
                have r0 := byt_range p a
                have r1 := byt_range p (a + 1)
                have Kit0 : Kept (itemP its chs s = if byt s 1 = 1 then (if (s.drop 2).length < 4 then Pack.bad 2 else bodyP its chs (byt s 0) 1 (val4 (s.drop 2)) ((s.drop 2).drop 4)) else bodyP its chs (byt s 0) (byt s 1) 0 (s.drop 2)) := Kept.mk (by unfold itemP; rw [if_neg h2])
                rw [hb0, hb1] at Kit0
                generalize byt p a = k0 at y0 r0 Kit0
                generalize byt p (a + 1) = b0 at y1 r1 Kit0
                have r00 := r0.1
                have r01 := r0.2
                have r10 := r1.1
                have r11 := r1.2
                have hk0w : IntKind.i64.wrap k0 = k0 := wraps_i64 _ (by omega) (by omega)
                have hb0w : IntKind.i64.wrap b0 = b0 := wraps_i64 _ (by omega) (by omega)
                clear hb0 hb1 r0 r1
                by_cases hb : b0 = 1
                · have hbb : (b0 == 1) = true := by simpa using hb
                  rw [if_pos hb] at Kit0
                  by_cases h6 : (s.drop 2).length < 4
                  · have h6I : (n : Int) < (a : Int) + 2 + 4 := by rw [List.length_drop] at h6; omega
                    have Ki := Kept.mk (show itemP its chs s = Pack.bad 2 from by rw [Kit0.out, if_pos h6])
                    have Kx := Kept.mk (Kst.out _ (runP_err Ki.out (by decide)))
                    clear h6 h2 hb
                    go_wp2_with fail
                    go_quiet (fail)
                    go_wp2_with fail
                    exact bodyPost_ret (v := .tuple #[.slice none 0 0, .slice none 0 0, .int .i64 2]) (by simp [results, Try.results8, go_sem]) rfl (RefReadE.bad (by rw [Kx.out]) (KK.out.2.2.2.1.trans (Ext.drewN _ _)))
                  · have h6I : ¬ (n : Int) < (a : Int) + 2 + 4 := by rw [List.length_drop] at h6; omega
                    rw [if_neg h6] at Kit0
                    have hv2 : val4 (s.drop 2) = val4 (p.drop (a + 2)) := by
                      rw [hs, List.drop_drop]; exact val4_part p n (a + 2) (by rw [List.length_drop] at h6; omega)
                    have hs6 : (s.drop 2).drop 4 = (p.take n).drop (a + 6) := by rw [hs, List.drop_drop, List.drop_drop]
                    rw [hv2, hs6] at Kit0
                    have KG := Kept.mk (Delta.get_any p (a + 2) (by rw [List.length_drop] at h6; omega) (by omega))
                    have ha6 : a + 6 ≤ n := by rw [List.length_drop] at h6; omega
                    have hbl := val4_lt (p.drop (a + 2))
                    generalize val4 (p.drop (a + 2)) = bs at hbl KG Kit0
                    clear hv2 hs6 h6 h2 hsl hs
                    obtain ⟨s1, hs1⟩ : ∃ s, s = (p.take n).drop (a + 6) := ⟨_, rfl⟩
                    have hs1l : s1.length = n - (a + 6) := by rw [hs1, List.length_drop, htl]
                    rw [← hs1] at Kit0
                    go_wp2_with fail
                    go_quiet (fail)
                    go_wp2_with fail
                    refine (KG.out _).mono ?_
                    rintro e w4 ⟨rfl, hE4⟩
                    have KE4 := Kept.mk (KK.out.2.2.2.1.trans ((Ext.drewN _ _).trans hE4))
                    have KR4 := Kept.mk (KK.out.1.ext ((Ext.drewN _ _).trans hE4))
                    clear hE4 KG i0 i1 h2I h6I y0 y1
                    have ea : (a : Int) + 2 + 4 = ((a + 6 : Nat) : Int) := by omega
                    have hsa : a + 6 = a + 6 := rfl
                    generalize a + 6 = a1 at ea ha6 hs1 hs1l hsa
                    by_cases h4 : s1.length < 4
                    · have h4I : (n : Int) < (a1 : Int) + 4 := by omega
                      rw [← ea] at h4I
                      have Ki := Kept.mk (show itemP its chs s = Pack.bad 2 from by rw [Kit0.out]; unfold bodyP; rw [if_pos h4])
                      have Kx := Kept.mk (Kst.out _ (runP_err Ki.out (by decide)))
                      clear h4 ea hsa hs1l
                      go_wp2_with fail
                      exact bodyPost_ret (v := .tuple #[.slice none 0 0, .slice none 0 0, .int .i64 2]) (by simp [results, Try.results8, go_sem]) rfl (RefReadE.bad (by rw [Kx.out]) KE4.out)
                    · have h4I : ¬ (n : Int) < (a1 : Int) + 4 := by omega
                      have h4J := h4I
                      rw [← ea] at h4J
                      have KG2 := Kept.mk (Delta.get_any p a1 (by omega) (by omega))
                      rw [← val4_part p n a1 (by omega), ← hs1] at KG2
                      have Kit1 : Kept (itemP its chs s = if (s1.drop 4).length < (val4 s1) then Pack.bad 2 else if k0 < 1 ∨ 4 < k0 ∨ its.length ≤ bs then Pack.bad 3 else if 4 < chs.getD bs 0 + 1 then Pack.bad 9 else if (Sqz.openP ((s1.drop 4).take (val4 s1)) 1048576).2 ≠ 0 then Pack.bad (Sqz.openP ((s1.drop 4).take (val4 s1)) 1048576).2 else if (Delta.applyP ((its.getD bs ⟨0, []⟩).c) (Sqz.openP ((s1.drop 4).take (val4 s1)) 1048576).1 65536).2 ≠ 0 then Pack.bad (Delta.applyP ((its.getD bs ⟨0, []⟩).c) (Sqz.openP ((s1.drop 4).take (val4 s1)) 1048576).1 65536).2 else if 65536 < (Delta.applyP ((its.getD bs ⟨0, []⟩).c) (Sqz.openP ((s1.drop 4).take (val4 s1)) 1048576).1 65536).1.length then Pack.bad 9 else ⟨0, its ++ [⟨k0, (Delta.applyP ((its.getD bs ⟨0, []⟩).c) (Sqz.openP ((s1.drop 4).take (val4 s1)) 1048576).1 65536).1⟩], chs ++ [chs.getD bs 0 + 1], (s1.drop 4).drop (val4 s1)⟩) := Kept.mk (by rw [Kit0.out]; unfold bodyP; rw [if_neg h4]; simp)
                      have hvl := val4_lt s1
                      have hs5 : s1.drop 4 = (p.take n).drop (a1 + 4) := by rw [hs1, List.drop_drop]
                      have hs5l : (s1.drop 4).length = n - (a1 + 4) := by rw [hs5, List.length_drop, htl]
                      generalize val4 s1 = v at hvl KG2 Kit1
                      generalize s1.drop 4 = s5 at hs5 hs5l Kit1
                      clear h4 hs1 hs1l Kit0
                      go_wp2_with fail
                      first | rw [ea] | skip
                      refine (KG2.out _).mono ?_
                      rintro e w5 ⟨rfl, hE5⟩
                      have KE5 := Kept.mk (KE4.out.trans hE5)
                      have KR5 := Kept.mk (KR4.out.ext hE5)
                      clear hE5 KG2 KE4 KR4
                      clear h4J
                      by_cases hvn : s5.length < v
                      · have hvI : (n : Int) < (a1 : Int) + 4 + (v : Int) := by omega
                        have Ki := Kept.mk (show itemP its chs s = Pack.bad 2 from by rw [Kit1.out, if_pos hvn])
                        have Kx := Kept.mk (Kst.out _ (runP_err Ki.out (by decide)))
                        clear hvn ea hsa hs5l
                        go_wp2_with fail
                        exact bodyPost_ret (v := .tuple #[.slice none 0 0, .slice none 0 0, .int .i64 2]) (by simp [results, Try.results8, go_sem]) rfl (RefReadE.bad (by rw [Kx.out]) KE5.out)
                      · have hvI : ¬ (n : Int) < (a1 : Int) + 4 + (v : Int) := by omega
                        rw [if_neg hvn] at Kit1
                        have h0I : (0 : Int) ≤ (a1 : Int) + 4 := by omega
                        have hloI : (a1 : Int) + 4 ≤ (a1 : Int) + 4 + (v : Int) := by omega
                        have hhiI : (a1 : Int) + 4 + (v : Int) ≤ (p.length : Int) := by omega
                        have hx9 : (strOf p).extract (a1 + 4) (a1 + 4 + v) = strOf (s5.take v) := by rw [strOf_extract, hs5, List.drop_take, List.take_take]; congr 2; omega
                        have Kx6 : Kept (s5.drop v = (p.take n).drop (a1 + 4 + v)) := Kept.mk (by rw [hs5, List.drop_drop])
                        have ha9 : a1 + 4 + v ≤ n := by omega
                        have htxl : (s5.take v).length ≤ 900000 := by rw [List.length_take]; omega
                        rw [Kx6.out] at Kit1
                        generalize s5.take v = tx at htxl hx9 Kit1
                        clear hvn hs5 hs5l h4I Kx6 ea hsa
                        by_cases q1 : k0 < 1
                        · have Ki := Kept.mk (show itemP its chs s = Pack.bad 3 from by rw [Kit1.out, if_pos (.inl q1)])
                          have Kx := Kept.mk (Kst.out _ (runP_err Ki.out (by decide)))
                          go_wp2_with fail
                          exact bodyPost_ret (v := .tuple #[.slice none 0 0, .slice none 0 0, .int .i64 3]) (by simp [results, Try.results8, go_sem]) rfl (RefReadE.bad (by rw [Kx.out]) KE5.out)
                        by_cases q2 : 4 < k0
                        · have Ki := Kept.mk (show itemP its chs s = Pack.bad 3 from by rw [Kit1.out, if_pos (.inr (.inl q2))])
                          have Kx := Kept.mk (Kst.out _ (runP_err Ki.out (by decide)))
                          go_wp2_with fail
                          exact bodyPost_ret (v := .tuple #[.slice none 0 0, .slice none 0 0, .int .i64 3]) (by simp [results, Try.results8, go_sem]) rfl (RefReadE.bad (by rw [Kx.out]) KE5.out)
                        have q1n : 1 ≤ k0 := by omega
                        have q2n : k0 ≤ 4 := by omega
                        by_cases q3 : its.length ≤ bs
                        · have q3I : (i : Int) ≤ (bs : Int) := by have := KK.out.2.2.1; omega
                          have Ki := Kept.mk (show itemP its chs s = Pack.bad 3 from by rw [Kit1.out, if_pos (.inr (.inr q3))])
                          have Kx := Kept.mk (Kst.out _ (runP_err Ki.out (by decide)))
                          clear q3
                          go_wp2_with fail
                          exact bodyPost_ret (v := .tuple #[.slice none 0 0, .slice none 0 0, .int .i64 3]) (by simp [results, Try.results8, go_sem]) rfl (RefReadE.bad (by rw [Kx.out]) KE5.out)
                        rw [if_neg (by omega)] at Kit1
                        have q3I : ¬ (i : Int) ≤ (bs : Int) := by have := KK.out.2.2.1; omega
                        have hbl : bs < its.length := by omega
                        have hbc : bs < chs.length := by rw [KK.out.2.1.c]; exact hbl
                        have hbsI : (bs : Int) < (i : Int) := by have := KK.out.2.2.1; omega
                        have hb0I : (0 : Int) ≤ (bs : Int) := by omega
                        obtain ⟨cb, coff, hcA, hcc⟩ := Buf.cell KR5.out.chains (j := bs) (u := .int .i64 (chs.getD bs 0)) (numsV_at .i64 chs bs hbc)
                        subst hcA
                        obtain ⟨ib, ioff, hiA, -⟩ := KR5.out.items.at (by decide) (i := bs) (by rw [List.length_map]; exact hbl)
                        subst hiA
                        have hxr : 0 ≤ chs.getD bs 0 ∧ chs.getD bs 0 ≤ 4 := by
                          rw [List.getD_eq_getElem?_getD, List.getElem?_eq_getElem hbc, Option.getD_some]
                          exact KK.out.2.1.h _ (List.getElem_mem hbc)
                        have hyl : (its.getD bs ⟨0, []⟩).c.length ≤ 65536 := by
                          rw [List.getD_eq_getElem?_getD, List.getElem?_eq_getElem hbl, Option.getD_some]
                          exact KK.out.2.1.i _ (List.getElem_mem hbl)
                        have Kiy : Kept ((its.map itV)[bs]?.bind (·[1]?) = some (.string (strOf (its.getD bs ⟨0, []⟩).c))) := Kept.mk (by
                          rw [List.getElem?_map, List.getD_eq_getElem?_getD, List.getElem?_eq_getElem hbl]; rfl)
                        generalize its.getD bs ⟨0, []⟩ = yb at Kiy hyl Kit1
                        generalize chs.getD bs 0 = xb at hcc hxr Kit1
                        obtain ⟨ch, hch⟩ : ∃ c, c = xb + 1 := ⟨_, rfl⟩
                        have hxw : IntKind.i64.wrap (xb + 1) = xb + 1 := wraps_i64 _ (by omega) (by omega)
                        by_cases q4 : 4 < xb + 1
                        · have Ki := Kept.mk (show itemP its chs s = Pack.bad 9 from by rw [Kit1.out, if_pos q4])
                          have Kx := Kept.mk (Kst.out _ (runP_err Ki.out (by decide)))
                          clear hch q3
                          go_wp2_with fail
                          exact bodyPost_ret (v := .tuple #[.slice none 0 0, .slice none 0 0, .int .i64 9]) (by simp [results, Try.results8, go_sem]) rfl (RefReadE.bad (by rw [Kx.out]) KE5.out)
                        rw [if_neg q4] at Kit1
                        rw [← hch] at q4 hxw Kit1
                        have q4n : ch ≤ 4 := by omega
                        have hch2 : xb + 1 = ch := hch.symm
                        have hchr : 0 ≤ ch := by omega
                        have KO := Kept.mk (Sqz.refOpen_any tx (by omega) 1048576)
                        have hol := openP_len tx
                        generalize Sqz.openP tx 1048576 = op at KO hol Kit1
                        obtain ⟨t0, eo⟩ := op
                        simp only [] at hol Kit1
                        clear q1 q2 q3 q4 hch
                        go_wp2_with fail
                        refine (KO.out _).mono ?_
                        rintro e w6 ⟨rfl, hE6⟩
                        have KE6 := Kept.mk (KE5.out.trans hE6)
                        have KR6 := Kept.mk (KR5.out.ext hE6)
                        clear hE6 KO KR5 hcc
                        by_cases he : eo = 0
                        · subst he
                          rw [if_neg (by simp)] at Kit1
                          have hca : w6.cell? ⟨ib, ioff + bs * 2 + 1, none⟩ = some (.string (strOf yb.c)) := by
                            obtain ⟨b', o', e1, hc⟩ := KR6.out.items.at (by decide) (i := bs) (by rw [List.length_map]; exact hbl)
                            injection e1 with e1
                            injection e1 with e1 e2
                            subst e1 e2
                            exact hc 1 _ Kiy.out
                          have KA := Kept.mk (Delta.refApply_any yb.c t0 (by omega) (by omega) 65536)
                          generalize Delta.applyP yb.c t0 65536 = ap at KA Kit1
                          obtain ⟨t, er⟩ := ap
                          simp only [] at Kit1
                          go_wp2_with fail
                          refine (KA.out _).mono ?_
                          rintro e w7 ⟨rfl, hE7⟩
                          have KE7 := Kept.mk (KE6.out.trans hE7)
                          have KR7 := Kept.mk (KR6.out.ext hE7)
                          clear hE7 KA hca
                          by_cases he2 : er = 0
                          · subst he2
                            rw [if_neg (by simp)] at Kit1
                            have htz := strOf_size t
                            by_cases ht : 65536 < t.length
                            · have htI : (65536 : Int) < (t.length : Int) := by omega
                              have Ki := Kept.mk (show itemP its chs s = Pack.bad 9 from by rw [Kit1.out, if_pos ht])
                              have Kx := Kept.mk (Kst.out _ (runP_err Ki.out (by decide)))
                              clear ht
                              go_wp2_with fail
                              exact bodyPost_ret (v := .tuple #[.slice none 0 0, .slice none 0 0, .int .i64 9]) (by simp [results, Try.results8, go_sem]) rfl (RefReadE.bad (by rw [Kx.out]) KE7.out)
                            · have htI : ¬ (65536 : Int) < (t.length : Int) := by omega
                              rw [if_neg ht] at Kit1
                              have Kok := Kept.mk (Kst.out _ (runP_ok Kit1.out))
                              have hsm := item_small KK.out.2.1 (by rw [KK.out.2.2.1]; omega) s (by rw [Kit1.out])
                              rw [Kit1.out] at hsm
                              have Ksm := Kept.mk hsm
                              clear hsm ht
                              obtain ⟨iR, hiR, hzR, hsR, hbR⟩ := infoR
                              obtain ⟨iN, hiN, hzN, hsN, hbN⟩ := infoN
                              have hBw := KE7.out.size
                              have hKi := KK.out.2.2.1
                              have hKc := KK.out.2.1.c
                              have KiL := Kept.mk (And.intro hKi hKc)
                              clear hKi hKc
                              go_wp2_with (refine wpList_append_litS (P := Try.prog) w7 rfl (.tmp 150) (.tmp 154) 32 rfl 2 (by decide) 53 iR _ Try.underlying32 hiR hzR hsR rfl w.heap.size (.slice (some ⟨ib, ioff, none⟩) i ic) (its.map itV) rfl KR7.out.items [.int .i64 k0, .string (strOf t)] rfl rfl (by simp [Value.oneCell']) hBw (by rw [List.length_map, KiL.out.1]; simp only [maxLen]; omega) (by rw [List.length_map, KiL.out.1, hbR]; omega) ?_)
                              intro lv' w8 hl8 ht8 ho8
                              have KE8 := Kept.mk (show Ext w w8 from Touch.below KE7.out ht8 (fun j hj => (KR7.out.items.owns j hj).1) hBw)
                              have Kl8 := Kept.mk hl8
                              have Kc8 := Kept.mk (KR7.out.chains.touch ht8 (fun j hj hm => KR7.out.sep j hm hj))
                              have Ks8 := Kept.mk (show Sep (own lv') (own (.slice (some ⟨cb, coff, none⟩) i cc)) from fun j hj hm => (ho8 j hj).elim (fun h => KR7.out.sep j h hm) (fun h => by have := (KR7.out.chains.owns j hm).2; omega))
                              obtain ⟨A8, n8, c8, h8⟩ := BufS.form3 hl8
                              subst h8
                              clear hl8 ht8 ho8 hBw KR7 KE7
                              have hBw := KE8.out.size
                              have hcb := Buf.toS Kc8.out
                              have Kcb := Kept.mk hcb
                              clear hcb
                              go_wp2_with (refine wpList_append_litS (P := Try.prog) w8 rfl (.tmp 156) (.tmp 158) 29 rfl 1 (by decide) 3 iN _ Try.underlying29 hiN hzN hsN rfl w.heap.size (.slice (some ⟨cb, coff, none⟩) i cc) ((ints chs).map fun x => [x]) rfl Kcb.out [.int .i64 ch] rfl rfl (by simp [Value.oneCell']) hBw (by rw [List.length_map, ints_length, KiL.out.2, KiL.out.1]; simp only [maxLen]; omega) (by rw [List.length_map, ints_length, KiL.out.2, KiL.out.1, hbN]; omega) ?_)
                              intro cv' w9 hc9 ht9 ho9
                              have KE9 := Kept.mk (show Ext w w9 from Touch.below KE8.out ht9 (fun j hj => (Kc8.out.owns j hj).1) hBw)
                              have KR9 := Kept.mk (show RfAt w9 w.heap.size (.slice A8 n8 c8) cv' (its ++ [⟨k0, t⟩]) (chs ++ [ch]) from ⟨by
                                  rw [List.map_append]
                                  exact Kl8.out.touch ht9 (fun j hj hm => Ks8.out j hj hm), by
                                  refine BufS.toB ?_
                                  rw [ints_snoc, List.map_append]
                                  exact hc9, fun j hj hm => (ho9 j hm).elim (fun h => Ks8.out j hj h) (fun h => by have := (Kl8.out.owns j hj).2; omega)⟩)
                              obtain ⟨A9, n9, c9, h9⟩ := BufS.form3 hc9
                              subst h9
                              clear hc9 ht9 ho9 hBw Kcb Kl8 Kc8 Ks8 KE8
                              have Kfin := Kept.mk (And.intro KR9.out (And.intro Ksm.out.1 (And.intro (show (its ++ [It.mk k0 t]).length = i + 1 from by rw [List.length_append, KiL.out.1]; rfl) (And.intro KE9.out (Kok.out.symm.trans Kr2.out)))))
                              clear KR9 Ksm KE9 KiL KK Kok Kit1
                              go_wp2_with fail
                              go_roundg (gk - 1)
                              case measure => have := Kr.out; omega
                              case rel => exact ⟨i + 1, a1 + 4 + v, _, _, by have := Kr.out; omega, by first | rfl | simp, by first | rfl | simp, ha9, Kfin⟩
                          · have Ki := Kept.mk (show itemP its chs s = Pack.bad er from by rw [Kit1.out, if_pos he2])
                            have Kx := Kept.mk (Kst.out _ (runP_err Ki.out he2))
                            have hne : (er != 0) = true := by simpa using he2
                            clear he2
                            go_wp2_with fail
                            exact bodyPost_ret (v := .tuple #[.slice none 0 0, .slice none 0 0, .int .i64 er]) (by simp [results, Try.results8, go_sem]) rfl (RefReadE.bad (by rw [Kx.out]) KE7.out)
                        · have Ki := Kept.mk (show itemP its chs s = Pack.bad eo from by rw [Kit1.out, if_pos he])
                          have Kx := Kept.mk (Kst.out _ (runP_err Ki.out he))
                          have hne : (eo != 0) = true := by simpa using he
                          clear he
                          go_wp2_with fail
                          exact bodyPost_ret (v := .tuple #[.slice none 0 0, .slice none 0 0, .int .i64 eo]) (by simp [results, Try.results8, go_sem]) rfl (RefReadE.bad (by rw [Kx.out]) KE6.out)
                · have hbb : (b0 == 1) = false := by simpa using hb
                  rw [if_neg hb] at Kit0
                  have hs2 : s.drop 2 = (p.take n).drop (a + 2) := by rw [hs, List.drop_drop]
                  rw [hs2] at Kit0
                  have ha6 : a + 2 ≤ n := by omega
                  clear h2 hsl hs hs2
                  obtain ⟨s1, hs1⟩ : ∃ s, s = (p.take n).drop (a + 2) := ⟨_, rfl⟩
                  have hs1l : s1.length = n - (a + 2) := by rw [hs1, List.length_drop, htl]
                  rw [← hs1] at Kit0
                  have ea : (a : Int) + 2 = ((a + 2 : Nat) : Int) := by omega
                  have KEi := Kept.mk (fun q : Nat => KK.out.2.2.2.1.trans (Ext.drewN _ q))
                  have hsa : a + 2 = a + 2 := rfl
                  generalize a + 2 = a1 at ea ha6 hs1 hs1l hsa
                  by_cases h4 : s1.length < 4
                  · have h4I : (n : Int) < (a1 : Int) + 4 := by omega
                    rw [← ea] at h4I
                    have Ki := Kept.mk (show itemP its chs s = Pack.bad 2 from by rw [Kit0.out]; unfold bodyP; rw [if_pos h4])
                    have Kx := Kept.mk (Kst.out _ (runP_err Ki.out (by decide)))
                    clear h4 ea hsa hs1l
                    go_wp2_with fail
                    go_quiet (fail)
                    go_wp2_with fail
                    exact bodyPost_ret (v := .tuple #[.slice none 0 0, .slice none 0 0, .int .i64 2]) (by simp [results, Try.results8, go_sem]) rfl (RefReadE.bad (by rw [Kx.out]) (KEi.out _))
                  · have h4I : ¬ (n : Int) < (a1 : Int) + 4 := by omega
                    have h4J := h4I
                    rw [← ea] at h4J
                    have KG2 := Kept.mk (Delta.get_any p a1 (by omega) (by omega))
                    rw [← val4_part p n a1 (by omega), ← hs1] at KG2
                    have Kit1 : Kept (itemP its chs s = if (s1.drop 4).length < (val4 s1) then Pack.bad 2 else if k0 < 1 ∨ 4 < k0 ∨ 1 < b0 ∨ (b0 = 1 ∧ its.length ≤ 0) then Pack.bad 3 else if (Sqz.openP ((s1.drop 4).take (val4 s1)) 1048576).2 ≠ 0 then Pack.bad (Sqz.openP ((s1.drop 4).take (val4 s1)) 1048576).2 else if 65536 < (Sqz.openP ((s1.drop 4).take (val4 s1)) 1048576).1.length then Pack.bad 9 else ⟨0, its ++ [⟨k0, (Sqz.openP ((s1.drop 4).take (val4 s1)) 1048576).1⟩], chs ++ [0], (s1.drop 4).drop (val4 s1)⟩) := Kept.mk (by rw [Kit0.out]; unfold bodyP; rw [if_neg h4]; simp [hb])
                    have hvl := val4_lt s1
                    have hs5 : s1.drop 4 = (p.take n).drop (a1 + 4) := by rw [hs1, List.drop_drop]
                    have hs5l : (s1.drop 4).length = n - (a1 + 4) := by rw [hs5, List.length_drop, htl]
                    generalize val4 s1 = v at hvl KG2 Kit1
                    generalize s1.drop 4 = s5 at hs5 hs5l Kit1
                    clear h4 hs1 hs1l Kit0
                    go_wp2_with fail
                    go_quiet (fail)
                    go_wp2_with fail
                    first | rw [ea] | skip
                    refine (KG2.out _).mono ?_
                    rintro e w5 ⟨rfl, hE5⟩
                    have KE5 := Kept.mk ((KEi.out _).trans hE5)
                    have KR5 := Kept.mk (KK.out.1.ext ((Ext.drewN _ _).trans hE5))
                    clear hE5 KG2 KEi i0 i1 h2I y0 y1
                    clear h4J
                    by_cases hvn : s5.length < v
                    · have hvI : (n : Int) < (a1 : Int) + 4 + (v : Int) := by omega
                      have Ki := Kept.mk (show itemP its chs s = Pack.bad 2 from by rw [Kit1.out, if_pos hvn])
                      have Kx := Kept.mk (Kst.out _ (runP_err Ki.out (by decide)))
                      clear hvn ea hsa hs5l
                      go_wp2_with fail
                      exact bodyPost_ret (v := .tuple #[.slice none 0 0, .slice none 0 0, .int .i64 2]) (by simp [results, Try.results8, go_sem]) rfl (RefReadE.bad (by rw [Kx.out]) KE5.out)
                    · have hvI : ¬ (n : Int) < (a1 : Int) + 4 + (v : Int) := by omega
                      rw [if_neg hvn] at Kit1
                      have h0I : (0 : Int) ≤ (a1 : Int) + 4 := by omega
                      have hloI : (a1 : Int) + 4 ≤ (a1 : Int) + 4 + (v : Int) := by omega
                      have hhiI : (a1 : Int) + 4 + (v : Int) ≤ (p.length : Int) := by omega
                      have hx9 : (strOf p).extract (a1 + 4) (a1 + 4 + v) = strOf (s5.take v) := by rw [strOf_extract, hs5, List.drop_take, List.take_take]; congr 2; omega
                      have Kx6 : Kept (s5.drop v = (p.take n).drop (a1 + 4 + v)) := Kept.mk (by rw [hs5, List.drop_drop])
                      have ha9 : a1 + 4 + v ≤ n := by omega
                      have htxl : (s5.take v).length ≤ 900000 := by rw [List.length_take]; omega
                      rw [Kx6.out] at Kit1
                      generalize s5.take v = tx at htxl hx9 Kit1
                      clear hvn hs5 hs5l h4I Kx6 ea hsa
                      by_cases q1 : k0 < 1
                      · have Ki := Kept.mk (show itemP its chs s = Pack.bad 3 from by rw [Kit1.out, if_pos (.inl q1)])
                        have Kx := Kept.mk (Kst.out _ (runP_err Ki.out (by decide)))
                        go_wp2_with fail
                        exact bodyPost_ret (v := .tuple #[.slice none 0 0, .slice none 0 0, .int .i64 3]) (by simp [results, Try.results8, go_sem]) rfl (RefReadE.bad (by rw [Kx.out]) KE5.out)
                      by_cases q2 : 4 < k0
                      · have Ki := Kept.mk (show itemP its chs s = Pack.bad 3 from by rw [Kit1.out, if_pos (.inr (.inl q2))])
                        have Kx := Kept.mk (Kst.out _ (runP_err Ki.out (by decide)))
                        go_wp2_with fail
                        exact bodyPost_ret (v := .tuple #[.slice none 0 0, .slice none 0 0, .int .i64 3]) (by simp [results, Try.results8, go_sem]) rfl (RefReadE.bad (by rw [Kx.out]) KE5.out)
                      have q1n : 1 ≤ k0 := by omega
                      have q2n : k0 ≤ 4 := by omega
                      by_cases q3 : 1 < b0
                      · have Ki := Kept.mk (show itemP its chs s = Pack.bad 3 from by rw [Kit1.out, if_pos (.inr (.inr (.inl q3)))])
                        have Kx := Kept.mk (Kst.out _ (runP_err Ki.out (by decide)))
                        go_wp2_with fail
                        exact bodyPost_ret (v := .tuple #[.slice none 0 0, .slice none 0 0, .int .i64 3]) (by simp [results, Try.results8, go_sem]) rfl (RefReadE.bad (by rw [Kx.out]) KE5.out)
                      rw [if_neg (by omega)] at Kit1
                      have KO := Kept.mk (Sqz.refOpen_any tx (by omega) 1048576)
                      have hol := openP_len tx
                      generalize Sqz.openP tx 1048576 = op at KO hol Kit1
                      obtain ⟨t0, eo⟩ := op
                      simp only [] at hol Kit1
                      clear q1 q2
                      go_wp2_with fail
                      refine (KO.out _).mono ?_
                      rintro e w6 ⟨rfl, hE6⟩
                      have KE6 := Kept.mk (KE5.out.trans hE6)
                      have KR6 := Kept.mk (KR5.out.ext hE6)
                      clear hE6 KO KR5
                      by_cases he : eo = 0
                      · subst he
                        rw [if_neg (by simp)] at Kit1
                        have htz := strOf_size t0
                        by_cases ht : 65536 < t0.length
                        · have htI : (65536 : Int) < (t0.length : Int) := by omega
                          have Ki := Kept.mk (show itemP its chs s = Pack.bad 9 from by rw [Kit1.out, if_pos ht])
                          have Kx := Kept.mk (Kst.out _ (runP_err Ki.out (by decide)))
                          clear ht
                          go_wp2_with fail
                          exact bodyPost_ret (v := .tuple #[.slice none 0 0, .slice none 0 0, .int .i64 9]) (by simp [results, Try.results8, go_sem]) rfl (RefReadE.bad (by rw [Kx.out]) KE6.out)
                        · have htI : ¬ (65536 : Int) < (t0.length : Int) := by omega
                          rw [if_neg ht] at Kit1
                          have Kok := Kept.mk (Kst.out _ (runP_ok Kit1.out))
                          have hsm := item_small KK.out.2.1 (by rw [KK.out.2.2.1]; omega) s (by rw [Kit1.out])
                          rw [Kit1.out] at hsm
                          have Ksm := Kept.mk hsm
                          clear hsm ht
                          obtain ⟨iR, hiR, hzR, hsR, hbR⟩ := infoR
                          obtain ⟨iN, hiN, hzN, hsN, hbN⟩ := infoN
                          have hBw := KE6.out.size
                          have hKi := KK.out.2.2.1
                          have hKc := KK.out.2.1.c
                          have KiL := Kept.mk (And.intro hKi hKc)
                          clear hKi hKc
                          go_wp2_with (refine wpList_append_litS (P := Try.prog) w6 rfl (.tmp 150) (.tmp 154) 32 rfl 2 (by decide) 53 iR _ Try.underlying32 hiR hzR hsR rfl w.heap.size (.slice iA i ic) (its.map itV) rfl KR6.out.items [.int .i64 k0, .string (strOf t0)] rfl rfl (by simp [Value.oneCell']) hBw (by rw [List.length_map, KiL.out.1]; simp only [maxLen]; omega) (by rw [List.length_map, KiL.out.1, hbR]; omega) ?_)
                          intro lv' w8 hl8 ht8 ho8
                          have KE8 := Kept.mk (show Ext w w8 from Touch.below KE6.out ht8 (fun j hj => (KR6.out.items.owns j hj).1) hBw)
                          have Kl8 := Kept.mk hl8
                          have Kc8 := Kept.mk (KR6.out.chains.touch ht8 (fun j hj hm => KR6.out.sep j hm hj))
                          have Ks8 := Kept.mk (show Sep (own lv') (own (.slice cA i cc)) from fun j hj hm => (ho8 j hj).elim (fun h => KR6.out.sep j h hm) (fun h => by have := (KR6.out.chains.owns j hm).2; omega))
                          obtain ⟨A8, n8, c8, h8⟩ := BufS.form3 hl8
                          subst h8
                          clear hl8 ht8 ho8 hBw KR6 KE6
                          have hBw := KE8.out.size
                          have hcb := Buf.toS Kc8.out
                          have Kcb := Kept.mk hcb
                          clear hcb
                          go_wp2_with (refine wpList_append_litS (P := Try.prog) w8 rfl (.tmp 156) (.tmp 158) 29 rfl 1 (by decide) 3 iN _ Try.underlying29 hiN hzN hsN rfl w.heap.size (.slice cA i cc) ((ints chs).map fun x => [x]) rfl Kcb.out [.int .i64 0] rfl rfl (by simp [Value.oneCell']) hBw (by rw [List.length_map, ints_length, KiL.out.2, KiL.out.1]; simp only [maxLen]; omega) (by rw [List.length_map, ints_length, KiL.out.2, KiL.out.1, hbN]; omega) ?_)
                          intro cv' w9 hc9 ht9 ho9
                          have KE9 := Kept.mk (show Ext w w9 from Touch.below KE8.out ht9 (fun j hj => (Kc8.out.owns j hj).1) hBw)
                          have KR9 := Kept.mk (show RfAt w9 w.heap.size (.slice A8 n8 c8) cv' (its ++ [⟨k0, t0⟩]) (chs ++ [0]) from ⟨by
                              rw [List.map_append]
                              exact Kl8.out.touch ht9 (fun j hj hm => Ks8.out j hj hm), by
                              refine BufS.toB ?_
                              rw [ints_snoc, List.map_append]
                              exact hc9, fun j hj hm => (ho9 j hm).elim (fun h => Ks8.out j hj h) (fun h => by have := (Kl8.out.owns j hj).2; omega)⟩)
                          obtain ⟨A9, n9, c9, h9⟩ := BufS.form3 hc9
                          subst h9
                          clear hc9 ht9 ho9 hBw Kcb Kl8 Kc8 Ks8 KE8
                          have Kfin := Kept.mk (And.intro KR9.out (And.intro Ksm.out.1 (And.intro (show (its ++ [It.mk k0 t0]).length = i + 1 from by rw [List.length_append, KiL.out.1]; rfl) (And.intro KE9.out (Kok.out.symm.trans Kr2.out)))))
                          clear KR9 Ksm KE9 KiL KK Kok Kit1
                          go_wp2_with fail
                          go_roundg (gk - 1)
                          case measure => have := Kr.out; omega
                          case rel => exact ⟨i + 1, a1 + 4 + v, _, _, by have := Kr.out; omega, by first | rfl | simp, by first | rfl | simp, ha9, Kfin⟩
                      · have Ki := Kept.mk (show itemP its chs s = Pack.bad eo from by rw [Kit1.out, if_pos he])
                        have Kx := Kept.mk (Kst.out _ (runP_err Ki.out he))
                        have hne : (eo != 0) = true := by simpa using he
                        clear he
                        go_wp2_with fail
                        exact bodyPost_ret (v := .tuple #[.slice none 0 0, .slice none 0 0, .int .i64 eo]) (by simp [results, Try.results8, go_sem]) rfl (RefReadE.bad (by rw [Kx.out]) KE6.out)
            · have hltI : ¬ (i : Int) < (cnt : Int) := by omega
              have hie : cnt - i = 0 := by omega
              have Kend := Kept.mk (show R0 = if s = [] then (its, chs, 0) else ([], [], 3) from by
                rw [← KK.out.2.2.2.2, hie]; rfl)
              clear hie
              by_cases hs0 : s = []
              · have Kx := Kept.mk (show readP p = (its, chs, 0) from by rw [Kr2.out, Kend.out, if_pos hs0])
                have hne : ((a : Int) != (n : Int)) = false := by rw [bne_eq_false_iff_eq]; have : s.length = 0 := by rw [hs0]; rfl
                                                                  omega
                have KR := Kept.mk KK.out.1
                clear hs0 hs hsl
                go_wp2_with fail
                exact bodyPost_ret (v := .tuple #[.slice iA i ic, .slice cA i cc, .int .i64 0]) (by simp [results, Try.results8, go_sem]) rfl ⟨_, _, by rw [Kx.out], KK.out.2.2.2.1, by rw [Kx.out]; exact KR.out.items, by rw [Kx.out]; exact KR.out.chains⟩
              · have Kx := Kept.mk (show readP p = ([], [], 3) from by rw [Kr2.out, Kend.out, if_neg hs0])
                have hne : ((a : Int) != (n : Int)) = true := by
                  rw [bne_iff_ne]
                  intro e
                  exact hs0 (List.eq_nil_of_length_eq_zero (by omega))
                clear hs0 hs hsl
                go_wp2_with fail
                exact bodyPost_ret (v := .tuple #[.slice none 0 0, .slice none 0 0, .int .i64 3]) (by simp [results, Try.results8, go_sem]) rfl (RefReadE.bad (by rw [Kx.out]) KK.out.2.2.2.1)
      · have hq : ((strOf (p.take n ++ Sha2.digest (p.take n))).toList == (strOf p).toList) = false := by
          refine str_no ?_
          rw [strOf_list, strOf_list]
          intro e
          exact hd (List.append_cancel_left (e.trans (List.take_append_drop n p).symm))
        have Kr1 : Kept (readP p = ([], [], 14)) := Kept.mk (by rw [Kr0.out, if_pos hd])
        generalize p.take n ++ Sha2.digest (p.take n) = sl at hq KS
        clear hd hmg Kr0 hnI h40 hn
        go_enter Try.func8, Try.ntmps8
        go_wp2_with fail
        refine (KS.out _).mono ?_
        rintro e w1 ⟨rfl, h1⟩
        have KE1 := Kept.mk h1
        clear h1
        go_wp2_with fail
        exact bodyPost_ret (v := .tuple #[.slice none 0 0, .slice none 0 0, .int .i64 14]) (by simp [results, Try.results8, go_sem]) rfl (RefReadE.bad (by rw [Kr1.out]) KE1.out)
    · have hneq : ((strOf (p.take 4)).toList == [68, 80, 75, 49]) = false := by rw [ByteArray.toList_eq, strOf_list]; simpa using hmg
      have Kr : Kept (readP p = ([], [], 3)) := Kept.mk (by unfold readP; rw [if_neg (by omega), if_neg h40, if_pos hmg])
      clear h40 hmg
      go_enter Try.func8, Try.ntmps8
      go_wp2_with fail
      exact bodyPost_ret (v := .tuple #[.slice none 0 0, .slice none 0 0, .int .i64 3]) (by simp [results, Try.results8, go_sem]) rfl (RefReadE.bad (by rw [Kr.out]) (Ext.refl _))
end Pack
end Go.Proofs.Ytgnbbklnobladaa
