/- The walk of a pack's reader's item. No condition. -/
import Derived.Test.YtgnbbklnobladaaPackWalkA
import Derived.Test.YtgnbbklnobladaaSqzWalkB
import Derived.Test.YtgnbbklnobladaaBufSTwo
import Derived.Test.YtgnbbklnobladaaCalmSkip
import Derived.Deep.RegionHeldLaw
import Derived.Deep.DeepCutAuto
namespace Go.Proofs.Ytgnbbklnobladaa
open Go.RowKit
namespace Pack
open Delta (wraps_i64 val4 val4_lt)
open Work (ints ints_length ints_at)
set_option linter.unusedSimpArgs false
set_option linter.unusedVariables false
/-- What item leaves. -/
def ItemE (w0 : World) (B g : Nat) (r : St) (e : Ending) (w' : World) : Prop :=
  e = .returned (.int .i64 r.e) ∧ Ext w0 w' ∧ (r.e = 0 → ∃ iv cv, RdAt w' B g iv cv r.its r.chs r.s)
theorem RdAt.touch {w w' : World} {B g : Nat} {iv cv : Value} {its : List It} {chs : List Int} {s : List UInt8} {S : List Nat} (h : RdAt w B g iv cv its chs s) (k : Touch S w w') (h1 : g ∉ S) (h2 : Sep (own iv) S) (h3 : Sep (own cv) S) : RdAt w' B g iv cv its chs s :=
  ⟨h.blk.touch k h1, h.items.touch k h2, h.chains.touch k h3, h.bg, h.s1, h.s2, h.s3⟩
/-- What the roads know. -/
structure Small (its : List It) (chs : List Int) : Prop where
  n : its.length ≤ 1000
  c : chs.length = its.length
  i : ∀ x ∈ its, x.c.length ≤ 65536
  h : ∀ x ∈ chs, 0 ≤ x ∧ x ≤ 4
theorem infoP : ∃ i : TypeInfo, Try.prog.info? 42 = some i ∧ i.zero = some (.agg #[.int .i64 0, .string ByteArray.empty]) ∧ i.size = 2 ∧ i.bytes = 24 := by
  have h : (Try.prog.info? 42).map (fun i => (i.zero, i.size, i.bytes)) = some (some (.agg #[.int .i64 0, .string ByteArray.empty]), 2, 24) := by kernel_rfl
  obtain ⟨i, hi, he⟩ := Option.map_eq_some_iff.1 h
  injection he with e1 e2
  injection e2 with e2 e3
  exact ⟨i, hi, e1, e2, e3⟩
theorem infoN : ∃ i : TypeInfo, Try.prog.info? 3 = some i ∧ i.zero = some (.int .i64 0) ∧ i.size = 1 ∧ i.bytes = 8 := by
  have h : (Try.prog.info? 3).map (fun i => (i.zero, i.size, i.bytes)) = some (some (.int .i64 0), 1, 8) := by kernel_rfl
  obtain ⟨i, hi, he⟩ := Option.map_eq_some_iff.1 h
  injection he with e1 e2
  injection e2 with e2 e3
  exact ⟨i, hi, e1, e2, e3⟩
theorem flat_one (xs : List Value) : (xs.map fun x => [x]).flatten = xs := by
  induction xs with
  | nil => rfl
  | cons x xs ih => rw [List.map_cons, List.flatten_cons, ih]; rfl
theorem Buf.toS {w : World} {B : Nat} {e : TypeId} {v : Value} {xs : List Value} (h : Buf w B e v xs) : BufS 1 w B e v (xs.map fun x => [x]) := by
  obtain ⟨A, cap, rfl, h1, h2, h3, h4⟩ := h
  refine ⟨A, cap, by rw [List.length_map], by rw [List.length_map]; exact h1, h2, ?_, h3, ?_⟩
  · intro c hc
    obtain ⟨x, _, rfl⟩ := List.mem_map.1 hc
    rfl
  · rcases h4 with h4 | ⟨b, off, cs, rfl, hb, h5, h6⟩
    · exact .inl h4
    · exact .inr ⟨b, off, cs, rfl, hb, by omega, by rw [List.length_map, Nat.mul_one, h6, flat_one]⟩
theorem BufS.toB {w : World} {B : Nat} {e : TypeId} {v : Value} {xs : List Value} (h : BufS 1 w B e v (xs.map fun x => [x])) : Buf w B e v xs := by
  obtain ⟨A, cap, rfl, h1, h2, _, h3, h4⟩ := h
  rw [List.length_map] at h1 h3 ⊢
  refine ⟨A, cap, rfl, h1, h2, h3, ?_⟩
  rcases h4 with h4 | ⟨b, off, cs, rfl, hb, h5, h6⟩
  · exact .inl h4
  · exact .inr ⟨b, off, cs, rfl, hb, by omega, by rw [List.length_map, Nat.mul_one, flat_one] at h6; exact h6⟩
theorem sepT {s s' : Nat} {w : World} {B B' : Nat} {e e' : TypeId} {v v' : Value} {xs xs' : List (List Value)} (h : BufS s w B e v xs) (h0 : xs ≠ []) (h' : BufS s' w B' e' v' xs') (h0' : xs' ≠ []) (hne : e ≠ e') : Sep (own v) (own v') := by
  obtain ⟨A, cap, rfl, h1, h2, h3, h4, h5⟩ := h
  obtain ⟨A', cap', rfl, h1', h2', h3', h4', h5'⟩ := h'
  have p := List.length_pos_iff.2 h0
  have p' := List.length_pos_iff.2 h0'
  rcases h5 with h5 | ⟨b, off, cs, rfl, ⟨fz, hb, _⟩, _⟩
  · omega
  rcases h5' with h5' | ⟨b', off', cs', rfl, ⟨fz', hb', _⟩, _⟩
  · omega
  intro j hj hj'
  simp only [own, List.mem_singleton] at hj hj'
  subst hj
  subst hj'
  rw [hb] at hb'
  simp at hb'
  exact hne hb'.2.1
theorem ints_snoc (l : List Int) (x : Int) : ints (l ++ [x]) = ints l ++ [.int .i64 x] := by simp [ints, numsV]
theorem BufS.form3 {s : Nat} {w : World} {B : Nat} {e : TypeId} {v : Value} {css : List (List Value)} (h : BufS s w B e v css) : ∃ A n cap, v = .slice A n cap := by
  obtain ⟨A, cap, h1⟩ := h.form
  exact ⟨A, _, cap, h1⟩
theorem tokStep_len (M : Int) (out s : List UInt8) (h : (Sqz.tokStep M out s).1 = 0) : ((Sqz.tokStep M out s).2.1.length : Int) ≤ M := by
  unfold Sqz.tokStep at h ⊢
  split
  · rename_i h0; rw [if_pos h0] at h
    split
    · rename_i h1; rw [if_pos h1] at h; exact absurd h (by decide)
    · rename_i h1; rw [if_neg h1] at h
      split
      · rename_i h2; rw [if_pos h2] at h; exact absurd h (by decide)
      · simp only [List.length_append, List.length_take, List.length_drop]; omega
  · rename_i h0; rw [if_neg h0] at h
    split
    · rename_i h1; rw [if_pos h1] at h; exact absurd h (by decide)
    · rename_i h1; rw [if_neg h1] at h
      split
      · rename_i h2; rw [if_pos h2] at h; exact absurd h (by decide)
      · rename_i h2; rw [if_neg h2] at h
        split
        · rename_i h3; rw [if_pos h3] at h; exact absurd h (by decide)
        · simp only [Sqz.rep_length]; omega
theorem tokRun_len (M : Int) (hM : 0 ≤ M) : ∀ (k : Nat) (out s : List UInt8), (out.length : Int) ≤ M → ((Sqz.tokRun M k out s).1.length : Int) ≤ M
  | 0, _, _, _ => by simp only [Sqz.tokRun, List.length_nil]; omega
  | k + 1, out, s, h => by
    unfold Sqz.tokRun
    split
    · exact h
    · split
      · simp only [List.length_nil]; omega
      · rename_i h1
        exact tokRun_len M hM k _ _ (tokStep_len M out s (by simpa using h1))
theorem openP_len (s : List UInt8) : (Sqz.openP s 1048576).1.length ≤ 1048576 := by
  unfold Sqz.openP
  rw [if_neg (by decide)]
  unfold Sqz.openM
  split
  · simp
  · split
    · split
      · simp
      · simp only [List.length_drop]; omega
    · split
      · have := tokRun_len 1048576 (by decide) ((s.drop 1).length + 1) [] (s.drop 1) (by simp)
        unfold Sqz.toks
        omega
      · simp
set_option maxRecDepth 100000 in
set_option maxHeartbeats 4000000 in
theorem item_other (w0 w : World) (hE : Ext w0 w) (g : Nat) (iv cv : Value) (its : List It) (chs : List Int) (hS : Small its chs) (s : List UInt8) (hs : s.length ≤ 900000) (h2 : ¬ s.length < 2) (hb : byt s 1 ≠ 1) (h : RdAt w w0.heap.size g iv cv its chs s) :
    Calls Try.prog 28 #[.pointer (some ⟨g, 0, none⟩)] w (ItemE w0 w0.heap.size g (itemP its chs s)) := by
  have hm : Try.prog.follows .mixedOrders = true := by kernel_rfl
  have c0 : w.cell? ⟨g, 0, none⟩ = some (.string (strOf s)) := by rw [h.blk.cell]; rfl
  have hgl := h.blk.lt
  have hsz := strOf_size s
  have KS := Kept.mk hS
  have hbs : ∃ k0 b0, k0 = byt s 0 ∧ b0 = byt s 1 := ⟨_, _, rfl, rfl⟩
  obtain ⟨k0, b0, hk0, hb0⟩ := hbs
  have Kit : Kept (itemP its chs s = bodyP its chs k0 b0 0 (s.drop 2)) := Kept.mk (by
    unfold itemP
    rw [if_neg h2, if_neg hb, hk0, hb0])
  have h2I : ¬ (s.length : Int) < 2 := by omega
  have h1I : (1 : Int) < (s.length : Int) := by omega
  have h0I : (0 : Int) < (s.length : Int) := by omega
  have e0 : (((strOf s)[0]'(by rw [hsz]; omega)).toNat : Int) = k0 := by rw [hk0]; exact get_byte s 0 _
  have e1 : (((strOf s)[1]'(by rw [hsz]; omega)).toNat : Int) = b0 := by rw [hb0]; exact get_byte s 1 _
  have hkr : 0 ≤ k0 ∧ k0 ≤ 255 := by rw [hk0]; exact byt_range s 0
  have hbr : 0 ≤ b0 ∧ b0 ≤ 255 := by rw [hb0]; exact byt_range s 1
  have hkw : IntKind.i64.wrap k0 = k0 := wraps_i64 k0 (by omega) (by omega)
  rw [← hb0] at hb
  clear hk0 hb0
  have KX : Kept (Blk (w.alloc (.cells #[.int .i64 k0, .string ⟨#[]⟩] 42)).drew w.heap.size 42 [.int .i64 k0, .string ⟨#[]⟩]) := Kept.mk ((Blk.new w 42 [.int .i64 k0, .string ⟨#[]⟩]).ext (Ext.drew _))
  have hE1 : Ext w (w.alloc (.cells #[.int .i64 k0, .string ⟨#[]⟩] 42)).drew := (Ext.alloc _ _).trans (Ext.drew _)
  have KE := Kept.mk (hE.trans hE1)
  have KH := Kept.mk (h.ext hE1)
  have Kg : Kept (w.heap.size ≠ g ∧ w0.heap.size ≤ w.heap.size ∧ w.heap.size ∉ own iv ∧ w.heap.size ∉ own cv) := Kept.mk ⟨by omega, hE.size, fun hm => by have := (h.items.owns _ hm).2; omega, fun hm => by have := (h.chains.owns _ hm).2; omega⟩
  have KT : Kept (∀ l : List UInt8, ∀ n, (strOf l).extract n l.length = strOf (l.drop n)) := Kept.mk (fun l n => by rw [← strOf_size l]; exact strOf_tail l n)
  clear h hE hE1 hS
  go_enter Try.func28, Try.ntmps28
  go_upto_region 3 with fail
  go_cut [3, 4] (fun s3 s4 wx => s3 = .pointer (some ⟨w.heap.size, 0, none⟩) ∧ s4 = .int .u8 b0 ∧ (w.alloc (.cells #[.int .i64 k0, .string ⟨#[]⟩] 42)).drew = wx)
  case first =>
    go_region_held_law (fun w' => w'.cell? ⟨g, 0, none⟩ = some (.string (strOf s)))
      (first
        | with_reducible exact (Ext.drew _).cell c0
        | with_reducible exact (Ext.drew _).cell ((Ext.alloc _ _).cell c0))
      (fail)
    all_goals
      go_wp2_with fail
      go_meet
      exact ⟨rfl, rfl, rfl⟩
  case rest =>
    obtain ⟨rfl, rfl, rfl⟩ := hcut
    generalize (w.alloc (.cells #[.int .i64 k0, .string ⟨#[]⟩] 42)).drew = wx at KX KE KH ⊢
    generalize w.heap.size = gx at KX Kg ⊢
    have c1 : wx.cell? ⟨g, 0, none⟩ = some (.string (strOf s)) := by rw [KH.out.blk.cell]; rfl
    have f1 := KH.out.blk.free 0
    have h2I2 : (2 : Int) ≤ (s.length : Int) := by omega
    have KH1 := Kept.mk (KH.out.text (s.drop 2))
    have KX1 := Kept.mk (KX.out.touch (Touch.set wx ⟨g, 0, none⟩ (.string (strOf (s.drop 2)))) (by have := Kg.out.1; simpa using this))
    have KE1 := Kept.mk (show Ext w0 (wx.setCell ⟨g, 0, none⟩ (.string (strOf (s.drop 2)))) from Touch.below KE.out (Touch.set _ _ _) (fun j hj => by rw [List.mem_singleton] at hj; have := KH.out.bg; have hj' : j = g := hj; omega) KE.out.size)
    have hd2 : (s.drop 2).length ≤ 900000 := by rw [List.length_drop]; omega
    clear c0 e0 e1 KH h2 h2I h1I h0I hgl
    have hbb : (b0 == 1) = false := by simpa using hb
    go_wp2_with fail
    rw [KT.out]
    generalize wx.setCell ⟨g, 0, none⟩ (.string (strOf (s.drop 2))) = w1 at KH1 KX1 KE1 ⊢
    generalize s.drop 2 = s1 at KH1 hd2 Kit ⊢
    clear hsz c1 f1 KE KX
    have KN := Kept.mk (number_any w0.heap.size g iv cv its chs s1 (by omega) w1 KH1.out)
    refine KN.out.mono ?_
    unfold NumE
    by_cases h4 : s1.length < 4
    · have Kr := Kept.mk (show itemP its chs s = bad 2 from by rw [Kit.out]; unfold bodyP; rw [if_pos h4])
      rw [if_pos h4, if_pos h4, decide_eq_false (fun h => h h4)]
      rintro e w2 ⟨rfl, hR2, hT2⟩
      have KE2 := Kept.mk (show Ext w0 w2 from Touch.below KE1.out hT2 (fun j hj => by rw [List.mem_singleton] at hj; have := KH1.out.bg; omega) KE1.out.size)
      clear hR2 hT2 h4
      go_wp2_with fail
      go_ret
      rw [Kr.out]
      exact ⟨rfl, KE2.out, fun h => by cases h⟩
    · rw [if_neg h4, if_neg h4, decide_eq_true h4]
      rintro e w2 ⟨rfl, hR2, hT2⟩
      have KE2 := Kept.mk (show Ext w0 w2 from Touch.below KE1.out hT2 (fun j hj => by rw [List.mem_singleton] at hj; have := KH1.out.bg; omega) KE1.out.size)
      have KX2 := Kept.mk (KX1.out.touch hT2 (by have := Kg.out.1; simpa using this))
      have KR2 := Kept.mk hR2
      have hn := val4_lt s1
      have Kb : Kept (∃ n s2, n = val4 s1 ∧ s2 = s1.drop 4) := Kept.mk ⟨_, _, rfl, rfl⟩
      have hs2 : (s1.drop 4).length ≤ 900000 := by rw [List.length_drop]; omega
      have Kit2 : Kept (itemP its chs s = if (s1.drop 4).length < (val4 s1) then bad 2 else if k0 < 1 ∨ 4 < k0 ∨ 1 < b0 ∨ (b0 = 1 ∧ its.length ≤ 0) then bad 3 else if (Sqz.openP ((s1.drop 4).take (val4 s1)) 1048576).2 ≠ 0 then bad (Sqz.openP ((s1.drop 4).take (val4 s1)) 1048576).2 else if 65536 < (Sqz.openP ((s1.drop 4).take (val4 s1)) 1048576).1.length then bad 9 else ⟨0, its ++ [⟨k0, (Sqz.openP ((s1.drop 4).take (val4 s1)) 1048576).1⟩], chs ++ [0], (s1.drop 4).drop (val4 s1)⟩) := Kept.mk (by rw [Kit.out]; unfold bodyP; rw [if_neg h4]; simp [hb])
      clear hR2 hT2 Kb
      generalize val4 s1 = n at hn Kit2 ⊢
      generalize s1.drop 4 = s2 at KR2 hs2 Kit2 ⊢
      have c2 : w2.cell? ⟨g, 0, none⟩ = some (.string (strOf s2)) := by rw [KR2.out.blk.cell]; rfl
      have f2 := KR2.out.blk.free 0
      have hsz2 := strOf_size s2
      clear KN KH1 KX1 KE1 Kit h4
      by_cases hnl : s2.length < n
      · have hnlI : (s2.length : Int) < (n : Int) := by omega
        have Kr := Kept.mk (show itemP its chs s = bad 2 from by rw [Kit2.out, if_pos hnl])
        clear hnl
        go_wp2_with fail
        go_ret
        rw [Kr.out]
        exact ⟨rfl, KE2.out, fun h => by cases h⟩
      · have hnlI : ¬ (s2.length : Int) < (n : Int) := by omega
        have hnlI2 : (n : Int) ≤ (s2.length : Int) := by omega
        have hn0 : (0 : Int) ≤ (n : Int) := by omega
        rw [if_neg hnl] at Kit2
        have Kx : Kept ((strOf s2).extract 0 n = strOf (s2.take n)) := Kept.mk (by rw [strOf_extract]; simp)
        have Kt := Kept.mk (KT.out s2 n)
        have KR3 := Kept.mk (KR2.out.text (s2.drop n))
        have KX3 := Kept.mk (KX2.out.touch (Touch.set w2 ⟨g, 0, none⟩ (.string (strOf (s2.drop n)))) (by have := Kg.out.1; simpa using this))
        have KE3 := Kept.mk (show Ext w0 (w2.setCell ⟨g, 0, none⟩ (.string (strOf (s2.drop n)))) from Touch.below KE2.out (Touch.set _ _ _) (fun j hj => by rw [List.mem_singleton] at hj; have := KR2.out.bg; have hj' : j = g := hj; omega) KE2.out.size)
        have htl : (s2.take n).length ≤ 900000 := by rw [List.length_take]; omega
        go_upto_region 14 with fail
        rw [Kt.out, Kx.out]
        generalize w2.setCell ⟨g, 0, none⟩ (.string (strOf (s2.drop n))) = w3 at KR3 KX3 KE3 ⊢
        have c3i : w3.cell? ⟨g, 1, none⟩ = some iv := by rw [KR3.out.blk.cell]; rfl
        have c3c : w3.cell? ⟨g, 2, none⟩ = some cv := by rw [KR3.out.blk.cell]; rfl
        have x0 : w3.cell? ⟨gx, 0, none⟩ = some (.int .i64 k0) := by rw [KX3.out.cell]; rfl
        obtain ⟨iA, ic, hiv⟩ := KR3.out.items.form
        rw [List.length_map] at hiv
        obtain ⟨cA, cc, hcv⟩ := KR3.out.chains.form
        rw [ints_length] at hcv
        subst hiv hcv
        generalize s2.take n = tx at htl Kit2 ⊢
        generalize s2.drop n = s4 at KR3 Kit2 ⊢
        clear hnl hnlI hnlI2 hn0 hn c2 f2 hsz2 Kx Kt KR2 KX2 KE2 hs2 hd2 h2I2
        by_cases q1 : k0 < 1
        · have Kr := Kept.mk (show itemP its chs s = bad 3 from by rw [Kit2.out, if_pos (.inl q1)])
          go_wp2_with fail
          go_ret
          rw [Kr.out]
          exact ⟨rfl, KE3.out, fun h => by cases h⟩
        · by_cases q2 : 4 < k0
          · have Kr := Kept.mk (show itemP its chs s = bad 3 from by rw [Kit2.out, if_pos (.inr (.inl q2))])
            go_wp2_with fail
            go_ret
            rw [Kr.out]
            exact ⟨rfl, KE3.out, fun h => by cases h⟩
          · have q1n : 1 ≤ k0 := by omega
            have q2n : k0 ≤ 4 := by omega
            by_cases q3 : 1 < b0
            · have Kr := Kept.mk (show itemP its chs s = bad 3 from by rw [Kit2.out, if_pos (.inr (.inr (.inl q3)))])
              go_wp2_with fail
              go_ret
              rw [Kr.out]
              exact ⟨rfl, KE3.out, fun h => by cases h⟩
            · have q3n : b0 ≤ 1 := by omega
              rw [if_neg (by omega)] at Kit2
              have KO := Kept.mk (Sqz.open_any tx (by omega) 1048576 w3)
              have hol := openP_len tx
              generalize Sqz.openP tx 1048576 = op at KO hol Kit2
              obtain ⟨t, eo⟩ := op
              simp only [] at hol Kit2
              clear q1 q2 q3
              go_wp2_with fail
              refine KO.out.mono ?_
              rintro e w4 ⟨rfl, hE4⟩
              have KR4 := Kept.mk (KR3.out.ext hE4)
              have KX4 := Kept.mk (KX3.out.ext hE4)
              have KE4 := Kept.mk (KE3.out.trans hE4)
              clear hE4 c3i c3c x0
              by_cases he : eo = 0
              · subst he
                have htsz := strOf_size t
                rw [if_neg (by simp)] at Kit2
                by_cases ht : 65536 < t.length
                · have htI : (65536 : Int) < (t.length : Int) := by omega
                  have Kr := Kept.mk (show itemP its chs s = bad 9 from by rw [Kit2.out, if_pos ht])
                  clear ht
                  go_wp2_with fail
                  go_ret
                  rw [Kr.out]
                  exact ⟨rfl, KE4.out, fun h => by cases h⟩
                · have htI : ¬ (65536 : Int) < (t.length : Int) := by omega
                  rw [if_neg ht] at Kit2
                  have chz : (0 : Int) = 0 := rfl
                  have f4 := KX4.out.free 1
                  have c41 : w4.cell? ⟨gx, 1, none⟩ = some (.string ⟨#[]⟩) := by rw [KX4.out.cell]; rfl
                  have hgx := Kg.out.1
                  have hgx2 : g ≠ gx := fun h => hgx h.symm
                  have hpI : Sep (own (.slice iA its.length ic)) [gx] := fun j hj hm => by rw [List.mem_singleton] at hm; subst hm; exact Kg.out.2.2.1 hj
                  have hpC : Sep (own (.slice cA chs.length cc)) [gx] := fun j hj hm => by rw [List.mem_singleton] at hm; subst hm; exact Kg.out.2.2.2 hj
                  have hT5 : Touch [gx] w4 (w4.setCell ⟨gx, 1, none⟩ (.string (strOf t))) := Touch.set w4 ⟨gx, 1, none⟩ _
                  have KR5 := Kept.mk (KR4.out.touch hT5 (by simpa using hgx2) hpI hpC)
                  have KX5 := Kept.mk (show Blk (w4.setCell ⟨gx, 1, none⟩ (.string (strOf t))) gx 42 [.int .i64 k0, .string (strOf t)] from KX4.out.set 1 _)
                  have KE5 := Kept.mk (show Ext w0 (w4.setCell ⟨gx, 1, none⟩ (.string (strOf t))) from Touch.below KE4.out hT5 (fun j hj => by rw [List.mem_singleton] at hj; subst hj; exact Kg.out.2.1) KE4.out.size)
                  clear hT5 KO KR3 KX3 KE3
                  go_upto_region 28 with fail
                  generalize w4.setCell ⟨gx, 1, none⟩ (.string (strOf t)) = w5 at KR5 KX5 KE5 ⊢
                  clear f4 c41 KR4 KX4 KE4
                  go_cut [13] (fun s13 wx => ∃ iv' cv', RdAt wx w0.heap.size g iv' cv' (its ++ [⟨k0, t⟩]) (chs ++ [0]) s4 ∧ Ext w0 wx)
                  case first =>
                    obtain ⟨iP, hiP, hzP, hsP, hbP⟩ := infoP
                    obtain ⟨iN, hiN, hzN, hsN, hbN⟩ := infoN
                    have d1 : w5.cell? ⟨g, 1, none⟩ = some (.slice iA its.length ic) := by rw [KR5.out.blk.cell]; rfl
                    have d2 : w5.cell? ⟨g, 2, none⟩ = some (.slice cA chs.length cc) := by rw [KR5.out.blk.cell]; rfl
                    have y0 : w5.cell? ⟨gx, 0, none⟩ = some (.int .i64 k0) := by rw [KX5.out.cell]; rfl
                    have y1 : w5.cell? ⟨gx, 1, none⟩ = some (.string (strOf t)) := by rw [KX5.out.cell]; rfl
                    have fr := KR5.out.blk.free 1
                    have KI := Kept.mk KR5.out.items
                    have KC := Kept.mk (Buf.toS KR5.out.chains)
                    have hg1 : (⟨g, 1, none⟩ : Addr).block ∉ own (.slice iA its.length ic) ++ own (.slice cA chs.length cc) := fun hm => (List.mem_append.1 hm).elim KR5.out.s1 KR5.out.s2
                    have hx1 : (⟨gx, 1, none⟩ : Addr).block ∉ own (.slice iA its.length ic) ++ own (.slice cA chs.length cc) := fun hm => (List.mem_append.1 hm).elim Kg.out.2.2.1 Kg.out.2.2.2
                    have hold : ∀ j ∈ own (.slice iA its.length ic) ++ own (.slice cA chs.length cc), j < w5.heap.size := fun j hj => (List.mem_append.1 hj).elim (fun h => (KR5.out.items.owns j h).2) (fun h => (KR5.out.chains.owns j h).2)
                    have hil := KS.out.n
                    have hcl : chs.length ≤ 1000 := by have := KS.out.c; omega
                    have hw05 : w0.heap.size ≤ w5.heap.size := KE5.out.size
                    refine wp_region_calmS (v1 := .pointer (some ⟨g, 0, none⟩)) 1 (TwoR w0.heap.size 2 1 42 3 (.slice iA its.length ic) (.slice cA chs.length cc) (its.map itV) (its.map itV ++ [[.int .i64 k0, .string (strOf t)]]) ((ints chs).map fun x => [x]) ((ints chs).map (fun x => [x]) ++ [[.int .i64 0]]) w5.heap.size) 18 ([] :: [] :: [] :: [(156, 2)] :: [(157, 3)] :: [(158, 4)] :: [] :: [(160, 6)] :: [(159, 5), (161, 7)] :: [] :: [(163, 9)] :: [(164, 10)] :: [(165, 11)] :: [] :: [(167, 13)] :: [(166, 12), (168, 14)] :: [(154, 0)] :: [(170, 16)] :: [])
                      ((154, 0) :: (155, 1) :: (156, 2) :: (157, 3) :: (158, 4) :: (159, 5) :: (160, 6) :: (161, 7) :: (162, 8) :: (163, 9) :: (164, 10) :: (165, 11) :: (166, 12) :: (167, 13) :: (168, 14) :: (169, 15) :: (170, 16) :: (171, 17) :: [])
                      (EqV ?pce0 :: EqV (.pointer (some ⟨g, 0, none⟩)) :: EqV ?pce2 :: EqV ?pce3 :: EqV ?pce4 :: EqV ?pce5 :: EqV ?pce6 :: (fun W u => BufS 2 W w5.heap.size 42 u [[.int .i64 k0, .string (strOf t)]]) :: (fun W u => NearS 2 W w0.heap.size 42 (.slice iA its.length ic) (its.map itV ++ [[.int .i64 k0, .string (strOf t)]]) w5.heap.size u) :: EqV ?pce9 :: EqV ?pce10 :: EqV ?pce11 :: EqV ?pce12 :: EqV ?pce13 :: (fun W u => BufS 1 W w5.heap.size 3 u [[.int .i64 0]]) :: (fun W u => NearS 1 W w0.heap.size 3 (.slice cA chs.length cc) ((ints chs).map (fun x => [x]) ++ [[.int .i64 0]]) w5.heap.size u) :: EqV ?pce16 :: EqV ?pce17 :: []) hm (by kernel_rfl) (by decide) rfl (by kernel_rfl) (by kernel_rfl) (fun _ _ _ h => h) (.inl ⟨rfl, fun _ => rfl⟩) (fun _ => rfl) TwoR.refl TwoR.trans TwoR.drew
                      (MonoL.at (MonoL.eq _ (MonoL.eq _ (MonoL.eq _ (MonoL.eq _ (MonoL.eq _ (MonoL.eq _ (MonoL.eq _ (MonoL.cons (fun W W' u hR hb => hb.touch hR.touch (fun j hj hj2 => by have h1 := (hb.owns j hj).1; have h2 := hold j hj2; omega)) (MonoL.cons (fun W W' u hR h => hR.n1 u h) (MonoL.eq _ (MonoL.eq _ (MonoL.eq _ (MonoL.eq _ (MonoL.eq _ (MonoL.cons (fun W W' u hR hb => hb.touch hR.touch (fun j hj hj2 => by have h1 := (hb.owns j hj).1; have h2 := hold j hj2; omega)) (MonoL.cons (fun W W' u hR h => hR.n2 u h) (MonoL.eq _ (MonoL.eq _ (MonoL.nil)))))))))))))))))))) ?pcalmOps ?pcalmDone
                    case pcalmOps =>
                      intro vs
                      refine (CalmOps.cons ?_ (CalmOps.cons ?_ (CalmOps.cons ?_ (CalmOps.cons ?_ (CalmOps.cons ?_ (CalmOps.cons ?_ (CalmOps.cons ?_ (CalmOps.cons ?_ (CalmOps.cons ?_ (CalmOps.cons ?_ (CalmOps.cons ?_ (CalmOps.cons ?_ (CalmOps.cons ?_ (CalmOps.cons ?_ (CalmOps.cons ?_ (CalmOps.cons ?_ (CalmOps.cons ?_ (CalmOps.cons ?_ trivial))))))))))))))))))
                      · intro w6 hR hL; simp [Look, VAt, EqV] at hL; have q1 := hR.touch.cell d1 hg1; have q2 := hR.touch.cell d2 hg1; have q3 := hR.touch.cell y0 hx1; have q4 := hR.touch.cell y1 hx1; simp [Guarded, setAll, bare, hL]; go_wp2_with fail; exact CalmPost.mk (by first | (simp; done) | (simp; rfl) | rfl) rfl (TwoR.refl _)
                      · intro w6 hR hL; simp [Look, VAt, EqV] at hL; have q1 := hR.touch.cell d1 hg1; have q2 := hR.touch.cell d2 hg1; have q3 := hR.touch.cell y0 hx1; have q4 := hR.touch.cell y1 hx1; simp [Guarded, setAll, bare, hL]; go_wp2_with fail; exact CalmPost.mk (by first | (simp; done) | (simp; rfl) | rfl) rfl (TwoR.refl _)
                      · intro w6 hR hL; simp [Look, VAt, EqV] at hL; have q1 := hR.touch.cell d1 hg1; have q2 := hR.touch.cell d2 hg1; have q3 := hR.touch.cell y0 hx1; have q4 := hR.touch.cell y1 hx1; simp [Guarded, setAll, bare, hL]; go_wp2_with fail; exact CalmPost.mk (by first | (simp; done) | (simp; rfl) | rfl) rfl (TwoR.refl _)
                      · intro w6 hR hL; simp [Look, VAt, EqV] at hL; have q1 := hR.touch.cell d1 hg1; have q2 := hR.touch.cell d2 hg1; have q3 := hR.touch.cell y0 hx1; have q4 := hR.touch.cell y1 hx1; simp [Guarded, setAll, bare, hL]; go_wp2_with fail; exact CalmPost.mk (by first | (simp; done) | (simp; rfl) | rfl) rfl (TwoR.refl _)
                      · intro w6 hR hL; simp [Look, VAt, EqV] at hL; have q1 := hR.touch.cell d1 hg1; have q2 := hR.touch.cell d2 hg1; have q3 := hR.touch.cell y0 hx1; have q4 := hR.touch.cell y1 hx1; simp [Guarded, setAll, bare, hL]; go_wp2_with fail; exact CalmPost.mk (by first | (simp; done) | (simp; rfl) | rfl) rfl (TwoR.refl _)
                      · intro w6 hR hL; simp [Look, VAt, EqV] at hL; have q1 := hR.touch.cell d1 hg1; have q2 := hR.touch.cell d2 hg1; have q3 := hR.touch.cell y0 hx1; have q4 := hR.touch.cell y1 hx1; simp [Guarded, setAll, bare, hL]; go_wp2_with fail; exact CalmPost.mk (by first | (simp; done) | (simp; rfl) | rfl) rfl (TwoR.refl _)
                      · intro w6 hR hL; simp [Look, VAt, EqV] at hL; have q1 := hR.touch.cell d1 hg1; have q2 := hR.touch.cell d2 hg1; have q3 := hR.touch.cell y0 hx1; have q4 := hR.touch.cell y1 hx1; simp [Guarded, setAll, bare, hL]; go_wp2_with fail; exact CalmPost.mk (by first | (simp; done) | (simp; rfl) | rfl) rfl (TwoR.refl _)
                      · intro w6 hR hL; simp [Look, VAt, EqV] at hL; have q1 := hR.touch.cell d1 hg1; have q2 := hR.touch.cell d2 hg1; have q3 := hR.touch.cell y0 hx1; have q4 := hR.touch.cell y1 hx1; simp [Guarded, setAll, bare, hL]; go_wp2_with fail; exact CalmPost.mk (by first | (simp; done) | (simp; rfl) | rfl) (BufS.lit 2 w6 42 w5.heap.size hR.touch.size [[.int .i64 k0, .string (strOf t)]] (by simp) (by simp [maxLen])) (TwoR.ext (Ext.alloc _ _))
                      · intro w6 hR hL; simp [Look, VAt, EqV] at hL; obtain ⟨hL0, hB4⟩ := hL; obtain ⟨A4, c4, hL4⟩ := hB4.form; rw [hL4] at hB4; simp only [Guarded, bare, setAll, List.foldl, hL0, hL4]; refine wpList_append_twoS (P := Try.prog) w6 rfl (.tmp 159) (.tmp 161) 25 25 rfl 2 (by decide) 42 iP _ Try.underlying25 hiP hzP hsP rfl w0.heap.size (.slice iA its.length ic) (its.map itV) (by first | (simp [Act.eval]; done) | (simp [Act.eval]; rfl) | rfl) (hR.k1 KI.out) (.slice A4 1 c4) 1 [[.int .i64 k0, .string (strOf t)]] (by simp) (by first | (simp [Act.eval]; done) | (simp [Act.eval]; rfl) | rfl) (BufS.src (P := Try.prog) _ hB4 (by decide) Try.underlying25 (by simp [Value.oneCell'])) (by have := hR.touch.size; omega) (by rw [List.length_map]; simp only [maxLen]; omega) (by rw [List.length_map]; rw [hbP]; omega) ?_; intro v' w' h1 h2 h5; have hap := TwoR.app1 (s2 := 1) (e2 := 3) (v2 := .slice cA chs.length cc) (x2 := (ints chs).map fun x => [x]) (y2 := (ints chs).map (fun x => [x]) ++ [[.int .i64 0]]) (b0 := w5.heap.size) (show [[Value.int .i64 k0, .string (strOf t)]].length = 1 from rfl) rfl KR5.out.s3 (fun j hj => (KR5.out.items.owns j hj).2) (hR.k1 KI.out) hR.touch.size h1 h2 h5; go_wp2_with fail; exact CalmPost.mk (by first | (simp; done) | (simp; rfl) | rfl) hap.2 hap.1
                      · intro w6 hR hL; simp [Look, VAt, EqV] at hL; have q1 := hR.touch.cell d1 hg1; have q2 := hR.touch.cell d2 hg1; have q3 := hR.touch.cell y0 hx1; have q4 := hR.touch.cell y1 hx1; simp [Guarded, setAll, bare, hL]; go_wp2_with fail; exact CalmPost.mk (by first | (simp; done) | (simp; rfl) | rfl) rfl (TwoR.refl _)
                      · intro w6 hR hL; simp [Look, VAt, EqV] at hL; have q1 := hR.touch.cell d1 hg1; have q2 := hR.touch.cell d2 hg1; have q3 := hR.touch.cell y0 hx1; have q4 := hR.touch.cell y1 hx1; simp [Guarded, setAll, bare, hL]; go_wp2_with fail; exact CalmPost.mk (by first | (simp; done) | (simp; rfl) | rfl) rfl (TwoR.refl _)
                      · intro w6 hR hL; simp [Look, VAt, EqV] at hL; have q1 := hR.touch.cell d1 hg1; have q2 := hR.touch.cell d2 hg1; have q3 := hR.touch.cell y0 hx1; have q4 := hR.touch.cell y1 hx1; simp [Guarded, setAll, bare, hL]; go_wp2_with fail; exact CalmPost.mk (by first | (simp; done) | (simp; rfl) | rfl) rfl (TwoR.refl _)
                      · intro w6 hR hL; simp [Look, VAt, EqV] at hL; have q1 := hR.touch.cell d1 hg1; have q2 := hR.touch.cell d2 hg1; have q3 := hR.touch.cell y0 hx1; have q4 := hR.touch.cell y1 hx1; simp [Guarded, setAll, bare, hL]; go_wp2_with fail; exact CalmPost.mk (by first | (simp; done) | (simp; rfl) | rfl) rfl (TwoR.refl _)
                      · intro w6 hR hL; simp [Look, VAt, EqV] at hL; have q1 := hR.touch.cell d1 hg1; have q2 := hR.touch.cell d2 hg1; have q3 := hR.touch.cell y0 hx1; have q4 := hR.touch.cell y1 hx1; simp [Guarded, setAll, bare, hL]; go_wp2_with fail; exact CalmPost.mk (by first | (simp; done) | (simp; rfl) | rfl) rfl (TwoR.refl _)
                      · intro w6 hR hL; simp [Look, VAt, EqV] at hL; have q1 := hR.touch.cell d1 hg1; have q2 := hR.touch.cell d2 hg1; have q3 := hR.touch.cell y0 hx1; have q4 := hR.touch.cell y1 hx1; simp [Guarded, setAll, bare, hL]; go_wp2_with fail; exact CalmPost.mk (by first | (simp; done) | (simp; rfl) | rfl) (BufS.lit 1 w6 3 w5.heap.size hR.touch.size [[.int .i64 0]] (by simp) (by simp [maxLen])) (TwoR.ext (Ext.alloc _ _))
                      · intro w6 hR hL; simp [Look, VAt, EqV] at hL; obtain ⟨hL0, hB4⟩ := hL; obtain ⟨A4, c4, hL4⟩ := hB4.form; rw [hL4] at hB4; simp only [Guarded, bare, setAll, List.foldl, hL0, hL4]; refine wpList_append_twoS (P := Try.prog) w6 rfl (.tmp 166) (.tmp 168) 29 29 rfl 1 (by decide) 3 iN _ Try.underlying29 hiN hzN hsN rfl w0.heap.size (.slice cA chs.length cc) ((ints chs).map fun x => [x]) (by first | (simp [Act.eval]; done) | (simp [Act.eval]; rfl) | rfl) (hR.k2 KC.out) (.slice A4 1 c4) 1 [[.int .i64 0]] (by simp) (by first | (simp [Act.eval]; done) | (simp [Act.eval]; rfl) | rfl) (BufS.src (P := Try.prog) _ hB4 (by decide) Try.underlying29 (by simp [Value.oneCell'])) (by have := hR.touch.size; omega) (by rw [List.length_map, ints_length]; simp only [maxLen]; omega) (by rw [List.length_map, ints_length]; rw [hbN]; omega) ?_; intro v' w' h1 h2 h5; have hap0 := TwoR.app1 (s2 := 2) (e2 := 42) (v2 := .slice iA its.length ic) (x2 := its.map itV) (y2 := its.map itV ++ [[.int .i64 k0, .string (strOf t)]]) (b0 := w5.heap.size) (show [[Value.int .i64 0]].length = 1 from rfl) rfl (fun j hj hm => KR5.out.s3 j hm hj) (fun j hj => (KR5.out.chains.owns j hj).2) (hR.k2 KC.out) hR.touch.size h1 h2 h5; have hap := And.intro hap0.1.swap hap0.2; go_wp2_with fail; exact CalmPost.mk (by first | (simp; done) | (simp; rfl) | rfl) hap.2 hap.1
                      · intro w6 hR hL; simp [Look, VAt, EqV] at hL; have q1 := hR.touch.cell d1 hg1; have q2 := hR.touch.cell d2 hg1; have q3 := hR.touch.cell y0 hx1; have q4 := hR.touch.cell y1 hx1; simp [Guarded, setAll, bare, hL]; go_wp2_with fail; exact CalmPost.mk (by first | (simp; done) | (simp; rfl) | rfl) rfl (TwoR.refl _)
                      · intro w6 hR hL; simp [Look, VAt, EqV] at hL; have q1 := hR.touch.cell d1 hg1; have q2 := hR.touch.cell d2 hg1; have q3 := hR.touch.cell y0 hx1; have q4 := hR.touch.cell y1 hx1; simp [Guarded, setAll, bare, hL]; go_wp2_with fail; exact CalmPost.mk (by first | (simp; done) | (simp; rfl) | rfl) rfl (TwoR.refl _)
                    case pcalmDone =>
                      intro vs w6 hR hL
                      simp [Look, VAt, EqV] at hL
                      obtain ⟨L0, L1, L2, L3, L4, L5, L6, L7, L8, L9, L10, L11, L12, L13, L14, L15, L16, L17⟩ := hL
                      have KN8 := Kept.mk L8
                      have KN15 := Kept.mk L15
                      have KT6 := Kept.mk hR.touch
                      have Kb6 := Kept.mk (KR5.out.blk.touch hR.touch hg1)
                      have c61 : w6.cell? ⟨g, 1, none⟩ = some (.slice iA its.length ic) := by rw [Kb6.out.cell]; rfl
                      have c62 : w6.cell? ⟨g, 2, none⟩ = some (.slice cA chs.length cc) := by rw [Kb6.out.cell]; rfl
                      have f61 := Kb6.out.free 1
                      have f62 := Kb6.out.free 2
                      simp [setAll, L0, L1, L2, L3, L4, L5, L6, L9, L10, L11, L12, L13, L16, L17]
                      generalize vs 8 = iv6 at KN8 ⊢
                      generalize vs 15 = cv6 at KN15 ⊢
                      obtain ⟨A6, n6, c6, h6⟩ := BufS.form3 KN8.out.1
                      subst h6
                      obtain ⟨A7, n7, c7, h7⟩ := BufS.form3 KN15.out.1
                      subst h7
                      clear L0 L1 L2 L3 L4 L5 L6 L7 L8 L9 L10 L11 L12 L13 L14 L15 L16 L17 d1 d2 y0 y1 fr hR
                      have hgi : g ∉ own (.slice A6 n6 c6) := fun hm => (KN8.out.2.1 g hm).elim KR5.out.s1 (fun h => by have := KR5.out.blk.lt; omega)
                      have hgc : g ∉ own (.slice A7 n7 c7) := fun hm => (KN15.out.2.1 g hm).elim KR5.out.s2 (fun h => by have := KR5.out.blk.lt; omega)
                      have KI6 := Kept.mk (sepT KN8.out.1 (by simp) KN15.out.1 (by simp) (by decide))
                      have hc6 : Sep (own (.slice A6 n6 c6)) [g] := fun j hj hm => by rw [List.mem_singleton] at hm; subst hm; exact hgi hj
                      have hc7 : Sep (own (.slice A7 n7 c7)) [g] := fun j hj hm => by rw [List.mem_singleton] at hm; subst hm; exact hgc hj
                      have hE6 := Kept.mk (Touch.below KE5.out KT6.out (fun j hj => (List.mem_append.1 hj).elim (fun h => (KR5.out.items.owns j h).1) (fun h => (KR5.out.chains.owns j h).1)) KE5.out.size)
                      have hE7 := Kept.mk (Touch.below hE6.out (Touch.set w6 ⟨g, 1, none⟩ (.slice A6 n6 c6)) (fun j hj => by rw [List.mem_singleton] at hj; have h2 := KR5.out.bg; have hj' : j = g := hj; omega) hE6.out.size)
                      have KE8 : Kept (Ext w0 ((w6.setCell ⟨g, 1, none⟩ (.slice A6 n6 c6)).setCell ⟨g, 2, none⟩ (.slice A7 n7 c7))) := Kept.mk (Touch.below hE7.out (Touch.set _ ⟨g, 2, none⟩ (.slice A7 n7 c7)) (fun j hj => by rw [List.mem_singleton] at hj; have h2 := KR5.out.bg; have hj' : j = g := hj; omega) hE7.out.size)
                      have KR8 : Kept (RdAt ((w6.setCell ⟨g, 1, none⟩ (.slice A6 n6 c6)).setCell ⟨g, 2, none⟩ (.slice A7 n7 c7)) w0.heap.size g (.slice A6 n6 c6) (.slice A7 n7 c7) (its ++ [⟨k0, t⟩]) (chs ++ [0]) s4) := Kept.mk
                        ⟨(Kb6.out.set 1 _).set 2 _, by
                          rw [List.map_append]
                          exact (KN8.out.1.touch (Touch.set w6 ⟨g, 1, none⟩ (.slice A6 n6 c6)) hc6).touch (Touch.set _ ⟨g, 2, none⟩ (.slice A7 n7 c7)) hc6, by
                          have hB := (KN15.out.1.touch (Touch.set w6 ⟨g, 1, none⟩ (.slice A6 n6 c6)) hc7).touch (Touch.set _ ⟨g, 2, none⟩ (.slice A7 n7 c7)) hc7
                          refine BufS.toB ?_
                          rw [ints_snoc, List.map_append]
                          exact hB, KR5.out.bg, hgi, hgc, KI6.out⟩
                      clear KI6 hE6 hE7 KN8 KN15 Kb6
                      go_wp2_with fail
                      go_meet
                      exact ⟨_, _, KR8.out, KE8.out⟩
                  case rest =>
                    obtain ⟨iv2, cv2, hR6, hE6⟩ := hcut
                    have KR6 := Kept.mk hR6
                    have KE6 := Kept.mk hE6
                    clear hR6 hE6
                    go_wp2_with fail
                    go_ret
                    rw [Kit2.out]
                    exact ⟨rfl, KE6.out, fun _ => ⟨iv2, cv2, KR6.out⟩⟩
              · have Kr := Kept.mk (show itemP its chs s = bad eo from by rw [Kit2.out, if_pos he])
                have heb : (eo == 0) = false := by simpa using he
                clear he
                go_wp2_with fail
                go_ret
                rw [Kr.out]
                exact ⟨rfl, KE4.out, fun h => by first | exact absurd h (by simpa [bad] using heb) | cases h⟩
end Pack
end Go.Proofs.Ytgnbbklnobladaa
