/- The walk of the statement Sha2Pieces. No condition. -/
import Derived.Test.YtjfacolnlbfpmaaSha2LawB
import Derived.Test.YtjfacolnlbfpmaaIn
namespace Go.Proofs.Ytjfacolnlbfpmaa
open Go.RowKit
/-- A guarded operation that is carried out. -/
theorem wpList_bare {P : Program} {ops : Array Oper} {Q : Exit → Act → World → Prop} {a : Act} {w : World} {rest : List Oper} {o : Oper} (hw : Region.wanted o (yielded ops a.tmps) = true) (h : wpList P ops Q (bare o :: rest) a w) : wpList P ops Q (o :: rest) a w := by
  unfold wpList at h ⊢
  rw [if_pos hw]
  rw [if_pos (show Region.wanted (bare o) (yielded ops a.tmps) = true from rfl)] at h
  have e1 : (bare o).wp P a w (wpList P ops Q rest) Q = o.wp P a w (wpList P ops Q rest) Q := by
    unfold Oper.wp
    rw [execOp_bare]
    rfl
  have e2 : (bare o).asks P a w = o.asks P a w := by
    unfold Oper.asks
    rw [execOp_bare]
  rw [e1, e2] at h
  exact h
namespace Sha2
set_option linter.unusedVariables false
/-- What the copy has seen. -/
def seen (l : List ByteArray) (a k : Nat) : List UInt8 := if a ≤ k then flat (l.take a) else []
theorem strOf_app (a : List UInt8) (s : ByteArray) : strOf a ++ s = strOf (a ++ s.data.toList) := by
  rw [str_eq, ByteArray.data_append, Array.toList_append, strOf_list, strOf_list]
theorem Row.of_buf {w : World} {B : Nat} {e : TypeId} {A : Option Addr} {n cap : Nat} {xs : List Value} (h : Buf w B e (.slice A n cap) xs) : Row w A xs := by
  cases xs with
  | nil => exact Row.nil _ _
  | cons x r =>
    obtain ⟨b, off, rfl, _⟩ := h.cell (j := 0) (u := x) rfl
    refine .inr ⟨b, off, rfl, fun j v hv => ?_⟩
    obtain ⟨b', off', e1, hc⟩ := h.cell hv
    injection e1 with e1
    injection e1 with e2 e3
    subst e2 e3
    exact hc
theorem Row.src {P : Program} {w : World} {A : Option Addr} {xs : List Value} (h : Row w A xs) {tx e' : TypeId} (hk : P.underlying tx = some (.slice e')) (n cap : Nat) (hn : xs.length = n) (h1 : ∀ u ∈ xs, u.oneCell' = true) : Src P 1 tx (.slice A n cap) n xs w := by
  subst hn
  rcases h with rfl | ⟨b, off, rfl, hc⟩
  · cases A with
    | none => exact Src.ofNil w hk cap
    | some a => exact Src.ofSlice w hk a 0 cap [] (by simp) (by simp) (by simp)
  · exact Src.ofSlice w hk _ _ cap xs (by omega) (fun j u hu => by rw [Addr.add_lit]; exact hc j u hu) h1
theorem Row.cut {w : World} {A : Option Addr} {xs : List Value} (h : Row w A xs) (k : Nat) (hk : k < xs.length) : ∃ b off, A = some ⟨b, off, none⟩ ∧ Row w (some ⟨b, off + k, none⟩) (xs.drop k) := by
  obtain ⟨b, off, rfl, hc⟩ := h.at (by omega)
  refine ⟨b, off, rfl, .inr ⟨b, off + k, rfl, fun j v hv => ?_⟩⟩
  rw [List.getElem?_drop] at hv
  rw [Nat.add_assoc]
  exact hc _ v hv
theorem infoStr0 : (Try.prog.info? 9).map (fun i => (i.zero, i.size, i.bytes)) = some (some (.string ByteArray.empty), 1, 16) := by kernel_rfl
theorem infoStr : ∃ i, Try.prog.info? 9 = some i ∧ i.zero = some (.string ByteArray.empty) ∧ i.size = 1 ∧ i.bytes = 16 := by
  obtain ⟨i, h, e⟩ := Option.map_eq_some_iff.1 infoStr0
  simp only [Prod.mk.injEq] at e
  exact ⟨i, h, e.1, e.2.1, e.2.2⟩
theorem Buf.none (W : World) (e : TypeId) (B : Nat) (hB : B ≤ W.heap.size) : Buf (W.alloc (.cells #[] e)) B e (.slice (some ⟨W.heap.size, 0, none⟩) 0 0) [] :=
  ⟨_, 0, rfl, Nat.le_refl _, Nat.zero_le _, by intro j hj; simp [own] at hj; subst hj; simp; exact hB, .inl rfl⟩
theorem strV_one (l : List ByteArray) : ∀ u ∈ l.map strV, u.oneCell' = true := by
  intro u hu
  obtain ⟨s, _, rfl⟩ := List.mem_map.1 hu
  rfl
def WroteSt (w : World) (p : Nat) (m' : List UInt8) (q : Nat) (mq : List UInt8) (e : Ending) (w' : World) : Prop := e = .returned (.tuple #[]) ∧ StE w p m' w' ∧ (q ≠ p ∧ StE w q mq w')
theorem write_st (w : World) (p : Nat) (m m' : List UInt8) (q : Nat) (mq : List UInt8) (s : ByteArray) (wi : World) (hm : m ++ flat [s] = m') (h : StE w p m wi) (hq : q ≠ p ∧ StE w q mq wi) (hlen : m'.length ≤ 1000000000) :
    Calls Try.prog 10 #[.pointer (some ⟨p, 0, none⟩), .slice (some ⟨wi.heap.size, 0, none⟩) 1 1] (wi.alloc (.cells #[.string s] 9)) (WroteSt w p m' q mq) := by
  subst hm
  have h2 := h.ext (Ext.alloc wi (.cells #[.string s] 9))
  have hq2 := hq.2.ext (Ext.alloc wi (.cells #[.string s] 9))
  refine (write_any p m (some ⟨wi.heap.size, 0, none⟩) 1 [s] _ h2.2.1 (Row.of_blk (Blk.new wi 9 [.string s])) (fun _ => by simp [own]; have := h.2.1.lt; omega) (by rw [← List.length_append]; exact hlen) (by simp)).mono ?_
  rintro e w' ⟨rfl, hs, ht⟩
  refine ⟨rfl, h2.wrote hs ht, hq.1, hq2.1, hq2.2.1.touch ht (by simpa using hq.1), (h2.wrote hs ht).2.2⟩
set_option linter.unusedSimpArgs false
set_option linter.unusedVariables false
set_option maxRecDepth 100000 in
set_option maxHeartbeats 4000000 in
theorem pieces_law (w : World) (A : Option Addr) (n cap : Nat) (l : List ByteArray) (hin : InStrs w A n cap l) (t : Int) (ht : (Lit.int .i64 t).wf = true) :
    Calls Try.prog 4 #[.slice A n cap, .int .i64 t] w (TrueIs w) := by
  obtain ⟨rfl, hlc, hcm, hA, hsz, hAw⟩ := hin
  unfold maxLen at hcm
  go_enter Try.func4, Try.ntmps4
  go_wp2_with fail
  refine (awake_any _).mono ?_
  rintro e w1 ⟨rfl, h1⟩
  have KA := Kept.mk (hA.ext h1)
  have KA0 := Kept.mk hA
  have KE := Kept.mk h1
  have hw1 := h1.size
  clear h1 hA
  go_wp2_with fail
  go_loopg [5, 6] l.length (fun r s i wi => ∃ k : Nat, k + r = l.length ∧ i = .int .i64 (k : Int) ∧ s = .string (strOf (flat (l.take k))) ∧ (flat (l.take k)).length ≤ 300 * k ∧ k ≤ 40 ∧ wi = w1)
  case atStart => exact ⟨0, by omega, rfl, rfl, by simp [flat], by omega, rfl⟩
  case round =>
    obtain ⟨k, hk, rfl, rfl, hfl, hk40, rfl⟩ := hrel
    by_cases hlt : k < l.length
    · have hkI : (k : Int) < l.length := by omega
      obtain ⟨rb, ro, rfl, hcr⟩ := KA.out.at (by simp; omega)
      have hcx := hcr k _ (strV_at hlt)
      have hfn := flat_next l k hlt
      have hsl : (l[k].data.toList).length = l[k].size := by simp
      clear hcr
      rcases (show 40 ≤ k ∨ (k < 40 ∧ 300 < l[k].size) ∨ (k < 40 ∧ l[k].size ≤ 300) by omega) with h | ⟨h, h'⟩ | ⟨h, h'⟩
      · obtain rfl : k = 40 := by omega
        have KK := Kept.mk hfn
        clear hfn
        go_wp2_with fail
        go_ret
        exact ⟨rfl, KE.out⟩
      · have hI : (k : Int) < 40 := by omega
        have hI2 : (l[k].size : Int) > 300 := by omega
        have KK := Kept.mk hfn
        clear hfn
        generalize l[k] = s at hcx hI2
        go_wp2_with fail
        go_ret
        exact ⟨rfl, KE.out⟩
      · have hI : (k : Int) < 40 := by omega
        have hI2 : ¬ (l[k].size : Int) > 300 := by omega
        have hfl2 : (flat (l.take (k + 1))).length ≤ 300 * (k + 1) := by rw [hfn, List.length_append, hsl]; omega
        have hse := strOf_app (flat (l.take k)) l[k]
        rw [← hfn] at hse
        have hs1 := strOf_size (flat (l.take k))
        generalize flat (l.take k) = fk at hse hs1 hfl
        generalize hfk1 : flat (l.take (k + 1)) = fk1 at hse hfl2
        have KF1 := Kept.mk hfk1
        generalize l[k] = s at hcx hI2 hse h'
        clear hfn hsl hfk1
        have hcat : (strOf fk).size + s.size ≤ 9223372036854775807 := by omega
        have KS := Kept.mk hs1
        have KSE := Kept.mk hse
        clear hs1 hse
        go_wp2_with fail
        go_roundg (gk - 1)
        case measure => omega
        case rel => exact ⟨k + 1, by omega, by go_num, by rw [KF1.out, KSE.out], by rw [KF1.out]; exact hfl2, by omega, rfl⟩
    · obtain rfl : k = l.length := by omega
      rw [List.take_length] at hfl ⊢
      have hll : l.length ≤ 40 := hk40
      have hfb : (flat l).length ≤ 12000 := by omega
      rcases (show t < 0 ∨ (l.length : Int) < t ∨ (0 ≤ t ∧ t ≤ l.length) by omega) with h | h | ⟨h, h'⟩
      · go_wp2_with fail
        go_ret
        exact ⟨rfl, KE.out⟩
      · have h0 : ¬ t < 0 := by omega
        go_wp2_with fail
        go_ret
        exact ⟨rfl, KE.out⟩
      · obtain ⟨a, rfl⟩ : ∃ a : Nat, t = (a : Int) := ⟨t.toNat, by omega⟩
        have hal : a ≤ l.length := by omega
        have h0 : ¬ (a : Int) < 0 := by omega
        have h1 : ¬ (a : Int) > (l.length : Int) := by omega
        have KAT := Kept.mk hsz
        clear hsz
        obtain ⟨FL, hFL⟩ : ∃ FL, FL = strOf (flat l) := ⟨_, rfl⟩
        rw [← hFL]
        have KFL := Kept.mk hFL
        clear hFL hk hlt hfl hk40
        go_wp2_with fail
        refine (new_any _).mono ?_
        rintro e w2 ⟨p, rfl, hp, h2, hs⟩
        have hS : StE w p (flat (l.take 0)) w2 := by
          have : StE w p [] w2 := ⟨Nat.le_trans hw1 hp, hs, KE.out.trans h2⟩
          simpa [flat] using this
        have KS0 := Kept.mk hS
        clear hS hs h2
        go_wp2_with fail
        refine (new_any _).mono ?_
        rintro e w3 ⟨q, rfl, hq, h3, hs⟩
        have KS := Kept.mk (KS0.out.ext h3)
        have KC := Kept.mk (show q ≠ p ∧ StE w q (seen l a 0) w3 from ⟨by have := KS0.out.2.1.lt; omega, Nat.le_trans KS0.out.2.2.size hq, by
          have : seen l a 0 = [] := by unfold seen; split; (rw [show a = 0 by omega]; simp [flat]); rfl
          rw [this]; exact hs, KS0.out.2.2.trans h3⟩)
        clear hs h3 KS0 KA KE hq hp
        go_wp2_with fail
        obtain ⟨gz, rfl⟩ : ∃ n : Nat, n = gk := ⟨_, rfl⟩
        go_loopg [8, 9, 10] l.length (fun r cv ah i wi => ∃ (k q : Nat), k + r = l.length ∧ i = .int .i64 (k : Int) ∧ ah = .string (strOf (flat (l.take (min k a)))) ∧ cv = .pointer (some ⟨q, 0, none⟩) ∧ StE w p (flat (l.take k)) wi ∧ (q ≠ p ∧ StE w q (seen l a k) wi))
        case atStart => exact ⟨0, q, by omega, rfl, by simp [flat]; rfl, rfl, KS.out, KC.out⟩
        case round =>
          clear KS KC
          obtain ⟨k, q, hk, rfl, rfl, rfl, hS, hC⟩ := hrel
          have KS := Kept.mk hS
          have KC := Kept.mk hC
          clear hS hC
          by_cases hlt : k < l.length
          · have hkI : (k : Int) < l.length := by omega
            obtain ⟨rb, ro, rfl, hcr⟩ := (KA0.out.ext KS.out.2.2).at (by simp; omega)
            have hcx := hcr k _ (strV_at hlt)
            have KFN := Kept.mk (flat_next l k hlt)
            have KLN := Kept.mk (show (flat (l.take (k + 1))).length ≤ 12000 by have := flat_len l (k + 1); omega)
            have hss : l[k].size ≤ 12000 := by
              have h2 := KLN.out
              have h3 : l[k].data.toList.length = l[k].size := by simp
              rw [KFN.out, List.length_append] at h2; omega
            generalize l[k] = s at hcx KFN hss
            have hfs : flat (l.take k) ++ flat [s] = flat (l.take (k + 1)) := by rw [KFN.out]; simp [flat]
            have Kfs := Kept.mk hfs
            clear hcr hfs
            rcases (show k + 1 < a ∨ k + 1 = a ∨ a ≤ k by omega) with h | h | h
            · have hI : (k : Int) < (a : Int) := by omega
              have hse := strOf_app (flat (l.take (min k a))) s
              have KAH := Kept.mk (show strOf (flat (l.take (min k a))) ++ s = strOf (flat (l.take (min (k + 1) a))) by
                rw [hse, Nat.min_eq_left (by omega), Nat.min_eq_left (by omega), KFN.out])
              have hcat : (strOf (flat (l.take (min k a)))).size + s.size ≤ 9223372036854775807 := by
                rw [strOf_size]; have := flat_len l (min k a); omega
              clear hse
              have hB1 : ((k : Int) == (a : Int) - 1) = false := by rw [beq_eq_false_iff_ne]; omega
              have Kse := Kept.mk (show seen l a k = seen l a (k + 1) by unfold seen; rw [if_neg (by omega), if_neg (by omega)])
              go_wp2_with fail
              refine (write_st w p (flat (l.take k)) (flat (l.take (k + 1))) q (seen l a k) s wr Kfs.out KS.out KC.out (by have := KLN.out; omega)).mono ?_
              rintro e w4 ⟨rfl, hS4, hC4⟩
              have KS4 := Kept.mk hS4
              have KC4 := Kept.mk hC4
              clear hS4 hC4 KS KC
              go_wp2_with fail
              refine (sum_any p (flat (l.take (k + 1))) w4 KS4.out.2.1 (by have := KLN.out; omega)).mono ?_
              rintro e w5 ⟨rfl, h5⟩
              have KS5 := Kept.mk (KS4.out.ext h5)
              have KC5 := Kept.mk (show q ≠ p ∧ StE w q (seen l a k) w5 from ⟨KC4.out.1, KC4.out.2.ext h5⟩)
              clear h5 KS4 KC4
              rw [Kse.out] at KC5
              go_wp2_with fail
              go_roundg (gk - 1)
              case measure => omega
              case rel => exact ⟨k + 1, q, by omega, by go_num, by rw [KAH.out], rfl, KS5.out, KC5.out⟩
            · have hI : (k : Int) < (a : Int) := by omega
              have hse := strOf_app (flat (l.take (min k a))) s
              have KAH := Kept.mk (show strOf (flat (l.take (min k a))) ++ s = strOf (flat (l.take (min (k + 1) a))) by
                rw [hse, Nat.min_eq_left (by omega), Nat.min_eq_left (by omega), KFN.out])
              have hcat : (strOf (flat (l.take (min k a)))).size + s.size ≤ 9223372036854775807 := by
                rw [strOf_size]; have := flat_len l (min k a); omega
              clear hse
              have hB1 : ((k : Int) == (a : Int) - 1) = true := by rw [beq_iff_eq]; omega
              have Kse := Kept.mk (show flat (l.take (k + 1)) = seen l a (k + 1) by unfold seen; rw [if_pos (by omega), h])
              go_wp2_with fail
              refine (write_st w p (flat (l.take k)) (flat (l.take (k + 1))) q (seen l a k) s wr Kfs.out KS.out KC.out (by have := KLN.out; omega)).mono ?_
              rintro e w4 ⟨rfl, hS4, hC4⟩
              have KS4 := Kept.mk hS4
              have KC4 := Kept.mk hC4
              clear hS4 hC4 KS KC
              go_wp2_with fail
              refine (sum_any p (flat (l.take (k + 1))) w4 KS4.out.2.1 (by have := KLN.out; omega)).mono ?_
              rintro e w5 ⟨rfl, h5⟩
              have KS5 := Kept.mk (KS4.out.ext h5)
              have KC5 := Kept.mk (show q ≠ p ∧ StE w q (seen l a k) w5 from ⟨KC4.out.1, KC4.out.2.ext h5⟩)
              clear h5 KS4 KC4
              go_wp2_with fail
              refine (copy_any p (flat (l.take (k + 1))) w5 KS5.out.2.1).mono ?_
              rintro e w6 ⟨q2, rfl, hq2, h6, hs6⟩
              have KC6 := Kept.mk (show q2 ≠ p ∧ StE w q2 (seen l a (k + 1)) w6 from ⟨by have := KS5.out.2.1.lt; omega, Nat.le_trans KS5.out.2.2.size hq2, by rw [← Kse.out]; exact hs6, KS5.out.2.2.trans h6⟩)
              have KS6 := Kept.mk (KS5.out.ext h6)
              clear hs6 h6 hq2 KS5 KC5
              go_wp2_with fail
              go_roundg (gk - 1)
              case measure => omega
              case rel => exact ⟨k + 1, q2, by omega, by go_num, by rw [KAH.out], rfl, KS6.out, KC6.out⟩
            · have hI : ¬ (k : Int) < (a : Int) := by omega
              have KAH := Kept.mk (show strOf (flat (l.take a)) = strOf (flat (l.take (min (k + 1) a))) by
                rw [Nat.min_eq_right (by omega)])
              have hB1 : ((k : Int) == (a : Int) - 1) = false := by rw [beq_eq_false_iff_ne]; omega
              have Kse := Kept.mk (show seen l a k = seen l a (k + 1) by unfold seen; rw [if_pos (by omega), if_pos (by omega)])
              go_wp2_with fail
              refine (write_st w p (flat (l.take k)) (flat (l.take (k + 1))) q (seen l a k) s wr Kfs.out KS.out KC.out (by have := KLN.out; omega)).mono ?_
              rintro e w4 ⟨rfl, hS4, hC4⟩
              have KS4 := Kept.mk hS4
              have KC4 := Kept.mk hC4
              clear hS4 hC4 KS KC
              go_wp2_with fail
              refine (sum_any p (flat (l.take (k + 1))) w4 KS4.out.2.1 (by have := KLN.out; omega)).mono ?_
              rintro e w5 ⟨rfl, h5⟩
              have KS5 := Kept.mk (KS4.out.ext h5)
              have KC5 := Kept.mk (show q ≠ p ∧ StE w q (seen l a k) w5 from ⟨KC4.out.1, KC4.out.2.ext h5⟩)
              clear h5 KS4 KC4
              rw [Kse.out] at KC5
              go_wp2_with fail
              go_roundg (gk - 1)
              case measure => omega
              case rel => exact ⟨k + 1, q, by omega, by go_num, by rw [KAH.out], rfl, KS5.out, KC5.out⟩
          · obtain rfl : k = l.length := by omega
            rw [List.take_length] at KS
            rw [Nat.min_eq_right hal]
            have KC := Kept.mk (show q ≠ p ∧ StE w q (flat (l.take a)) wr by have := KC.out; unfold seen at this; rwa [if_pos hal] at this)
            obtain ⟨dg, hdg⟩ : ∃ dg, dg = digest (flat l) := ⟨_, rfl⟩
            have KD := Kept.mk hdg
            have hdl : (strOf dg).size = 32 := by rw [strOf_size, hdg, digest_length]
            clear hdg
            obtain ⟨AS, hAS⟩ : ∃ AS, AS = strOf (flat (l.take a)) := ⟨_, rfl⟩
            rw [← hAS]
            have hfa : flat [AS] = flat (l.take a) := by rw [hAS]; simp [flat, strOf_list]
            have hla2 := flat_len l a
            obtain ⟨da, hda⟩ : ∃ da, da = digest (flat (l.take a)) := ⟨_, rfl⟩
            have KDA := Kept.mk hda
            have Kfa := Kept.mk hfa
            clear hAS hda hfa
            go_wp2_with fail
            have hfl : flat [FL] = flat l := by rw [KFL.out]; simp [flat, strOf_list]
            refine (sumOf_row wr [FL] 1 rfl (flat l) hfl (by omega) (by omega)).mono ?_
            rintro e w3 ⟨rfl, h3⟩
            rw [← KD.out]
            have KS3 := Kept.mk (KS.out.ext h3)
            have KC3 := Kept.mk (KC.out.2.ext h3)
            have Kqp := Kept.mk KC.out.1
            clear h3 KS KC hfl
            go_wp2_with fail
            refine (sum_any p (flat l) w3 KS3.out.2.1 (by omega)).mono ?_
            rintro e w4 ⟨rfl, h4⟩
            rw [← KD.out]
            have KC4 := Kept.mk (KC3.out.ext h4)
            have KA4 := Kept.mk (KA0.out.ext KC4.out.2.2)
            clear h4 KS3 KC3
            obtain ⟨iS, hiS, hzS, hsS, hbS⟩ := infoStr
            have hBw4 := KC4.out.2.2.size
            go_wp2_with (refine wpList_bare (o := ⟨some 86, _, _, _, _, _⟩) rfl ?_; refine wpList_append_buf (P := Try.prog) _ rfl (.tmp 84) (.tmp 85) 26 26 rfl 9 iS (.string ByteArray.empty) Try.underlying26 hiS hzS hsS rfl w.heap.size (.slice (some ⟨w4.heap.size, 0, none⟩) 0 0) [] rfl (Buf.none w4 9 w.heap.size hBw4) (.slice A l.length cap) l.length (l.map strV) rfl (Row.src (KA4.out.ext (Ext.alloc _ _)) Try.underlying26 l.length cap (by simp) (strV_one l)) (by simp; omega) (by simp [maxLen]; omega) (by rw [hbS]; simp; omega) ?_)
            intro v5 w5 hv5 ht5 ho5
            dsimp only [bare]
            rw [List.nil_append] at hv5
            have h45 : Ext w4 w5 := Touch.below (Ext.alloc w4 (.cells #[] 9)) ht5 (by intro j hj; simp [own] at hj; subst hj; exact Nat.le_refl _) (by simp)
            have KC5 := Kept.mk (KC4.out.ext h45)
            have KA5 := Kept.mk (KA4.out.ext h45)
            obtain ⟨A5, cap5, rfl⟩ := hv5.form
            rw [List.length_map] at hv5 ⊢
            have KV5 := Kept.mk hv5
            clear hv5 ht5 ho5 h45 KC4 KA4
            go_wp2_with fail
            refine (sumOf_any A5 cap5 l w5 (Row.of_buf KV5.out) (fun j hj => (KV5.out.owns j (by rw [own_slice _ _ _ 0 0]; exact hj)).2) (by omega) (by omega)).mono ?_
            rintro e w6 ⟨rfl, h6⟩
            rw [← KD.out]
            have KC6 := Kept.mk (KC5.out.ext h6)
            have KA6 := Kept.mk (KA5.out.ext h6)
            clear h6 KC5 KA5 KV5
            go_wp2_with fail
            refine (sum_any q (flat (l.take a)) w6 KC6.out.2.1 (by omega)).mono ?_
            rintro e w7 ⟨rfl, h7⟩
            rw [← KDA.out]
            have KC7 := Kept.mk (KC6.out.ext h7)
            have KA7 := Kept.mk (KA6.out.ext h7)
            clear h7 KC6 KA6
            go_wp2_with fail
            refine (sumOf_row w7 [AS] 1 rfl (flat (l.take a)) Kfa.out (by omega) (by omega)).mono ?_
            rintro e w8 ⟨rfl, h8⟩
            rw [← KDA.out]
            have KC8 := Kept.mk (KC7.out.ext h8)
            have hA8 := KA7.out.ext h8
            clear h8 KC7 KA7
            have hcl : (l.drop a).length = l.length - a := List.length_drop
            have hfc : flat (l.take a) ++ flat (l.drop a) = flat l := (flat_cut l a).symm
            have hrow : ∀ (A' : Option Addr), (a < l.length → ∃ b off, A = some ⟨b, off, none⟩ ∧ A' = some ⟨b, off + a, none⟩) → Row w8 A' ((l.drop a).map strV) ∧ (l.drop a ≠ [] → q ∉ own (.slice A' 0 0)) := by
              intro A' hA'
              by_cases hlt9 : a < l.length
              · obtain ⟨b, off, rfl, rfl⟩ := hA' hlt9
                obtain ⟨b', off', e, hr⟩ := Row.cut hA8 a (by simpa using hlt9)
                injection e with e; injection e with e1 e2
                subst e1 e2
                rw [← List.map_drop] at hr
                refine ⟨hr, fun _ hq => ?_⟩
                simp [own] at hq
                subst hq
                have := KC8.out.1
                rcases hAw q (by simp [own]) with h | h
                · omega
                · subst h; simp at hlt9
              · have : l.drop a = [] := List.drop_eq_nil_of_le (by omega)
                rw [this]
                exact ⟨Row.nil _ _, fun h => absurd rfl h⟩
            have Krow := Kept.mk hrow
            have Kcl := Kept.mk hcl
            have Kfc := Kept.mk hfc
            have hAform : a < l.length → ∃ b off, A = some ⟨b, off, none⟩ := fun h => by
              obtain ⟨b', off', e, _⟩ := Row.cut hA8 a (by simpa using h)
              exact ⟨b', off', e⟩
            have KAf := Kept.mk hAform
            have hcb : a ≤ cap := by omega
            clear hrow hcl hfc hAform hA8
            go_wp2_with fail
            · have hA' : a < l.length → ∃ b off, A = some ⟨b, off, none⟩ ∧ A = some ⟨b, off + a, none⟩ := fun h => absurd h (by omega)
              have hW := write_any q (flat (l.take a)) A 0 (l.drop a) w8 KC8.out.2.1 (Krow.out _ hA').1 (Krow.out _ hA').2 (by rw [← List.length_append, Kfc.out]; omega) (by rw [Kcl.out]; omega)
              rw [Kcl.out, Kfc.out] at hW
              clear hA'
              refine hW.mono ?_
              rintro e w9 ⟨rfl, hQ9, ht9⟩
              have KC9 := Kept.mk (KC8.out.wrote hQ9 ht9)
              clear hW hQ9 ht9 KC8
              go_wp2_with fail
              refine (sum_any q (flat l) w9 KC9.out.2.1 (by omega)).mono ?_
              rintro e w10 ⟨rfl, h10⟩
              rw [← KD.out]
              have KE10 := Kept.mk (KC9.out.2.2.trans h10)
              clear h10 KC9
              go_wp2_with fail
              go_ret
              exact ⟨by simp, KE10.out⟩
            · have hA' : a < l.length → ∃ b off, A = some ⟨b, off, none⟩ ∧ (Option.map (fun x => x.add a) A) = some ⟨b, off + a, none⟩ := fun h => by
                obtain ⟨b, off, rfl⟩ := KAf.out h
                exact ⟨b, off, rfl, by simp [Addr.add_lit]⟩
              have hW := write_any q (flat (l.take a)) (Option.map (fun x => x.add a) A) (cap - a) (l.drop a) w8 KC8.out.2.1 (Krow.out _ hA').1 (Krow.out _ hA').2 (by rw [← List.length_append, Kfc.out]; omega) (by rw [Kcl.out]; omega)
              rw [Kcl.out, Kfc.out] at hW
              clear hA'
              refine hW.mono ?_
              rintro e w9 ⟨rfl, hQ9, ht9⟩
              have KC9 := Kept.mk (KC8.out.wrote hQ9 ht9)
              clear hW hQ9 ht9 KC8
              go_wp2_with fail
              refine (sum_any q (flat l) w9 KC9.out.2.1 (by omega)).mono ?_
              rintro e w10 ⟨rfl, h10⟩
              rw [← KD.out]
              have KE10 := Kept.mk (KC9.out.2.2.trans h10)
              clear h10 KC9
              go_wp2_with fail
              go_ret
              exact ⟨by simp, KE10.out⟩
end Sha2
end Go.Proofs.Ytjfacolnlbfpmaa
