/- The walk of the statement Sha1Pieces. No condition. -/
import Derived.Test.YthkckmohhbddcaaSha1WalkO
import Derived.Test.YthkckmohhbddcaaIn
namespace Go.Proofs.Ythkckmohhbddcaa
open Go.RowKit
/-- A guarded operation that is carried out. -/
theorem wpList_bare {P : Program} {ops : Array Oper} {Q : Exit → Act → World → Prop} {a : Act} {w : World} {rest : List Oper} {o : Oper} (hw : Region.wanted o (yielded ops a.tmps) = true) (h : wpList P ops Q (bare o :: rest) a w) : wpList P ops Q (o :: rest) a w := by
  unfold wpList at h ⊢
  rw [if_pos hw]
  rw [if_pos (show Region.wanted (bare o) (yielded ops a.tmps) = true from rfl)] at h
  have e1 : (bare o).wp P a w (wpList P ops Q rest) Q = o.wp P a w (wpList P ops Q rest) Q := by
    unfold Oper.wp
    rw [execOp_bare]
    rfl
  have e2 : (bare o).asks P a w = o.asks P a w := by
    unfold Oper.asks
    rw [execOp_bare]
  rw [e1, e2] at h
  exact h
namespace Sha1
set_option linter.unusedVariables false
/-- A state behind p, its bytes behind v, both at B or above. -/
structure S1 (w : World) (B p : Nat) (v : Value) (m : List UInt8) : Prop where
  blk : Blk w p 50 (stC (midC m) v m.length)
  buf : Buf w B 5 v (bytesV (restB m))
  out : p ∉ own v
  low : B ≤ p
/-- Two states share nothing. -/
def Apart (p : Nat) (v : Value) (q : Nat) (u : Value) : Prop := q ≠ p ∧ q ∉ own v ∧ p ∉ own u ∧ ∀ j ∈ own v, j ∉ own u
theorem S1.ext {w w' : World} {B p : Nat} {v : Value} {m : List UInt8} (h : S1 w B p v m) (k : Ext w w') : S1 w' B p v m := ⟨h.blk.ext k, h.buf.ext k, h.out, h.low⟩
theorem S1.other {w w' : World} {B p q : Nat} {v u : Value} {m : List UInt8} (h : S1 w B q u m) (k : Touch (p :: own v) w w') (ha : Apart p v q u) : S1 w' B q u m := by
  obtain ⟨h1, h2, h3, h4⟩ := ha
  refine ⟨h.blk.touch k ?_, h.buf.touch k ?_, h.out, h.low⟩
  · intro hm
    rcases List.mem_cons.1 hm with e | e
    · exact h1 e
    · exact h2 e
  · intro j hj hm
    rcases List.mem_cons.1 hm with e | e
    · subst e; exact h3 hj
    · exact h4 j e hj
theorem Apart.grow {w : World} {B p q : Nat} {v v' u : Value} {m : List UInt8} (ha : Apart p v q u) (h : S1 w B q u m) (ho : ∀ j ∈ own v', j ∈ own v ∨ w.heap.size ≤ j) : Apart p v' q u := by
  obtain ⟨h1, h2, h3, h4⟩ := ha
  refine ⟨h1, fun hm => ?_, h3, fun j hj hm => ?_⟩
  · rcases ho q hm with e | e
    · exact h2 e
    · have := h.blk.lt; omega
  · rcases ho j hj with e | e
    · exact h4 j e hm
    · have := (h.buf.owns j hm).2; omega
/-- What Write leaves. -/
def Wrote1 (w : World) (B p : Nat) (v : Value) (m : List UInt8) (e : Ending) (w' : World) : Prop :=
  e = .returned (.tuple #[]) ∧ ∃ v', S1 w' B p v' m ∧ Touch (p :: own v) w w' ∧ ∀ j ∈ own v', j ∈ own v ∨ w.heap.size ≤ j
theorem write1 (B p : Nat) (v : Value) (m : List UInt8) (A : Option Addr) (c : Nat) (l : List ByteArray) (w : World) (hs : S1 w B p v m) (hBw : B ≤ w.heap.size) (hA : Row w A (l.map strV)) (hAp : ∀ j ∈ own (.slice A 0 0), j ≠ p ∧ j ∉ own v) (hlen : m.length + (flat l).length ≤ 1000000000) (hl : l.length ≤ 1000000000) :
    Calls Try.prog 12 #[.pointer (some ⟨p, 0, none⟩), .slice A l.length c] w (Wrote1 w B p v (m ++ flat l)) := by
  refine (write_any B p v m A c l w hs.blk hs.buf hBw hs.out hA hAp hlen hl).mono ?_
  rintro e w' ⟨rfl, v', h1, h2, h3, h4⟩
  refine ⟨rfl, v', ⟨h1, h2, fun hm => ?_, hs.low⟩, h3, h4⟩
  rcases h4 p hm with e | e
  · exact hs.out e
  · have := hs.blk.lt; omega
theorem sum1 (B p : Nat) (v : Value) (m : List UInt8) (w : World) (hs : S1 w B p v m) (hlen : m.length ≤ 500000000) :
    Calls Try.prog 13 #[.pointer (some ⟨p, 0, none⟩)] w (StrIs w (digest m)) := sum_any B p v m w hs.blk hs.buf hlen
/-- What Copy leaves. -/
def Copy1 (w : World) (B p : Nat) (v : Value) (m : List UInt8) (e : Ending) (w' : World) : Prop :=
  ∃ q u, e = .returned (.pointer (some ⟨q, 0, none⟩)) ∧ Ext w w' ∧ S1 w' B q u m ∧ S1 w' B p v m ∧ Apart p v q u
theorem copy1 (B p : Nat) (v : Value) (m : List UInt8) (w : World) (hs : S1 w B p v m) (hB : B ≤ w.heap.size) (hlen : m.length ≤ 500000000) :
    Calls Try.prog 11 #[.pointer (some ⟨p, 0, none⟩)] w (Copy1 w B p v m) := by
  refine (copy_any B p v (midC m) (restB m) m.length w hs.blk hs.buf (by rw [restB_length]; omega)).mono ?_
  rintro e w' ⟨q, u, rfl, hq, hE, h1, h2, h3⟩
  have hl := hs.blk.lt
  refine ⟨q, u, rfl, hE, ⟨h1, h2.lower hB, h3, by omega⟩, hs.ext hE, by omega, fun hm => ?_, fun hm => ?_, fun j hj hm => ?_⟩
  · have := (hs.buf.owns _ hm).2; omega
  · have := (h2.owns _ hm).1; omega
  · have := (h2.owns _ hm).1; have := (hs.buf.owns _ hj).2; omega
/-- The copy, once it is taken. -/
def Taken (l : List ByteArray) (a B p : Nat) (v : Value) (k : Nat) (w : World) (cv : Value) : Prop :=
  (k ≤ a ∧ cv = .pointer none) ∨ (a < k ∧ ∃ q u, cv = .pointer (some ⟨q, 0, none⟩) ∧ S1 w B q u (flat (l.take a)) ∧ Apart p v q u)
theorem Taken.ext {l : List ByteArray} {a B p : Nat} {v : Value} {k : Nat} {w w' : World} {cv : Value} (h : Taken l a B p v k w cv) (e : Ext w w') : Taken l a B p v k w' cv := by
  rcases h with h | ⟨h1, q, u, h2, h3, h4⟩
  · exact .inl h
  · exact .inr ⟨h1, q, u, h2, h3.ext e, h4⟩
theorem Taken.wrote {l : List ByteArray} {a B p : Nat} {v v' : Value} {k : Nat} {w w' : World} {cv : Value} (h : Taken l a B p v k w cv) (e : Touch (p :: own v) w w') (ho : ∀ j ∈ own v', j ∈ own v ∨ w.heap.size ≤ j) : Taken l a B p v' k w' cv := by
  rcases h with h | ⟨h1, q, u, h2, h3, h4⟩
  · exact .inl h
  · exact .inr ⟨h1, q, u, h2, h3.other e h4, h4.grow h3 ho⟩
theorem strOf_app (a : List UInt8) (s : ByteArray) : strOf a ++ s = strOf (a ++ s.data.toList) := by
  rw [str_eq, ByteArray.data_append, Array.toList_append, strOf_list, strOf_list]
theorem Row.of_buf {w : World} {B : Nat} {e : TypeId} {A : Option Addr} {n cap : Nat} {xs : List Value} (h : Buf w B e (.slice A n cap) xs) : Row w A xs := by
  cases xs with
  | nil => exact Row.nil _ _
  | cons x r =>
    obtain ⟨b, off, rfl, _⟩ := h.cell (j := 0) (u := x) rfl
    refine .inr ⟨b, off, rfl, fun j v hv => ?_⟩
    obtain ⟨b', off', e1, hc⟩ := h.cell hv
    injection e1 with e1
    injection e1 with e2 e3
    subst e2 e3
    exact hc
theorem Row.src {P : Program} {w : World} {A : Option Addr} {xs : List Value} (h : Row w A xs) {tx e' : TypeId} (hk : P.underlying tx = some (.slice e')) (n cap : Nat) (hn : xs.length = n) (h1 : ∀ u ∈ xs, u.oneCell' = true) : Src P 1 tx (.slice A n cap) n xs w := by
  subst hn
  rcases h with rfl | ⟨b, off, rfl, hc⟩
  · cases A with
    | none => exact Src.ofNil w hk cap
    | some a => exact Src.ofSlice w hk a 0 cap [] (by simp) (by simp) (by simp)
  · exact Src.ofSlice w hk _ _ cap xs (by omega) (fun j u hu => by rw [Addr.add_lit]; exact hc j u hu) h1
theorem Row.cut {w : World} {A : Option Addr} {xs : List Value} (h : Row w A xs) (k : Nat) (hk : k < xs.length) : ∃ b off, A = some ⟨b, off, none⟩ ∧ Row w (some ⟨b, off + k, none⟩) (xs.drop k) := by
  obtain ⟨b, off, rfl, hc⟩ := h.at (by omega)
  refine ⟨b, off, rfl, .inr ⟨b, off + k, rfl, fun j v hv => ?_⟩⟩
  rw [List.getElem?_drop] at hv
  rw [Nat.add_assoc]
  exact hc _ v hv
theorem flat_cut (l : List ByteArray) (k : Nat) : flat l = flat (l.take k) ++ flat (l.drop k) := by
  conv => lhs; rw [← List.take_append_drop k l]
  rw [flat, flat, flat, List.map_append, List.flatten_append]
theorem digest_length (m : List UInt8) : (digest m).length = 20 := rfl
theorem infoStr0 : (Try.prog.info? 9).map (fun i => (i.zero, i.size, i.bytes)) = some (some (.string ByteArray.empty), 1, 16) := by kernel_rfl
theorem infoStr : ∃ i, Try.prog.info? 9 = some i ∧ i.zero = some (.string ByteArray.empty) ∧ i.size = 1 ∧ i.bytes = 16 := by
  obtain ⟨i, h, e⟩ := Option.map_eq_some_iff.1 infoStr0
  simp only [Prod.mk.injEq] at e
  exact ⟨i, h, e.1, e.2.1, e.2.2⟩
theorem Buf.none (W : World) (e : TypeId) (B : Nat) (hB : B ≤ W.heap.size) : Buf (W.alloc (.cells #[] e)) B e (.slice (some ⟨W.heap.size, 0, none⟩) 0 0) [] :=
  ⟨_, 0, rfl, Nat.le_refl _, Nat.zero_le _, by intro j hj; simp [own] at hj; subst hj; simp; exact hB, .inl rfl⟩
theorem strV_one (l : List ByteArray) : ∀ u ∈ l.map strV, u.oneCell' = true := by
  intro u hu
  obtain ⟨s, _, rfl⟩ := List.mem_map.1 hu
  rfl
set_option linter.unusedSimpArgs false
set_option linter.unusedVariables false
set_option maxRecDepth 100000 in
set_option maxHeartbeats 4000000 in
theorem pieces_law (w : World) (A : Option Addr) (n cap : Nat) (l : List ByteArray) (hin : InStrs w A n cap l) (t : Int) (ht : (Lit.int .i64 t).wf = true) :
    Calls Try.prog 4 #[.slice A n cap, .int .i64 t] w (TrueIs w) := by
  obtain ⟨rfl, hlc, hcm, hA, hsz, hAw⟩ := hin
  unfold maxLen at hcm
  go_enter Try.func4, Try.ntmps4
  go_wp2_with fail
  refine (awake_any _).mono ?_
  rintro e w1 ⟨rfl, h1⟩
  have KA := Kept.mk (hA.ext h1)
  have KA0 := Kept.mk hA
  have KE := Kept.mk h1
  have hw1 := h1.size
  clear h1 hA
  go_wp2_with fail
  go_loopg [5, 6] l.length (fun r s i wi => ∃ k : Nat, k + r = l.length ∧ i = .int .i64 (k : Int) ∧ s = .string (strOf (flat (l.take k))) ∧ (flat (l.take k)).length ≤ 300 * k ∧ k ≤ 40 ∧ wi = w1)
  case atStart => exact ⟨0, by omega, rfl, rfl, by simp [flat], by omega, rfl⟩
  case round =>
    obtain ⟨k, hk, rfl, rfl, hfl, hk40, rfl⟩ := hrel
    by_cases hlt : k < l.length
    · have hkI : (k : Int) < l.length := by omega
      obtain ⟨rb, ro, rfl, hcr⟩ := KA.out.at (by simp; omega)
      have hcx := hcr k _ (strV_at hlt)
      have hfn := flat_next l k hlt
      have hsl : (l[k].data.toList).length = l[k].size := by simp
      clear hcr
      rcases (show 40 ≤ k ∨ (k < 40 ∧ 300 < l[k].size) ∨ (k < 40 ∧ l[k].size ≤ 300) by omega) with h | ⟨h, h'⟩ | ⟨h, h'⟩
      · obtain rfl : k = 40 := by omega
        have KK := Kept.mk hfn
        clear hfn
        go_wp2_with fail
        go_ret
        exact ⟨rfl, KE.out⟩
      · have hI : (k : Int) < 40 := by omega
        have hI2 : (l[k].size : Int) > 300 := by omega
        have KK := Kept.mk hfn
        clear hfn
        generalize l[k] = s at hcx hI2
        go_wp2_with fail
        go_ret
        exact ⟨rfl, KE.out⟩
      · have hI : (k : Int) < 40 := by omega
        have hI2 : ¬ (l[k].size : Int) > 300 := by omega
        have hfl2 : (flat (l.take (k + 1))).length ≤ 300 * (k + 1) := by rw [hfn, List.length_append, hsl]; omega
        have hse := strOf_app (flat (l.take k)) l[k]
        rw [← hfn] at hse
        have hs1 := strOf_size (flat (l.take k))
        generalize flat (l.take k) = fk at hse hs1 hfl
        generalize hfk1 : flat (l.take (k + 1)) = fk1 at hse hfl2
        have KF1 := Kept.mk hfk1
        generalize l[k] = s at hcx hI2 hse h'
        clear hfn hsl hfk1
        have hcat : (strOf fk).size + s.size ≤ 9223372036854775807 := by omega
        have KS := Kept.mk hs1
        have KSE := Kept.mk hse
        clear hs1 hse
        go_wp2_with fail
        go_roundg (gk - 1)
        case measure => omega
        case rel => exact ⟨k + 1, by omega, by go_num, by rw [KF1.out, KSE.out], by rw [KF1.out]; exact hfl2, by omega, rfl⟩
    · obtain rfl : k = l.length := by omega
      rw [List.take_length] at hfl ⊢
      have hll : l.length ≤ 40 := hk40
      have hfb : (flat l).length ≤ 12000 := by omega
      rcases (show t < 0 ∨ (l.length : Int) < t ∨ (0 ≤ t ∧ t ≤ l.length) by omega) with h | h | ⟨h, h'⟩
      · go_wp2_with fail
        go_ret
        exact ⟨rfl, KE.out⟩
      · have h0 : ¬ t < 0 := by omega
        go_wp2_with fail
        go_ret
        exact ⟨rfl, KE.out⟩
      · obtain ⟨a, rfl⟩ : ∃ a : Nat, t = (a : Int) := ⟨t.toNat, by omega⟩
        have hal : a ≤ l.length := by omega
        have h0 : ¬ (a : Int) < 0 := by omega
        have h1 : ¬ (a : Int) > (l.length : Int) := by omega
        have KAT := Kept.mk hsz
        clear hsz
        obtain ⟨FL, hFL⟩ : ∃ FL, FL = strOf (flat l) := ⟨_, rfl⟩
        rw [← hFL]
        have KFL := Kept.mk hFL
        clear hFL hk hlt hfl hk40
        go_wp2_with fail
        refine (new_any _).mono ?_
        rintro e w2 ⟨p, rfl, hp, h2, hb⟩
        have hS : S1 w2 w.heap.size p (.slice none 0 0) (flat (l.take 0)) := by
          have : S1 w2 w.heap.size p (.slice none 0 0) [] := ⟨hb, Buf.nil _ _ _, by simp [own], by omega⟩
          simpa [flat] using this
        have hE2 := KE.out.trans h2
        have KR := Kept.mk (KA.out.ext h2)
        have KS := Kept.mk hS
        have KE2 := Kept.mk hE2
        clear hS hE2 h2 hb KA KE
        go_wp2_with fail
        obtain ⟨gz, rfl⟩ : ∃ n : Nat, n = gk := ⟨_, rfl⟩
        go_loopg [8, 9, 10] l.length (fun r ah cv i wi => ∃ (k : Nat) (v : Value), k + r = l.length ∧ i = .int .i64 (k : Int) ∧ ah = .string (strOf (flat (l.take (min k a)))) ∧ S1 wi w.heap.size p v (flat (l.take k)) ∧ Ext w wi ∧ Taken l a w.heap.size p v k wi cv)
        case atStart => exact ⟨0, .slice none 0 0, by omega, rfl, by simp [flat]; rfl, KS.out, KE2.out, .inl ⟨by omega, rfl⟩⟩
        case round =>
          clear KS KE2 KR
          obtain ⟨k, v, hk, rfl, rfl, hS, hE, hT⟩ := hrel
          by_cases hlt : k < l.length
          · have hkI : (k : Int) < l.length := by omega
            obtain ⟨rb, ro, rfl, hcr⟩ := (KA0.out.ext hE).at (by simp; omega)
            have hcx := hcr k _ (strV_at hlt)
            have KFN := Kept.mk (flat_next l k hlt)
            have KLN := Kept.mk (show (flat (l.take (k + 1))).length ≤ 12000 by have := flat_len l (k + 1); omega)
            have hfk := flat_len l k
            have hss : l[k].size ≤ 12000 := by
              have h2 := KLN.out
              have h3 : l[k].data.toList.length = l[k].size := by simp
              rw [KFN.out, List.length_append] at h2; omega
            generalize l[k] = s at hcx KFN hss
            clear hcr
            rcases (show k < a ∨ k = a ∨ a < k by omega) with h | h | h
            · have hI : (k : Int) < (a : Int) := by omega
              have hB1 : ((k : Int) == (a : Int)) = false := by rw [beq_eq_false_iff_ne]; omega
              have hse := strOf_app (flat (l.take (min k a))) s
              have KAH := Kept.mk (show strOf (flat (l.take (min k a))) ++ s = strOf (flat (l.take (min (k + 1) a))) by
                rw [hse, Nat.min_eq_left (by omega), Nat.min_eq_left (by omega), KFN.out])
              have hcat : (strOf (flat (l.take (min k a)))).size + s.size ≤ 9223372036854775807 := by
                rw [strOf_size]; have := flat_len l (min k a); omega
              have hT : Taken l a w.heap.size p v (k + 1) wr u9 := by
                rcases hT with ⟨_, e⟩ | ⟨e, _⟩
                · exact .inl ⟨by omega, e⟩
                · omega
              clear hse
              have hfs : flat (l.take k) ++ flat [s] = flat (l.take (k + 1)) := by rw [KFN.out]; simp [flat]
              have hlen1 := KLN.out
              rw [← hfs, List.length_append] at hlen1
              go_wp2_with fail
              refine (write1 w.heap.size p v (flat (l.take k)) (some ⟨wr.heap.size, 0, none⟩) 1 [s] _ (hS.ext (Ext.alloc _ (.cells #[.string s] 9))) (Nat.le_trans hE.size (by simp)) (Row.of_blk (Blk.new wr 9 [.string s])) (by
                intro j hj; simp [own] at hj; subst hj
                exact ⟨by have := hS.blk.lt; omega, fun h => by have := (hS.buf.owns _ h).2; omega⟩) (by omega) (by simp)).mono ?_
              rintro e w4 ⟨rfl, v4, hS4, ht4, ho4⟩
              rw [hfs] at hS4
              have hE4 : Ext w w4 := Touch.below (hE.trans (Ext.alloc _ (.cells #[.string s] 9))) ht4 (by
                intro j hj
                rcases List.mem_cons.1 hj with h | h
                · subst h; exact hS.low
                · exact (hS.buf.owns j h).1) (Nat.le_trans hE.size (by simp))
              have hT4 := (hT.ext (Ext.alloc wr (.cells #[.string s] 9))).wrote ht4 ho4
              clear ht4 hS hE hT ho4 hlen1 hfs
              have KS4 := Kept.mk hS4
              have KE4 := Kept.mk hE4
              have KT4 := Kept.mk hT4
              clear hS4 hE4 hT4
              go_wp2_with fail
              refine (sum1 w.heap.size p v4 (flat (l.take (k + 1))) w4 KS4.out (by have := KLN.out; omega)).mono ?_
              rintro e w5 ⟨rfl, h5⟩
              have KS5 := Kept.mk (KS4.out.ext h5)
              have KE5 := Kept.mk (KE4.out.trans h5)
              have KT5 := Kept.mk (KT4.out.ext h5)
              clear h5 KS4 KE4 KT4
              go_wp2_with fail
              go_roundg (gk - 1)
              case measure => omega
              case rel => exact ⟨k + 1, v4, by omega, by go_num, by rw [KAH.out], KS5.out, KE5.out, KT5.out⟩
            · subst h
              have hB1 : ((k : Int) == (k : Int)) = true := by simp
              obtain rfl : u9 = .pointer none := by
                rcases hT with ⟨_, e⟩ | ⟨e, _⟩
                · exact e
                · omega
              clear hT
              have KAH := Kept.mk (show strOf (flat (l.take k)) = strOf (flat (l.take (min (k + 1) k))) by
                rw [Nat.min_eq_right (by omega)])
              go_wp2_with fail
              refine (copy1 w.heap.size p v (flat (l.take k)) wr hS hE.size (by omega)).mono ?_
              rintro e w3 ⟨q, u, rfl, h3, hQ, hS, hAp⟩
              have hE := hE.trans h3
              have hcx := h3.cell hcx
              have hT : Taken l k w.heap.size p v (k + 1) w3 (.pointer (some ⟨q, 0, none⟩)) := .inr ⟨by omega, q, u, rfl, hQ, hAp⟩
              clear hQ hAp h3
              have hfs : flat (l.take k) ++ flat [s] = flat (l.take (k + 1)) := by rw [KFN.out]; simp [flat]
              have hlen1 := KLN.out
              rw [← hfs, List.length_append] at hlen1
              go_wp2_with fail
              refine (write1 w.heap.size p v (flat (l.take k)) (some ⟨w3.heap.size, 0, none⟩) 1 [s] _ (hS.ext (Ext.alloc _ (.cells #[.string s] 9))) (Nat.le_trans hE.size (by simp)) (Row.of_blk (Blk.new w3 9 [.string s])) (by
                intro j hj; simp [own] at hj; subst hj
                exact ⟨by have := hS.blk.lt; omega, fun h => by have := (hS.buf.owns _ h).2; omega⟩) (by omega) (by simp)).mono ?_
              rintro e w4 ⟨rfl, v4, hS4, ht4, ho4⟩
              rw [hfs] at hS4
              have hE4 : Ext w w4 := Touch.below (hE.trans (Ext.alloc _ (.cells #[.string s] 9))) ht4 (by
                intro j hj
                rcases List.mem_cons.1 hj with h | h
                · subst h; exact hS.low
                · exact (hS.buf.owns j h).1) (Nat.le_trans hE.size (by simp))
              have hT4 := (hT.ext (Ext.alloc w3 (.cells #[.string s] 9))).wrote ht4 ho4
              clear ht4 hS hE hT ho4 hlen1 hfs
              have KS4 := Kept.mk hS4
              have KE4 := Kept.mk hE4
              have KT4 := Kept.mk hT4
              clear hS4 hE4 hT4
              go_wp2_with fail
              refine (sum1 w.heap.size p v4 (flat (l.take (k + 1))) w4 KS4.out (by have := KLN.out; omega)).mono ?_
              rintro e w5 ⟨rfl, h5⟩
              have KS5 := Kept.mk (KS4.out.ext h5)
              have KE5 := Kept.mk (KE4.out.trans h5)
              have KT5 := Kept.mk (KT4.out.ext h5)
              clear h5 KS4 KE4 KT4
              go_wp2_with fail
              go_roundg (gk - 1)
              case measure => omega
              case rel => exact ⟨k + 1, v4, by omega, by go_num, by rw [KAH.out], KS5.out, KE5.out, KT5.out⟩
            · have hI : ¬ (k : Int) < (a : Int) := by omega
              have hB1 : ((k : Int) == (a : Int)) = false := by rw [beq_eq_false_iff_ne]; omega
              have KAH := Kept.mk (show strOf (flat (l.take (min k a))) = strOf (flat (l.take (min (k + 1) a))) by
                rw [Nat.min_eq_right (by omega), Nat.min_eq_right (by omega)])
              have hT : Taken l a w.heap.size p v (k + 1) wr u9 := by
                rcases hT with ⟨e, _⟩ | ⟨_, e⟩
                · omega
                · exact .inr ⟨by omega, e⟩
              have hfs : flat (l.take k) ++ flat [s] = flat (l.take (k + 1)) := by rw [KFN.out]; simp [flat]
              have hlen1 := KLN.out
              rw [← hfs, List.length_append] at hlen1
              go_wp2_with fail
              refine (write1 w.heap.size p v (flat (l.take k)) (some ⟨wr.heap.size, 0, none⟩) 1 [s] _ (hS.ext (Ext.alloc _ (.cells #[.string s] 9))) (Nat.le_trans hE.size (by simp)) (Row.of_blk (Blk.new wr 9 [.string s])) (by
                intro j hj; simp [own] at hj; subst hj
                exact ⟨by have := hS.blk.lt; omega, fun h => by have := (hS.buf.owns _ h).2; omega⟩) (by omega) (by simp)).mono ?_
              rintro e w4 ⟨rfl, v4, hS4, ht4, ho4⟩
              rw [hfs] at hS4
              have hE4 : Ext w w4 := Touch.below (hE.trans (Ext.alloc _ (.cells #[.string s] 9))) ht4 (by
                intro j hj
                rcases List.mem_cons.1 hj with h | h
                · subst h; exact hS.low
                · exact (hS.buf.owns j h).1) (Nat.le_trans hE.size (by simp))
              have hT4 := (hT.ext (Ext.alloc wr (.cells #[.string s] 9))).wrote ht4 ho4
              clear ht4 hS hE hT ho4 hlen1 hfs
              have KS4 := Kept.mk hS4
              have KE4 := Kept.mk hE4
              have KT4 := Kept.mk hT4
              clear hS4 hE4 hT4
              go_wp2_with fail
              refine (sum1 w.heap.size p v4 (flat (l.take (k + 1))) w4 KS4.out (by have := KLN.out; omega)).mono ?_
              rintro e w5 ⟨rfl, h5⟩
              have KS5 := Kept.mk (KS4.out.ext h5)
              have KE5 := Kept.mk (KE4.out.trans h5)
              have KT5 := Kept.mk (KT4.out.ext h5)
              clear h5 KS4 KE4 KT4
              go_wp2_with fail
              go_roundg (gk - 1)
              case measure => omega
              case rel => exact ⟨k + 1, v4, by omega, by go_num, by rw [KAH.out], KS5.out, KE5.out, KT5.out⟩
          · obtain rfl : k = l.length := by omega
            rw [List.take_length] at hS
            rw [Nat.min_eq_right hal]
            have KS := Kept.mk hS
            have KE := Kept.mk hE
            have KT := Kept.mk hT
            clear hS hE hT
            obtain ⟨dg, hdg⟩ : ∃ dg, dg = digest (flat l) := ⟨_, rfl⟩
            have KD := Kept.mk hdg
            have hdl : (strOf dg).size = 20 := by rw [strOf_size, hdg, digest_length]
            clear hdg
            go_wp2_with fail
            have hfl : flat [FL] = flat l := by rw [KFL.out]; simp [flat, strOf_list]
            refine (sumOf_any (some ⟨wr.heap.size, 0, none⟩) 1 [FL] _ (Row.of_blk (Blk.new wr 9 [.string FL])) (by intro j hj; simp [own] at hj; subst hj; simp) (by rw [hfl]; omega) (by simp)).mono ?_
            rintro e w3 ⟨rfl, h3⟩
            rw [hfl, ← KD.out]
            have h3 : Ext wr w3 := (Ext.alloc wr _).trans h3
            have KS3 := Kept.mk (KS.out.ext h3)
            have KE3 := Kept.mk (KE.out.trans h3)
            have KT3 := Kept.mk (KT.out.ext h3)
            clear h3 KS KE KT hfl
            go_wp2_with fail
            refine (sum1 w.heap.size p v (flat l) w3 KS3.out (by omega)).mono ?_
            rintro e w4 ⟨rfl, h4⟩
            rw [← KD.out]
            have KE4 := Kept.mk (KE3.out.trans h4)
            have KT4 := Kept.mk (KT3.out.ext h4)
            have KA4 := Kept.mk (KA0.out.ext KE4.out)
            clear h4 KS3 KE3 KT3
            obtain ⟨iS, hiS, hzS, hsS, hbS⟩ := infoStr
            have hBw4 := KE4.out.size
            go_wp2_with (refine wpList_bare (o := ⟨some 84, _, _, _, _, _⟩) rfl ?_; refine wpList_append_buf (P := Try.prog) _ rfl (.tmp 82) (.tmp 83) 26 26 rfl 9 iS (.string ByteArray.empty) Try.underlying26 hiS hzS hsS rfl w.heap.size (.slice (some ⟨w4.heap.size, 0, none⟩) 0 0) [] rfl (Buf.none w4 9 w.heap.size hBw4) (.slice A l.length cap) l.length (l.map strV) rfl (Row.src (KA4.out.ext (Ext.alloc _ _)) Try.underlying26 l.length cap (by simp) (strV_one l)) (by simp; omega) (by simp [maxLen]; omega) (by rw [hbS]; simp; omega) ?_)
            intro v5 w5 hv5 ht5 ho5
            dsimp only [bare]
            rw [List.nil_append] at hv5
            have h45 : Ext w4 w5 := Touch.below (Ext.alloc w4 (.cells #[] 9)) ht5 (by intro j hj; simp [own] at hj; subst hj; exact Nat.le_refl _) (by simp)
            have KE5 := Kept.mk (KE4.out.trans h45)
            have KT5 := Kept.mk (KT4.out.ext h45)
            have KA5 := Kept.mk (KA4.out.ext h45)
            obtain ⟨A5, cap5, rfl⟩ := hv5.form
            rw [List.length_map] at hv5 ⊢
            have KV5 := Kept.mk hv5
            clear hv5 ht5 ho5 h45 KE4 KT4 KA4
            go_wp2_with fail
            refine (sumOf_any A5 cap5 l w5 (Row.of_buf KV5.out) (fun j hj => (KV5.out.owns j (by rw [own_slice _ _ _ 0 0]; exact hj)).2) (by omega) (by omega)).mono ?_
            rintro e w6 ⟨rfl, h6⟩
            rw [← KD.out]
            have KE6 := Kept.mk (KE5.out.trans h6)
            have KT6 := Kept.mk (KT5.out.ext h6)
            have KA6 := Kept.mk (KA5.out.ext h6)
            clear h6 KE5 KT5 KA5 KV5
            rcases KT6.out with ⟨hla, rfl⟩ | ⟨hla, q, u, rfl, hQ, hAp⟩
            · clear KT6
              go_wp2_with fail
              go_ret
              exact ⟨rfl, KE6.out⟩
            · clear KT6
              have KQ := Kept.mk hQ
              clear hQ hAp
              obtain ⟨AS, hAS⟩ : ∃ AS, AS = strOf (flat (l.take a)) := ⟨_, rfl⟩
              rw [← hAS]
              have hfa : flat [AS] = flat (l.take a) := by rw [hAS]; simp [flat, strOf_list]
              have hla2 := flat_len l a
              obtain ⟨da, hda⟩ : ∃ da, da = digest (flat (l.take a)) := ⟨_, rfl⟩
              have KDA := Kept.mk hda
              clear hAS hda
              go_wp2_with fail
              refine (sum1 w.heap.size q u (flat (l.take a)) w6 KQ.out (by omega)).mono ?_
              rintro e w7 ⟨rfl, h7⟩
              rw [← KDA.out]
              have KE7 := Kept.mk (KE6.out.trans h7)
              have KQ7 := Kept.mk (KQ.out.ext h7)
              have KA7 := Kept.mk (KA6.out.ext h7)
              clear h7 KE6 KQ KA6
              go_wp2_with fail
              refine (sumOf_any (some ⟨w7.heap.size, 0, none⟩) 1 [AS] _ (Row.of_blk (Blk.new w7 9 [.string AS])) (by intro j hj; simp [own] at hj; subst hj; simp) (by rw [hfa]; omega) (by simp)).mono ?_
              rintro e w8 ⟨rfl, h8⟩
              rw [hfa, ← KDA.out]
              have h8 : Ext w7 w8 := (Ext.alloc w7 _).trans h8
              have KE8 := Kept.mk (KE7.out.trans h8)
              have KQ8 := Kept.mk (KQ7.out.ext h8)
              have hA8 := KA7.out.ext h8
              clear h8 KE7 KQ7 KA7 hfa
              obtain ⟨rb, ro, rfl, hrow⟩ := Row.cut hA8 a (by simp; omega)
              rw [← List.map_drop] at hrow
              have hrb : rb < w.heap.size := by
                rcases hAw rb (by simp [own]) with h | h
                · exact h
                · subst h; simp at hla
              have KRow := Kept.mk hrow
              have hca : ¬ cap = a := by omega
              have hcb : a ≤ cap := by omega
              clear hA8 hrow
              go_wp2_with fail
              have hcl : (l.drop a).length = l.length - a := List.length_drop
              have hfc : flat (l.take a) ++ flat (l.drop a) = flat l := (flat_cut l a).symm
              have hW := write1 w.heap.size q u (flat (l.take a)) (some ⟨rb, ro + a, none⟩) (cap - a) (l.drop a) w8 KQ8.out KE8.out.size KRow.out (by
                intro j hj; simp [own] at hj; subst hj
                exact ⟨by have := KQ8.out.low; omega, fun h => by have := (KQ8.out.buf.owns _ h).1; omega⟩) (by rw [← List.length_append, hfc]; omega) (by omega)
              rw [hcl, hfc] at hW
              clear hcl hfc
              refine hW.mono ?_
              rintro e w9 ⟨rfl, u9, hQ9, ht9, -⟩
              have KE9 := Kept.mk (show Ext w w9 from Touch.below KE8.out ht9 (by
                intro j hj
                rcases List.mem_cons.1 hj with h | h
                · subst h; exact KQ8.out.low
                · exact (KQ8.out.buf.owns j h).1) KE8.out.size)
              have KQ9 := Kept.mk hQ9
              clear hW hQ9 ht9 KQ8 KE8
              go_wp2_with fail
              refine (sum1 w.heap.size q u9 (flat l) w9 KQ9.out (by omega)).mono ?_
              rintro e w10 ⟨rfl, h10⟩
              rw [← KD.out]
              have KE10 := Kept.mk (KE9.out.trans h10)
              clear h10 KE9 KQ9
              go_wp2_with fail
              go_ret
              exact ⟨by simp, KE10.out⟩
end Sha1
end Go.Proofs.Ythkckmohhbddcaa
