/- The walk of packfile's Write of none, and of the document's two examples. No condition. -/
import Derived.Test.YtgnbbklnobladaaPackWalkI
import Derived.Test.YtgnbbklnobladaaMap
import Derived.Test.YtgnbbklnobladaaSha2WalkE
import Derived.Lib.SlBytesConst
namespace Go.Proofs.Ytgnbbklnobladaa
open Go.RowKit
namespace Pack
open Delta
open Work (ints)
set_option linter.unusedSimpArgs false
set_option linter.unusedVariables false
def txt (i : Nat) : List UInt8 := if i = 0 then hello else hellox
def ent (q : List UInt8) : List UInt8 := [1, 0] ++ num4 (q.length : Int) ++ q
def packedP (n : Nat) (qs : List (List UInt8)) : List UInt8 := [68, 80, 75, 49] ++ num4 (n : Int) ++ (qs.map ent).flatten
def QsOk (qs : List (List UInt8)) : Prop := ∀ i q, qs[i]? = some q → Pressed (txt i) q
/-- What Write answers. -/
def WriteE (w : World) (n : Nat) (e : Ending) (w' : World) : Prop :=
  ∃ qs, e = .returned (.tuple #[.string (strOf (packedP n qs ++ Sha2.digest (packedP n qs))), .int .i64 0]) ∧ Ext w w' ∧ qs.length = n ∧ QsOk qs
theorem zeroI (w : World) : (zeroValue 3).run Try.prog w = .ok (.int .i64 0) w := by kernel_rfl
theorem keyIok : KeyOk Try.prog 3 intK := intK_ok Try.underlying3
theorem leads_two : ∀ {o T s : List UInt8}, Sqz.Leads o T s → o = [] → s ≠ [] → 2 ≤ T.length
  | _, _, _, .nil _, h, hs => absurd h hs
  | _, _, _, .lit out x T o2 h0 h1 h, ho, hs => by simp only [List.length_cons, List.length_append]; omega
  | _, _, _, .far out n f T o2 hn hn2 hf hf2 hfo h, ho, hs => by subst ho; simp at hfo; omega
theorem pressed_three {q : List UInt8} (h : Pressed madeX q) : 3 ≤ q.length := by
  rcases h.2 with e | ⟨T, e, hL⟩
  · subst e; decide
  · subst e
    have := leads_two hL rfl (by decide)
    simp only [List.length_cons]; omega
/-- The bytes of the second example, told from the first one. -/
def BasedW (v : Value) : Prop := ∃ q A c, v = .slice A (10 + q.length) c ∧ Pressed madeX q
theorem head_buf (W : World) (B : Nat) (hB : B ≤ W.heap.size) : Buf (W.alloc (.cells #[.int .u8 68, .int .u8 80, .int .u8 75, .int .u8 49] 5 (4, 5))) B 5 (.slice (some ⟨W.heap.size, 0, none⟩) 4 4) (bytesV [68, 80, 75, 49]) :=
  ⟨_, 4, rfl, by simp [bytesV_length], by simp [maxLen], by simp [own]; omega, .inr ⟨_, 0, [.int .u8 68, .int .u8 80, .int .u8 75, .int .u8 49], rfl, ⟨(4, 5), heap_alloc_new W _, fun j hj => by simp at hj ⊢; omega⟩, by simp, rfl⟩⟩
theorem packed_len (n : Nat) (qs : List (List UInt8)) (h : QsOk qs) : (packedP n qs).length ≤ 8 + qs.length * 13 := by
  have hf : ∀ (l : List (List UInt8)), (∀ q ∈ l, q.length ≤ 7) → (l.map ent).flatten.length ≤ l.length * 13 := by
    intro l
    induction l with
    | nil => intro _; simp
    | cons q l ih =>
      intro hq
      have h1 := hq q (by simp)
      have h2 := ih (fun q hq' => hq q (by simp [hq']))
      simp only [List.map_cons, List.flatten_cons, List.length_append, ent, num4, List.length_cons, List.length_nil] at h2 ⊢
      omega
  have hq : ∀ q ∈ qs, q.length ≤ 7 := by
    intro q hq
    obtain ⟨i, hi⟩ := List.mem_iff_getElem?.1 hq
    have := (h i q hi).1
    have ht : (txt i).length ≤ 6 := by unfold txt; split <;> decide
    omega
  have := hf qs hq
  simp only [packedP, num4, List.length_append, List.length_cons, List.length_nil]
  omega
set_option maxRecDepth 100000 in
set_option maxHeartbeats 8000000 in
theorem write_two (n : Nat) (hn : n ≤ 2) (A : Option Addr) (cap : Nat) (w : World) (hc : ∀ i, i < n → ∃ b off, A = some ⟨b, off, none⟩ ∧ w.cell? ⟨b, off + i * 2, none⟩ = some (.int .i64 1) ∧ w.cell? ⟨b, off + i * 2 + 1, none⟩ = some (.string (strOf (txt i)))) :
    Calls Try.prog 12 #[.slice A n cap] w (WriteE w n) := by
  obtain ⟨iB, hiB, hzB, hsB, hbB⟩ := infoB
  obtain ⟨iN, hiN, hzN, hsN, hbN⟩ := infoN
  have hm : Try.prog.follows .mixedOrders = true := by kernel_rfl
  have hmm := @run_makeMap Try.prog
  have kc := fun (w : World) (C : Array Value) (n c : Nat) => Lib.run_convert_bytes_const (P := Try.prog) w 54 5 C n c Try.underlying54 Try.underlying5
  have hnI : ¬ (n : Int) > 512 := by omega
  have KC := Kept.mk hc
  have hts : ∀ i, (strOf (txt i)).size ≤ 6 := fun i => by rw [strOf_size]; unfold txt; split <;> decide
  have Kts := Kept.mk hts
  obtain ⟨H, hH⟩ : ∃ H, H = [68, 80, 75, 49] ++ num4 (n : Int) := ⟨_, rfl⟩
  have KN := Kept.mk (fun (W : World) (g : Nat) (hB : w.heap.size ≤ W.heap.size) (hv : Buf W w.heap.size 5 (.slice (some ⟨g, 0, none⟩) 4 4) (bytesV [68, 80, 75, 49])) => (show Calls Try.prog 19 #[.slice (some ⟨g, 0, none⟩) 4 4, .int .i64 (n : Int)] W (AppE W w.heap.size (.slice (some ⟨g, 0, none⟩) 4 4) H) from hH ▸ pnum_any w.heap.size (some ⟨g, 0, none⟩) 4 [68, 80, 75, 49] n (by omega) (by decide) W hB hv))
  have KH : Kept (∀ qs, packedP n qs = H ++ (qs.map ent).flatten) := Kept.mk (fun qs => by rw [hH]; rfl)
  have hHl : H.length ≤ 8 := by rw [hH]; exact Nat.le_refl _
  clear hc hts hH
  go_enter Try.func12, Try.ntmps12
  go_wp2_with fail
  go_loopg [17] n (fun r iv wi => ∃ i : Nat, i + r = n ∧ iv = .int .i64 (i : Int) ∧ Ext w wi)
  case atStart => exact ⟨0, by omega, rfl, Ext.refl _⟩
  case round =>
    obtain ⟨i, hr, rfl, hE⟩ := hrel
    have Kr := Kept.mk hr
    have KE := Kept.mk hE
    have hil : i ≤ n := by omega
    clear hr hE
    by_cases hlt : i < n
    · have hltI : (i : Int) < (n : Int) := by omega
      obtain ⟨b, off, rfl, c0, c1⟩ := KC.out i hlt
      have c0 := KE.out.cell c0
      have c1 := KE.out.cell c1
      go_wp2_with fail
      go_roundg (gk - 1)
      case measure => have := Kr.out; omega
      case rel => exact ⟨i + 1, by have := Kr.out; omega, by first | rfl | simp, KE.out.trans (Ext.alloc _ _)⟩
    · have hltI : ¬ (i : Int) < (n : Int) := by omega
      clear Kr
      go_wp2_with fail
      have hB0 := KE.out.size
      refine (KN.out _ _ (by simp; omega) (head_buf _ _ hB0)).mono ?_
      rintro e w1 ⟨A1, c1, rfl, hv1, ht1, ho1⟩
      have KE1 := Kept.mk (show Ext w w1 from Touch.below (KE.out.trans (Ext.alloc _ _)) ht1 (fun j hj => by simp [own] at hj; omega) (by simp; omega))
      have KV1 := Kept.mk hv1
      have hB1 := KE1.out.size
      clear hv1 ht1 ho1 kc KE hB0
      go_wp2_with (refine wpList_make_blk (P := Try.prog) _ rfl (.tmp 40) (.tmp 40) 29 rfl 3 iN (.int .i64 0) Try.underlying29 hiN hzN hsN rfl .i64 .i64 (n : Int) (n : Int) n n rfl rfl rfl rfl (Nat.le_refl _) (by rw [hbN]; omega) (by omega) ?_)
      intro w2 hb2 hE2 hs2
      have KM2 := Kept.mk ((MapOf.made (kv := intK) (ev := intK) w1).ext hE2)
      have KE2 := Kept.mk (KE1.out.trans ((Ext.alloc _ _).trans hE2))
      have KV2 := Kept.mk (KV1.out.ext ((Ext.alloc _ _).trans hE2))
      have Kb2 := Kept.mk hb2
      have Ko2 := Kept.mk (show (∀ j ∈ own (.slice A1 H.length c1), j < w1.heap.size) from fun j hj => (KV1.out.owns j hj).2)
      obtain ⟨mb, hmb⟩ : ∃ mb, mb = w1.heap.size := ⟨_, rfl⟩
      rw [← hmb] at KM2 Ko2 hB1
      rw [← hmb] at Kb2
      have Krel0 := Kept.mk (show ∃ v : Value, v = .slice A1 H.length c1 ∧ Buf w2 w.heap.size 5 v (bytesV (H ++ (([] : List (List UInt8)).map ent).flatten)) ∧ (∀ j ∈ own v, j ≠ mb ∧ j ≠ mb + 1) from ⟨_, rfl, by simpa using KV2.out, fun j hj => by have := Ko2.out j hj; omega⟩)
      clear hb2 hE2 hs2 KE1 KV1 KN
      rw [← hmb]
      go_wp2_with fail
      clear hmb Ko2 KV2
      go_loopg [6, 44] n (fun r ov iv wi => ∃ (i : Nat) (qs : List (List UInt8)), i + r = n ∧ iv = .int .i64 (i : Int) ∧ qs.length = i ∧
        Kept (QsOk qs ∧ Buf wi w.heap.size 5 ov (bytesV (H ++ (qs.map ent).flatten)) ∧ (∀ j ∈ own ov, j ≠ mb ∧ j ≠ mb + 1) ∧ MapOf intK intK wi mb (if i = 0 then [] else [(1, (i : Int) - 1)]) ∧ Blk wi (mb + 1) 3 (List.replicate n (.int .i64 0)) ∧ Ext w wi))
      case atStart =>
        obtain ⟨v, rfl, h1, h2⟩ := Krel0.out
        exact ⟨0, [], by omega, rfl, rfl, Kept.mk ⟨by intro i q h; simp at h, h1, h2, KM2.out, Kb2.out, KE2.out⟩⟩
      case round =>
        clear Krel0 KM2 Kb2 KE2
        obtain ⟨i, qs, hr, rfl, hql, KK⟩ := hrel
        have Kr := Kept.mk hr
        have Kql := Kept.mk hql
        have hil : i ≤ n := by omega
        clear hr
        obtain ⟨oA, oc, hov⟩ := KK.out.2.1.form
        rw [bytesV_length] at hov
        subst hov
        have hpl : (H ++ (qs.map ent).flatten).length ≤ 34 := by
          have := packed_len n qs KK.out.1
          rw [KH.out, hql] at this
          omega
        by_cases hlt : i < n
        · have hltI : (i : Int) < (n : Int) := by omega
          have hi01 : i = 0 ∨ i = 1 := by omega
          rcases hi01 with rfl | rfl
          · obtain ⟨b, off, rfl, c0, c1⟩ := KC.out 0 hlt
            have KCx := Kept.mk (show w.cell? ⟨b, off + 1, none⟩ = some (.string (strOf hello)) from by
              obtain ⟨b', off', e1, -, h1⟩ := KC.out 0 (by omega)
              cases e1
              simpa [txt] using h1)
            have c0 : wr.cell? ⟨b, off, none⟩ = some (.int .i64 1) := by have := KK.out.2.2.2.2.2.cell c0; simpa using this
            have c1 : wr.cell? ⟨b, off + 1, none⟩ = some (.string (strOf hello)) := by have := KK.out.2.2.2.2.2.cell c1; simpa [txt] using this
            obtain ⟨sx, hsx⟩ : ∃ s, s = strOf hello := ⟨_, rfl⟩
            have htz : sx.size ≤ 6 := by rw [hsx]; decide
            have Kent := Kept.mk (fun W => (show Calls Try.prog 20 #[.agg #[.int .i64 1, .string sx], .int .i64 (-1), .string sx] W (EntryE W [UInt8.ofNat (1 : Int).toNat, 0] hello) from hsx ▸ entry_plain 1 (by decide) (strOf hello) hello (by decide) W))
            rw [← hsx] at c1
            clear hsx
            generalize hF : H ++ (qs.map ent).flatten = F at KK hpl ⊢
            have KF := Kept.mk hF
            clear hql hF
            rw [show ((0 : Nat) : Int) = 0 from rfl] at *
            go_wp2_with fail
            refine (Kent.out _).mono ?_
            rintro e w3 ⟨q, A3, m3, c3, rfl, hm3, hv3, hE3, hP3⟩
            have KX := Kept.mk ((Blk.new wr 42 [.int .i64 1, .string sx]).ext hE3)
            have KWe := Kept.mk ((Ext.alloc wr _).trans hE3)
            have x0 := KX.out.cell 0
            have x1 := KX.out.cell 1
            simp only [List.getElem?_cons_zero, List.getElem?_cons_succ] at x0 x1
            have hql2 : q.length ≤ 7 := Nat.le_trans hP3.1 (by decide)
            have hm3l : m3 = 6 + q.length := by rw [hm3]; simp [num4]; omega
            have hm3a : m3 ≤ 13 := by omega
            have Kb := Kept.mk (show Buf w3 w.heap.size 5 (.slice A3 m3 c3) (bytesV (ent q)) from hv3.lower (Nat.le_trans KK.out.2.2.2.2.2.size (by simp)))
            have Kbo := Kept.mk (show ∀ j ∈ own (.slice A3 m3 c3), mb + 1 < j from fun j hj => by have h1 := (hv3.owns j hj).1; have h2 := KK.out.2.2.2.2.1.lt; simp at h1; omega)
            have KO := Kept.mk (KK.out.2.1.ext KWe.out)
            have Kc := Kept.mk (KK.out.2.2.2.2.1.ext KWe.out)
            have KM0 := KK.out.2.2.2.1.ext KWe.out
            have KE3 := Kept.mk (KK.out.2.2.2.2.2.trans KWe.out)
            have Kqs := Kept.mk (show QsOk (qs ++ [q]) from fun j r hj => by
              by_cases hjl : j < qs.length
              · rw [List.getElem?_append_left hjl] at hj; exact KK.out.1 j r hj
              · rw [List.getElem?_append_right (by omega), Kql.out] at hj
                have hj2 := (List.getElem?_eq_some_iff.1 hj).1
                simp at hj2
                have : j = 0 := by have := Kql.out; omega
                subst this
                simp at hj
                subst hj
                exact hP3)
            have KM := Kept.mk (show MapOf intK intK w3 mb ([] : List (Int × Int)) from KM0)
            have hl : (Instr.lookup 56 (.map (some mb)) (.int .i64 1) true).run Try.prog w3 = .ok (.tuple #[.int .i64 0, .bool false]) w3 := KM.out.look_ok keyIok Try.underlying56 (zeroI w3) 1
            clear KM0 hv3 hE3
            clear c0 c1 hm3 hm3l hP3
            go_wp2_with (refine wpList_put_of (kv := intK) (ev := intK) w3 rfl (.tmp 97) (.tmp 99) (.tmp 100) 56 rfl 3 3 keyIok Try.underlying56 mb ([] : List (Int × Int)) KM.out rfl 1 0 rfl rfl ?_)
            intro w7 hm7 ht7 hs7
            have KM7 := Kept.mk (show MapOf intK intK w7 mb [((1 : Int), ((0 + 1 : Nat) : Int) - 1)] from hm7)
            have KE7 := Kept.mk (show Ext w w7 from Touch.below (KE3.out) ht7 (fun j hj => by rw [List.mem_singleton] at hj; subst hj; exact hB1) (KE3.out).size)
            have KO7 := Kept.mk (KO.out.touch ht7 (fun j hj hm => by rw [List.mem_singleton] at hm; exact (KK.out.2.2.1 j hj).1 hm))
            have Kb7 := Kept.mk (Kb.out.touch ht7 (fun j hj hm => by rw [List.mem_singleton] at hm; subst hm; exact absurd (Kbo.out _ hj) (by omega)))
            have Kc7 := Kept.mk (Kc.out.touch ht7 (by simp))
            have hB7 := KE7.out.size
            clear hm7 ht7 hs7
            go_wp2_with (refine wpList_append_buf (P := Try.prog) w7 rfl (.tmp 101) (.tmp 102) 54 54 rfl 5 iB _ Try.underlying54 hiB hzB hsB rfl w.heap.size (.slice oA F.length oc) (bytesV F) rfl KO7.out (.slice A3 m3 c3) m3 (bytesV (ent q)) rfl (Buf.src _ Kb7.out Try.underlying54 (bytesV_one _)) hB7 (by rw [bytesV_length]; simp only [maxLen]; omega) (by rw [bytesV_length, hbB]; omega) ?_)
            intro v8 w8 hv8 ht8 ho8
            rw [← bytesV_append] at hv8
            have KE8 := Kept.mk (show Ext w w8 from Touch.below KE7.out ht8 (fun j hj => (KO7.out.owns j hj).1) hB7)
            have KM8 := Kept.mk (KM7.out.touch ht8 (fun hm => (KK.out.2.2.1 _ hm).1 rfl))
            have Kc8 := Kept.mk (Kc7.out.touch ht8 (fun hm => (KK.out.2.2.1 _ hm).2 rfl))
            have Kn8 := Kept.mk (show ∀ j ∈ own v8, j ≠ mb ∧ j ≠ mb + 1 from fun j hj => by
              rcases ho8 with h | h
              · rw [h] at hj; exact KK.out.2.2.1 j hj
              · rw [h, List.mem_singleton] at hj
                have := KM7.out.lt
                have := Kc7.out.lt
                omega)
            have hFl : (F ++ ent q).length ≤ 47 := by simp only [List.length_append, ent, num4, List.length_cons, List.length_nil]; omega
            have hfin : H ++ ((qs ++ [q]).map ent).flatten = F ++ ent q := by rw [← KF.out]; simp
            obtain ⟨G, hG⟩ : ∃ G, G = F ++ ent q := ⟨_, rfl⟩
            rw [← hG] at hFl hv8 hfin
            obtain ⟨A8, c8, h8⟩ := hv8.form
            rw [bytesV_length] at h8
            subst h8
            have KN8 := Kept.mk (show QsOk (qs ++ [q]) ∧ Buf w8 w.heap.size 5 (.slice A8 G.length c8) (bytesV (H ++ ((qs ++ [q]).map ent).flatten)) ∧ (∀ j ∈ own (.slice A8 G.length c8), j ≠ mb ∧ j ≠ mb + 1) ∧ MapOf intK intK w8 mb (if 0 + 1 = 0 then [] else [(1, ((0 + 1 : Nat) : Int) - 1)]) ∧ Blk w8 (mb + 1) 3 (List.replicate n (.int .i64 0)) ∧ Ext w w8 from
              ⟨Kqs.out, by rw [hfin]; exact hv8, Kn8.out, KM8.out, Kc8.out, KE8.out⟩)
            clear hv8 ht8 ho8 hfin hG KE7 KO7 Kb7 Kc7 KM7 KE8 KM8 Kc8 Kn8 Kqs hB7
            have hGI : ¬ (1048576 : Int) < (G.length : Int) + 32 := by omega
            go_wp2_with fail
            go_roundg (gk - 1)
            case measure => have := Kr.out; omega
            case rel => exact ⟨0 + 1, qs ++ [q], by have := Kr.out; omega, by first | rfl | simp, by rw [List.length_append, Kql.out]; rfl, KN8⟩
          · obtain ⟨b, off, rfl, c0, c1⟩ := KC.out 1 hlt
            have KCx := Kept.mk (show w.cell? ⟨b, off + 1, none⟩ = some (.string (strOf hello)) from by
              obtain ⟨b', off', e1, -, h1⟩ := KC.out 0 (by omega)
              cases e1
              simpa [txt] using h1)
            have c0 : wr.cell? ⟨b, off + 2, none⟩ = some (.int .i64 1) := by have := KK.out.2.2.2.2.2.cell c0; simpa using this
            have c1 : wr.cell? ⟨b, off + 2 + 1, none⟩ = some (.string (strOf hellox)) := by have := KK.out.2.2.2.2.2.cell c1; simpa [txt] using this
            obtain ⟨sx, hsx⟩ : ∃ s, s = strOf hellox := ⟨_, rfl⟩
            have htz : sx.size ≤ 6 := by rw [hsx]; decide
            have Kent := Kept.mk (fun W => (show Calls Try.prog 20 #[.agg #[.int .i64 1, .string sx], .int .i64 (-1), .string sx] W (EntryE W [UInt8.ofNat (1 : Int).toNat, 0] hellox) from hsx ▸ entry_plain 1 (by decide) (strOf hellox) hellox (by decide) W))
            have Kmk := Kept.mk (fun W => (show Calls Try.prog 21 #[.string (strOf hello), .string sx] W (StrE W madeX) from hsx ▸ make_hellox W))
            have Kent2 := Kept.mk (fun W => (show Calls Try.prog 20 #[.agg #[.int .i64 1, .string sx], .int .i64 0, .string (strOf madeX)] W (EntryE W ([UInt8.ofNat (1 : Int).toNat, 1] ++ num4 ((0 : Nat) : Int)) madeX) from hsx ▸ entry_based 1 (by decide) (strOf hellox) 0 (by decide) madeX (by decide) W))
            rw [← hsx] at c1
            clear hsx
            generalize hF : H ++ (qs.map ent).flatten = F at KK hpl ⊢
            have KF := Kept.mk hF
            clear hql hF
            rw [show ((1 : Nat) : Int) = 1 from rfl] at *
            go_wp2_with fail
            refine (Kent.out _).mono ?_
            rintro e w3 ⟨q, A3, m3, c3, rfl, hm3, hv3, hE3, hP3⟩
            have KX := Kept.mk ((Blk.new wr 42 [.int .i64 1, .string sx]).ext hE3)
            have KWe := Kept.mk ((Ext.alloc wr _).trans hE3)
            have x0 := KX.out.cell 0
            have x1 := KX.out.cell 1
            simp only [List.getElem?_cons_zero, List.getElem?_cons_succ] at x0 x1
            have hql2 : q.length ≤ 7 := Nat.le_trans hP3.1 (by decide)
            have hm3l : m3 = 6 + q.length := by rw [hm3]; simp [num4]; omega
            have hm3a : m3 ≤ 13 := by omega
            have Kb := Kept.mk (show Buf w3 w.heap.size 5 (.slice A3 m3 c3) (bytesV (ent q)) from hv3.lower (Nat.le_trans KK.out.2.2.2.2.2.size (by simp)))
            have Kbo := Kept.mk (show ∀ j ∈ own (.slice A3 m3 c3), mb + 1 < j from fun j hj => by have h1 := (hv3.owns j hj).1; have h2 := KK.out.2.2.2.2.1.lt; simp at h1; omega)
            have KO := Kept.mk (KK.out.2.1.ext KWe.out)
            have Kc := Kept.mk (KK.out.2.2.2.2.1.ext KWe.out)
            have KM0 := KK.out.2.2.2.1.ext KWe.out
            have KE3 := Kept.mk (KK.out.2.2.2.2.2.trans KWe.out)
            have Kqs := Kept.mk (show QsOk (qs ++ [q]) from fun j r hj => by
              by_cases hjl : j < qs.length
              · rw [List.getElem?_append_left hjl] at hj; exact KK.out.1 j r hj
              · rw [List.getElem?_append_right (by omega), Kql.out] at hj
                have hj2 := (List.getElem?_eq_some_iff.1 hj).1
                simp at hj2
                have : j = 1 := by have := Kql.out; omega
                subst this
                simp at hj
                subst hj
                exact hP3)
            have KM := Kept.mk (show MapOf intK intK w3 mb ([((1 : Int), (0 : Int))] : List (Int × Int)) from KM0)
            have hl : (Instr.lookup 56 (.map (some mb)) (.int .i64 1) true).run Try.prog w3 = .ok (.tuple #[.int .i64 0, .bool true]) w3 := KM.out.look_ok keyIok Try.underlying56 (zeroI w3) 1
            clear KM0 hv3 hE3
            have k0 : w3.cell? ⟨mb + 1, 0, none⟩ = some (.int .i64 0) := by
              rw [Kc.out.cell, List.getElem?_replicate, if_pos (by omega)]
            have d0 := x0
            have d1 := x1
            have d2 := (KK.out.2.2.2.2.2.trans KWe.out).cell KCx.out
            clear c0 c1 hm3 hP3 hm3l
            go_wp2_with fail
            refine wp_region_calm Ext 12 ([] :: [] :: [] :: [] :: [(74, 2), (75, 3)] :: [(76, 4)] :: [(77, 5)] :: [] :: [(79, 7)] :: [(78, 6), (80, 8)] :: [(72, 0), (73, 1), (81, 9)] :: [(82, 10)] :: [])
              ((72, 0) :: (73, 1) :: (74, 2) :: (75, 3) :: (76, 4) :: (77, 5) :: (78, 6) :: (79, 7) :: (80, 8) :: (81, 9) :: (82, 10) :: (14, 11) :: [])
              (EqV ?tce0 :: EqV ?tce1 :: EqV ?tce2 :: EqV ?tce3 :: EqV ?tce4 :: EqV ?tce5 :: EqV ?tce6 :: EqV ?tce7 :: EqV ?tce8 :: EqV (.string (strOf madeX)) :: (fun W u => BasedW u) :: (fun W u => BasedW u) :: []) hm (by kernel_rfl) Ext.refl (fun _ _ _ => Ext.trans) Ext.drew
              (MonoL.at (MonoL.eq _ (MonoL.eq _ (MonoL.eq _ (MonoL.eq _ (MonoL.eq _ (MonoL.eq _ (MonoL.eq _ (MonoL.eq _ (MonoL.eq _ (MonoL.eq _ (MonoL.cons (fun W W' u hR h => h) (MonoL.cons (fun W W' u hR h => h) (MonoL.nil)))))))))))))) ?tcalmOps ?tcalmDone
            case tcalmOps =>
              intro vs
              refine (CalmOps.cons ?_ (CalmOps.cons ?_ (CalmOps.cons ?_ (CalmOps.cons ?_ (CalmOps.cons ?_ (CalmOps.cons ?_ (CalmOps.cons ?_ (CalmOps.cons ?_ (CalmOps.cons ?_ (CalmOps.cons ?_ (CalmOps.cons ?_ (CalmOps.cons ?_ trivial))))))))))))
              · intro w6 hR hL; simp [Look, VAt, EqV] at hL; have q0 := hR.cell d0; have q1 := hR.cell d1; have q2 := hR.cell d2; simp [Guarded, setAll, bare, hL]; go_wp2_with fail; exact CalmPost.mk (by first | (simp; done) | (simp; rfl) | rfl) rfl (Ext.refl _)
              · intro w6 hR hL; simp [Look, VAt, EqV] at hL; have q0 := hR.cell d0; have q1 := hR.cell d1; have q2 := hR.cell d2; simp [Guarded, setAll, bare, hL]; go_wp2_with fail; exact CalmPost.mk (by first | (simp; done) | (simp; rfl) | rfl) rfl (Ext.refl _)
              · intro w6 hR hL; simp [Look, VAt, EqV] at hL; have q0 := hR.cell d0; have q1 := hR.cell d1; have q2 := hR.cell d2; simp [Guarded, setAll, bare, hL]; go_wp2_with fail; exact CalmPost.mk (by first | (simp; done) | (simp; rfl) | rfl) rfl (Ext.refl _)
              · intro w6 hR hL; simp [Look, VAt, EqV] at hL; have q0 := hR.cell d0; have q1 := hR.cell d1; have q2 := hR.cell d2; simp [Guarded, setAll, bare, hL]; go_wp2_with fail; exact CalmPost.mk (by first | (simp; done) | (simp; rfl) | rfl) rfl (Ext.refl _)
              · intro w6 hR hL; simp [Look, VAt, EqV] at hL; have q0 := hR.cell d0; have q1 := hR.cell d1; have q2 := hR.cell d2; simp [Guarded, setAll, bare, hL]; go_wp2_with fail; exact CalmPost.mk (by first | (simp; done) | (simp; rfl) | rfl) rfl (Ext.refl _)
              · intro w6 hR hL; simp [Look, VAt, EqV] at hL; have q0 := hR.cell d0; have q1 := hR.cell d1; have q2 := hR.cell d2; simp [Guarded, setAll, bare, hL]; go_wp2_with fail; exact CalmPost.mk (by first | (simp; done) | (simp; rfl) | rfl) rfl (Ext.refl _)
              · intro w6 hR hL; simp [Look, VAt, EqV] at hL; have q0 := hR.cell d0; have q1 := hR.cell d1; have q2 := hR.cell d2; simp [Guarded, setAll, bare, hL]; go_wp2_with fail; exact CalmPost.mk (by first | (simp; done) | (simp; rfl) | rfl) rfl (Ext.refl _)
              · intro w6 hR hL; simp [Look, VAt, EqV] at hL; have q0 := hR.cell d0; have q1 := hR.cell d1; have q2 := hR.cell d2; simp [Guarded, setAll, bare, hL]; go_wp2_with fail; exact CalmPost.mk (by first | (simp; done) | (simp; rfl) | rfl) rfl (Ext.refl _)
              · intro w6 hR hL; simp [Look, VAt, EqV] at hL; have q0 := hR.cell d0; have q1 := hR.cell d1; have q2 := hR.cell d2; simp [Guarded, setAll, bare, hL]; go_wp2_with fail; exact CalmPost.mk (by first | (simp; done) | (simp; rfl) | rfl) rfl (Ext.refl _)
              · intro w6 hR hL; simp [Look, VAt, EqV] at hL; simp [Guarded, setAll, bare, hL]; go_wp2_with fail; refine (Kmk.out _).mono ?_; rintro ee ww ⟨rfl, hE⟩; go_wp2_with fail; exact CalmPost.mk (by first | (simp; done) | (simp; rfl) | rfl) rfl hE
              · intro w6 hR hL; simp [Look, VAt, EqV] at hL; simp [Guarded, setAll, bare, hL]; go_wp2_with fail; refine (Kent2.out _).mono ?_; rintro ee ww ⟨q, A, m, c, rfl, hm2, hB, hE, hP⟩; go_wp2_with fail; exact CalmPost.mk (by first | (simp; done) | (simp; rfl) | rfl) ⟨q, A, c, by congr 1; simp [num4]; omega, hP⟩ hE
              · intro w6 hR hL; simp [Look, VAt, EqV] at hL; obtain ⟨q, A, c, hL1, hL2⟩ := hL; simp [Guarded, setAll, bare, hL1]; go_wp2_with fail; exact CalmPost.mk (by first | (simp; done) | (simp; rfl) | rfl) ⟨q, A, c, rfl, hL2⟩ (Ext.refl _)
            case tcalmDone =>
              intro vs w6 hR hL
              simp [Look, VAt, EqV] at hL
              obtain ⟨L0, L1, L2, L3, L4, L5, L6, L7, L8, L9, L10, L11⟩ := hL
              obtain ⟨q2, A5, c5, L10, -⟩ := L10
              obtain ⟨q3, A6, c6, L11, hP6⟩ := L11
              have hq3 := pressed_three hP6
              simp [setAll, L0, L1, L2, L3, L4, L5, L6, L7, L8, L9, L10, L11]
              clear L0 L1 L2 L3 L4 L5 L6 L7 L8 L9 L10 L11 hP6 d0 d1 d2 k0 hl Kmk Kent Kent2
              have x0 := hR.cell x0
              have KM := Kept.mk (KM.out.ext hR)
              have Kb := Kept.mk (Kb.out.ext hR)
              have KO := Kept.mk (KO.out.ext hR)
              have Kc := Kept.mk (Kc.out.ext hR)
              have KE6 := Kept.mk (KE3.out.trans hR)
              clear hR x1
              go_wp2_with (refine wpList_put_of (kv := intK) (ev := intK) w6 rfl (.tmp 97) (.tmp 99) (.tmp 100) 56 rfl 3 3 keyIok Try.underlying56 mb [((1 : Int), (0 : Int))] KM.out rfl 1 1 rfl rfl ?_)
              intro w7 hm7 ht7 hs7
              have KM7 := Kept.mk (show MapOf intK intK w7 mb [((1 : Int), ((1 + 1 : Nat) : Int) - 1)] from hm7)
              have KE7 := Kept.mk (show Ext w w7 from Touch.below (KE6.out) ht7 (fun j hj => by rw [List.mem_singleton] at hj; subst hj; exact hB1) (KE6.out).size)
              have KO7 := Kept.mk (KO.out.touch ht7 (fun j hj hm => by rw [List.mem_singleton] at hm; exact (KK.out.2.2.1 j hj).1 hm))
              have Kb7 := Kept.mk (Kb.out.touch ht7 (fun j hj hm => by rw [List.mem_singleton] at hm; subst hm; exact absurd (Kbo.out _ hj) (by omega)))
              have Kc7 := Kept.mk (Kc.out.touch ht7 (by simp))
              have hB7 := KE7.out.size
              clear hm7 ht7 hs7
              go_wp2_with (refine wpList_append_buf (P := Try.prog) w7 rfl (.tmp 101) (.tmp 102) 54 54 rfl 5 iB _ Try.underlying54 hiB hzB hsB rfl w.heap.size (.slice oA F.length oc) (bytesV F) rfl KO7.out (.slice A3 m3 c3) m3 (bytesV (ent q)) rfl (Buf.src _ Kb7.out Try.underlying54 (bytesV_one _)) hB7 (by rw [bytesV_length]; simp only [maxLen]; omega) (by rw [bytesV_length, hbB]; omega) ?_)
              intro v8 w8 hv8 ht8 ho8
              rw [← bytesV_append] at hv8
              have KE8 := Kept.mk (show Ext w w8 from Touch.below KE7.out ht8 (fun j hj => (KO7.out.owns j hj).1) hB7)
              have KM8 := Kept.mk (KM7.out.touch ht8 (fun hm => (KK.out.2.2.1 _ hm).1 rfl))
              have Kc8 := Kept.mk (Kc7.out.touch ht8 (fun hm => (KK.out.2.2.1 _ hm).2 rfl))
              have Kn8 := Kept.mk (show ∀ j ∈ own v8, j ≠ mb ∧ j ≠ mb + 1 from fun j hj => by
                rcases ho8 with h | h
                · rw [h] at hj; exact KK.out.2.2.1 j hj
                · rw [h, List.mem_singleton] at hj
                  have := KM7.out.lt
                  have := Kc7.out.lt
                  omega)
              have hFl : (F ++ ent q).length ≤ 47 := by simp only [List.length_append, ent, num4, List.length_cons, List.length_nil]; omega
              have hfin : H ++ ((qs ++ [q]).map ent).flatten = F ++ ent q := by rw [← KF.out]; simp
              obtain ⟨G, hG⟩ : ∃ G, G = F ++ ent q := ⟨_, rfl⟩
              rw [← hG] at hFl hv8 hfin
              obtain ⟨A8, c8, h8⟩ := hv8.form
              rw [bytesV_length] at h8
              subst h8
              have KN8 := Kept.mk (show QsOk (qs ++ [q]) ∧ Buf w8 w.heap.size 5 (.slice A8 G.length c8) (bytesV (H ++ ((qs ++ [q]).map ent).flatten)) ∧ (∀ j ∈ own (.slice A8 G.length c8), j ≠ mb ∧ j ≠ mb + 1) ∧ MapOf intK intK w8 mb (if 1 + 1 = 0 then [] else [(1, ((1 + 1 : Nat) : Int) - 1)]) ∧ Blk w8 (mb + 1) 3 (List.replicate n (.int .i64 0)) ∧ Ext w w8 from
                ⟨Kqs.out, by rw [hfin]; exact hv8, Kn8.out, KM8.out, Kc8.out, KE8.out⟩)
              clear hv8 ht8 ho8 hfin hG KE7 KO7 Kb7 Kc7 KM7 KE8 KM8 Kc8 Kn8 Kqs hB7
              have hGI : ¬ (1048576 : Int) < (G.length : Int) + 32 := by omega
              go_wp2_with fail
              go_roundg (gk - 1)
              case measure => have := Kr.out; omega
              case rel => exact ⟨1 + 1, qs ++ [q], by have := Kr.out; omega, by first | rfl | simp, by rw [List.length_append, Kql.out]; rfl, KN8⟩
        · have hltI : ¬ (i : Int) < (n : Int) := by omega
          generalize hF : H ++ (qs.map ent).flatten = F at KK hpl ⊢
          have KF := Kept.mk ((KH.out qs).trans hF)
          have Kqs := Kept.mk (show qs.length = n from by omega)
          clear hql hF Kr Kql
          go_wp2_with fail
          have hdl := Sha2.digest_length F
          obtain ⟨dg, hdg⟩ : ∃ d, d = Sha2.digest F := ⟨_, rfl⟩
          have KD := Kept.mk hdg.symm
          rw [← hdg] at hdl
          have Kad := Kept.mk (strOf_append F dg)
          have hFz := strOf_size F
          have hdz := strOf_size dg
          have hss : (strOf F).size + (strOf dg).size ≤ 9223372036854775807 := by omega
          have KF2 := Kept.mk KK.out.2.1
          have KE9 := Kept.mk KK.out.2.2.2.2.2
          have Kqo := Kept.mk KK.out.1
          clear hdg KK
          refine wp_region_calm Ext 9 ([] :: [(109, 0)] :: [] :: [(111, 2)] :: [(112, 3)] :: [(113, 4)] :: [(110, 1), (114, 5)] :: [(115, 6)] :: [] :: [])
            ((109, 0) :: (110, 1) :: (111, 2) :: (112, 3) :: (113, 4) :: (114, 5) :: (115, 6) :: (2, 7) :: (3, 8) :: [])
            (EqV ?sce0 :: EqV (.string (strOf F)) :: EqV ?sce2 :: EqV (.string (strOf F)) :: (fun W u => ∃ k, u = .slice (some ⟨k, 0, none⟩) 1 1 ∧ Blk W k 9 [.string (strOf F)]) :: EqV (.string (strOf dg)) :: EqV (.string (strOf (F ++ dg))) :: EqV (.string (strOf (F ++ dg))) :: EqV ?sce8 :: []) hm (by kernel_rfl) Ext.refl (fun _ _ _ => Ext.trans) Ext.drew
            (MonoL.at (MonoL.eq _ (MonoL.eq _ (MonoL.eq _ (MonoL.eq _ (MonoL.cons (fun W W' u hR h => by obtain ⟨k, h1, h2⟩ := h; exact ⟨k, h1, h2.ext hR⟩) (MonoL.eq _ (MonoL.eq _ (MonoL.eq _ (MonoL.eq _ (MonoL.nil))))))))))) ?scalmOps ?scalmDone
          case scalmOps =>
            intro vs
            refine (CalmOps.cons ?_ (CalmOps.cons ?_ (CalmOps.cons ?_ (CalmOps.cons ?_ (CalmOps.cons ?_ (CalmOps.cons ?_ (CalmOps.cons ?_ (CalmOps.cons ?_ (CalmOps.cons ?_ trivial)))))))))
            · intro w hR hL; simp [Look, VAt, EqV] at hL; simp [Guarded, setAll, bare, hL]; go_wp2_with fail; exact CalmPost.mk (by first | (simp; done) | (simp; rfl) | rfl) rfl (Ext.refl _)
            · intro w6 hR hL; simp [Look, VAt, EqV] at hL; have kc := conv_buf w6 _ _ _ Try.underlying54 Try.underlying5 Try.underlying9 _ (KF2.out.ext hR); simp [Guarded, setAll, bare, hL]; go_wp2_with fail; exact CalmPost.mk (by first | (simp; done) | (simp; rfl) | rfl) rfl (Ext.refl _)
            · intro w hR hL; simp [Look, VAt, EqV] at hL; simp [Guarded, setAll, bare, hL]; go_wp2_with fail; exact CalmPost.mk (by first | (simp; done) | (simp; rfl) | rfl) rfl (Ext.refl _)
            · intro w6 hR hL; simp [Look, VAt, EqV] at hL; have kc := conv_buf w6 _ _ _ Try.underlying54 Try.underlying5 Try.underlying9 _ (KF2.out.ext hR); simp [Guarded, setAll, bare, hL]; go_wp2_with fail; exact CalmPost.mk (by first | (simp; done) | (simp; rfl) | rfl) rfl (Ext.refl _)
            · intro w hR hL; simp [Look, VAt, EqV] at hL; simp [Guarded, setAll, bare, hL]; go_wp2_with fail; exact CalmPost.mk (by first | (simp; done) | (simp; rfl) | rfl) ⟨_, rfl, Blk.new w 9 [.string (strOf F)]⟩ (Ext.alloc _ _)
            · intro w hR hL; simp [Look, VAt, EqV] at hL; obtain ⟨k3, hL3, hB3⟩ := hL; have KB3 := Kept.mk hB3; clear hB3; simp [Guarded, setAll, bare, hL3]; clear hL3; go_wp2_with fail; have hfl : Sha2.flat [strOf F] = F := by simp [Sha2.flat, strOf_list]
              refine (Sha2.sumOf_any (some ⟨k3, 0, none⟩) 1 [strOf F] _ (Row.of_blk KB3.out) (by intro j hj; simp [own] at hj; subst hj; exact KB3.out.lt) (by rw [hfl]; omega) (by simp)).mono ?_
              rintro e wz ⟨rfl, hEz⟩
              rw [hfl, KD.out]
              go_wp2_with fail
              exact CalmPost.mk (by first | (simp; done) | (simp; rfl) | rfl) rfl hEz
            · intro w hR hL; simp [Look, VAt, EqV] at hL; simp [Guarded, setAll, bare, hL]; go_wp2_with fail; rw [Kad.out]; exact CalmPost.mk (by first | (simp; done) | (simp; rfl) | rfl) rfl (Ext.refl _)
            · intro w hR hL; simp [Look, VAt, EqV] at hL; simp [Guarded, setAll, bare, hL]; go_wp2_with fail; exact CalmPost.mk (by first | (simp; done) | (simp; rfl) | rfl) rfl (Ext.refl _)
            · intro w hR hL; simp [Look, VAt, EqV] at hL; simp [Guarded, setAll, bare, hL]; go_wp2_with fail; exact CalmPost.mk (by first | (simp; done) | (simp; rfl) | rfl) rfl (Ext.refl _)
          case scalmDone =>
            intro vs w6 hR hL
            simp [Look, VAt, EqV] at hL
            obtain ⟨L0, L1, L2, L3, ⟨k4, L4, -⟩, L5, L6, L7, L8⟩ := hL
            simp [setAll, L0, L1, L2, L3, L4, L5, L6, L7, L8]
            clear L0 L1 L2 L3 L4 L5 L6 L7 L8
            have KR := Kept.mk hR
            clear hR
            go_wp2_with fail
            go_ret2
            exact ⟨qs, by rw [KF.out, KD.out]; rfl, KE9.out.trans KR.out, Kqs.out, Kqo.out⟩
end Pack
end Go.Proofs.Ytgnbbklnobladaa
