/- The law of packs: awake, PackfileReads. No condition. -/
import Derived.Test.YtgnbbklnobladaaPackWalkK
namespace Go.Proofs.Ytgnbbklnobladaa
open Go.RowKit
namespace Pack
open Delta
open Work (ints ints_length)
set_option linter.unusedSimpArgs false
set_option linter.unusedVariables false
theorem read_short : readP [68, 80, 75, 49] = ([], [], 2) := by
  unfold readP
  rw [if_neg (by decide), if_pos (by decide)]
theorem two_of {qs : List (List UInt8)} (h : qs.length = 2) (hk : QsOk qs) : ∃ a b, qs = [a, b] ∧ Pressed hello a ∧ Pressed hellox b := by
  match qs, h with
  | [a, b], _ => exact ⟨a, b, rfl, hk 0 a rfl, hk 1 b rfl⟩
set_option maxRecDepth 100000 in
set_option maxHeartbeats 4000000 in
theorem awake_any (w : World) : Calls Try.prog 4 #[] w fun e w1 => e = .returned (.bool true) ∧ Ext w w1 := by
  go_enter Try.func4, Try.ntmps4
  go_wp2_with fail
  refine (write_two 0 (by decide) none 0 _ (fun i h => absurd h (by omega))).mono ?_
  rintro e w1 ⟨qs, rfl, hE1, hl, hok⟩
  obtain rfl : qs = [] := List.eq_nil_of_length_eq_zero hl
  have KE1 := Kept.mk hE1
  have KP := Kept.mk plain_none
  have hS : (packedP 0 [] ++ Sha2.digest (packedP 0 [])).length = 40 := by rw [List.length_append, Sha2.digest_length]; rfl
  generalize packedP 0 [] ++ Sha2.digest (packedP 0 []) = S0 at KP hS ⊢
  have hSz : (strOf S0).size = 40 := by rw [strOf_size, hS]
  have hSS : ((strOf S0).toList == (strOf S0).toList) = true := by simp
  clear hl hok hE1 hS
  have KB := Kept.mk (Blk.new w1 42 [.int .i64 1, .string (strOf hello), .int .i64 1, .string (strOf hellox)])
  have KC : Kept (∀ i, i < 2 → ∃ b off, (some ⟨w1.heap.size, 0, none⟩ : Option Addr) = some ⟨b, off, none⟩ ∧ (w1.alloc (.cells #[.int .i64 1, .string ⟨#[104, 101, 108, 108, 111]⟩, .int .i64 1, .string ⟨#[104, 101, 108, 108, 111, 33]⟩] 42)).cell? ⟨b, off + i * 2, none⟩ = some (.int .i64 1) ∧ (w1.alloc (.cells #[.int .i64 1, .string ⟨#[104, 101, 108, 108, 111]⟩, .int .i64 1, .string ⟨#[104, 101, 108, 108, 111, 33]⟩] 42)).cell? ⟨b, off + i * 2 + 1, none⟩ = some (.string (strOf (txt i)))) := Kept.mk (fun i hi => by
    refine ⟨_, _, rfl, ?_⟩
    rcases (show i = 0 ∨ i = 1 by omega) with rfl | rfl
    · exact ⟨KB.out.cell 0, KB.out.cell 1⟩
    · exact ⟨KB.out.cell 2, KB.out.cell 3⟩)
  clear KB
  go_wp2_with fail
  refine (write_two 2 (by decide) (some ⟨w1.heap.size, 0, none⟩) 2 _ KC.out).mono ?_
  rintro e w2 ⟨qs, rfl, hE2, hl, hok⟩
  obtain ⟨a, b, rfl, ha, hb⟩ := two_of hl hok
  have hpl : (packedP 2 [a, b]).length ≤ 34 := by
    have := packed_len 2 [a, b] hok
    simpa using this
  have hR := read_packed [(hello, a), (hellox, b)] (by simp) (by
    intro p hp
    rcases List.mem_cons.1 hp with rfl | hp
    · exact ⟨ha, by show hello.length ≤ 1000; decide⟩
    · rw [List.mem_singleton] at hp; subst hp; exact ⟨hb, by show hellox.length ≤ 1000; decide⟩) (by
    show (packedP 2 [a, b]).length ≤ 900000
    omega)
  have hR : readP (packedP 2 [a, b] ++ Sha2.digest (packedP 2 [a, b])) = ([⟨1, hello⟩, ⟨1, hellox⟩], [0, 0], 0) := hR
  have hS : (packedP 2 [a, b] ++ Sha2.digest (packedP 2 [a, b])).length ≤ 66 := by rw [List.length_append, Sha2.digest_length]; omega
  have KE2 := Kept.mk ((KE1.out.trans (Ext.alloc _ _)).trans hE2)
  generalize packedP 2 [a, b] ++ Sha2.digest (packedP 2 [a, b]) = S2 at hR hS ⊢
  have KI := Kept.mk (readI_any S2 (by omega))
  have KR := Kept.mk hR
  clear hE2 hl hok ha hb hpl hR hS KC KE1
  go_wp2_with fail
  refine (KI.out _).mono ?_
  rintro e w3 ⟨v3, rfl, hE3, hB3⟩
  rw [KR.out] at hB3 ⊢
  have KE3 := Kept.mk (KE2.out.trans hE3)
  have KB3 := Kept.mk hB3
  obtain ⟨A3, c3, h3⟩ := hB3.form
  have h3 : v3 = .slice A3 2 c3 := h3
  subst h3
  clear hE3 hB3 KI KR KE2
  go_wp2_with fail
  refine (readI_any [68, 80, 75, 49] (by decide) _).mono ?_
  rintro e w4 ⟨v4, rfl, hE4, hB4⟩
  rw [read_short] at hB4 ⊢
  have KE4 := Kept.mk (KE3.out.trans hE4)
  have KB4 := Kept.mk (KB3.out.ext hE4)
  clear hE4 hB4 KE3 KB3
  go_wp2_with fail
  refine (KP.out _).mono ?_
  rintro e w5 ⟨rfl, hE5⟩
  have KE5 := Kept.mk (KE4.out.trans hE5)
  obtain ⟨b5, o5, h5, hc5⟩ := (KB4.out.ext hE5).at (by decide) (i := 1) (by decide)
  subst h5
  have c5 : w5.cell? ⟨b5, o5 + 2 + 1, none⟩ = some (.string (strOf hellox)) := hc5 1 _ rfl
  have hx : ((strOf hellox).toList == [104, 101, 108, 108, 111, 33]) = true := by rw [ByteArray.toList_eq, strOf_list]; rfl
  generalize strOf hellox = sx at c5 hx
  clear hE5 hc5 KE4 KB4 KP
  go_wp2_with fail
  go_ret
  exact ⟨by first | rfl | simp, KE5.out⟩
theorem body_len (its : List It) (chs : List Int) (k b : Int) (base : Nat) (s : List UInt8) : (bodyP its chs k b base s).its.length ≤ its.length + 1 := by
  unfold bodyP
  repeat' split
  all_goals simp [Pack.bad]
theorem item_len (its : List It) (chs : List Int) (s : List UInt8) : (itemP its chs s).its.length ≤ its.length + 1 := by
  unfold itemP
  repeat' split
  all_goals first
    | exact body_len _ _ _ _ _ _
    | simp [Pack.bad]
theorem run_len : ∀ (n : Nat) (its : List It) (chs : List Int) (s : List UInt8), (runP n its chs s).1.length ≤ its.length + n
  | 0, its, chs, s => by unfold runP; split <;> simp
  | n + 1, its, chs, s => by
    unfold runP
    split
    · have h1 := run_len n (itemP its chs s).its (itemP its chs s).chs (itemP its chs s).s
      have h2 := item_len its chs s
      omega
    · simp
theorem read_len (p : List UInt8) : (readP p).1.length ≤ 512 := by
  unfold readP
  repeat' split
  all_goals first
    | exact Nat.zero_le _
    | (have := run_len (val4 (p.drop 4)) [] [] ((p.take (p.length - 32)).drop 8)
       simp only [List.length_nil] at this
       omega)
theorem Buf.le {w : World} {B : Nat} {e : TypeId} {v : Value} {xs : List Value} (h : Buf w B e v xs) : xs.length ≤ 9223372036854775807 := by
  obtain ⟨A, cap, rfl, h1, h2, _⟩ := h
  simp only [maxLen] at h2
  omega
set_option maxRecDepth 100000 in
set_option maxHeartbeats 4000000 in
theorem reads_law (w : World) (s : ByteArray) (hs : s.size ≤ 9223372036854775807) : Calls Try.prog 3 #[.string s] w fun e w1 => e = .returned (.bool true) ∧ Below w.heap.size w w1 := by
  obtain ⟨l, rfl⟩ : ∃ l, s = strOf l := ⟨_, (strOf_self s).symm⟩
  have hlz := strOf_size l
  clear hs
  rcases (show 5000 < l.length ∨ l.length ≤ 5000 by omega) with h | h
  · have hI : (l.length : Int) > 5000 := by omega
    go_enter Try.func3, Try.ntmps3
    go_wp2_with fail
    refine (awake_any _).mono ?_
    rintro e w1 ⟨rfl, h1⟩
    go_wp2_with fail
    go_ret
    exact ⟨rfl, h1⟩
  · have hI : ¬ (l.length : Int) > 5000 := by omega
    go_enter Try.func3, Try.ntmps3
    go_wp2_with fail
    refine (awake_any _).mono ?_
    rintro e w1 ⟨rfl, h1⟩
    have KE1 := Kept.mk h1
    clear h1
    go_wp2_with fail
    refine (seal_any l (by omega) _).mono ?_
    rintro e w2 ⟨rfl, h2⟩
    have hl2 : (l ++ Sha2.digest l).length ≤ 5032 := by rw [List.length_append, Sha2.digest_length]; omega
    have KE2 := Kept.mk ((KE1.out.trans h2).trans (Ext.alloc w2 (.cells #[.string (strOf l), .string (strOf (l ++ Sha2.digest l))] 24)))
    have KB := Kept.mk (Blk.new w2 24 [.string (strOf l), .string (strOf (l ++ Sha2.digest l))])
    generalize l ++ Sha2.digest l = l2 at hl2 KE2 KB ⊢
    clear h2 KE1
    go_wp2_with fail
    generalize w2.heap.size = g at KB ⊢
    generalize w2.alloc (.cells #[.string (strOf l), .string (strOf l2)] 24) = wb at KB KE2 ⊢
    go_loopg [4] 2 (fun r iv wi => ∃ i : Nat, i + r = 2 ∧ iv = .int .i64 (i : Int) ∧ Ext wb wi)
    case atStart => exact ⟨0, rfl, rfl, Ext.refl _⟩
    case round =>
      obtain ⟨i, hr, rfl, hE⟩ := hrel
      have Kr := Kept.mk hr
      have KE := Kept.mk hE
      have hi2 : i ≤ 2 := by omega
      clear hr hE
      by_cases hlt : i < 2
      · obtain ⟨p, hp, c0⟩ : ∃ p : List UInt8, p.length ≤ 5032 ∧ wb.cell? ⟨g, i, none⟩ = some (.string (strOf p)) := by
          rcases (show i = 0 ∨ i = 1 by omega) with rfl | rfl
          · exact ⟨l, by omega, KB.out.cell 0⟩
          · exact ⟨l2, hl2, KB.out.cell 1⟩
        have c1 := KE.out.cell c0
        have hltI : (i : Int) < 2 := by omega
        have hi0I : (0 : Int) ≤ (i : Int) := by omega
        have KI := Kept.mk (readI_any p (by omega))
        have KC := Kept.mk (readC_any p (by omega))
        have KF := Kept.mk (refRead_any p (by omega))
        have hrl := read_len p
        have Kc0 := Kept.mk c0
        clear c0
        go_wp2_with fail
        refine (KI.out _).mono ?_
        rintro e w3 ⟨v3, rfl, hE3, hB3⟩
        have KE3 := Kept.mk (KE.out.trans hE3)
        have KB3 := Kept.mk hB3
        have c3 := KE3.out.cell Kc0.out
        clear hE3 hB3 KI KE
        go_wp2_with fail
        refine (KC.out _).mono ?_
        rintro e w4 ⟨v4, rfl, hE4, hB4⟩
        have KE4 := Kept.mk (KE3.out.trans hE4)
        have KB4 := Kept.mk (KB3.out.ext hE4)
        have KC4 := Kept.mk hB4
        have c4 := KE4.out.cell Kc0.out
        clear hE4 hB4 KC KE3 KB3 c3
        go_wp2_with fail
        refine (KF.out _).mono ?_
        rintro e w5 ⟨v5, v6, rfl, hE5, hB5, hC5⟩
        have KE5 := Kept.mk (KE4.out.trans hE5)
        have KB5 := Kept.mk (KB4.out.ext hE5)
        have KC5 := Kept.mk (KC4.out.ext hE5)
        have KM5 := Kept.mk hB5
        have KD5 := Kept.mk hC5
        clear hE5 hB5 hC5 KF KE4 KB4 KC4 c4
        generalize readP p = RP at hrl KB5 KC5 KM5 KD5 ⊢
        obtain ⟨ri, rc, re⟩ := RP
        simp only [] at hrl KB5 KC5 KM5 KD5 ⊢
        have hre : (re != re) = false := by simp
        go_wp2_with fail
        refine (of_any _ v3 ri (by omega) _ KB5.out).mono ?_
        rintro e w6 ⟨u, rfl, hU, hE6⟩
        have KE6 := Kept.mk (KE5.out.trans hE6)
        have KU := Kept.mk hU
        have KM6 := Kept.mk (KM5.out.ext hE6)
        have KC6 := Kept.mk (KC5.out.ext hE6)
        have KD6 := Kept.mk (KD5.out.ext hE6)
        clear hU hE6 KE5 KB5 KC5 KM5 KD5
        go_wp2_with fail
        refine (same_its _ _ u v5 ri (by omega) _ KU.out KM6.out).mono ?_
        rintro e w7 ⟨rfl, hE7⟩
        have KE7 := Kept.mk (KE6.out.trans hE7)
        have KC7 := Kept.mk (KC6.out.ext hE7)
        have KD7 := Kept.mk (KD6.out.ext hE7)
        have hxl := Buf.le KC7.out
        rw [ints_length] at hxl
        obtain ⟨A4, c4, h4⟩ := KC7.out.form
        obtain ⟨A6, c6, h6⟩ := KD7.out.form
        rw [ints_length] at h4 h6
        subst h4 h6
        clear hE7 KE6 KU KM6 KC6 KD6
        go_wp2_with fail
        refine (Work.same_any A4 rc.length c4 rc rfl hxl A6 rc.length c6 rc rfl hxl _ (Row.of_buf KC7.out) (Row.of_buf KD7.out)).mono ?_
        rintro e w8 ⟨rfl, hE8⟩
        rw [decide_eq_true rfl]
        have KE8 := Kept.mk (KE7.out.trans hE8)
        clear hE8 KE7 KC7 KD7 hxl
        go_wp2_with fail
        go_roundg (gk - 1)
        case measure => have := Kr.out; omega
        case rel => exact ⟨i + 1, by have := Kr.out; omega, by first | rfl | simp, KE8.out⟩
      · obtain rfl : i = 2 := by omega
        go_wp2_with fail
        go_ret
        exact ⟨rfl, KE2.out.trans KE.out⟩
end Pack
end Go.Proofs.Ytgnbbklnobladaa
