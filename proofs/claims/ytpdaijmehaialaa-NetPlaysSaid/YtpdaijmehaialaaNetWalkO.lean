/- The walk of the document's Do: a side is emptied; all of it. No condition. -/
import Derived.Test.YtpdaijmehaialaaNetWalkN
namespace Go.Proofs.Ytpdaijmehaialaa
open Go.RowKit Go.ChangeShapes Go.WideShapes
namespace Net
set_option linter.unusedSimpArgs false
set_option linter.unusedVariables false
set_option maxRecDepth 100000 in
set_option maxHeartbeats 4000000 in
theorem ref_empty (B : Nat) (places : Int) (A : Option Addr) (c : Nat) (l : List Pk) (hl : l.length ≤ 100000) (hb : ∀ p ∈ l, p.b.length ≤ 1048576) (a : Act) (ha : ActOk a) (hk : a.k = 5) (w : World) (hB : B ≤ w.heap.size) (h : BufS 3 w B 31 (.slice A l.length c) (l.map pk)) :
    Calls Try.prog 15 #[.slice A l.length c, .int .i64 places, .agg (actV a).toArray] w (RefE w B (.slice A l.length c) (doP places l a)) := by
  obtain ⟨iR, hiR, hzR, hsR, hbR⟩ := infoR
  have hdo : doP places l a = (emptyP l a.i, noPk, false, (l.length : Int) - (emptyP l a.i).length) := by unfold doP; rw [if_neg (by omega), if_neg (by omega), if_neg (by omega), if_neg (by omega), if_neg (by omega), if_pos hk]
  rw [hdo]
  clear hdo
  obtain ⟨k, ⟨f, t, b⟩, i, at', turn⟩ := a
  obtain ⟨hab, hat0, hat1⟩ := ha
  simp only [] at hk hab hat0 hat1
  subst hk
  obtain ⟨L2, hL2⟩ : ∃ L2, L2 = emptyP l i := ⟨_, rfl⟩
  simp only []
  rw [← hL2]
  have KL2 := Kept.mk hL2
  clear hL2
  have hbz := strOf_size b
  have hvo := fun j hj => (h.owns j hj).2
  have Kvo := Kept.mk hvo
  have hE1 := Ext.alloc w (.cells #[.int .i64 5, .int .i64 f, .int .i64 t, .string (strOf b), .int .i64 i, .int .i64 at', .int .u8 turn] 33)
  have hX : Blk (w.alloc (.cells #[.int .i64 5, .int .i64 f, .int .i64 t, .string (strOf b), .int .i64 i, .int .i64 at', .int .u8 turn] 33)) w.heap.size 33 [.int .i64 5, .int .i64 f, .int .i64 t, .string (strOf b), .int .i64 i, .int .i64 at', .int .u8 turn] := Blk.new _ _ _
  have hs1 : (w.alloc (.cells #[.int .i64 5, .int .i64 f, .int .i64 t, .string (strOf b), .int .i64 i, .int .i64 at', .int .u8 turn] 33)).heap.size = w.heap.size + 1 := by simp
  have hs2 : ((w.alloc (.cells #[.int .i64 5, .int .i64 f, .int .i64 t, .string (strOf b), .int .i64 i, .int .i64 at', .int .u8 turn] 33)).alloc (.cells #[.int .i64 0, .int .i64 0, (.string (ByteArray.mk #[]))] 31)).heap.size = w.heap.size + 2 := by simp
  have KX := Kept.mk (show Blk ((w.alloc (.cells #[.int .i64 5, .int .i64 f, .int .i64 t, .string (strOf b), .int .i64 i, .int .i64 at', .int .u8 turn] 33)).alloc (.cells #[.int .i64 0, .int .i64 0, (.string (ByteArray.mk #[]))] 31)) _ _ _ from hX.ext (Ext.alloc _ _))
  have KE := Kept.mk (show Ext w ((w.alloc (.cells #[.int .i64 5, .int .i64 f, .int .i64 t, .string (strOf b), .int .i64 i, .int .i64 at', .int .u8 turn] 33)).alloc (.cells #[.int .i64 0, .int .i64 0, (.string (ByteArray.mk #[]))] 31)) from hE1.trans (Ext.alloc _ _))
  have KR := Kept.mk (show Blk ((w.alloc (.cells #[.int .i64 5, .int .i64 f, .int .i64 t, .string (strOf b), .int .i64 i, .int .i64 at', .int .u8 turn] 33)).alloc (.cells #[.int .i64 0, .int .i64 0, (.string (ByteArray.mk #[]))] 31)) (w.alloc (.cells #[.int .i64 5, .int .i64 f, .int .i64 t, .string (strOf b), .int .i64 i, .int .i64 at', .int .u8 turn] 33)).heap.size _ [.int .i64 0, .int .i64 0, (.string (ByteArray.mk #[]))] from Blk.new (w.alloc (.cells #[.int .i64 5, .int .i64 f, .int .i64 t, .string (strOf b), .int .i64 i, .int .i64 at', .int .u8 turn] 33)) 31 [.int .i64 0, .int .i64 0, (.string (ByteArray.mk #[]))])
  rw [hs1] at KR
  have x0 := KX.out.cell 0
  have x1 := KX.out.cell 1
  have x2 := KX.out.cell 2
  have x3 := KX.out.cell 3
  have x4 := KX.out.cell 4
  have x5 := KX.out.cell 5
  have x6 := KX.out.cell 6
  simp only [List.getElem?_cons_zero, List.getElem?_cons_succ] at x0 x1 x2 x3 x4 x5 x6
  have KV := Kept.mk (show BufS 3 ((w.alloc (.cells #[.int .i64 5, .int .i64 f, .int .i64 t, .string (strOf b), .int .i64 i, .int .i64 at', .int .u8 turn] 33)).alloc (.cells #[.int .i64 0, .int .i64 0, (.string (ByteArray.mk #[]))] 31)) B 31 (.slice A l.length c) (l.map pk) from h.ext KE.out)
  have Khb := Kept.mk hb
  obtain ⟨⟨r10, r11, r12⟩, r1f, r1g, r1h⟩ := Blk.three KR.out
  change Calls _ _ #[_, _, .agg #[.int .i64 5, .int .i64 f, .int .i64 t, .string (strOf b), .int .i64 i, .int .i64 at', .int .u8 turn]] _ _
  have Khs := Kept.mk hs2
  clear h hb hE1 hX hs1 hs2 hvo
  go_enter Try.func15, Try.ntmps15
  go_upto_region 1 with fail
  generalize ((w.alloc (.cells #[.int .i64 5, .int .i64 f, .int .i64 t, .string (strOf b), .int .i64 i, .int .i64 at', .int .u8 turn] 33)).alloc (.cells #[.int .i64 0, .int .i64 0, (.string (ByteArray.mk #[]))] 31)) = wq at KE KX KR KV Khs x0 x1 x2 x3 x4 x5 x6 r10 r11 r12 r1f r1g r1h ⊢
  go_cut [10] (fun s10 wx => s10 = .bool (thereB l i) ∧ wq = wx)
  case first =>
    rcases (show i < 0 ∨ (0 ≤ i ∧ i < (l.length : Int)) ∨ (0 ≤ i ∧ ¬ i < (l.length : Int)) by omega) with hi | ⟨hi0, hi1⟩ | ⟨hi0, hi1⟩
    · have hth : thereB l i = false := by simp [thereB]; omega
      have Kth := Kept.mk hth
      clear hth
      go_wp2_with fail
      go_meet
      exact ⟨by rw [Kth.out], rfl⟩
    · have hth : thereB l i = true := by simp [thereB]; omega
      have Kth := Kept.mk hth
      clear hth
      go_wp2_with fail
      go_meet
      exact ⟨by rw [Kth.out], rfl⟩
    · have hth : thereB l i = false := by simp [thereB]; omega
      have Kth := Kept.mk hth
      clear hth
      go_wp2_with fail
      go_meet
      exact ⟨by rw [Kth.out], rfl⟩
  case rest =>
  obtain ⟨rfl, rfl⟩ := hcut
  generalize thereB l i = th
  have hBq : wq.heap.size ≤ wq.heap.size := Nat.le_refl _
  go_wp2_with fail
  go_loopg [15, 16] l.length (fun r ov iv wi => ∃ (j : Nat) (A2 : Option Addr) (c2 n : Nat), j + r = l.length ∧ ov = .slice A2 n c2 ∧ iv = .int .i64 (j : Int) ∧ n = ((l.take j).filter (fun p => decide (p.f ≠ i ∧ p.t ≠ i))).length ∧ BufS 3 wi wq.heap.size 31 (.slice A2 n c2) (((l.take j).filter (fun p => decide (p.f ≠ i ∧ p.t ≠ i))).map pk) ∧ Ext wq wi)
  case atStart => exact ⟨0, none, 0, 0, by omega, rfl, rfl, by simp, BufS.nil _ _ _ _, Ext.refl _⟩
  case round =>
    obtain ⟨j, A2, c2, n, hr, rfl, rfl, hn, hV, hE⟩ := hrel
    obtain ⟨F, hF⟩ : ∃ F, F = (l.take j).filter (fun p => decide (p.f ≠ i ∧ p.t ≠ i)) := ⟨_, rfl⟩
    rw [← hF] at hn hV
    have Kr := Kept.mk hr
    have Kn := Kept.mk hn
    have KV2 := Kept.mk hV
    have KEq := Kept.mk hE
    have hjl : j ≤ l.length := by omega
    have hnb : n ≤ 100000 := by
      rw [hn, hF]
      exact Nat.le_trans (List.length_filter_le _ _) (by rw [List.length_take]; omega)
    have KFf := Kept.mk hF
    have hBw : wq.heap.size ≤ wr.heap.size := Ext.size hE
    have y4 := hE.cell x4
    clear hr hn hV hE hF
    by_cases hlt : j < l.length
    · have hltI : (j : Int) < (l.length : Int) := by omega
      obtain ⟨p, hp⟩ : ∃ p, p = l.getD j noPk := ⟨_, rfl⟩
      have hpk := pk_get hlt
      rw [← hp] at hpk
      obtain ⟨b5, o5, rfl, p0, p1, p2⟩ := buf_atR (KV.out.ext KEq.out) (i := j) (by simpa using hlt) hpk
      have Kst := Kept.mk (take_succ_get l j hlt)
      rw [← hp] at Kst
      clear hp hpk
      by_cases h1 : p.f = i
      · have h1b : (p.f == i) = true := by simpa using h1
        have h1c : (p.f != i) = false := by simpa using h1
        have Kno := Kept.mk (show ¬ (p.f ≠ i ∧ p.t ≠ i) from fun h => h.1 h1)
        clear h1
        go_wp2_with fail
        go_quiet (fail)
        go_wp2_with fail
        go_roundg (gk - 1)
        case measure => have := Kr.out; omega
        case rel => exact ⟨j + 1, A2, c2, n, by have := Kr.out; omega, rfl, by first | rfl | simp, by rw [Kst.out, List.filter_append, List.filter_cons, if_neg (by simpa using Kno.out), List.filter_nil, List.append_nil, ← KFf.out]; exact Kn.out, by rw [Kst.out, List.filter_append, List.filter_cons, if_neg (by simpa using Kno.out), List.filter_nil, List.append_nil, ← KFf.out]; exact KV2.out.ext (Ext.drewN _ _), KEq.out.trans (Ext.drewN _ _)⟩
      · have h1b : (p.f == i) = false := by simpa using h1
        have h1c : (p.f != i) = true := by simpa using h1
        by_cases h2 : p.t = i
        · have h2b : (p.t == i) = true := by simpa using h2
          have h2c : (p.t != i) = false := by simpa using h2
          have Kno := Kept.mk (show ¬ (p.f ≠ i ∧ p.t ≠ i) from fun h => h.2 h2)
          clear h1 h2
          go_wp2_with fail
          go_quiet (fail)
          go_wp2_with fail
          go_roundg (gk - 1)
          case measure => have := Kr.out; omega
          case rel => exact ⟨j + 1, A2, c2, n, by have := Kr.out; omega, rfl, by first | rfl | simp, by rw [Kst.out, List.filter_append, List.filter_cons, if_neg (by simpa using Kno.out), List.filter_nil, List.append_nil, ← KFf.out]; exact Kn.out, by rw [Kst.out, List.filter_append, List.filter_cons, if_neg (by simpa using Kno.out), List.filter_nil, List.append_nil, ← KFf.out]; exact KV2.out.ext (Ext.drewN _ _), KEq.out.trans (Ext.drewN _ _)⟩
        · have h2b : (p.t == i) = false := by simpa using h2
          have h2c : (p.t != i) = true := by simpa using h2
          have Kyes := Kept.mk (show (p.f ≠ i ∧ p.t ≠ i) from ⟨h1, h2⟩)
          clear h1 h2
          go_wp2_with fail
          go_quiet (fail)
          have KVd := Kept.mk (KV2.out.ext (Ext.drewN wr nq))
          have KEd := Kept.mk (KEq.out.trans (Ext.drewN wr nq))
          have p0' : (wr.drewN nq).cell? ⟨b5, o5 + j * 3, none⟩ = _ := p0
          have p1' : (wr.drewN nq).cell? ⟨b5, o5 + j * 3 + 1, none⟩ = _ := p1
          have p2' : (wr.drewN nq).cell? ⟨b5, o5 + j * 3 + 2, none⟩ = _ := p2
          have hBd : wq.heap.size ≤ (wr.drewN nq).heap.size := Ext.size KEd.out
          generalize wr.drewN nq = wd at *
          go_wp2_with (refine wpList_append_litS (P := Try.prog) wd rfl (.tmp 192) (.tmp 197) 44 rfl 3 (by decide) 31 iR _ Try.underlying44 hiR hzR hsR rfl wq.heap.size (.slice A2 n c2) (F.map pk) rfl KVd.out [.int .i64 p.f, .int .i64 p.t, .string (strOf p.b)] rfl rfl (by simp [Value.oneCell']) hBd (by rw [List.length_map, ← Kn.out]; simp only [maxLen]; omega) (by rw [List.length_map, ← Kn.out, hbR]; omega) ?_)
          intro v6 w6 hV6 hT6 ho6
          have hmap : F.map pk ++ [[Value.int .i64 p.f, Value.int .i64 p.t, Value.string (strOf p.b)]] = ((l.take (j + 1)).filter (fun p => decide (p.f ≠ i ∧ p.t ≠ i))).map pk := by
            rw [Kst.out, List.filter_append, List.filter_cons, if_pos (by simpa using Kyes.out), List.filter_nil, List.map_append, ← KFf.out]; rfl
          rw [hmap] at hV6
          have hlen : (((l.take (j + 1)).filter (fun p => decide (p.f ≠ i ∧ p.t ≠ i))).map pk).length = n + 1 := by
            rw [← hmap, List.length_append, List.length_map, ← Kn.out]; rfl
          obtain ⟨A6, c6, rfl⟩ := hV6.form
          rw [hlen] at hV6 ⊢
          have KV6 := Kept.mk hV6
          have KE6 := Kept.mk (show Ext wq w6 from Touch.below KEd.out hT6 (fun jj hj => (KVd.out.owns jj hj).1) hBd)
          have Kl6 := Kept.mk hlen
          clear hV6 hT6 ho6 hmap hlen
          go_wp2_with fail
          go_roundg (gk - 1)
          case measure => have := Kr.out; omega
          case rel => exact ⟨j + 1, A6, c6, n + 1, by have := Kr.out; omega, rfl, by first | rfl | simp, by rw [← Kl6.out, List.length_map], KV6.out, KE6.out⟩
    · have hltI : ¬ (j : Int) < (l.length : Int) := by omega
      have hLn : n = L2.length := by
        rw [Kn.out, KFf.out, KL2.out, List.take_of_length_le (by omega)]
        rfl
      have hVL : BufS 3 wr wq.heap.size 31 (.slice A2 n c2) (L2.map pk) := by
        have h := KV2.out
        rw [KFf.out, List.take_of_length_le (by omega)] at h
        rw [KL2.out]
        exact h
      have hR2 := KR.out.ext KEq.out
      obtain ⟨⟨t10, t11, t12⟩, t1f, t1g, t1h⟩ := Blk.three hR2
      have KF := Kept.mk (ref_end KE.out KEq.out (Nat.le_succ _) hLn (hVL.lower (show B ≤ wq.heap.size by have := Khs.out; omega)) (fun hm => by have := (hVL.owns (w.heap.size + 1) hm).1; have := Khs.out; omega) (v0 := .slice A l.length c) (fun j hj => .inr (by have := (hVL.owns j hj).1; have := Khs.out; omega)) hR2 (.int .i64 0) (.int .i64 0) (.string (ByteArray.mk #[])))
      have KLn := Kept.mk hLn
      have hnl : (n : Int) ≤ (l.length : Int) := by
        rw [hLn, KL2.out]
        have := List.length_filter_le (fun p : Pk => decide (p.f ≠ i ∧ p.t ≠ i)) l
        unfold emptyP
        omega
      clear hLn hVL hR2
      go_wp2_with fail
      obtain ⟨hN3⟩ := KLn
      subst hN3
      change bodyPost _ _ _ _ _ (put3 _ (w.heap.size + 1) (.int .i64 0) (.int .i64 0) (.string (ByteArray.mk #[])))
      obtain ⟨n1, n2, n4, n5⟩ := KF.out
      obtain ⟨⟨f0, f1, f2⟩, -⟩ := Blk.three n4
      exact bodyPost_ret (v := .tuple #[.slice A2 (L2.length) c2, .agg #[(.int .i64 0), (.int .i64 0), (.string (ByteArray.mk #[]))], .bool false, .int .i64 ((l.length : Int) - L2.length)]) (by simp [results, Try.results15, go_sem, f0, f1, f2]) rfl ⟨A2, c2, rfl, n1, n2, n5⟩
theorem refDo_any (B : Nat) (places : Int) (A : Option Addr) (c : Nat) (l : List Pk) (hl : l.length ≤ 100000) (hb : ∀ p ∈ l, p.b.length ≤ 1048576) (a : Act) (ha : ActOk a) (w : World) (hB : B ≤ w.heap.size) (h : BufS 3 w B 31 (.slice A l.length c) (l.map pk)) :
    Calls Try.prog 15 #[.slice A l.length c, .int .i64 places, .agg (actV a).toArray] w (RefE w B (.slice A l.length c) (doP places l a)) := by
  rcases (show a.k = 0 ∨ a.k = 1 ∨ a.k = 2 ∨ a.k = 3 ∨ a.k = 4 ∨ a.k = 5 ∨ (a.k < 0 ∨ 5 < a.k) by omega) with hk | hk | hk | hk | hk | hk | hk
  · by_cases hf : places ≤ (l.length : Int) ∨ 1048576 < (a.p.b.length : Int)
    · exact ref_full B places A c l hl hb a ha hk hf w hB h
    · exact ref_add B places A c l hl hb a ha hk hf w hB h
  · cases hth : thereB l a.i with
    | false => exact ref_gone1 B places A c l hl hb a ha hk hth w hB h
    | true => exact ref_take B places A c l hl hb a ha hk hth w hB h
  · cases hth : thereB l a.i with
    | false => exact ref_gone2 B places A c l hl hb a ha hk hth w hB h
    | true => exact ref_lose B places A c l hl hb a ha hk hth w hB h
  · cases hth : thereB l a.i with
    | false => exact ref_dno B places A c l hl hb a ha hk (.inl hth) w hB h
    | true =>
      by_cases hf : places ≤ (l.length : Int)
      · exact ref_dno B places A c l hl hb a ha hk (.inr hf) w hB h
      · exact ref_dadd B places A c l hl hb a ha hk hth hf w hB h
  · by_cases hno : thereB l a.i = false ∨ a.turn = 0 ∨ (l.getD a.i.toNat noPk).b = []
    · exact ref_sno B places A c l hl hb a ha hk hno w hB h
    · simp only [not_or] at hno
      exact ref_spoil B places A c l hl hb a ha hk (by simpa using hno.1) hno.2.1 hno.2.2 w hB h
  · exact ref_empty B places A c l hl hb a ha hk w hB h
  · exact ref_other B places A c l hl hb a ha hk w hB h
end Net
end Go.Proofs.Ytpdaijmehaialaa
