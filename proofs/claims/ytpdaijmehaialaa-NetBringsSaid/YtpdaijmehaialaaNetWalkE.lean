/- The walks of slices.IndexFunc and DeleteFunc at packets, of net's Empty. No condition. -/
import Derived.Test.YtpdaijmehaialaaNetWalkD
namespace Go.Proofs.Ytpdaijmehaialaa
open Go.RowKit
namespace Net
set_option linter.unusedSimpArgs false
set_option linter.unusedVariables false
def fv (bx : Nat) : Value := .func (.func 24) #[] #[.pointer (some ⟨bx, 0, none⟩)]
/-- The first place of such a packet, or none. -/
def idxP (i : Int) (l : List Pk) : Int := if l.findIdx (hitB i) < l.length then (l.findIdx (hitB i) : Int) else -1
theorem idxP_at {i : Int} {l : List Pk} {k : Nat} (hk : k < l.length) (h1 : ∀ j, j < k → hitB i (l.getD j noPk) = false) (h2 : hitB i (l.getD k noPk) = true) : idxP i l = (k : Int) := by
  have hf : l.findIdx (hitB i) = k := by
    rw [List.findIdx_eq hk]
    refine ⟨by rw [List.getD_eq_getElem?_getD, List.getElem?_eq_getElem hk] at h2; exact h2, fun j hj => ?_⟩
    have := h1 j hj
    rw [List.getD_eq_getElem?_getD, List.getElem?_eq_getElem (by omega)] at this
    exact this
  rw [idxP, hf, if_pos hk]
theorem idxP_none {i : Int} {l : List Pk} (h1 : ∀ j, j < l.length → hitB i (l.getD j noPk) = false) : idxP i l = -1 := by
  rw [idxP, if_neg]
  rw [List.findIdx_lt_length]
  rintro ⟨x, hx, hh⟩
  obtain ⟨j, hj, rfl⟩ := List.mem_iff_getElem.1 hx
  have := h1 j hj
  rw [List.getD_eq_getElem?_getD, List.getElem?_eq_getElem hj] at this
  simp at this
  rw [this] at hh
  cases hh
def IntX (w : World) (x : Int) (e : Ending) (w' : World) : Prop := e = .returned (.int .i64 x) ∧ Ext w w'
theorem buf_at {w : World} {B : Nat} {A : Option Addr} {n cap : Nat} {css : List (List Value)} (h : BufS 3 w B 34 (.slice A n cap) css) {i : Nat} (hi : i < css.length) {p : Pk} (hp : css[i]? = some (pk p)) :
    ∃ b off, A = some ⟨b, off, none⟩ ∧ w.cell? ⟨b, off + i * 3, none⟩ = some (.int .i64 p.f) ∧ w.cell? ⟨b, off + i * 3 + 1, none⟩ = some (.int .i64 p.t) ∧ w.cell? ⟨b, off + i * 3 + 2, none⟩ = some (.string (strOf p.b)) := by
  obtain ⟨b, off, e, hc⟩ := h.at (by decide) hi
  have c (j : Nat) (u : Value) (hu : (pk p)[j]? = some u) := hc j u (by rw [hp]; exact hu)
  exact ⟨b, off, e, c 0 _ rfl, c 1 _ rfl, c 2 _ rfl⟩
theorem pk_get {l : List Pk} {i : Nat} (hi : i < l.length) : (l.map pk)[i]? = some (pk (l.getD i noPk)) := by
  rw [List.getElem?_map, List.getElem?_eq_getElem hi, List.getD_eq_getElem?_getD, List.getElem?_eq_getElem hi]; rfl
set_option maxRecDepth 100000 in
set_option maxHeartbeats 2000000 in
theorem index_any (B : Nat) (A : Option Addr) (cap bx : Nat) (i : Int) (l : List Pk) (hl : l.length ≤ 100000) (w : World) (h : BufS 3 w B 34 (.slice A l.length cap) (l.map pk)) (hb : w.cell? ⟨bx, 0, none⟩ = some (.int .i64 i)) :
    Calls Try.prog 25 #[.slice A l.length cap, fv bx] w (IntX w (idxP i l)) := by
  have Kh := Kept.mk h
  have Kb := Kept.mk hb
  clear h hb
  show Calls _ _ #[_, .func (.func 24) #[] #[.pointer (some ⟨bx, 0, none⟩)]] _ _
  go_enter Try.func25, Try.ntmps25
  go_wp2_with fail
  go_loopg [8] l.length (fun r kv wi => ∃ k : Nat, k + r = l.length ∧ kv = .int .i64 (k : Int) ∧ (∀ j, j < k → hitB i (l.getD j noPk) = false) ∧ Ext w wi)
  case atStart => exact ⟨0, by omega, rfl, by simp, Ext.refl _⟩
  case round =>
    obtain ⟨k, hr, rfl, hh, hE⟩ := hrel
    have Kr := Kept.mk hr
    have Khh := Kept.mk hh
    have KE := Kept.mk hE
    have hkl : k ≤ l.length := by omega
    clear hr hh hE
    by_cases hlt : k < l.length
    · have hltI : (k : Int) < (l.length : Int) := by omega
      obtain ⟨b, off, rfl, p0, p1, p2⟩ := buf_at (Kh.out.ext KE.out) (by simpa using hlt) (pk_get hlt)
      obtain ⟨p, hp⟩ : ∃ p, p = l.getD k noPk := ⟨_, rfl⟩
      rw [← hp] at p0 p1 p2
      have Kp := Kept.mk hp
      clear hp
      go_wp2_with fail
      refine (hit_any bx i p wr (KE.out.cell Kb.out)).mono ?_
      rintro e w1 ⟨rfl, h1⟩
      have KE1 := Kept.mk (KE.out.trans h1)
      clear h1
      cases hhit : hitB i p with
      | true =>
        have Kh2 := Kept.mk hhit
        clear hhit
        go_wp2_with fail
        go_ret
        exact ⟨by rw [idxP_at hlt Khh.out (by rw [← Kp.out]; exact Kh2.out)]; rfl, KE1.out⟩
      | false =>
        have Kh2 := Kept.mk hhit
        clear hhit
        go_wp2_with fail
        go_roundg (gk - 1)
        case measure => have := Kr.out; omega
        case rel => exact ⟨k + 1, by have := Kr.out; omega, by first | rfl | simp, fun j hj => by
          rcases Nat.lt_or_ge j k with h | h
          · exact Khh.out j h
          · obtain rfl : j = k := by omega
            rw [← Kp.out]; exact Kh2.out, KE1.out⟩
    · have hltI : ¬ (k : Int) < (l.length : Int) := by omega
      go_wp2_with fail
      go_ret
      exact ⟨by rw [idxP_none (fun j hj => Khh.out j (by omega))]; rfl, KE.out⟩
theorem keep_eq (i : Int) (l : List Pk) : emptyP l i = l.filter (fun p => !hitB i p) := by
  unfold emptyP hitB
  congr 1
  funext p
  simp
def DelFE (w : World) (B : Nat) (A : Option Addr) (n cap : Nat) (l : List Pk) (e : Ending) (w' : World) : Prop :=
  e = .returned (.slice A l.length cap) ∧ BufS 3 w' B 34 (.slice A l.length cap) (l.map pk) ∧ Touch (own (.slice A n cap)) w w'
theorem take_succ_get (l : List Pk) (j : Nat) (hj : j < l.length) : l.take (j + 1) = l.take j ++ [l.getD j noPk] := by
  rw [List.take_succ_eq_append_getElem hj, List.getD_eq_getElem?_getD, List.getElem?_eq_getElem hj]; rfl
def put3o (w : World) (g o : Nat) (x y z : Value) : World := ((w.setCell ⟨g, o, none⟩ x).setCell ⟨g, o + 1, none⟩ y).setCell ⟨g, o + 2, none⟩ z
set_option maxRecDepth 100000 in
set_option maxHeartbeats 4000000 in
theorem deleteFunc_any (B : Nat) (A : Option Addr) (cap bx : Nat) (i : Int) (l : List Pk) (hl : l.length ≤ 100000) (w : World) (h : BufS 3 w B 34 (.slice A l.length cap) (l.map pk)) (hb : w.cell? ⟨bx, 0, none⟩ = some (.int .i64 i)) (hbo : bx ∉ own (.slice A l.length cap)) :
    Calls Try.prog 23 #[.slice A l.length cap, fv bx] w (DelFE w B A l.length cap (emptyP l i)) := by
  obtain ⟨iP, hiP, hzP, hsP, hbP⟩ := infoP
  obtain ⟨-, hcap, hmx⟩ := h.len
  have Kh := Kept.mk h
  have Kb := Kept.mk hb
  have KI := Kept.mk (index_any B A cap bx i l hl w h hb)
  have hke := keep_eq i l
  clear h hb
  show Calls _ _ #[_, .func (.func 24) #[] #[.pointer (some ⟨bx, 0, none⟩)]] _ _
  change Kept (Calls _ _ #[_, .func (.func 24) #[] #[.pointer (some ⟨bx, 0, none⟩)]] _ _) at KI
  by_cases hno : ∀ j, j < l.length → hitB i (l.getD j noPk) = false
  · have hid := idxP_none hno
    have hall : emptyP l i = l := by
      rw [hke]
      refine List.filter_eq_self.2 fun p hp => ?_
      obtain ⟨j, hj, rfl⟩ := List.mem_iff_getElem.1 hp
      have := hno j hj
      rw [List.getD_eq_getElem?_getD, List.getElem?_eq_getElem hj] at this
      simpa using this
    rw [hall]
    rw [hid] at KI
    clear hno hid hall hke
    go_enter Try.func23, Try.ntmps23
    go_wp2_with fail
    refine KI.out.mono ?_
    rintro e w1 ⟨rfl, h1⟩
    have K1 := Kept.mk h1
    clear h1
    go_wp2_with fail
    go_ret
    exact ⟨rfl, Kh.out.ext K1.out, Touch.of_ext K1.out⟩
  · obtain ⟨k0, hk0, hk1, hk2⟩ : ∃ k0, k0 < l.length ∧ hitB i (l.getD k0 noPk) = true ∧ ∀ j, j < k0 → hitB i (l.getD j noPk) = false := by
      have hex : ∃ p ∈ l, hitB i p = true := by
        apply Classical.byContradiction
        intro hc
        apply hno
        intro j hj
        cases hh : hitB i (l.getD j noPk) with
        | false => rfl
        | true => exact absurd ⟨l.getD j noPk, by rw [List.getD_eq_getElem?_getD, List.getElem?_eq_getElem hj]; exact List.getElem_mem _, hh⟩ hc
      have hlt := List.findIdx_lt_length.2 hex
      refine ⟨l.findIdx (hitB i), hlt, ?_, fun j hj => ?_⟩
      · rw [List.getD_eq_getElem?_getD, List.getElem?_eq_getElem hlt]
        exact List.findIdx_getElem
      · rw [List.getD_eq_getElem?_getD, List.getElem?_eq_getElem (by omega)]
        have := List.not_of_lt_findIdx hj
        simpa using this
    have hid := idxP_at hk0 hk2 hk1
    rw [hid] at KI
    obtain ⟨b, off, rfl, -⟩ := buf_at Kh.out (by simpa using hk0) (pk_get hk0)
    have Kst := Kept.mk (show (l.take (k0 + 1)).filter (fun p => !hitB i p) = l.take k0 by
      rw [take_succ_get l k0 hk0, List.filter_append, List.filter_eq_self.2]
      · simp only [List.filter_cons, hk1, Bool.not_true, Bool.false_eq_true, if_false, List.filter_nil, List.append_nil]
      · intro p hp
        obtain ⟨j, hj, rfl⟩ := List.mem_iff_getElem.1 hp
        rw [List.length_take] at hj
        have := hk2 j (by omega)
        rw [List.getD_eq_getElem?_getD, List.getElem?_eq_getElem (by omega)] at this
        simp only [List.getElem_take]
        simpa using this)
    have hk0I : ((k0 : Int) == -1) = false := by rw [beq_eq_false_iff_ne]; omega
    have hk0b : k0 ≤ 100000 := by omega
    have h63 : cap ≤ 9223372036854775807 := hmx
    rw [hke]
    have Kn := Kept.mk hno
    clear hno hid hk1 hk2 hke
    go_enter Try.func23, Try.ntmps23
    go_wp2_with fail
    refine KI.out.mono ?_
    rintro e w1 ⟨rfl, h1⟩
    have K1 := Kept.mk h1
    have Kh1 := Kept.mk (Kh.out.ext h1)
    have Kb1 := Kept.mk (h1.cell Kb.out)
    clear h1
    go_wp2_with fail
    go_loopg [5, 6] (l.length - (k0 + 1)) (fun r kv jv wi => ∃ (k j : Nat) (cs : List (List Value)), j + r = l.length ∧ k < j ∧ kv = .int .i64 (k : Int) ∧ jv = .int .i64 (j : Int) ∧ BufS 3 wi B 34 (.slice (some ⟨b, off, none⟩) l.length cap) cs ∧ cs.take k = ((l.take j).filter (fun p => !hitB i p)).map pk ∧ cs.drop j = (l.drop j).map pk ∧ Touch (own (.slice (some ⟨b, off, none⟩) l.length cap)) w wi)
    case atStart => exact ⟨k0, k0 + 1, l.map pk, by omega, by omega, rfl, by first | rfl | simp, Kh1.out, by rw [Kst.out, List.map_take], by rw [List.map_drop], Touch.of_ext K1.out⟩
    case round =>
      obtain ⟨k, j, cs, hr, hkj, rfl, rfl, hV, ht, hd, hT⟩ := hrel
      have Kcl := Kept.mk hV.len.1
      have KV := Kept.mk hV
      have Kt := Kept.mk ht
      have Kd := Kept.mk hd
      have KT := Kept.mk hT
      have Kr := Kept.mk hr
      have hjl : j ≤ l.length := by omega
      have hbw := (KT.out.cell Kb.out hbo)
      clear hr hV ht hd hT
      by_cases hlt : j < l.length
      · have hltI : (j : Int) < (l.length : Int) := by omega
        have hkI : (k : Int) < (l.length : Int) := by omega
        have hcj : cs[j]? = some (pk (l.getD j noPk)) := by
          have h1 : (cs.drop j)[0]? = cs[j]? := by rw [List.getElem?_drop, Nat.add_zero]
          rw [← h1, Kd.out, List.map_drop, List.getElem?_drop, Nat.add_zero]
          exact pk_get hlt
        obtain ⟨b', off', he, p0, p1, p2⟩ := buf_at KV.out (by have := Kcl.out; omega) hcj
        injection he with he
        injection he with e1 e2
        subst e1 e2
        obtain ⟨p, hp⟩ : ∃ p, p = l.getD j noPk := ⟨_, rfl⟩
        rw [← hp] at p0 p1 p2
        have Kp := Kept.mk hp
        have hEz := Ext.alloc wr (.cells #[.int .i64 p.f, .int .i64 p.t, .string (strOf p.b)] 34)
        have hR2 : Blk (wr.alloc (.cells #[.int .i64 p.f, .int .i64 p.t, .string (strOf p.b)] 34)) wr.heap.size 34 [.int .i64 p.f, .int .i64 p.t, .string (strOf p.b)] := Blk.new _ _ _
        have KEz := Kept.mk hEz
        have KR2 := Kept.mk hR2
        clear hp hcj hEz hR2
        go_wp2_with fail
        refine (hit_any bx i p _ (KEz.out.cell hbw)).mono ?_
        rintro e w2 ⟨rfl, h2⟩
        have KE2 := Kept.mk (KEz.out.trans h2)
        have hR3 := KR2.out.ext h2
        have r20 := hR3.cell 0
        have r21 := hR3.cell 1
        have r22 := hR3.cell 2
        simp only [List.getElem?_cons_zero, List.getElem?_cons_succ] at r20 r21 r22
        have KV2 := Kept.mk (KV.out.ext KE2.out)
        have KT2 := Kept.mk (KT.out.trans (Touch.of_ext (S := []) KE2.out) (by simp))
        clear h2 hR3
        cases hhit : hitB i p with
        | true =>
          have Kh2 := Kept.mk hhit
          clear hhit
          go_wp2_with fail
          go_roundg (gk - 1)
          case measure => have := Kr.out; omega
          case rel => exact ⟨k, j + 1, cs, by have := Kr.out; omega, by omega, rfl, by first | rfl | simp, KV2.out, by
            rw [take_succ_get l j hlt, ← Kp.out, List.filter_append, List.map_append, ← Kt.out]
            simp only [List.filter_cons, Kh2.out, Bool.not_true, Bool.false_eq_true, if_false, List.filter_nil, List.map_nil, List.append_nil], by
            have := congrArg (List.drop 1) Kd.out
            rw [List.drop_drop, ← List.map_drop, List.drop_drop] at this
            exact this, KT2.out⟩
        | false =>
          have Kh2 := Kept.mk hhit
          clear hhit
          obtain ⟨q0, s0, f0⟩ := KV2.out.slot (i := k) (j := 0) (by have := Kcl.out; omega) (by decide)
          obtain ⟨q1, s1, f1⟩ := KV2.out.slot (i := k) (j := 1) (by have := Kcl.out; omega) (by decide)
          obtain ⟨q2, s2, f2⟩ := KV2.out.slot (i := k) (j := 2) (by have := Kcl.out; omega) (by decide)
          rw [Nat.add_zero] at s0 f0
          have hkn : k < cs.length := by have := Kcl.out; omega
          have hset := KV2.out.set (by decide) k hkn (pk p) rfl
          have ht3 := touch_setCells b (pk p) (off + k * 3) w2
          have Kset := Kept.mk hset
          have Kt3 := Kept.mk (KT2.out.trans ht3 (fun j hj => .inl hj))
          have Kpre := Kept.mk (show (cs.set k (pk p)).take (k + 1) = ((l.take (j + 1)).filter (fun p => !hitB i p)).map pk by
            rw [take_succ_get l j hlt, ← Kp.out, List.filter_append, List.map_append, ← Kt.out, List.filter_cons, Kh2.out]
            simp only [Bool.not_false, if_true, List.filter_nil, List.map_cons, List.map_nil]
            rw [List.take_succ_eq_append_getElem (by rw [List.length_set]; exact hkn), List.getElem_set_self, List.take_set_of_le (Nat.le_refl k)])
          have Kpost := Kept.mk (show (cs.set k (pk p)).drop (j + 1) = (l.drop (j + 1)).map pk by
            rw [List.drop_set_of_lt (by omega)]
            have := congrArg (List.drop 1) Kd.out
            rw [List.drop_drop, ← List.map_drop, List.drop_drop] at this
            exact this)
          have hks : w2.setCells b (off + k * 3) (pk p) = put3o w2 b (off + k * 3) (.int .i64 p.f) (.int .i64 p.t) (.string (strOf p.b)) := rfl
          rw [hks] at Kset Kt3
          clear hset ht3 hkn hks
          go_wp2_with fail
          go_roundg (gk - 1)
          case measure => have := Kr.out; omega
          case rel => exact ⟨k + 1, j + 1, cs.set k (pk p), by have := Kr.out; omega, by omega, by first | rfl | simp, by first | rfl | simp, Kset.out, Kpre.out, Kpost.out, Kt3.out⟩
      · have hltI : ¬ (j : Int) < (l.length : Int) := by omega
        have hkI : (k : Int) < (l.length : Int) := by have := Kr.out; omega
        have hkn : k < l.length := by have := Kr.out; omega
        have hkcap : ¬ cap = k := by omega
        have hkc : k ≤ cap := by omega
        have hkl2 : k ≤ l.length := by omega
        have Kend := Kept.mk (show cs.take k = (l.filter (fun p => !hitB i p)).map pk by
          rw [Kt.out, List.take_of_length_le (by omega)])
        have hkf : k = (l.filter (fun p => !hitB i p)).length := by
          have := congrArg List.length Kend.out
          rw [List.length_take, List.length_map] at this
          have := Kcl.out
          omega
        have KF := Kept.mk (KV.out.front k (by have := Kcl.out; omega))
        obtain ⟨cs0, hb0, hl0, -⟩ := KV.out.blk (by omega)
        have Kb0 := Kept.mk hb0
        have hcs2 : off + k * 3 + (l.length - k) * 3 ≤ cs0.length := by omega
        have hlk : 0 < l.length - k := by omega
        have Kkf := Kept.mk hkf
        clear hb0 hkf
        go_wp2_with (refine wpList_clearS (P := Try.prog) _ rfl (.tmp 38) 39 rfl 3 (by decide) 34 iP _ Try.underlying39 hiP hzP rfl (by simp [Value.cells, Value.oneCell']) b (off + k * 3) (l.length - k) (cap - k) rfl cs0 34 Kb0.out hlk hcs2 ?_)
        intro zs hzs
        have hzl : off + k * 3 + zs.length ≤ off + cap * 3 := by omega
        have Kf := Kept.mk (KF.out.behind (off + k * 3) zs (Nat.le_refl _) hzl)
        have Ktf := Kept.mk (KT.out.trans (touch_setCells b zs (off + k * 3) wr) (fun j hj => .inl hj))
        clear hzs hzl hcs2 hlk
        go_wp2_with fail
        go_ret
        refine ⟨by rw [← Kkf.out]; rfl, ?_, Ktf.out⟩
        rw [← Kkf.out, ← Kend.out]
        exact Kf.out
end Net
end Go.Proofs.Ytpdaijmehaialaa
