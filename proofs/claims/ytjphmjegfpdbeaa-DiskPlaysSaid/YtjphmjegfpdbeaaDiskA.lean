/- The disk in memory; the walks of taken and do. No condition. -/
import Derived.Test.YtjphmjegfpdbeaaDiskPlain
import Derived.Test.YtjphmjegfpdbeaaProg
import Derived.Test.YtjphmjegfpdbeaaBufSet
import Derived.BigQuiet
import Derived.IntWalk
import Derived.Deep.DeepCutAuto
namespace Go.Proofs.Ytjphmjegfpdbeaa
open Go.RowKit
namespace Disk
open Str
set_option linter.unusedSimpArgs false
set_option linter.unusedVariables false
theorem keySok : KeyOk Try.prog 9 strK := strK_ok Try.underlying9
theorem zeroS (w : World) : (zeroValue 9).run Try.prog w = .ok (.string ByteArray.empty) w := by kernel_rfl
/-- The block b is a map of these files. -/
def FMap (w : World) (b : Nat) (L : List F) : Prop := Up L ∧ ∃ l, MapOf strK strK w b l ∧ l.Perm L
theorem FMap.lt {w : World} {b : Nat} {L : List F} (h : FMap w b L) : b < w.heap.size := by obtain ⟨_, l, h, _⟩ := h; exact h.lt
theorem FMap.touch {S : List Nat} {w w' : World} {b : Nat} {L : List F} (h : FMap w b L) (k : Touch S w w') (hS : b ∉ S) : FMap w' b L := by
  obtain ⟨h1, l, h2, h3⟩ := h
  exact ⟨h1, l, h2.touch k hS, h3⟩
theorem FMap.ext {w w' : World} {b : Nat} {L : List F} (h : FMap w b L) (k : Ext w w') : FMap w' b L := h.touch (Touch.of_ext (S := []) k) (by simp)
/-- What a file's text is. -/
theorem FMap.look {w : World} {b : Nat} {L : List F} (h : FMap w b L) (p : S) : (Instr.lookup 70 (.map (some b)) (.string (strOf p)) true).run Try.prog w = .ok (.tuple #[.string (strOf ((getK L p).getD [])), .bool (getK L p).isSome]) w := by
  obtain ⟨h1, l, h2, h3⟩ := h
  have hl := h2.look_ok (P := Try.prog) keySok Try.underlying70 (zeroS w) p
  rw [getK_perm h3 h1.nodup] at hl
  cases hg : getK L p <;> rw [hg] at hl <;> exact hl
theorem FMap.len {w : World} {b : Nat} {L : List F} (h : FMap w b L) (ty : TypeId) : (Builtin.len_ #[70] ty #[.map (some b)]).run Try.prog w = .ok (.int .i64 (L.length : Int)) w := by
  obtain ⟨h1, l, h2, h3⟩ := h
  have hl := h2.len (P := Try.prog) Try.underlying70 ty
  rw [h3.length_eq] at hl
  exact hl
theorem FMap.made (w : World) : FMap (w.alloc (.map #[] 0)) w.heap.size [] := ⟨by simp [Up], [], MapOf.made w, List.Perm.refl _⟩
/-- Such a map and a row of cells never meet. -/
theorem FMap.ne {w : World} {b g : Nat} {L : List F} {T : TypeId} {xs : List Value} (h : FMap w b L) (k : BlkZ w g T xs) : b ≠ g := by
  rintro rfl
  obtain ⟨_, l, ⟨es, c, hb, _⟩, _⟩ := h
  obtain ⟨fz, hg, _⟩ := k
  rw [hb] at hg
  cases hg
set_option maxRecDepth 100000 in
set_option maxHeartbeats 2000000 in
theorem taken_any (w : World) (b : Nat) (L : List F) (n : Nat) (h : FMap w b L) (hb : Bd n L) (hn : n ≤ 1048576) :
    Calls Try.prog 35 #[.map (some b)] w fun e w' => e = .returned (.int .i64 (takenP L : Int)) ∧ Ext w w' := by
  obtain ⟨hu, l, hm, hp⟩ := h
  have KM := Kept.mk hm
  have KT := Kept.mk (taken_perm hp)
  have Kr0 := Kept.mk (Nat.le_refl w.heap.size)
  have hT := hb.taken
  have hT2 : takenP L ≤ 4503599627370496 := by omega
  clear hm hp hu hb hT
  generalize takenP L = tL at *
  go_enter Try.func35, Try.ntmps35
  go_wp2_with (refine wpList_range_of (kv := strK) (ev := strK) w rfl (.tmp 6) 70 rfl 9 9 Try.underlying70 b l KM.out rfl ?_)
  intro w1 hi hE hs
  have KI := Kept.mk (And.intro hi hE)
  clear hi hE hs
  generalize hr0 : w.heap.size = r0 at KI Kr0 ⊢
  have Kr0 := Kept.mk (show w.heap.size ≤ r0 from by rw [hr0]; exact Nat.le_refl _)
  clear hr0
  go_wp2_with fail
  go_loopg [3] l.length (fun r nv wi => ∃ (todo : List F) (s : Nat), todo.length = r ∧ nv = .int .i64 (s : Int) ∧ s + takenP todo = tL ∧ Kept (IterOf strK strK wi b r0 l todo ∧ Ext w wi))
  case atStart => exact ⟨l, 0, rfl, rfl, by rw [KT.out]; omega, KI⟩
  case round =>
    obtain ⟨todo, s, hr, rfl, hsum, KK⟩ := hrel
    have Kr := Kept.mk hr
    have Ks := Kept.mk hsum
    clear hr hsum
    go_wp2_with (refine wpList_next_of (kv := strK) (ev := strK) wr rfl (.tmp 7) rfl b r0 l todo KK.out.1 rfl ?_ ?_)
    · intro h0
      have Kh := Kept.mk h0
      clear h0
      go_wp2_with fail
      go_ret
      exact ⟨by rw [show tL = s from by have := Ks.out; rw [Kh.out] at this; simp [takenP] at this; omega]; rfl, KK.out.2⟩
    · intro pre p t post w' htd hi' hT hsz hent
      have KI' := Kept.mk (And.intro hi' (show Ext w w' from Touch.below KK.out.2 hT (fun j hj => by rw [List.mem_singleton] at hj; subst hj; exact Kr0.out) KK.out.2.size))
      have Kt := Kept.mk htd
      have Kq := Kept.mk (show todo.length = (pre ++ post).length + 1 from by rw [htd]; simp; omega)
      have Kq2 := Kept.mk (show takenP todo = p.length + t.length + takenP (pre ++ post) from by rw [htd]; simp [takenP]; omega)
      have hle : s + (p.length + t.length) ≤ 4503599627370496 := by have := Ks.out; have := Kq2.out; omega
      have z1 : (strOf p).size = p.length := strOf_size p
      have z2 : (strOf t).size = t.length := strOf_size t
      simp only [strK] at hent ⊢
      clear hi' hT hsz htd
      go_wp2_with fail
      go_roundg (gk - 1)
      case measure => have := Kr.out; have := Kq.out; omega
      case rel => exact ⟨pre ++ post, s + (p.length + t.length), by have := Kr.out; have := Kq.out; omega, by first | rfl | simp | (simp; omega) | (push_cast; rfl), by have := Ks.out; have := Kq2.out; omega, KI'⟩
set_option maxRecDepth 100000 in
set_option maxHeartbeats 4000000 in
theorem do_any (w : World) (b : Nat) (L : List F) (e : Eff) (hk : e.k = 0 ∨ e.k = 1 ∨ e.k = 2) (h : FMap w b L) :
    Calls Try.prog 48 #[.map (some b), .agg #[.int .i64 e.k, .string (strOf e.p), .string (strOf e.t)]] w fun en w' => en = .returned (.tuple #[]) ∧ FMap w' b (doneP L e) ∧ Touch [b] w w' := by
  obtain ⟨k, p, t⟩ := e
  have KU := Kept.mk (up_doneP h.1 ⟨k, p, t⟩)
  obtain ⟨hu, l, hm, hp⟩ := h
  have hA := Ext.alloc w (.cells #[.int .i64 k, .string (strOf p), .string (strOf t)] 79)
  have KM := Kept.mk (hm.ext hA)
  have KA := Kept.mk (Touch.of_ext (S := [b]) hA)
  have Kp := Kept.mk hp
  have Kn := Kept.mk hu.nodup
  have c := Blk.new w 79 [.int .i64 k, .string (strOf p), .string (strOf t)]
  have c0 := c.cell 0
  have c1 := c.cell 1
  have c2 := c.cell 2
  simp only [List.getElem?_cons_zero, List.getElem?_cons_succ] at c0 c1 c2
  have Kb := Kept.mk c
  have Kbb := Kept.mk (show b < w.heap.size from hm.lt)
  simp only at hk ⊢
  clear hm hA hp hu c
  rcases hk with rfl | rfl | rfl
  · go_enter Try.func48, Try.ntmps48
    go_wp2_with (refine wpList_put_of (kv := strK) (ev := strK) _ rfl (.tmp 10) (.tmp 12) (.tmp 14) 70 rfl 9 9 keySok Try.underlying70 b l KM.out rfl p t rfl rfl ?_)
    intro w1 hm1 ht1 hs1
    have KF := Kept.mk (show FMap w1 b (doneP L ⟨0, p, t⟩) ∧ Touch [b] w w1 from ⟨⟨KU.out, _, hm1, put_ok Kp.out Kn.out p t⟩, KA.out.trans ht1 (fun j hj => .inl hj)⟩)
    clear hm1 ht1 hs1
    go_wp2_with fail
    go_end0
    exact ⟨rfl, KF.out⟩
  · have hl := KM.out.look_ok (P := Try.prog) keySok Try.underlying70 (zeroS _) p
    have Kg := Kept.mk (getK_perm Kp.out Kn.out p)
    have Kt := Kept.mk (fun (w1 : World) (h : Touch [b] (w.alloc (.cells #[.int .i64 1, .string (strOf p), .string (strOf t)] 79)) w1) => Kb.out.touch h (fun hm => by rw [List.mem_singleton] at hm; have := Kbb.out; omega))
    cases hg : getK l p with
    | none =>
      rw [hg] at hl Kg
      simp only [Option.map_none, Option.getD_none, Option.isSome_none, strK] at hl
      have KF := Kept.mk (show FMap (w.alloc (.cells #[.int .i64 1, .string (strOf p), .string (strOf t)] 79)) b (doneP L ⟨1, p, t⟩) ∧ Touch [b] w _ from ⟨⟨KU.out, l, KM.out, by rw [done_1n _ Kg.out.symm]; exact Kp.out⟩, KA.out⟩)
      clear hg
      go_enter Try.func48, Try.ntmps48
      go_wp2_with fail
      go_end0
      exact ⟨rfl, KF.out⟩
    | some x =>
      rw [hg] at hl Kg
      simp only [Option.map_some, Option.getD_some, Option.isSome_some, strK] at hl
      clear hg
      go_enter Try.func48, Try.ntmps48
      go_wp2_with (refine wpList_del_of (kv := strK) (ev := strK) _ rfl (.tmp 25) (.tmp 27) 70 9 rfl 9 keySok Try.underlying70 b l KM.out rfl p rfl ?_)
      intro w1 hm1 ht1 hs1
      have d2 := (Kt.out w1 ht1).cell 2
      simp only [List.getElem?_cons_zero, List.getElem?_cons_succ] at d2
      have Km1 := Kept.mk hm1
      have Kt1 := Kept.mk (KA.out.trans ht1 (fun j hj => .inl hj))
      clear hm1 ht1 hs1 c0 c1 c2 hl
      go_wp2_with (refine wpList_put_of (kv := strK) (ev := strK) _ rfl (.tmp 28) (.tmp 30) (.tmp 31) 70 rfl 9 9 keySok Try.underlying70 b _ Km1.out rfl t x rfl rfl ?_)
      intro w2 hm2 ht2 hs2
      have KF := Kept.mk (show FMap w2 b (doneP L ⟨1, p, t⟩) ∧ Touch [b] w w2 from ⟨⟨KU.out, _, hm2, by
        rw [done_1s _ Kg.out.symm]
        exact put_ok (del_ok Kp.out Kn.out p) (Kn.out.sublist (List.Sublist.map _ List.filter_sublist)) t x⟩, Kt1.out.trans ht2 (fun j hj => .inl hj)⟩)
      clear hm2 ht2 hs2 d2
      go_wp2_with fail
      go_end0
      exact ⟨rfl, KF.out⟩
  · go_enter Try.func48, Try.ntmps48
    go_wp2_with (refine wpList_del_of (kv := strK) (ev := strK) _ rfl (.tmp 34) (.tmp 36) 70 9 rfl 9 keySok Try.underlying70 b l KM.out rfl p rfl ?_)
    intro w1 hm1 ht1 hs1
    have KF := Kept.mk (show FMap w1 b (doneP L ⟨2, p, t⟩) ∧ Touch [b] w w1 from ⟨⟨KU.out, _, hm1, by rw [done_2]; exact del_ok Kp.out Kn.out p⟩, KA.out.trans ht1 (fun j hj => .inl hj)⟩)
    clear hm1 ht1 hs1
    go_wp2_with fail
    go_end0
    exact ⟨rfl, KF.out⟩
end Disk
end Go.Proofs.Ytjphmjegfpdbeaa
