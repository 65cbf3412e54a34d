/- The walks of Seen's Has, Add, Len. No condition. -/
import Derived.Test.YtnbgdphnoopdpaaWorkB
import Derived.Maps.Own
import Derived.Maps.OwnOps
import Derived.Maps.OwnSet
namespace Go.Proofs.Ytnbgdphnoopdpaa
open Go.RowKit Go.Maps
namespace Work
set_option linter.unusedSimpArgs false
set_option linter.unusedVariables false
def Wf (k : Int) : Prop := (Lit.int .i64 k).wf = true
theorem lawI : Keyed Try.prog 3 := int_keyed Try.underlying3
theorem keyI {k : Int} (h : Wf k) : keyOf Try.prog 3 (.int .i64 k) = some (.int .i64 k) := keyOf_int_mk Try.underlying3 h
theorem zeroU (w : World) : (zeroValue 65).run Try.prog w = .ok (.agg #[]) w := by kernel_rfl
/-- What stands for the keys. -/
structure Keys (D : DataW Unit) (ks : List Int) : Prop where
  has : ∀ k, Wf k → Maps.has D (.int .i64 k) = decide (k ∈ ks)
  size : Maps.size D = ks.length
/-- The keys seen, in memory. -/
def SeenAt (w : World) (B g : Nat) (mb : Option Nat) (ks : List Int) : Prop :=
  Blk w g 38 [.map mb] ∧ B ≤ g ∧ (∀ k ∈ ks, Wf k) ∧ ks.Nodup ∧
    ((mb = none ∧ ks = []) ∨ ∃ (b : Nat) (D : DataW Unit), mb = some b ∧ B ≤ b ∧ b ≠ g ∧ w.ownsMap Try.prog 3 unitElem b ks.length D ∧ Keys D ks)
def ownM : Option Nat → List Nat
  | none => []
  | some b => [b]
theorem ownsMap_block {H : Type} {w w' : World} {P : Program} {k : TypeId} {R : Value → Option (DataW H × List MemPlace)} {b n : Nat} {D : DataW H} (h : w.ownsMap P k R b n D) (he : w'.heap[b]? = w.heap[b]?) : w'.ownsMap P k R b n D := by
  obtain ⟨es, c, h1, h2⟩ := h
  exact ⟨es, c, he.trans h1, h2⟩
theorem touch_grown {w w' : World} {b : Nat} (h : w.grownBy w' (some b)) : Touch [b] w w' := ⟨h.os, h.tape, h.output, h.size, fun k hk hn => h.block k hk (by simpa using hn)⟩
theorem SeenAt.touch {w w' : World} {B g : Nat} {mb : Option Nat} {ks : List Int} {S : List Nat} (h : SeenAt w B g mb ks) (k : Touch S w w') (hS : ∀ j ∈ g :: ownM mb, j ∉ S) : SeenAt w' B g mb ks := by
  obtain ⟨h1, h2, h3, h4, h5⟩ := h
  refine ⟨h1.touch k (hS g (by simp)), h2, h3, h4, ?_⟩
  rcases h5 with h5 | ⟨b, D, rfl, h6, h7, h8, h9⟩
  · exact .inl h5
  · exact .inr ⟨b, D, rfl, h6, h7, ownsMap_block h8 (k.block _ h8.lt (hS b (by simp [ownM]))), h9⟩
theorem SeenAt.ext {w w' : World} {B g : Nat} {mb : Option Nat} {ks : List Int} (h : SeenAt w B g mb ks) (k : Ext w w') : SeenAt w' B g mb ks := h.touch (Touch.of_ext (S := []) k) (by simp)
theorem SeenAt.owns {w : World} {B g : Nat} {mb : Option Nat} {ks : List Int} (h : SeenAt w B g mb ks) : ∀ j ∈ g :: ownM mb, B ≤ j ∧ j < w.heap.size := by
  obtain ⟨h1, h2, h3, h4, h5⟩ := h
  intro j hj
  rcases List.mem_cons.1 hj with rfl | hj
  · exact ⟨h2, h1.lt⟩
  · rcases h5 with ⟨rfl, -⟩ | ⟨b, D, rfl, h6, h7, h8, h9⟩
    · simp [ownM] at hj
    · simp [ownM] at hj; subst hj; exact ⟨h6, h8.lt⟩
theorem SeenAt.c0 {w : World} {B g : Nat} {mb : Option Nat} {ks : List Int} (h : SeenAt w B g mb ks) : w.cell? ⟨g, 0, none⟩ = some (.map mb) := by rw [h.1.cell]; rfl
theorem SeenAt.look {w : World} {B g : Nat} {mb : Option Nat} {ks : List Int} (h : SeenAt w B g mb ks) {k : Int} (hk : Wf k) :
    (Instr.lookup 36 (.map mb) (.int .i64 k) true).run Try.prog w = .ok (.tuple #[.agg #[], .bool (decide (k ∈ ks))]) w := by
  obtain ⟨h1, h2, h3, h4, h5⟩ := h
  rcases h5 with ⟨rfl, rfl⟩ | ⟨b, D, rfl, h6, h7, h8, h9⟩
  · have := Maps.look_nil (w := w) true lawI Try.underlying36 (zeroU w) (keyI hk)
    simpa using this
  · obtain ⟨v, ps, hrun, hv⟩ := h8.look_ok lawI Try.underlying36 (zeroU w) unitElem_mk (keyI hk)
    obtain ⟨rfl, -⟩ := unitElem_inv hv
    rw [hrun, h9.has k hk]
set_option maxRecDepth 100000 in
set_option maxHeartbeats 2000000 in
theorem has_any (B g : Nat) (mb : Option Nat) (ks : List Int) (k : Int) (hk : Wf k) (w : World) (h : SeenAt w B g mb ks) :
    Calls Try.prog 25 #[.pointer (some ⟨g, 0, none⟩), .int .i64 k] w fun e w' => e = .returned (.bool (decide (k ∈ ks))) ∧ Ext w w' := by
  have c0 := h.c0
  have hl := h.look hk
  clear h
  go_enter Try.func25, Try.ntmps25
  go_wp2_with fail
  go_ret
  exact ⟨by first | rfl | simp, Ext.alloc _ _⟩
theorem Keys.put {D : DataW Unit} {ks : List Int} (h : Keys D ks) (hD : Tidy D) {k : Int} (hk : Wf k) (hn : k ∉ ks) (d : DataW Unit) : Keys (D.put (.int .i64 k) d) (ks ++ [k]) := by
  refine ⟨fun j hj => ?_, ?_⟩
  · by_cases e : j = k
    · subst e
      rw [has_put_same hD.isMap (lawI.key (keyI hk))]
      simp
    · rw [has_put_other (by intro h1; injection h1 with _ h2; exact e h2), h.has j hj]
      simp [e]
  · rw [size_put hD, h.has k hk, decide_eq_false hn, h.size]
    simp
/-- What Add leaves. -/
def AddE (w : World) (B g : Nat) (mb : Option Nat) (ks : List Int) (k : Int) (e : Ending) (w' : World) : Prop :=
  e = .returned (.bool (decide (k ∉ ks))) ∧ ∃ mb', SeenAt w' B g mb' (if k ∈ ks then ks else ks ++ [k]) ∧ Touch (g :: ownM mb) w w' ∧ ∀ j ∈ ownM mb', j ∈ ownM mb ∨ w.heap.size ≤ j
set_option maxRecDepth 100000 in
set_option maxHeartbeats 2000000 in
theorem slen_any (B g : Nat) (mb : Option Nat) (ks : List Int) (w : World) (h : SeenAt w B g mb ks) :
    Calls Try.prog 27 #[.pointer (some ⟨g, 0, none⟩)] w fun e w' => e = .returned (.int .i64 (ks.length : Int)) ∧ w = w' := by
  have c0 := h.c0
  obtain ⟨-, -, -, -, h5⟩ := h
  rcases h5 with ⟨rfl, rfl⟩ | ⟨b, D, rfl, h6, h7, h8, h9⟩
  · have hl := fun ty => Maps.len_nil (P := Try.prog) (w := w) Try.underlying36 ty
    go_enter Try.func27, Try.ntmps27
    go_wp2_with fail
    go_ret
    exact ⟨rfl, rfl⟩
  · have hl := fun ty => h8.len Try.underlying36 ty
    rw [h9.size] at hl
    clear h8 h9
    go_enter Try.func27, Try.ntmps27
    go_wp2_with fail
    go_ret
    exact ⟨rfl, rfl⟩
set_option maxRecDepth 100000 in
set_option maxHeartbeats 2000000 in
theorem add_any (B g : Nat) (mb : Option Nat) (ks : List Int) (hn : ks.length ≤ 1000000) (k : Int) (hk : Wf k) (w : World) (h : SeenAt w B g mb ks) :
    Calls Try.prog 17 #[.pointer (some ⟨g, 0, none⟩), .int .i64 k] w (AddE w B g mb ks k) := by
  have KH := Kept.mk h
  have KA := Kept.mk (has_any B g mb ks k hk w h)
  have hmm := @run_makeMap Try.prog
  have heq := fun W r => run_eql_map_nil (P := Try.prog) W 36 _ _ r Try.underlying36
  unfold AddE
  by_cases hin : k ∈ ks
  · rw [decide_eq_true hin] at KA
    rw [if_pos hin, decide_eq_false (fun h => h hin)]
    clear h
    go_enter Try.func17, Try.ntmps17
    go_wp2_with fail
    refine KA.out.mono ?_
    rintro e w1 ⟨rfl, h1⟩
    have KE := Kept.mk h1
    clear h1
    go_wp2_with fail
    go_ret
    exact ⟨by first | rfl | simp, mb, KH.out.ext KE.out, Touch.of_ext KE.out, fun j hj => .inl hj⟩
  · rw [decide_eq_false hin] at KA
    rw [if_neg hin, decide_eq_true hin]
    have Kin := Kept.mk hin
    obtain ⟨h1, h2, h3, h4, h5⟩ := h
    have Kwf := Kept.mk (show ∀ j ∈ ks ++ [k], Wf j from fun j hj => by
      rcases List.mem_append.1 hj with h | h
      · exact h3 j h
      · rw [List.mem_singleton] at h; subst h; exact hk)
    have Knd := Kept.mk (show (ks ++ [k]).Nodup from by
      rw [List.nodup_append]
      refine ⟨h4, by simp, fun a ha b hb => ?_⟩
      rw [List.mem_singleton] at hb
      subst hb
      intro e
      subst e
      exact hin ha)
    have Kblk := Kept.mk h1
    have hgl := h1.lt
    rcases h5 with ⟨rfl, rfl⟩ | ⟨b, D, rfl, h6, h7, h8, h9⟩
    · clear h1 h3 h4 hin
      have hkey := keyI hk
      go_enter Try.func17, Try.ntmps17
      go_wp2_with fail
      refine KA.out.mono ?_
      rintro e w1 ⟨rfl, hE⟩
      have KE := Kept.mk hE
      have c0 := (Kblk.out.ext hE).cell 0
      simp only [List.getElem?_cons_zero] at c0
      have f0 := (Kblk.out.ext hE).free 0
      have hw1 := Ext.size hE
      have hO0 := World.ownsMap_made (H := Unit) w1 Try.prog 3 unitElem
      have hB1 := (Kblk.out.ext hE).old (.map #[] 0)
      have hc1 := hB1.cell 0
      simp only [List.getElem?_cons_zero] at hc1
      have hf1 := hB1.free 0
      have hO1 := hO0.setCell (a := ⟨g, 0, none⟩) (by simp; omega) (.map (some w1.heap.size))
      have hB2 := hB1.set 0 (.map (some w1.heap.size))
      have hc2 := hB2.cell 0
      simp only [List.set_cons_zero, List.getElem?_cons_zero] at hc2
      have KO := Kept.mk hO1
      have KB := Kept.mk hB2
      clear hE hO0 hB1 hO1 hB2
      go_wp2_with (at_mapUpdate; refine wpList_mapUpdate_own _ rfl _ _ _ 36 rfl 3 65 lawI Try.underlying36 _ w1.heap.size 0 (.map []) rfl KO.out (by decide) _ _ (.int .i64 k) rfl rfl hkey _ [] unitElem_mk ?_)
      intro w2 hown2 hgrow2
      have hT2 := touch_grown hgrow2
      have KS := Kept.mk (show SeenAt w2 B g (some w1.heap.size) ([] ++ [k]) from ⟨KB.out.touch hT2 (by simp; omega), h2, Kwf.out, Knd.out, .inr ⟨w1.heap.size, _, rfl, by omega, by omega, hown2, Keys.put ⟨fun j _ => by simp [Maps.has], rfl⟩ tidy_empty hk Kin.out _⟩⟩)
      have KT := Kept.mk (show Touch (g :: ownM none) w w2 from by
        have t1 : Touch (g :: ownM none) w ((w1.alloc (.map #[] 0)).setCell ⟨g, 0, none⟩ (.map (some w1.heap.size))) := (Touch.of_ext (KE.out.trans (Ext.alloc w1 (.map #[] 0)))).trans (Touch.set _ ⟨g, 0, none⟩ _) (fun j hj => by
          rw [List.mem_singleton] at hj
          have hj' : j = g := hj
          left; simp [hj'])
        exact t1.trans hT2 (fun j hj => by rw [List.mem_singleton] at hj; subst hj; right; exact hw1))
      clear hown2 hgrow2 hT2
      go_wp2_with fail
      go_ret
      exact ⟨by first | rfl | simp, _, KS.out, KT.out, fun j hj => by simp [ownM] at hj; subst hj; exact .inr hw1⟩
    · clear h1 h3 h4 hin
      have hkey := keyI hk
      have KO := Kept.mk h8
      have KK := Kept.mk h9
      have hbl := h8.lt
      clear h8 h9
      go_enter Try.func17, Try.ntmps17
      go_wp2_with fail
      refine KA.out.mono ?_
      rintro e w1 ⟨rfl, hE⟩
      have KE := Kept.mk hE
      have c0 := (Kblk.out.ext hE).cell 0
      simp only [List.getElem?_cons_zero] at c0
      have KO1 := Kept.mk (ownsMap_block KO.out (hE.block _ hbl))
      clear hE
      go_wp2_with (at_mapUpdate; refine wpList_mapUpdate_own _ rfl _ _ _ 36 rfl 3 65 lawI Try.underlying36 _ b ks.length D rfl KO1.out (by simp only [maxLen]; omega) _ _ (.int .i64 k) rfl rfl hkey _ [] unitElem_mk ?_)
      intro w2 hown2 hgrow2
      have hT2 := touch_grown hgrow2
      have KS := Kept.mk (show SeenAt w2 B g (some b) (ks ++ [k]) from ⟨(Kblk.out.ext KE.out).touch hT2 (by simp; omega), h2, Kwf.out, Knd.out, .inr ⟨b, _, rfl, h6, h7, by rw [List.length_append, List.length_singleton]; exact hown2, KK.out.put (KO.out.tidy lawI) hk Kin.out _⟩⟩)
      have KT := Kept.mk (show Touch (g :: ownM (some b)) w w2 from (Touch.of_ext KE.out).trans hT2 (fun j hj => by rw [List.mem_singleton] at hj; left; simp [ownM, hj]))
      clear hown2 hgrow2 hT2
      go_wp2_with fail
      go_ret
      exact ⟨by first | rfl | simp, _, KS.out, KT.out, fun j hj => .inl hj⟩
end Work
end Go.Proofs.Ytnbgdphnoopdpaa
