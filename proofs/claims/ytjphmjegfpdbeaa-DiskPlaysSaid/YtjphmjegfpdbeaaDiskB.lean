/- A disk in memory; its small methods. No condition. -/
import Derived.Test.YtjphmjegfpdbeaaDiskA
namespace Go.Proofs.Ytjphmjegfpdbeaa
open Go.RowKit
namespace Disk
open Str
set_option linter.unusedSimpArgs false
set_option linter.unusedVariables false
theorem other_type {s : Nat} {w w' : World} {B g : Nat} {e T : TypeId} {v : Value} {css : List (List Value)} {xs : List Value} (h : BufS s w B e v css) (k : BlkZ w g T xs) (hT : e ≠ T) (ht : Touch [g] w w') : BufS s w' B e v css := by
  by_cases hg : g ∈ own v
  · obtain ⟨A, cap, rfl, h1, h2, h3, h4, h5⟩ := h
    rcases h5 with rfl | ⟨b, off, cs, rfl, hb, h6, h7⟩
    · exact ⟨A, 0, rfl, h1, h2, h3, fun j hj => ⟨(h4 j hj).1, Nat.lt_of_lt_of_le (h4 j hj).2 ht.size⟩, .inl rfl⟩
    · simp [own] at hg
      subst hg
      obtain ⟨f1, hb1, _⟩ := hb
      obtain ⟨f2, hb2, _⟩ := k
      rw [hb1] at hb2
      injection hb2 with hb2
      injection hb2 with _ e2 _
      exact absurd e2 hT
  · exact h.touch ht (fun j hj hm => hg (by rw [List.mem_singleton] at hm; subst hm; exact hj))
def effV (e : Eff) : List Value := [.int .i64 e.k, .string (strOf e.p), .string (strOf e.t)]
def dkV (d : Dk) (bl bs : Nat) (v : Value) : List Value := [.int .i64 d.room, .map (some bl), .map (some bs), v, .bool d.down, .int .i64 d.cnt, .int .u64 d.keep]
/-- What a disk's cells lead to. -/
structure Parts (w : World) (B : Nat) (D : List Nat) (bl bs : Nat) (v : Value) (L S : List F) (R : List Eff) : Prop where
  fl : FMap w bl L
  fs : FMap w bs S
  wb : BufS 3 w B 79 v (R.map effV)
  dl : bl ∈ D
  ds : bs ∈ D
  dv : ∀ j ∈ own v, j ∈ D
  ne : bl ≠ bs
  lo : ∀ j ∈ D, B ≤ j ∧ j < w.heap.size
theorem Parts.touch {w w' : World} {B bl bs : Nat} {D T : List Nat} {v : Value} {L S : List F} {R : List Eff} (h : Parts w B D bl bs v L S R) (k : Touch T w w') (h1 : bl ∉ T) (h2 : bs ∉ T) (h3 : ∀ j ∈ own v, j ∉ T) : Parts w' B D bl bs v L S R :=
  ⟨h.fl.touch k h1, h.fs.touch k h2, h.wb.touch k h3, h.dl, h.ds, h.dv, h.ne, fun j hj => ⟨(h.lo j hj).1, Nat.lt_of_lt_of_le (h.lo j hj).2 k.size⟩⟩
theorem Parts.blk {w w' : World} {B bl bs g : Nat} {D : List Nat} {v : Value} {L S : List F} {R : List Eff} {xs : List Value} (h : Parts w B D bl bs v L S R) (k : BlkZ w g 73 xs) (ht : Touch [g] w w') : Parts w' B D bl bs v L S R :=
  ⟨h.fl.touch ht (by rw [List.mem_singleton]; exact h.fl.ne k), h.fs.touch ht (by rw [List.mem_singleton]; exact h.fs.ne k), other_type h.wb k (by decide) ht, h.dl, h.ds, h.dv, h.ne, fun j hj => ⟨(h.lo j hj).1, Nat.lt_of_lt_of_le (h.lo j hj).2 ht.size⟩⟩
/-- The disk d lies at g, all its blocks are among D. -/
def DkAt (w : World) (B : Nat) (D : List Nat) (g : Nat) (d : Dk) : Prop := g ∈ D ∧ ∃ bl bs v, Blk w g 73 (dkV d bl bs v) ∧ Parts w B D bl bs v d.lies (seenP d) d.rows
theorem DkAt.lt {w : World} {B : Nat} {D : List Nat} {g : Nat} {d : Dk} (h : DkAt w B D g d) : ∀ j ∈ D, B ≤ j ∧ j < w.heap.size := by
  obtain ⟨_, _, _, _, _, h⟩ := h
  exact h.lo
theorem DkAt.touch {w w' : World} {B : Nat} {D T : List Nat} {g : Nat} {d : Dk} (h : DkAt w B D g d) (k : Touch T w w') (hT : ∀ j ∈ D, j ∉ T) : DkAt w' B D g d := by
  obtain ⟨hg, bl, bs, v, h1, h2⟩ := h
  exact ⟨hg, bl, bs, v, h1.touch k (hT g hg), h2.touch k (hT _ h2.dl) (hT _ h2.ds) (fun j hj => hT j (h2.dv j hj))⟩
theorem DkAt.ext {w w' : World} {B : Nat} {D : List Nat} {g : Nat} {d : Dk} (h : DkAt w B D g d) (k : Ext w w') : DkAt w' B D g d := h.touch (Touch.of_ext (S := []) k) (by simp)
/-- Behind a call on the disk: it is d now; nothing else that was there is touched. -/
def After (w : World) (B : Nat) (D : List Nat) (g : Nat) (d : Dk) (w' : World) : Prop := ∃ D', DkAt w' B D' g d ∧ Touch D w w' ∧ ∀ j ∈ D', j ∈ D ∨ w.heap.size ≤ j
theorem After.same {w w' : World} {B : Nat} {D : List Nat} {g : Nat} {d : Dk} (h : DkAt w B D g d) (k : Ext w w') : After w B D g d w' := ⟨D, h.ext k, Touch.of_ext k, fun j hj => .inl hj⟩
theorem After.trans {w w1 w2 : World} {B : Nat} {D D1 : List Nat} {g : Nat} {d : Dk} (k : Touch D w w1) (h1 : ∀ j ∈ D1, j ∈ D ∨ w.heap.size ≤ j) (h : After w1 B D1 g d w2) : After w B D g d w2 := by
  obtain ⟨D2, a, b, c⟩ := h
  exact ⟨D2, a, k.trans b h1, fun j hj => by
    rcases c j hj with h | h
    · exact h1 j h
    · exact .inr (Nat.le_trans k.size h)⟩
theorem After.ext {w w1 w2 : World} {B : Nat} {D : List Nat} {g : Nat} {d : Dk} (h : After w B D g d w1) (k : Ext w1 w2) : After w B D g d w2 := by
  obtain ⟨D', a, b, c⟩ := h
  exact ⟨D', a.ext k, b.trans (Touch.of_ext (S := []) k) (by simp), c⟩
/-- A store into the disk's own cells. -/
theorem After.put {w w' : World} {B : Nat} {D : List Nat} {g bl bs : Nat} {v : Value} {d' : Dk} {xs : List Value} (hg : g ∈ D) (hb : Blk w g 73 xs) (hp : Parts w B D bl bs v d'.lies (seenP d') d'.rows) (ht : Touch [g] w w') (hb' : Blk w' g 73 (dkV d' bl bs v)) : After w B D g d' w' :=
  ⟨D, ⟨hg, bl, bs, v, hb', hp.blk hb.z ht⟩, ht.more (fun j hj => by rw [List.mem_singleton] at hj; subst hj; exact hg), fun j hj => .inl hj⟩
def failsP (d : Dk) : Bool × Dk := if d.cnt = 0 then (false, d) else (decide (d.cnt - 1 = 0), { d with cnt := d.cnt - 1 })
def FailsE (w : World) (B : Nat) (D : List Nat) (g : Nat) (d : Dk) (e : Ending) (w' : World) : Prop := e = .returned (.bool (failsP d).1) ∧ After w B D g (failsP d).2 w'
set_option maxRecDepth 100000 in
set_option maxHeartbeats 2000000 in
theorem fails_any (w : World) (B : Nat) (D : List Nat) (g : Nat) (d : Dk) (h : DkAt w B D g d) (hc : 0 ≤ d.cnt ∧ d.cnt ≤ 9223372036854775807) : Calls Try.prog 41 #[.pointer (some ⟨g, 0, none⟩)] w (FailsE w B D g d) := by
  have KA := Kept.mk h
  obtain ⟨hg, bl, bs, v, hb, hp⟩ := h
  have c5 := hb.cell 5
  have f5 := hb.free 5
  have KB := Kept.mk hb
  have KP := Kept.mk hp
  have Kg := Kept.mk hg
  simp only [dkV, List.getElem?_cons_zero, List.getElem?_cons_succ] at c5
  clear hg hb hp
  by_cases h0 : d.cnt = 0
  · have KD : Kept (FailsE w B D g d (.returned (.bool false)) w) := Kept.mk (by unfold FailsE failsP; rw [if_pos h0]; exact ⟨rfl, After.same KA.out (Ext.refl _)⟩)
    rw [h0] at c5
    clear h0 hc
    go_enter Try.func41, Try.ntmps41
    go_wp2_with fail
    go_ret
    exact KD.out
  · have hb := (KB.out.set 5 (.int .i64 (d.cnt - 1)))
    have KD : Kept (FailsE w B D g d (.returned (.bool (d.cnt - 1 == 0))) (w.setCell ⟨g, 5, none⟩ (.int .i64 (d.cnt - 1)))) := Kept.mk (by
      unfold FailsE failsP; rw [if_neg h0]
      exact ⟨rfl, After.put (d' := { d with cnt := d.cnt - 1 }) Kg.out KB.out KP.out (Touch.set w ⟨g, 5, none⟩ _) hb⟩)
    have h0b : (d.cnt == 0) = false := by simpa using h0
    clear h0 hb
    generalize d.cnt = n at *
    go_enter Try.func41, Try.ntmps41
    go_wp2_with fail
    go_ret
    exact KD.out
end Disk
end Go.Proofs.Ytjphmjegfpdbeaa
