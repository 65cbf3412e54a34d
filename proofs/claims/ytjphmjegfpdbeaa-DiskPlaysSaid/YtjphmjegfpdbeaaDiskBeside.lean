/- A disk of the law's own beside other blocks of the law's own. No condition. -/
import Derived.Test.YtjphmjegfpdbeaaDiskK
namespace Go.Proofs.Ytjphmjegfpdbeaa
open Go.RowKit
namespace Disk
open Str
set_option linter.unusedSimpArgs false
set_option linter.unusedVariables false
/-- These blocks are as they were. -/
structure KeepB (P : List Nat) (w w' : World) : Prop where
  size : w.heap.size ≤ w'.heap.size
  block : ∀ j ∈ P, w'.heap[j]? = w.heap[j]?
theorem KeepB.refl (P : List Nat) (w : World) : KeepB P w w := ⟨Nat.le_refl _, fun _ _ => rfl⟩
theorem KeepB.trans {P : List Nat} {a b c : World} (h : KeepB P a b) (k : KeepB P b c) : KeepB P a c := ⟨Nat.le_trans h.size k.size, fun j hj => (k.block j hj).trans (h.block j hj)⟩
theorem KeepB.ext {P : List Nat} {a b : World} (h : Ext a b) (hP : ∀ j ∈ P, j < a.heap.size) : KeepB P a b := ⟨h.size, fun j hj => h.block j (hP j hj)⟩
theorem keep_buf {w w' : World} {B : Nat} {e : TypeId} {v : Value} {xs : List Value} (h : Buf w B e v xs) (k : KeepB (own v) w w') : Buf w' B e v xs := by
  obtain ⟨A, cap, rfl, h1, h2, h3, h4⟩ := h
  refine ⟨A, cap, rfl, h1, h2, fun j hj => ⟨(h3 j hj).1, Nat.lt_of_lt_of_le (h3 j hj).2 k.size⟩, ?_⟩
  rcases h4 with h4 | ⟨b, off, cs, rfl, ⟨fz, hb, hf⟩, h5, h6⟩
  · exact .inl h4
  · exact .inr ⟨b, off, cs, rfl, ⟨fz, (k.block b (by simp [own])).trans hb, hf⟩, h5, h6⟩
/-- A disk of the law's own, beside other blocks. -/
def At1 (w wi : World) (g : Nat) (d : Dk) (P : List Nat) : Prop := ∃ D, DkAt wi w.heap.size D g d ∧ Ext w wi ∧ ∀ j ∈ P, j ∉ D ∧ j < wi.heap.size
theorem At1.at0 {w wi : World} {g : Nat} {d : Dk} {P : List Nat} (h : At1 w wi g d P) : At0 w wi g d := by
  obtain ⟨D, h1, h2, _⟩ := h
  exact ⟨D, h1, h2⟩
theorem At1.step {w wi : World} {g : Nat} {d : Dk} {P : List Nat} (h : At1 w wi g d P) : ∃ D, DkAt wi w.heap.size D g d ∧ ∀ d' wj, After wi w.heap.size D g d' wj → At1 w wj g d' P ∧ KeepB P wi wj := by
  obtain ⟨D, h1, h2, h3⟩ := h
  refine ⟨D, h1, fun d' wj ⟨D', a1, a2, a3⟩ => ⟨⟨D', a1, Touch.below h2 a2 (fun j hj => (h1.lt j hj).1) h2.size, fun j hj => ⟨fun hm => ?_, Nat.lt_of_lt_of_le (h3 j hj).2 a2.size⟩⟩, a2.size, fun j hj => a2.block j (h3 j hj).2 (h3 j hj).1⟩⟩
  rcases a3 j hm with h | h
  · exact (h3 j hj).1 h
  · have := (h3 j hj).2; omega
theorem At1.ext {w wi wj : World} {g : Nat} {d : Dk} {P : List Nat} (h : At1 w wi g d P) (k : Ext wi wj) : At1 w wj g d P := by
  obtain ⟨D, h1, h2, h3⟩ := h
  exact ⟨D, h1.ext k, h2.trans k, fun j hj => ⟨(h3 j hj).1, Nat.lt_of_lt_of_le (h3 j hj).2 k.size⟩⟩
/-- What was made behind. -/
theorem At0.beside {w wi wj : World} {g : Nat} {d : Dk} {P : List Nat} (h : At0 w wi g d) (k : Ext wi wj) (hP : ∀ j ∈ P, wi.heap.size ≤ j ∧ j < wj.heap.size) : At1 w wj g d P := by
  obtain ⟨D, h1, h2⟩ := h
  exact ⟨D, h1.ext k, h2.trans k, fun j hj => ⟨fun hm => by have := (h1.lt j hm).2; have := (hP j hj).1; omega, (hP j hj).2⟩⟩
theorem write_at1 {w wi : World} {g : Nat} {d : Dk} {P : List Nat} (h : At1 w wi g d P) (n : Nat) (hb : DkB n d) (hn : n + 1 ≤ 1048576) (p t : S) (hp : p.length ≤ SZ) (ht : t.length ≤ SZ) :
    Calls Try.prog 16 #[.pointer (some ⟨g, 0, none⟩), .string (strOf p), .string (strOf t)] wi fun e w' => e = .returned (.int .i64 (writeP d p t).1) ∧ At1 w w' g (writeP d p t).2 P ∧ KeepB P wi w' := by
  obtain ⟨D, h1, h2⟩ := h.step
  exact (write_any wi _ D g d n p t h1 hb hn hp ht).mono fun e w' ⟨he, ha⟩ => ⟨he, h2 _ _ ha⟩
theorem rename_at1 {w wi : World} {g : Nat} {d : Dk} {P : List Nat} (h : At1 w wi g d P) (n : Nat) (hb : DkB n d) (hn : n + 1 ≤ 1048576) (p t : S) (hp : p.length ≤ SZ) (ht : t.length ≤ SZ) :
    Calls Try.prog 15 #[.pointer (some ⟨g, 0, none⟩), .string (strOf p), .string (strOf t)] wi fun e w' => e = .returned (.int .i64 (renameP d p t).1) ∧ At1 w w' g (renameP d p t).2 P ∧ KeepB P wi w' := by
  obtain ⟨D, h1, h2⟩ := h.step
  exact (rename_any wi _ D g d n p t h1 hb hn hp ht).mono fun e w' ⟨he, ha⟩ => ⟨he, h2 _ _ ha⟩
theorem remove_at1 {w wi : World} {g : Nat} {d : Dk} {P : List Nat} (h : At1 w wi g d P) (n : Nat) (hb : DkB n d) (hn : n + 1 ≤ 1048576) (p : S) (hp : p.length ≤ SZ) :
    Calls Try.prog 17 #[.pointer (some ⟨g, 0, none⟩), .string (strOf p)] wi fun e w' => e = .returned (.int .i64 (removeP d p).1) ∧ At1 w w' g (removeP d p).2 P ∧ KeepB P wi w' := by
  obtain ⟨D, h1, h2⟩ := h.step
  exact (remove_any wi _ D g d n p h1 hb hn hp).mono fun e w' ⟨he, ha⟩ => ⟨he, h2 _ _ ha⟩
theorem sync_at1 {w wi : World} {g : Nat} {d : Dk} {P : List Nat} (h : At1 w wi g d P) (n : Nat) (hb : DkB n d) (hn : n ≤ 1048576)  :
    Calls Try.prog 29 #[.pointer (some ⟨g, 0, none⟩)] wi fun e w' => e = .returned (.int .i64 (syncP d).1) ∧ At1 w w' g (syncP d).2 P ∧ KeepB P wi w' := by
  obtain ⟨D, h1, h2⟩ := h.step
  exact (sync_any wi _ D g d n h1 hb hn).mono fun e w' ⟨he, ha⟩ => ⟨he, h2 _ _ ha⟩
end Disk
end Go.Proofs.Ytjphmjegfpdbeaa
