/- Words for the law DiskKept: maps of the law's own beside the disk; the cut opened. No condition. -/
import Derived.Test.YtjphmjegfpdbeaaDiskLawF
namespace Go.Proofs.Ytjphmjegfpdbeaa
open Go.RowKit Go.ChangeShapes Go.WideShapes Go.Deep
namespace Disk
open Str
set_option linter.unusedSimpArgs false
set_option linter.unusedVariables false
def boolK (b : Bool) : Value := .bool b
theorem zeroB (w : World) : (zeroValue 4).run Try.prog w = .ok (.bool false) w := by kernel_rfl
theorem keep_blk {w w' : World} {g : Nat} {T : TypeId} {xs : List Value} {P : List Nat} (h : Blk w g T xs) (k : KeepB P w w') (hP : g ∈ P) : Blk w' g T xs := (k.block g hP).trans h
theorem blk_map {α β : Type} [DecidableEq α] {kv : α → Value} {ev : β → Value} {w : World} {g b : Nat} {T : TypeId} {xs : List Value} {l : List (α × β)} (h : Blk w g T xs) (k : MapOf kv ev w b l) : g ≠ b := by
  rintro rfl
  obtain ⟨es, c, hb, _⟩ := k
  unfold Blk at h
  rw [hb] at h
  cases h
theorem buf_map {α β : Type} [DecidableEq α] {kv : α → Value} {ev : β → Value} {w w' : World} {B b : Nat} {e : TypeId} {v : Value} {xs : List Value} {l : List (α × β)} (h : Buf w B e v xs) (k : MapOf kv ev w b l) (ht : Touch [b] w w') : Buf w' B e v xs := by
  obtain ⟨A, cap, rfl, h1, h2, h3, h4⟩ := h
  refine ⟨A, cap, rfl, h1, h2, fun j hj => ⟨(h3 j hj).1, Nat.lt_of_lt_of_le (h3 j hj).2 ht.size⟩, ?_⟩
  rcases h4 with h4 | ⟨b', off, cs, rfl, hb, h5, h6⟩
  · exact .inl h4
  · refine .inr ⟨b', off, cs, rfl, hb.touch ht (fun hm => ?_), h5, h6⟩
    rw [List.mem_singleton] at hm
    subst hm
    obtain ⟨fz, hg, _⟩ := hb
    obtain ⟨es, c, hb2, _⟩ := k
    rw [hb2] at hg
    cases hg
theorem keep_mapOf {α β : Type} [DecidableEq α] {kv : α → Value} {ev : β → Value} {w w' : World} {b : Nat} {l : List (α × β)} {P : List Nat} (h : MapOf kv ev w b l) (k : KeepB P w w') (hP : b ∈ P) : MapOf kv ev w' b l := h.block (k.block b hP)
theorem At1.touchP {w wi wj : World} {g : Nat} {d : Dk} {P S : List Nat} (h : At1 w wi g d P) (k : Touch S wi wj) (hS : ∀ j ∈ S, j ∈ P ∧ w.heap.size ≤ j) : At1 w wj g d P := by
  obtain ⟨D, h1, h2, h3⟩ := h
  exact ⟨D, h1.touch k (fun j hj hm => (h3 j (hS j hm).1).1 hj), Touch.below h2 k (fun j hj => (hS j hj).2) h2.size, fun j hj => ⟨(h3 j hj).1, Nat.lt_of_lt_of_le (h3 j hj).2 k.size⟩⟩
theorem At1.add {w wi wj : World} {g : Nat} {d : Dk} {P : List Nat} {b : Nat} (h : At1 w wi g d P) (k : Ext wi wj) (h1 : wi.heap.size ≤ b) (h2 : b < wj.heap.size) : At1 w wj g d (b :: P) := by
  obtain ⟨D, q1, q2, q3⟩ := h
  refine ⟨D, q1.ext k, q2.trans k, fun j hj => ?_⟩
  rcases List.mem_cons.1 hj with rfl | hj
  · exact ⟨fun hm => by have := (q1.lt j hm).2; omega, h2⟩
  · exact ⟨(q3 j hj).1, Nat.lt_of_lt_of_le (q3 j hj).2 k.size⟩
/-- The disk, the cut, and the law's maps. -/
structure Kst (w wi : World) (g : Nat) (P : List Nat) (cb bo bw : Nat) (cn ck : Int) (n : Nat) (d : Dk) (lo : List F) (lw : List (S × Bool)) : Prop where
  at1 : At1 w wi g d P
  b : DkB n d
  cut : Blk wi cb 31 [.int .i64 cn, .int .u64 ck]
  mo : MapOf strK strK wi bo lo
  mw : MapOf strK boolK wi bw lw
  ne : bo ≠ bw
  pc : cb ∈ P
  po : bo ∈ P
  pw : bw ∈ P
  lo_ : ∀ j ∈ P, w.heap.size ≤ j
section
variable {w wi wj : World} {g : Nat} {P : List Nat} {cb bo bw : Nat} {cn ck : Int} {n : Nat} {d : Dk} {lo : List F} {lw : List (S × Bool)}
theorem Kst.ext (h : Kst w wi g P cb bo bw cn ck n d lo lw) (k : Ext wi wj) : Kst w wj g P cb bo bw cn ck n d lo lw :=
  ⟨h.at1.ext k, h.b, h.cut.ext k, h.mo.ext k, h.mw.ext k, h.ne, h.pc, h.po, h.pw, h.lo_⟩
theorem Kst.disk (h : Kst w wi g P cb bo bw cn ck n d lo lw) {n' : Nat} {d' : Dk} (hA : At1 w wj g d' P) (hK : KeepB P wi wj) (hb : DkB n' d') : Kst w wj g P cb bo bw cn ck n' d' lo lw :=
  ⟨hA, hb, keep_blk h.cut hK h.pc, keep_mapOf h.mo hK h.po, keep_mapOf h.mw hK h.pw, h.ne, h.pc, h.po, h.pw, h.lo_⟩
theorem Kst.putO (h : Kst w wi g P cb bo bw cn ck n d lo lw) {lo' : List F} (hm : MapOf strK strK wj bo lo') (ht : Touch [bo] wi wj) : Kst w wj g P cb bo bw cn ck n d lo' lw :=
  ⟨h.at1.touchP ht (fun j hj => by rw [List.mem_singleton] at hj; subst hj; exact ⟨h.po, h.lo_ _ h.po⟩), h.b, h.cut.touch ht (by rw [List.mem_singleton]; exact blk_map h.cut h.mo), hm, h.mw.touch ht (by rw [List.mem_singleton]; exact Ne.symm h.ne), h.ne, h.pc, h.po, h.pw, h.lo_⟩
theorem Kst.putW (h : Kst w wi g P cb bo bw cn ck n d lo lw) {lw' : List (S × Bool)} (hm : MapOf strK boolK wj bw lw') (ht : Touch [bw] wi wj) : Kst w wj g P cb bo bw cn ck n d lo lw' :=
  ⟨h.at1.touchP ht (fun j hj => by rw [List.mem_singleton] at hj; subst hj; exact ⟨h.pw, h.lo_ _ h.pw⟩), h.b, h.cut.touch ht (by rw [List.mem_singleton]; exact blk_map h.cut h.mw), h.mo.touch ht (by rw [List.mem_singleton]; exact h.ne), hm, h.ne, h.pc, h.po, h.pw, h.lo_⟩
theorem Kst.putT (h : Kst w wi g P cb bo bw cn ck n d lo lw) {bt : Nat} {lt : List (S × Bool)} (hm : MapOf strK boolK wi bt lt) (hp : bt ∈ P) (h1 : bo ≠ bt) (h2 : bw ≠ bt) (ht : Touch [bt] wi wj) : Kst w wj g P cb bo bw cn ck n d lo lw :=
  ⟨h.at1.touchP ht (fun j hj => by rw [List.mem_singleton] at hj; subst hj; exact ⟨hp, h.lo_ _ hp⟩), h.b, h.cut.touch ht (by rw [List.mem_singleton]; exact blk_map h.cut hm), h.mo.touch ht (by rw [List.mem_singleton]; exact h1), h.mw.touch ht (by rw [List.mem_singleton]; exact h2), h.ne, h.pc, h.po, h.pw, h.lo_⟩
end
/-- A handed cut. -/
def InCut (W : World) (n k : Int) (u : Unit) : Prop := (-9223372036854775808 ≤ n ∧ n ≤ 9223372036854775807) ∧ 0 ≤ k ∧ k ≤ 18446744073709551615
set_option maxRecDepth 100000 in
theorem in_cut {H : Type} {enc : TypeId × Value → H} {W : World} {r : Reach} {base b0 : Nat} {spare : Nat → Bool} {held : Bool} {v : Value} {d : DataW H} {p : List MemPlace} (hval : Value.okWide Try.prog W r b0 31 v)
    (h : DataW.Trod enc Try.prog W base spare held 31 v d p) (hw : ∀ n ∈ d.weights Try.prog 31, n ≤ reachBytes) : ∃ (n k : Int) (u : Unit), v = .agg #[.int .i64 n, .int .u64 k] ∧ InCut W n k u := by
  obtain ⟨cs, rfl, hsz⟩ := okWide_struct Try.underlying31 hval
  have hsz2 : cs.size = 2 := hsz.trans (by kernel_rfl)
  obtain ⟨fuel, hf⟩ := h
  obtain ⟨y0, e0, h3⟩ := leaf_int (n := 3) (off := 0) (t' := 3) (k := .i64) (by kernel_rfl) Try.underlying3 hf
  obtain ⟨y1, e1, h4⟩ := leaf_int (n := 3) (off := 1) (t' := 29) (k := .u64) (by kernel_rfl) Try.underlying29 hf
  have h3' : -9223372036854775808 ≤ y0 ∧ y0 ≤ 9223372036854775807 := by simp [Lit.wf, IntKind.min, IntKind.max, IntKind.signed, IntKind.bits] at h3; omega
  have h4' : 0 ≤ y1 ∧ y1 ≤ 18446744073709551615 := by simp [Lit.wf, IntKind.min, IntKind.max, IntKind.signed, IntKind.bits] at h4; omega
  refine ⟨y0, y1, (), ?_, h3', h4'⟩
  simp only [Value.cells] at e0 e1
  congr 1
  apply Array.ext'
  obtain ⟨l⟩ := cs
  simp only [List.size_toArray] at hsz2
  match l, hsz2 with
  | [z0, z1], _ =>
    simp at e0 e1
    subst e0 e1
    rfl
end Disk
end Go.Proofs.Ytjphmjegfpdbeaa
