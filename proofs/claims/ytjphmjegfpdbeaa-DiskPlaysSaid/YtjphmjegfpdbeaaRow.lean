/- Words on memory that a call makes or reads: growth of a world, a row of values. No condition. -/
import Derived.WalkKit
import Derived.WalkSpells
import Derived.WalkLawsBesides
import Derived.KernelRfl
import Derived.Deep.LoopGhost
import Derived.Deep.QuietTactic
import Derived.BigQuiet
import Derived.Lib.Hide
namespace Go.Proofs.Ytjphmjegfpdbeaa
open Go.RowKit

/-- A fact that no step of the walk looks into. -/
structure Kept (p : Prop) : Prop where mk :: (out : p)

/-- Everything that was there is as it was: only new blocks. -/
def Ext (w w' : World) : Prop := Below w.heap.size w w'
theorem Ext.refl (w : World) : Ext w w := Below.refl _ _
theorem Ext.trans {a b c : World} (h : Ext a b) (k : Ext b c) : Ext a c := Below.trans h (Below.mono k h.size)
theorem Ext.below {w0 w w' : World} (h : Ext w0 w) (k : Ext w w') : Below w0.heap.size w0 w' := Ext.trans h k
theorem Ext.alloc (w : World) (o : Obj) : Ext w (w.alloc o) := (Below.refl _ _).alloc (Nat.le_refl _) o
theorem Ext.drew (w : World) : Ext w w.drew := (Below.refl _ _).drew
theorem Ext.drewN (w : World) (n : Nat) : Ext w (w.drewN n) := ⟨rfl, rfl, rfl, Nat.le_refl _, fun _ _ => rfl⟩
theorem Ext.size {w w' : World} (h : Ext w w') : w.heap.size ≤ w'.heap.size := Below.size h
theorem Ext.cell {w w' : World} (h : Ext w w') {a : Addr} {v : Value} (hc : w.cell? a = some v) : w'.cell? a = some v :=
  (Below.cell h (World.block_lt_of_cell? w a hc)).trans hc
theorem below_drewN {B : Nat} {w W : World} (h : Below B w W) (n : Nat) : Below B w (W.drewN n) := ⟨h.os, h.tape, h.output, h.size, h.block⟩

/-- The slice at A holds these values. -/
def Row (w : World) (A : Option Addr) (vs : List Value) : Prop :=
  vs = [] ∨ ∃ b off, A = some ⟨b, off, none⟩ ∧ ∀ j v, vs[j]? = some v → w.cell? ⟨b, off + j, none⟩ = some v
theorem Row.ext {w w' : World} {A : Option Addr} {vs : List Value} (h : Row w A vs) (k : Ext w w') : Row w' A vs := by
  rcases h with h | ⟨b, off, e, hc⟩
  · exact .inl h
  · exact .inr ⟨b, off, e, fun j v hv => k.cell (hc j v hv)⟩
theorem Row.nil (w : World) (A : Option Addr) : Row w A [] := .inl rfl
theorem Row.at {w : World} {A : Option Addr} {vs : List Value} (h : Row w A vs) (hne : 0 < vs.length) :
    ∃ b off, A = some ⟨b, off, none⟩ ∧ ∀ j v, vs[j]? = some v → w.cell? ⟨b, off + j, none⟩ = some v := by
  rcases h with rfl | h
  · simp at hne
  · exact h
/-- A row in a new block. -/
theorem Row.new (w : World) (vs : List Value) (t : TypeId) : Row (w.alloc (.cells vs.toArray t)) (some ⟨w.heap.size, 0, none⟩) vs := by
  refine .inr ⟨_, _, rfl, fun j v hv => ?_⟩
  rw [World.cell?_alloc_at _ _ _ _ rfl]
  simpa using hv
def strV (s : ByteArray) : Value := .string s
theorem strV_at {l : List ByteArray} {k : Nat} (h : k < l.length) : (l.map strV)[k]? = some (.string l[k]) := by simp [strV, h]
/-- string([]byte{..}), the bytes in a new block. -/
theorem conv_new {P : Program} (W : World) (src e dst : TypeId) (hs : P.underlying src = some (.slice e)) (he : P.underlying e = some (.int .u8)) (hd : P.underlying dst = some .string) (c : Nat) (xs : List Int) :
    (convert src dst (.slice (some ⟨W.heap.size, 0, none⟩) xs.length c)).run P (W.alloc (.cells (xs.map (Value.int .u8)).toArray e)) = .ok (.string (strOfNums xs)) (W.alloc (.cells (xs.map (Value.int .u8)).toArray e)) :=
  run_convert_bytes_arg _ src e hs he _ 0 _ c xs rfl (fun i hi => by
    rw [World.cell?_alloc_at _ _ _ _ rfl]
    simp [List.getElem?_eq_getElem hi, List.getD_eq_getElem?_getD]) dst hd
/-- A string's bytes tell it; the walk's spelling of '=='. -/
theorem str_eq {s t : ByteArray} : s = t ↔ s.data.toList = t.data.toList := ⟨fun h => by rw [h], fun h => by
  cases s; cases t; simp at h; simpa using h⟩
theorem str_yes {q s : ByteArray} (h : q.data.toList = s.data.toList) : (q.toList == s.toList) = true := by
  rw [beq_iff_eq, ByteArray.toList_eq, ByteArray.toList_eq, h]
theorem str_no {q s : ByteArray} (h : q.data.toList ≠ s.data.toList) : (q.toList == s.toList) = false := by
  rw [beq_eq_false_iff_ne, ByteArray.toList_eq, ByteArray.toList_eq]; exact h
theorem str_lit {q : ByteArray} {l : List UInt8} (h : q.data.toList = l) : (q.toList == l) = true := by
  rw [beq_iff_eq, ByteArray.toList_eq, h]
theorem str_lit_no {q : ByteArray} {l : List UInt8} (h : q.data.toList ≠ l) : (q.toList == l) = false := by
  rw [beq_eq_false_iff_ne, ByteArray.toList_eq]; exact h
theorem extract_take (s : ByteArray) (n : Nat) : (s.extract 0 n).data.toList = s.data.toList.take n := by
  simp [ByteArray.data_extract]

end Go.Proofs.Ytjphmjegfpdbeaa
