/- Words on blocks of cells that are known whole: read, written, kept. No condition. -/
import Derived.Test.YtjphmjegfpdbeaaRow
import Derived.Laws.Rows
import Derived.Laws.CopyRow
import Derived.Deep.WholeRow
namespace Go.Proofs.Ytjphmjegfpdbeaa
open Go.RowKit

/-- The block g holds these cells, of type T, none of them frozen. -/
def Blk (w : World) (g : Nat) (T : TypeId) (xs : List Value) : Prop := w.heap[g]? = some (.cells xs.toArray T (0, 0))
theorem Blk.cell {w : World} {g : Nat} {T : TypeId} {xs : List Value} (h : Blk w g T xs) (j : Nat) : w.cell? ⟨g, j, none⟩ = xs[j]? := by
  rw [cell_of_row w g j _ T (0, 0) h]; simp
theorem Blk.free {w : World} {g : Nat} {T : TypeId} {xs : List Value} (h : Blk w g T xs) (j : Nat) : w.frozen? ⟨g, j, none⟩ = false := frozen_of_row w g j _ T h
theorem Blk.lt {w : World} {g : Nat} {T : TypeId} {xs : List Value} (h : Blk w g T xs) : g < w.heap.size := (Array.getElem?_eq_some_iff.1 h).1
theorem Blk.ext {w w' : World} {g : Nat} {T : TypeId} {xs : List Value} (h : Blk w g T xs) (k : Ext w w') : Blk w' g T xs := (Below.block k g h.lt).trans h
theorem Blk.below {B : Nat} {w w' : World} {g : Nat} {T : TypeId} {xs : List Value} (h : Blk w g T xs) (k : Below B w w') (hB : g < B) : Blk w' g T xs := (Below.block k g hB).trans h
theorem Blk.drewN {w : World} {g : Nat} {T : TypeId} {xs : List Value} (h : Blk w g T xs) (n : Nat) : Blk (w.drewN n) g T xs := h
theorem Blk.new (w : World) (T : TypeId) (xs : List Value) : Blk (w.alloc (.cells xs.toArray T)) w.heap.size T xs := heap_alloc_last w _
theorem Blk.old {w : World} {g : Nat} {T : TypeId} {xs : List Value} (h : Blk w g T xs) (o : Obj) : Blk (w.alloc o) g T xs := (heap_alloc_old w o h.lt).trans h
theorem Blk.set {w : World} {g : Nat} {T : TypeId} {xs : List Value} (h : Blk w g T xs) (i : Nat) (v : Value) : Blk (w.setCell ⟨g, i, none⟩ v) g T (xs.set i v) := by
  have := heap_setCell_same w g i _ T v h
  unfold Blk
  rw [this]; simp
theorem Blk.set_other {w : World} {g : Nat} {T : TypeId} {xs : List Value} (h : Blk w g T xs) (a : Addr) (v : Value) (hne : g ≠ a.block) : Blk (w.setCell a v) g T xs := (heap_setCell_other w a g v hne).trans h
theorem Blk.row {w : World} {g : Nat} {T : TypeId} {xs : List Value} (h : Blk w g T xs) (ys : List Value) : Blk (w.setRow g ys.toArray) g T ys := setRow_heap w g _ _ T (0, 0) h
theorem heap_setRow_other (w : World) (g k : Nat) (cs : Array Value) (h : k ≠ g) : (w.setRow g cs).heap[k]? = w.heap[k]? := by
  simp only [World.setRow, Array.getElem?_modify]
  rw [if_neg (by omega)]
theorem Blk.row_other {w : World} {g k : Nat} {T : TypeId} {xs : List Value} (h : Blk w k T xs) (cs : Array Value) (hne : k ≠ g) : Blk (w.setRow g cs) k T xs := (heap_setRow_other w g k cs hne).trans h
theorem size_setRow (w : World) (g : Nat) (cs : Array Value) : (w.setRow g cs).heap.size = w.heap.size := by simp [World.setRow]
theorem below_setRow {B : Nat} {a w : World} (h : Below B a w) {g : Nat} (hg : B ≤ g) (cs : Array Value) : Below B a (w.setRow g cs) :=
  h.trans ⟨rfl, rfl, rfl, by rw [size_setRow]; omega, fun k hk => heap_setRow_other w g k cs (by omega)⟩
theorem size_setCell (w : World) (a : Addr) (v : Value) : (w.setCell a v).heap.size = w.heap.size := by simp [World.setCell]

section
variable {P : Program} {ops : Array Oper} {Q : Exit → Act → World → Prop} {rest : List Oper} {o : Oper} {a : Act} {w : World}
/-- A whole array into a block. -/
theorem wpList_store_blk (hgd : o.guard = none) (ty : TypeId) (x y : Operand) (ho : o.op = .store ty x y) (hd : o.dst = none) (g : Nat) (hx : a.eval x = .pointer (some ⟨g, 0, none⟩)) (T : TypeId) (xs ys : List Value)
    (hy : a.eval y = .agg ys.toArray) (hg : Blk w g T xs) (hl : xs.length = ys.length) (hi : (P.info? ty).map (·.size) = some ys.length) (h1 : ys.all (·.oneCell') = true)
    (h : wpList P ops Q rest a (w.setRow g ys.toArray)) : wpList P ops Q (o :: rest) a w := by
  refine wpList_plain hgd fun K hK => ?_
  unfold Oper.wp execOp
  have hr := run_storeVar_row (P := P) w g T ty xs.toArray ys.toArray hg (by simpa using hi) (by simpa using hl) (by simpa using h1)
  simp only [ho, hx, hy, Instr.storeAt, Instr.sureAddr, Sem.run_bind, Sem.run_pure, Result.andThen_ok, hr]
  have hput : ∀ v, a.put o.dst v = a := fun v => by rw [hd]; rfl
  simp only [Oper.upon, hput]
  exact hK _ _ h
/-- A whole array into the block that was made last. -/
theorem wpList_store_new (hgd : o.guard = none) (ty : TypeId) (x y : Operand) (ho : o.op = .store ty x y) (hd : o.dst = none) (hx : a.eval x = .pointer (some ⟨w.heap.size, 0, none⟩)) (T : TypeId) (xs ys : List Value)
    (hy : a.eval y = .agg ys.toArray) (hl : xs.length = ys.length) (hi : (P.info? ty).map (·.size) = some ys.length) (h1 : ys.all (·.oneCell') = true)
    (h : wpList P ops Q rest a (w.alloc (.cells ys.toArray T))) : wpList P ops Q (o :: rest) a (w.alloc (.cells xs.toArray T)) := by
  refine wpList_store_blk hgd ty x y ho hd w.heap.size hx T xs ys hy (Blk.new _ _ _) hl hi h1 ?_
  rw [World.setRow_alloc_new]
  exact h
/-- A whole array out of a block. -/
theorem wpList_load_blk (hgd : o.guard = none) (ty : TypeId) (x : Operand) (ho : o.op = .load ty x) (g : Nat) (hx : a.eval x = .pointer (some ⟨g, 0, none⟩)) (T : TypeId) (xs : List Value) (hg : Blk w g T xs) (d : TypeDesc)
    (hu : P.underlying ty = some d) (hd : (match d with | .struct _ | .array _ _ => true | _ => false) = true) (hi : (P.info? ty).map (·.size) = some xs.length)
    (h : wpList P ops Q rest (a.put o.dst (.agg xs.toArray)) w) : wpList P ops Q (o :: rest) a w :=
  wpList_load_row hgd ty x ho g hx T xs.toArray (0, 0) d hg hu hd (by simpa using hi) h
end
/-- The result lies in a block. -/
theorem results_blk {P : Program} {fn : Func} {p : Tmp} {ty : TypeId} (h : fn.results = #[.cell p ty]) (tmps : Array Value) (w : World) (g : Nat) (T : TypeId) (xs : List Value) (d : TypeDesc)
    (hp : tmps.getD p undef = .pointer (some ⟨g, 0, none⟩)) (hg : Blk w g T xs) (hu : P.underlying ty = some d) (hd : (match d with | .struct _ | .array _ _ => true | _ => false) = true) (hi : (P.info? ty).map (·.size) = some xs.length) :
    (results fn tmps).run P w = .ok (.agg xs.toArray) w :=
  results_cell_row h tmps w g T xs.toArray (0, 0) d hp hg hu hd (by simpa using hi)
theorem zero_run {P : Program} {t : TypeId} {v : Value} {n b : Nat} (h : (P.info? t).map (fun i => (i.zero, i.size, i.bytes)) = some (some v, n, b)) (w : World) : (zeroValue t).run P w = .ok v w := by
  obtain ⟨i0, hi, hzz⟩ := Option.map_eq_some_iff.1 h
  simp only [Prod.mk.injEq] at hzz
  simp [zeroValue, typeInfo, hi, hzz.1]
theorem info_size {P : Program} {t : TypeId} {v : Value} {n b : Nat} (h : (P.info? t).map (fun i => (i.zero, i.size, i.bytes)) = some (some v, n, b)) : (P.info? t).map (·.size) = some n := by
  obtain ⟨i0, hi, hzz⟩ := Option.map_eq_some_iff.1 h
  simp only [Prod.mk.injEq] at hzz
  simp [hi, hzz.2.1]
/-- Whole numbers of a kind, as values. -/
def numsV (k : IntKind) (xs : List Int) : List Value := xs.map fun x => .int k x
theorem numsV_length (k : IntKind) (xs : List Int) : (numsV k xs).length = xs.length := by simp [numsV]
theorem numsV_set (k : IntKind) (xs : List Int) (i : Nat) (x : Int) : (numsV k xs).set i (.int k x) = numsV k (xs.set i x) := by simp [numsV, List.map_set]
theorem numsV_one (k : IntKind) (xs : List Int) : (numsV k xs).all (·.oneCell') = true := by simp [numsV, Value.oneCell']
theorem numsV_at (k : IntKind) (xs : List Int) (i : Nat) (h : i < xs.length) : (numsV k xs)[i]? = some (.int k (xs.getD i 0)) := by simp [numsV, h, List.getD_eq_getElem?_getD]
theorem numsV_app_at (k : IntKind) (ws us : List Int) (i : Nat) (h : i < ws.length) : (numsV k (ws ++ us))[i]? = some (.int k (ws.getD i 0)) := by
  rw [numsV_at k _ i (by rw [List.length_append]; omega)]
  simp [List.getD_eq_getElem?_getD, List.getElem?_append_left h]
/-- An element of an array of whole numbers that is held as a value. -/
theorem run_index_nums {P : Program} (t e : TypeId) (n b : Nat) (k : IntKind) (hu : P.underlying t = some (.array n e)) (he : (P.info? e).map (fun i => (i.zero, i.size, i.bytes)) = some (some (.int k 0), 1, b)) (hk : P.underlying e = some (.int k)) (xs : List Int) (hl : xs.length = n) (i : Nat) (hi : i < n) (w : World) :
    (Instr.index t (.agg (numsV k xs).toArray) (.int .i64 (i : Int))).run P w = .ok (.int k (xs.getD i 0)) w := by
  obtain ⟨i0, h0, hzz⟩ := Option.map_eq_some_iff.1 he
  simp only [Prod.mk.injEq] at hzz
  have hx : (numsV k xs)[i]? = some (.int k (xs.getD i 0)) := numsV_at _ _ _ (by omega)
  have hpart : (part e (numsV k xs).toArray i).run P w = .ok (.int k (xs.getD i 0)) w := by
    simp only [part, isAgg, Sem.run_bind, run_underlying hk, Result.andThen_ok, Sem.run_pure]
    simp [hx]
  simp [Instr.index, asIntOf, run_underlying hu, hi, sizeOf, typeInfo, h0, hzz.2.1, hpart]

end Go.Proofs.Ytjphmjegfpdbeaa
