/- Words on a part of a block; rows of values. No condition. -/
import Derived.Test.YtgnbbklnobladaaBuf
import Derived.Deep.MidRow
namespace Go.Proofs.Ytgnbbklnobladaa
open Go.RowKit

theorem Row.touch {w w' : World} {A : Option Addr} {vs : List Value} {S : List Nat} (h : Row w A vs) (k : Touch S w w') (hS : ∀ j ∈ own (.slice A 0 0), j ∉ S) : Row w' A vs := by
  rcases h with h | ⟨b, off, rfl, hc⟩
  · exact .inl h
  · exact .inr ⟨b, off, rfl, fun j v hv => k.cell (hc j v hv) (hS b (by simp [own]))⟩
theorem Row.of_blk {w : World} {g : Nat} {T : TypeId} {xs : List Value} (h : Blk w g T xs) : Row w (some ⟨g, 0, none⟩) xs := .inr ⟨g, 0, rfl, fun j v hv => by rw [h.cell]; simpa using hv⟩
section
variable {P : Program} {ops : Array Oper} {Q : Exit → Act → World → Prop} {rest : List Oper} {o : Oper} {a : Act} {w : World}
/-- A whole array into a part of a block. -/
theorem wpList_store_part (hgd : o.guard = none) (ty : TypeId) (x y : Operand) (ho : o.op = .store ty x y) (hd : o.dst = none) (g off : Nat) (hx : a.eval x = .pointer (some ⟨g, off, none⟩)) (T : TypeId) (xs ys : List Value)
    (hy : a.eval y = .agg ys.toArray) (hg : Blk w g T xs) (hl : off + ys.length ≤ xs.length) (hi : (P.info? ty).map (·.size) = some ys.length) (h1 : ys.all (·.oneCell') = true)
    (h : wpList P ops Q rest a (w.setRow g (xs.take off ++ ys ++ xs.drop (off + ys.length)).toArray)) : wpList P ops Q (o :: rest) a w := by
  refine wpList_plain hgd fun K hK => ?_
  unfold Oper.wp execOp
  have hst := run_storeCells_at P g off T ys 0 xs.toArray w hg (by simpa using hl) (by simpa using h1)
  have hr : (storeVar ty ⟨g, off, none⟩ (.agg ys.toArray)).run P w = .ok () (w.setRow g (xs.take off ++ ys ++ xs.drop (off + ys.length)).toArray) := by
    cases hq : P.info? ty with
    | none => simp [hq] at hi
    | some i =>
      have hs : ys.length = i.size := by simp [hq] at hi; omega
      simp only [Nat.add_zero] at hst
      simp [storeVar, sizeOf, typeInfo, hq, Value.cells, hs]
      simpa [hs] using hst
  simp only [ho, hx, hy, Instr.storeAt, Instr.sureAddr, Sem.run_bind, Sem.run_pure, Result.andThen_ok, hr]
  have hput : ∀ v, a.put o.dst v = a := fun v => by rw [hd]; rfl
  simp only [Oper.upon, hput]
  exact hK _ _ h
/-- A whole array out of a part of a block. -/
theorem wpList_load_part (hgd : o.guard = none) (ty : TypeId) (x : Operand) (ho : o.op = .load ty x) (g off : Nat) (hx : a.eval x = .pointer (some ⟨g, off, none⟩)) (T : TypeId) (xs ys : List Value) (hg : Blk w g T xs) (hp : (xs.drop off).take ys.length = ys) (d : TypeDesc)
    (hu : P.underlying ty = some d) (hd : d.isRow = true) (hi : (P.info? ty).map (·.size) = some ys.length)
    (h : wpList P ops Q rest (a.put o.dst (.agg ys.toArray)) w) : wpList P ops Q (o :: rest) a w :=
  wpList_load_mid hgd ty x ho g off hx ys d (fun j v hv => by
    have hj : j < ys.length := (List.getElem?_eq_some_iff.1 hv).1
    rw [hg.cell, ← List.getElem?_drop]
    rw [← hp, List.getElem?_take_of_lt hj] at hv
    exact hv) hu hd hi h
end

section
variable {P : Program} {ops : Array Oper} {Q : Exit → Act → World → Prop} {rest : List Oper} {o : Oper} {a : Act} {w : World}
/-- A whole array into a part of a block; the world behind is any that is as told. -/
theorem wpList_store_part_any (hgd : o.guard = none) (ty : TypeId) (x y : Operand) (ho : o.op = .store ty x y) (hd : o.dst = none) (g off : Nat) (hx : a.eval x = .pointer (some ⟨g, off, none⟩)) (T : TypeId) (xs ys : List Value)
    (hy : a.eval y = .agg ys.toArray) (hg : Blk w g T xs) (hl : off + ys.length ≤ xs.length) (hi : (P.info? ty).map (·.size) = some ys.length) (h1 : ys.all (·.oneCell') = true)
    (h : ∀ w', Blk w' g T (xs.take off ++ ys ++ xs.drop (off + ys.length)) → Touch [g] w w' → wpList P ops Q rest a w') : wpList P ops Q (o :: rest) a w :=
  wpList_store_part hgd ty x y ho hd g off hx T xs ys hy hg hl hi h1 (h _ (hg.row _) (Touch.row _ _ _))
end
end Go.Proofs.Ytgnbbklnobladaa
