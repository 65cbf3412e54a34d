/- Words on slices of one-cell elements that a call owns: read, cut, appended to, turned to a string. No condition. -/
import Derived.Test.YtjphmjegfpdbeaaArr
import Derived.Deep.AppendSrc
import Derived.Laws.AppendOwn
import Derived.Laws.BytesArg
import Derived.Laws.IdiomStrings
namespace Go.Proofs.Ytjphmjegfpdbeaa
open Go.RowKit

/-- What was there is as it was, but for the blocks S. -/
structure Touch (S : List Nat) (w w' : World) : Prop where
  os : w'.os = w.os
  tape : w'.tape = w.tape
  output : w'.output = w.output
  size : w.heap.size ≤ w'.heap.size
  block : ∀ k, k < w.heap.size → k ∉ S → w'.heap[k]? = w.heap[k]?
theorem Touch.refl (S : List Nat) (w : World) : Touch S w w := ⟨rfl, rfl, rfl, Nat.le_refl _, fun _ _ _ => rfl⟩
theorem Touch.of_ext {S : List Nat} {w w' : World} (h : Ext w w') : Touch S w w' := ⟨h.os, h.tape, h.output, Below.size h, fun k hk _ => h.block k hk⟩
theorem Touch.to_ext {w w' : World} (h : Touch [] w w') : Ext w w' := ⟨h.os, h.tape, h.output, h.size, fun k hk => h.block k hk (by simp)⟩
theorem Touch.trans {S S' : List Nat} {a b c : World} (h : Touch S a b) (k : Touch S' b c) (hs : ∀ j ∈ S', j ∈ S ∨ a.heap.size ≤ j) : Touch S a c :=
  ⟨k.os.trans h.os, k.tape.trans h.tape, k.output.trans h.output, Nat.le_trans h.size k.size, fun j hj hn =>
    (k.block j (Nat.lt_of_lt_of_le hj h.size) (fun hm => by rcases hs j hm with h1 | h1; exact hn h1; omega)).trans (h.block j hj hn)⟩
theorem Touch.more {S S' : List Nat} {a b : World} (h : Touch S a b) (hs : ∀ j ∈ S, j ∈ S') : Touch S' a b := ⟨h.os, h.tape, h.output, h.size, fun j hj hn => h.block j hj fun hm => hn (hs j hm)⟩
theorem Touch.below {B : Nat} {S : List Nat} {a w w' : World} (h : Below B a w) (k : Touch S w w') (hS : ∀ j ∈ S, B ≤ j) (hB : B ≤ w.heap.size) : Below B a w' :=
  ⟨k.os.trans h.os, k.tape.trans h.tape, k.output.trans h.output, Nat.le_trans h.size k.size, fun j hj => (k.block j (by omega) (fun hm => by have := hS j hm; omega)).trans (h.block j hj)⟩
theorem Touch.set (w : World) (a : Addr) (v : Value) : Touch [a.block] w (w.setCell a v) :=
  ⟨rfl, rfl, rfl, by rw [size_setCell]; exact Nat.le_refl _, fun k _ hn => heap_setCell_other w a k v (by simpa using hn)⟩
theorem Touch.row (w : World) (g : Nat) (cs : Array Value) : Touch [g] w (w.setRow g cs) :=
  ⟨rfl, rfl, rfl, by rw [size_setRow]; exact Nat.le_refl _, fun k _ hn => heap_setRow_other w g k cs (by simpa using hn)⟩
theorem Blk.touch {w w' : World} {g : Nat} {T : TypeId} {xs : List Value} {S : List Nat} (h : Blk w g T xs) (k : Touch S w w') (hg : g ∉ S) : Blk w' g T xs := (k.block g h.lt hg).trans h
theorem Touch.cell {S : List Nat} {w w' : World} (h : Touch S w w') {a : Addr} {v : Value} (hc : w.cell? a = some v) (hn : a.block ∉ S) : w'.cell? a = some v :=
  (World.cell?_of_block (h.block a.block (World.block_lt_of_cell? w a hc) hn)).trans hc

/-- The block g holds these cells; none of them is frozen. -/
def BlkZ (w : World) (g : Nat) (T : TypeId) (xs : List Value) : Prop := ∃ fz : Nat × Nat, w.heap[g]? = some (.cells xs.toArray T fz) ∧ ∀ j, j < xs.length → ¬ (fz.1 ≤ j ∧ j < fz.2)
theorem Blk.z {w : World} {g : Nat} {T : TypeId} {xs : List Value} (h : Blk w g T xs) : BlkZ w g T xs := ⟨(0, 0), h, fun j _ hj => by simp at hj⟩
theorem BlkZ.cell {w : World} {g : Nat} {T : TypeId} {xs : List Value} (h : BlkZ w g T xs) (j : Nat) : w.cell? ⟨g, j, none⟩ = xs[j]? := by
  obtain ⟨fz, h, _⟩ := h
  rw [cell_of_row w g j _ T fz h]; simp
theorem BlkZ.free {w : World} {g : Nat} {T : TypeId} {xs : List Value} (h : BlkZ w g T xs) (j : Nat) (hj : j < xs.length) : w.frozen? ⟨g, j, none⟩ = false := by
  obtain ⟨⟨lo, hi⟩, h, hf⟩ := h
  have := hf j hj
  simp only [World.frozen?, h]
  simp at this ⊢
  intro hl; exact this hl
theorem BlkZ.lt {w : World} {g : Nat} {T : TypeId} {xs : List Value} (h : BlkZ w g T xs) : g < w.heap.size := by
  obtain ⟨fz, h, _⟩ := h
  exact (Array.getElem?_eq_some_iff.1 h).1
theorem BlkZ.touch {w w' : World} {g : Nat} {T : TypeId} {xs : List Value} {S : List Nat} (h : BlkZ w g T xs) (k : Touch S w w') (hg : g ∉ S) : BlkZ w' g T xs := by
  have hl := h.lt
  obtain ⟨fz, h, hf⟩ := h
  exact ⟨fz, (k.block g hl hg).trans h, hf⟩
theorem touch_setCells (g : Nat) : ∀ (vs : List Value) (o : Nat) (w : World), Touch [g] w (w.setCells g o vs)
  | [], _, w => Touch.refl _ w
  | v :: r, o, w => by
    rw [World.setCells]
    exact (Touch.set w ⟨g, o, none⟩ v).trans (touch_setCells g r (o + 1) _) (fun j hj => .inl hj)
theorem heap_setCells {g : Nat} {T : TypeId} {fz : Nat × Nat} : ∀ (vs : List Value) (o : Nat) (w : World) (xs : List Value), w.heap[g]? = some (.cells xs.toArray T fz) → o + vs.length ≤ xs.length →
    (w.setCells g o vs).heap[g]? = some (.cells (xs.take o ++ vs ++ xs.drop (o + vs.length)).toArray T fz)
  | [], o, w, xs, h, _ => by simpa [World.setCells] using h
  | v :: r, o, w, xs, h, hl => by
    rw [List.length_cons] at hl
    have h2 : (w.setCell ⟨g, o, none⟩ v).heap[g]? = some (.cells (xs.set o v).toArray T fz) := by
      simp [World.setCell, Array.getElem?_modify, h]
    rw [World.setCells, heap_setCells r (o + 1) _ (xs.set o v) h2 (by rw [List.length_set]; omega)]
    have e1 : (xs.set o v).take (o + 1) = xs.take o ++ [v] := by
      rw [List.take_succ_eq_append_getElem (by rw [List.length_set]; omega), List.take_set_of_le (by omega)]; simp
    have e2 : (xs.set o v).drop (o + 1 + r.length) = xs.drop (o + (r.length + 1)) := by
      rw [List.drop_set_of_lt (by omega), show o + 1 + r.length = o + (r.length + 1) by omega]
    rw [e1, e2, List.length_cons, List.append_assoc, List.append_assoc, List.append_assoc]; rfl
theorem BlkZ.setCells {w : World} {g : Nat} {T : TypeId} {xs : List Value} (h : BlkZ w g T xs) (o : Nat) (vs : List Value) (hl : o + vs.length ≤ xs.length) : BlkZ (w.setCells g o vs) g T (xs.take o ++ vs ++ xs.drop (o + vs.length)) := by
  obtain ⟨fz, h, hf⟩ := h
  exact ⟨fz, heap_setCells vs o w xs h hl, fun j hj => hf j (by simp at hj; omega)⟩
/-- The block behind a slice. -/
def own : Value → List Nat
  | .slice (some a) _ _ => [a.block]
  | _ => []
theorem own_slice (A : Option Addr) (n c n' c' : Nat) : own (.slice A n c) = own (.slice A n' c') := by cases A <;> rfl
theorem own_cut (p : Prop) [Decidable p] (A : Option Addr) (k n c n' c' : Nat) : own (.slice (if p then A else A.map (·.add k)) n c) = own (.slice A n' c') := by
  split
  · exact own_slice _ _ _ _ _
  · cases A with
    | none => rfl
    | some a => simp only [own, Option.map_some, Addr.add]; split <;> rfl
/-- The slice v reads xs; its elements, of type e, are one cell each; its block lies at B or above. -/
def Buf (w : World) (B : Nat) (e : TypeId) (v : Value) (xs : List Value) : Prop :=
  ∃ A cap, v = .slice A xs.length cap ∧ xs.length ≤ cap ∧ cap ≤ maxLen ∧ (∀ k ∈ own v, B ≤ k ∧ k < w.heap.size) ∧
    (cap = 0 ∨ ∃ b off cs, A = some ⟨b, off, none⟩ ∧ BlkZ w b e cs ∧ off + cap ≤ cs.length ∧ (cs.drop off).take xs.length = xs)
theorem Buf.nil (w : World) (B : Nat) (e : TypeId) : Buf w B e (.slice none 0 0) [] := ⟨none, 0, rfl, Nat.le_refl _, Nat.zero_le _, by simp [own], .inl rfl⟩
theorem Buf.touch {w w' : World} {B : Nat} {e : TypeId} {v : Value} {xs : List Value} {S : List Nat} (h : Buf w B e v xs) (k : Touch S w w') (hS : ∀ j ∈ own v, j ∉ S) : Buf w' B e v xs := by
  obtain ⟨A, cap, rfl, h1, h2, h3, h4⟩ := h
  refine ⟨A, cap, rfl, h1, h2, fun j hj => ⟨(h3 j hj).1, Nat.lt_of_lt_of_le (h3 j hj).2 k.size⟩, ?_⟩
  rcases h4 with h4 | ⟨b, off, cs, rfl, hb, h5, h6⟩
  · exact .inl h4
  · exact .inr ⟨b, off, cs, rfl, hb.touch k (hS b (by simp [own])), h5, h6⟩
theorem Buf.ext {w w' : World} {B : Nat} {e : TypeId} {v : Value} {xs : List Value} (h : Buf w B e v xs) (k : Ext w w') : Buf w' B e v xs := h.touch (Touch.of_ext (S := []) k) (by simp)
theorem Buf.lower {w : World} {B B' : Nat} {e : TypeId} {v : Value} {xs : List Value} (h : Buf w B e v xs) (hB : B' ≤ B) : Buf w B' e v xs := by
  obtain ⟨A, cap, rfl, h1, h2, h3, h4⟩ := h
  exact ⟨A, cap, rfl, h1, h2, fun j hj => ⟨Nat.le_trans hB (h3 j hj).1, (h3 j hj).2⟩, h4⟩
theorem Buf.owns {w : World} {B : Nat} {e : TypeId} {v : Value} {xs : List Value} (h : Buf w B e v xs) : ∀ k ∈ own v, B ≤ k ∧ k < w.heap.size := by
  obtain ⟨A, cap, rfl, h1, h2, h3, h4⟩ := h
  exact h3
theorem Buf.form {w : World} {B : Nat} {e : TypeId} {v : Value} {xs : List Value} (h : Buf w B e v xs) : ∃ A cap, v = .slice A xs.length cap := by
  obtain ⟨A, cap, rfl, _⟩ := h
  exact ⟨A, cap, rfl⟩
/-- A new row whose slice reads it all, or its beginning. -/
theorem Buf.new (w : World) (e : TypeId) (B : Nat) (hB : B ≤ w.heap.size) (xs ys : List Value) (hm : xs.length + ys.length ≤ maxLen) : Buf (w.alloc (.cells (xs ++ ys).toArray e)) B e (.slice (some ⟨w.heap.size, 0, none⟩) xs.length (xs.length + ys.length)) xs :=
  ⟨_, _, rfl, by omega, hm, by simp [own]; omega, .inr ⟨_, _, _, rfl, (Blk.new _ _ _).z, by simp, by simp⟩⟩
theorem Buf.cell {w : World} {B : Nat} {e : TypeId} {A : Option Addr} {n cap : Nat} {xs : List Value} (h : Buf w B e (.slice A n cap) xs) {j : Nat} {u : Value} (hu : xs[j]? = some u) :
    ∃ b off, A = some ⟨b, off, none⟩ ∧ w.cell? ⟨b, off + j, none⟩ = some u := by
  obtain ⟨A', cap', he, h1, h2, h3, h4⟩ := h
  injection he with e1 e2 e3
  subst e1 e3
  have hj : j < xs.length := (List.getElem?_eq_some_iff.1 hu).1
  rcases h4 with h4 | ⟨b, off, cs, rfl, hb, h5, h6⟩
  · omega
  · refine ⟨b, off, rfl, ?_⟩
    rw [hb.cell]
    rw [← h6, List.getElem?_take_of_lt hj, List.getElem?_drop] at hu
    exact hu
/-- v[k:] -/
theorem Buf.cut {w : World} {B : Nat} {e : TypeId} {A : Option Addr} {n cap : Nat} {xs : List Value} (h : Buf w B e (.slice A n cap) xs) (k : Nat) (hk : k ≤ xs.length) :
    Buf w B e (.slice (if cap = k then A else A.map (·.add (k * 1))) (n - k) (cap - k)) (xs.drop k) := by
  obtain ⟨A', cap', he, h1, h2, h3, h4⟩ := h
  injection he with e1 e2 e3
  subst e1 e2 e3
  refine ⟨_, cap - k, by rw [List.length_drop], by rw [List.length_drop]; omega, by omega, ?_, ?_⟩
  · intro j hj
    refine h3 j ?_
    split at hj
    · rw [own_slice _ _ _ (xs.length - k) (cap - k)]; exact hj
    · cases A with
      | none => simp [own] at hj
      | some a => simpa [own, Addr.add, apply_ite Addr.block] using hj
  · by_cases hc : cap = k
    · exact .inl (by omega)
    · rcases h4 with h4 | ⟨b, off, cs, rfl, hb, h5, h6⟩
      · omega
      · refine .inr ⟨b, off + k, cs, by rw [if_neg hc]; simp [Addr.add_lit], hb, by omega, ?_⟩
        rw [← List.drop_drop, List.length_drop, ← List.drop_take, h6]
/-- v[:k] -/
theorem Buf.front {w : World} {B : Nat} {e : TypeId} {A : Option Addr} {n cap : Nat} {xs : List Value} (h : Buf w B e (.slice A n cap) xs) (k : Nat) (hk : k ≤ xs.length) : Buf w B e (.slice A k cap) (xs.take k) := by
  obtain ⟨A', cap', he, h1, h2, h3, h4⟩ := h
  injection he with e1 e2 e3
  subst e1 e2 e3
  have hl : (xs.take k).length = k := by rw [List.length_take]; omega
  refine ⟨_, cap, by rw [hl], by omega, h2, by rw [own_slice _ _ _ xs.length cap]; exact h3, ?_⟩
  rcases h4 with h4 | ⟨b, off, cs, rfl, hb, h5, h6⟩
  · exact .inl h4
  · refine .inr ⟨b, off, cs, rfl, hb, h5, ?_⟩
    rw [hl]
    conv => rhs; rw [← h6]
    rw [List.take_take, Nat.min_eq_left hk]

section
variable {P : Program} (w : World)
theorem Buf.src {tx e e' : TypeId} {B n cap : Nat} {A : Option Addr} {xs : List Value} (h : Buf w B e (.slice A n cap) xs) (hk : P.underlying tx = some (.slice e')) (h1 : ∀ u ∈ xs, u.oneCell' = true) : Src P 1 tx (.slice A n cap) n xs w := by
  have hn : n = xs.length := by
    obtain ⟨A', cap', he, _⟩ := h
    injection he
  rcases Nat.eq_zero_or_pos n with h0 | h0
  · have hx : xs = [] := List.eq_nil_of_length_eq_zero (by omega)
    subst hx
    subst h0
    cases A with
    | none => exact Src.ofNil w hk cap
    | some a => exact Src.ofSlice w hk a 0 cap [] (by simp) (by simp) (by simp)
  · obtain ⟨b, off, rfl, _⟩ := h.cell (j := 0) (List.getElem?_eq_getElem (by omega))
    refine Src.ofSlice w hk _ n cap xs (by omega) (fun j u hu => ?_) h1
    obtain ⟨b', off', e, hc⟩ := h.cell hu
    injection e with e
    injection e with e1 e2
    subst e1 e2
    rw [Addr.add_lit]
    exact hc

theorem run_append_buf (t tx ty e : TypeId) (i : TypeInfo) (z : Value) (ht : P.underlying t = some (.slice e)) (hi : P.info? e = some i) (hz : i.zero = some z) (hs1 : i.size = 1) (hz1 : z.cells.size = 1)
    (B : Nat) (v : Value) (xs : List Value) (h : Buf w B e v xs) (x : Value) (n : Nat) (news : List Value) (hs : Src P 1 tx x n news w) (hB : B ≤ w.heap.size) (h63 : xs.length + n ≤ maxLen) (hfit : (xs.length + n) * i.bytes ≤ 140737488355328) :
    ∃ v' w', (Builtin.append_ #[t, tx] ty #[v, x]).run P w = .ok v' w' ∧ Buf w' B e v' (xs ++ news) ∧ Touch (own v) w w' ∧ (own v' = own v ∨ own v' = [w.heap.size]) := by
  obtain ⟨A, cap, rfl, h1, h2, h3, h4⟩ := h
  have hnl : news.length = n := by simpa using hs.newsLen
  have hll : (xs ++ news).length = xs.length + n := by rw [List.length_append, hnl]
  have hs' : Src P i.size tx x n news w := by rw [hs1]; exact hs
  by_cases hroom : xs.length + n ≤ cap
  · rcases h4 with rfl | ⟨b, off, cs, rfl, hb, h5, h6⟩
    · have hx : xs = [] := List.eq_nil_of_length_eq_zero (by omega)
      have hn : news = [] := List.eq_nil_of_length_eq_zero (by omega)
      subst hx hn
      have hn0 : n = 0 := by simpa using hnl.symm
      subst hn0
      refine ⟨.slice A 0 0, w, ?_, ⟨A, 0, rfl, by simp, by simp, h3, .inl rfl⟩, Touch.refl _ _, .inl rfl⟩
      have hc := hs.cells
      rcases hs.kind with ⟨e', hk⟩ | hk <;> cases A <;> simp [Builtin.append_, run_underlying ht, run_underlying hk, sizeOf, typeInfo, hi, hs1, hs.len, hc, storeCells]
    · have hr := run_append_room_src (P := P) w t tx ty e i ht hi b off xs.length cap x n news hs' hroom
        (fun j hj => by rw [hs1, Nat.mul_one, hb.cell, List.getElem?_eq_getElem (by omega)]; rfl) (fun j hj => by rw [hs1, Nat.mul_one]; exact hb.free _ (by omega))
      rw [hs1, Nat.mul_one] at hr
      have hb2 := hb.setCells (off + xs.length) news (by omega)
      have ht2 := touch_setCells b news (off + xs.length) w
      refine ⟨_, _, hr, ⟨_, cap, by rw [hll], by omega, h2, ?_, .inr ⟨b, off, _, rfl, hb2, ?_, ?_⟩⟩, ht2, .inl rfl⟩
      · intro j hj
        have := h3 j hj
        exact ⟨this.1, Nat.lt_of_lt_of_le this.2 ht2.size⟩
      · simp; omega
      · rw [hll, List.append_assoc, List.drop_append_of_le_length (by simp; omega), List.drop_take, show off + xs.length - off = xs.length by omega, h6]
        rw [← List.append_assoc]
        exact List.take_left' hll
  · have hold : (Builtin.firstCells i.size xs.length (.slice A xs.length cap)).run P w.drew = .ok xs.toArray w.drew := by
      rcases Nat.eq_zero_or_pos xs.length with h0 | h0
      · have hx : xs = [] := List.eq_nil_of_length_eq_zero h0
        subst hx
        cases A with
        | none => exact run_firstCells_none w.drew i.size 0 0 cap
        | some a => exact run_firstCells_some w.drew i.size 0 a 0 cap [] (by simp) (by simp)
      · rcases h4 with h4 | ⟨b, off, cs, rfl, hb, h5, h6⟩
        · omega
        · refine run_firstCells_some w.drew i.size xs.length _ xs.length cap xs (by rw [hs1, Nat.mul_one]) (fun j u hu => ?_)
          have hj : j < xs.length := (List.getElem?_eq_some_iff.1 hu).1
          have hb' : BlkZ w.drew b e cs := hb
          rw [Addr.add_lit, hb'.cell]
          rw [← h6, List.getElem?_take_of_lt hj, List.getElem?_drop] at hu
          exact hu
    have hr := run_append_grow_src (P := P) w t tx ty e i z ht hi hz A xs.length cap xs hold x n news hs' (by omega) (by simp only [maxLen] at h63; omega) (growslice_fits (by omega) hfit)
    have hge := grownCap_ge w (xs.length + n) cap e
    have hcm := grownCap_le_maxLen w (xs.length + n) cap e h63
    refine ⟨_, _, hr, ⟨_, _, by rw [hll], by rw [hll]; exact hge, hcm, by simp [own]; omega, .inr ⟨w.heap.size, 0, (xs ++ news) ++ (Builtin.zeroCells z.cells (grownCap w (xs.length + n) cap e - (xs.length + n))).toList, rfl, ?_, ?_, ?_⟩⟩, ⟨rfl, rfl, rfl, by simp, fun k hk _ => heap_alloc_old w.drew _ hk⟩, .inr rfl⟩
    · have e1 : ((xs ++ news).toArray ++ Builtin.zeroCells z.cells (grownCap w (xs.length + n) cap e - (xs.length + n))) = ((xs ++ news) ++ (Builtin.zeroCells z.cells (grownCap w (xs.length + n) cap e - (xs.length + n))).toList).toArray := by
        apply Array.ext'
        simp
      rw [e1]
      exact (Blk.new w.drew e _).z
    · have hzl : (Builtin.zeroCells z.cells (grownCap w (xs.length + n) cap e - (xs.length + n))).toList.length = grownCap w (xs.length + n) cap e - (xs.length + n) := by
        rw [Array.length_toList, size_zeroCells, hz1, Nat.mul_one]
      rw [List.length_append, hll, hzl]; omega
    · rw [List.drop_zero]; exact List.take_left' rfl

/-- append, at the operation. -/
theorem wpList_append_buf {ops : Array Oper} {rest : List Oper} {o : Oper} {a : Act} {Q : Exit → Act → World → Prop} (hgd : o.guard = none) (s x : Operand) (t tx : TypeId)
    (ho : o.op = .call { callee := .builtin .append, args := #[s, x], argTypes := #[t, tx] }) (e : TypeId) (i : TypeInfo) (z : Value) (ht : P.underlying t = some (.slice e)) (hi : P.info? e = some i) (hz : i.zero = some z) (hs1 : i.size = 1) (hz1 : z.cells.size = 1)
    (B : Nat) (v : Value) (xs : List Value) (hv : a.eval s = v) (h : Buf w B e v xs) (xv : Value) (n : Nat) (news : List Value) (hx : a.eval x = xv) (hs : Src P 1 tx xv n news w) (hB : B ≤ w.heap.size) (h63 : xs.length + n ≤ maxLen) (hfit : (xs.length + n) * i.bytes ≤ 140737488355328)
    (hk : ∀ v' w', Buf w' B e v' (xs ++ news) → Touch (own v) w w' → (own v' = own v ∨ own v' = [w.heap.size]) → wpList P ops Q rest (a.put o.dst v') w') : wpList P ops Q (o :: rest) a w := by
  refine wpList_plain hgd fun K hK => ?_
  obtain ⟨v', w', hr, h2, h3, h4⟩ := run_append_buf (P := P) w t tx o.type e i z ht hi hz hs1 hz1 B v xs h xv n news hs hB h63 hfit
  unfold Oper.wp execOp
  simp only [ho, resolve, invoke, builtin, Sem.run_bind, Sem.run_pure, Result.andThen_ok, List.map_toArray, List.map_cons, List.map_nil, hv, hx, hr]
  exact hK _ _ (hk v' w' h2 h3 h4)
end

/-- Bytes as whole numbers. -/
def nb (l : List UInt8) : List Int := l.map fun b => (b.toNat : Int)
def bytesV (l : List UInt8) : List Value := numsV .u8 (nb l)
theorem bytesV_length (l : List UInt8) : (bytesV l).length = l.length := by simp [bytesV, numsV, nb]
theorem bytesV_append (l m : List UInt8) : bytesV (l ++ m) = bytesV l ++ bytesV m := by simp [bytesV, numsV, nb]
theorem bytesV_drop (l : List UInt8) (k : Nat) : bytesV (l.drop k) = (bytesV l).drop k := by simp [bytesV, numsV, nb, List.map_drop]
theorem bytesV_take (l : List UInt8) (k : Nat) : bytesV (l.take k) = (bytesV l).take k := by simp [bytesV, numsV, nb, List.map_take]
theorem byteCells_eq (s : ByteArray) : byteCells s = bytesV s.data.toList := by simp [byteCells, bytesV, numsV, nb]
theorem bytesV_one (l : List UInt8) : ∀ u ∈ bytesV l, u.oneCell' = true := by
  intro u hu
  simp only [bytesV, numsV, nb, List.mem_map] at hu
  obtain ⟨_, ⟨_, _, rfl⟩, rfl⟩ := hu
  rfl
theorem bytesV_at (l : List UInt8) (j : Nat) (h : j < l.length) : (bytesV l)[j]? = some (.int .u8 (l[j].toNat : Int)) := by simp [bytesV, numsV, nb, h]
def strOf (l : List UInt8) : ByteArray := ⟨l.toArray⟩
theorem strOf_list (l : List UInt8) : (strOf l).data.toList = l := rfl
theorem strOf_size (l : List UInt8) : (strOf l).size = l.length := by simp [strOf, ByteArray.size]
theorem strOfNums_nb (l : List UInt8) : strOfNums (nb l) = strOf l := by
  rw [str_eq, strOfNums_data, strOf_list, nb, List.map_map]
  conv => rhs; rw [← List.map_id l]
  refine List.map_congr_left fun b _ => ?_
  simp
theorem strOf_self (s : ByteArray) : strOf s.data.toList = s := by rw [str_eq, strOf_list]
/-- string(v) -/
theorem conv_buf {P : Program} (W : World) (src e dst : TypeId) (hs : P.underlying src = some (.slice e)) (he : P.underlying e = some (.int .u8)) (hd : P.underlying dst = some .string) {B : Nat} {A : Option Addr} {n cap : Nat} (l : List UInt8) (h : Buf W B e (.slice A n cap) (bytesV l)) :
    (convert src dst (.slice A n cap)).run P W = .ok (.string (strOf l)) W := by
  have hn : n = l.length := by
    obtain ⟨A', cap', he, _⟩ := h
    injection he with _ e2 _
    rw [e2, bytesV_length]
  rcases A with _ | ⟨b, off, sp⟩
  · have hl : l = [] := by
      cases l with
      | nil => rfl
      | cons x r => obtain ⟨b, off, e, _⟩ := h.cell (j := 0) (u := .int .u8 (x.toNat : Int)) rfl; cases e
    subst hl
    rw [run_convert_bytes_nil W src e hs he n cap dst hd]
    rfl
  · rcases Nat.eq_zero_or_pos n with h0 | h0
    · have hl : l = [] := List.eq_nil_of_length_eq_zero (by omega)
      subst hl
      subst h0
      rw [run_convert_bytes_string W src dst e _ 0 cap hs he hd]
      rfl
    · have h1 := h.cell (bytesV_at l 0 (by omega))
      obtain ⟨b', off', e1, _⟩ := h1
      injection e1 with e1
      injection e1 with e2 e3 e4
      subst e2 e3 e4
      rw [run_convert_bytes_arg W src e hs he b off n cap (nb l) (by simp [nb, hn]) (fun i hi => ?_) dst hd, strOfNums_nb]
      obtain ⟨b', off', e1, hc⟩ := h.cell (bytesV_at l i (by omega))
      injection e1 with e1
      injection e1 with e2 e3 e4
      subst e2 e3
      rw [hc]
      simp [nb, List.getD_eq_getElem?_getD, show i < l.length by omega]

/-- []byte(s) -/
theorem conv_bytes {P : Program} (W : World) (src dst e : TypeId) (hs : P.underlying src = some .string) (hd : P.underlying dst = some (.slice e)) (he : P.underlying e = some (.int .u8)) (B : Nat) (hB : B ≤ W.heap.size) (s : ByteArray) (hm : s.size ≤ maxLen) :
    ∃ cap W', (convert src dst (.string s)).run P W = .ok (.slice (some ⟨W.heap.size, 0, none⟩) s.size cap) W' ∧ Ext W W' ∧ Buf W' B e (.slice (some ⟨W.heap.size, 0, none⟩) s.size cap) (bytesV s.data.toList) := by
  have hge := grownCap_ge W s.size 0 e
  have hle := grownCap_le_maxLen W s.size 0 e hm
  refine ⟨_, _, run_bytes_of_string W src dst e s hs hd he, ⟨rfl, rfl, rfl, by simp, fun k hk => heap_alloc_old W.drew _ hk⟩, ?_⟩
  have hl : (bytesV s.data.toList).length = s.size := by rw [bytesV_length]; simp
  have hz : BlkZ (W.drew.alloc (.cells (bytesRow s (grownCap W s.size 0 e)) e ((bytesRow s (grownCap W s.size 0 e)).size, (bytesRow s (grownCap W s.size 0 e)).size + 1))) W.heap.size e (bytesV s.data.toList ++ List.replicate (grownCap W s.size 0 e - s.size) (.int .u8 0)) := by
    refine ⟨((bytesRow s (grownCap W s.size 0 e)).size, (bytesRow s (grownCap W s.size 0 e)).size + 1), (heap_alloc_last W.drew _).trans ?_, ?_⟩
    · congr 2
      apply Array.ext'
      simp [bytesRow, bytesV, numsV, nb]
    · intro j hj h
      have : (bytesRow s (grownCap W s.size 0 e)).size = s.size + (grownCap W s.size 0 e - s.size) := by simp [bytesRow]
      rw [List.length_append, hl, List.length_replicate] at hj
      omega
  refine ⟨_, _, by rw [hl], by rw [hl]; exact hge, hle, by simp [own]; omega, .inr ⟨_, 0, _, rfl, hz, ?_, ?_⟩⟩
  · rw [List.length_append, hl, List.length_replicate]; omega
  · rw [List.drop_zero]; exact List.take_left' rfl
end Go.Proofs.Ytjphmjegfpdbeaa
