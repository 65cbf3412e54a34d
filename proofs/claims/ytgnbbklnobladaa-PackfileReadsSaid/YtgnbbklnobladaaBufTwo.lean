/- The append that says where it wrote; a relation for drawn regions with one append among them. No condition. -/
import Derived.Test.YtgnbbklnobladaaBufMore
import Derived.Test.YtgnbbklnobladaaCalm
namespace Go.Proofs.Ytgnbbklnobladaa
open Go.RowKit
section
variable {P : Program} (w : World)
theorem run_append_buf2 (t tx ty e : TypeId) (i : TypeInfo) (z : Value) (ht : P.underlying t = some (.slice e)) (hi : P.info? e = some i) (hz : i.zero = some z) (hs1 : i.size = 1) (hz1 : z.cells.size = 1)
    (B : Nat) (v : Value) (xs : List Value) (h : Buf w B e v xs) (x : Value) (n : Nat) (news : List Value) (hs : Src P 1 tx x n news w) (hB : B ≤ w.heap.size) (h63 : xs.length + n ≤ maxLen) (hfit : (xs.length + n) * i.bytes ≤ 140737488355328) :
    ∃ v' w', (Builtin.append_ #[t, tx] ty #[v, x]).run P w = .ok v' w' ∧ Buf w' B e v' (xs ++ news) ∧ Touch (own v) w w' ∧ (own v' = own v ∨ own v' = [w.heap.size]) ∧ ((∃ A cap, v = .slice A xs.length cap ∧ v' = .slice A (xs.length + n) cap) ∨ (Ext w w' ∧ own v' = [w.heap.size])) := by
  obtain ⟨A, cap, rfl, h1, h2, h3, h4⟩ := h
  have hnl : news.length = n := by simpa using hs.newsLen
  have hll : (xs ++ news).length = xs.length + n := by rw [List.length_append, hnl]
  have hs' : Src P i.size tx x n news w := by rw [hs1]; exact hs
  by_cases hroom : xs.length + n ≤ cap
  · rcases h4 with rfl | ⟨b, off, cs, rfl, hb, h5, h6⟩
    · have hx : xs = [] := List.eq_nil_of_length_eq_zero (by omega)
      have hn : news = [] := List.eq_nil_of_length_eq_zero (by omega)
      subst hx hn
      have hn0 : n = 0 := by simpa using hnl.symm
      subst hn0
      refine ⟨.slice A 0 0, w, ?_, ⟨A, 0, rfl, by simp, by simp, h3, .inl rfl⟩, Touch.refl _ _, .inl rfl, .inl ⟨A, 0, rfl, rfl⟩⟩
      have hc := hs.cells
      rcases hs.kind with ⟨e', hk⟩ | hk <;> cases A <;> simp [Builtin.append_, run_underlying ht, run_underlying hk, sizeOf, typeInfo, hi, hs1, hs.len, hc, storeCells]
    · have hr := run_append_room_src (P := P) w t tx ty e i ht hi b off xs.length cap x n news hs' hroom
        (fun j hj => by rw [hs1, Nat.mul_one, hb.cell, List.getElem?_eq_getElem (by omega)]; rfl) (fun j hj => by rw [hs1, Nat.mul_one]; exact hb.free _ (by omega))
      rw [hs1, Nat.mul_one] at hr
      have hb2 := hb.setCells (off + xs.length) news (by omega)
      have ht2 := touch_setCells b news (off + xs.length) w
      refine ⟨_, _, hr, ⟨_, cap, by rw [hll], by omega, h2, ?_, .inr ⟨b, off, _, rfl, hb2, ?_, ?_⟩⟩, ht2, .inl rfl, .inl ⟨_, _, rfl, rfl⟩⟩
      · intro j hj
        have := h3 j hj
        exact ⟨this.1, Nat.lt_of_lt_of_le this.2 ht2.size⟩
      · simp; omega
      · rw [hll, List.append_assoc, List.drop_append_of_le_length (by simp; omega), List.drop_take, show off + xs.length - off = xs.length by omega, h6]
        rw [← List.append_assoc]
        exact List.take_left' hll
  · have hold : (Builtin.firstCells i.size xs.length (.slice A xs.length cap)).run P w.drew = .ok xs.toArray w.drew := by
      rcases Nat.eq_zero_or_pos xs.length with h0 | h0
      · have hx : xs = [] := List.eq_nil_of_length_eq_zero h0
        subst hx
        cases A with
        | none => exact run_firstCells_none w.drew i.size 0 0 cap
        | some a => exact run_firstCells_some w.drew i.size 0 a 0 cap [] (by simp) (by simp)
      · rcases h4 with h4 | ⟨b, off, cs, rfl, hb, h5, h6⟩
        · omega
        · refine run_firstCells_some w.drew i.size xs.length _ xs.length cap xs (by rw [hs1, Nat.mul_one]) (fun j u hu => ?_)
          have hj : j < xs.length := (List.getElem?_eq_some_iff.1 hu).1
          have hb' : BlkZ w.drew b e cs := hb
          rw [Addr.add_lit, hb'.cell]
          rw [← h6, List.getElem?_take_of_lt hj, List.getElem?_drop] at hu
          exact hu
    have hr := run_append_grow_src (P := P) w t tx ty e i z ht hi hz A xs.length cap xs hold x n news hs' (by omega) (by simp only [maxLen] at h63; omega) (growslice_fits (by omega) hfit)
    have hge := grownCap_ge w (xs.length + n) cap e
    have hcm := grownCap_le_maxLen w (xs.length + n) cap e h63
    refine ⟨_, _, hr, ⟨_, _, by rw [hll], by rw [hll]; exact hge, hcm, by simp [own]; omega, .inr ⟨w.heap.size, 0, (xs ++ news) ++ (Builtin.zeroCells z.cells (grownCap w (xs.length + n) cap e - (xs.length + n))).toList, rfl, ?_, ?_, ?_⟩⟩, ⟨rfl, rfl, rfl, by simp, fun k hk _ => heap_alloc_old w.drew _ hk⟩, .inr rfl, .inr ⟨⟨rfl, rfl, rfl, by simp, fun k hk => heap_alloc_old w.drew _ hk⟩, rfl⟩⟩
    · have e1 : ((xs ++ news).toArray ++ Builtin.zeroCells z.cells (grownCap w (xs.length + n) cap e - (xs.length + n))) = ((xs ++ news) ++ (Builtin.zeroCells z.cells (grownCap w (xs.length + n) cap e - (xs.length + n))).toList).toArray := by
        apply Array.ext'
        simp
      rw [e1]
      exact (Blk.new w.drew e _).z
    · have hzl : (Builtin.zeroCells z.cells (grownCap w (xs.length + n) cap e - (xs.length + n))).toList.length = grownCap w (xs.length + n) cap e - (xs.length + n) := by
        rw [Array.length_toList, size_zeroCells, hz1, Nat.mul_one]
      rw [List.length_append, hll, hzl]; omega
    · rw [List.drop_zero]; exact List.take_left' rfl

theorem wpList_append_two {ops : Array Oper} {rest : List Oper} {o : Oper} {a : Act} {Q : Exit → Act → World → Prop} (hgd : o.guard = none) (s x : Operand) (t tx : TypeId)
    (ho : o.op = .call { callee := .builtin .append, args := #[s, x], argTypes := #[t, tx] }) (e : TypeId) (i : TypeInfo) (z : Value) (ht : P.underlying t = some (.slice e)) (hi : P.info? e = some i) (hz : i.zero = some z) (hs1 : i.size = 1) (hz1 : z.cells.size = 1)
    (B : Nat) (v : Value) (xs : List Value) (hv : a.eval s = v) (h : Buf w B e v xs) (xv : Value) (n : Nat) (news : List Value) (hx : a.eval x = xv) (hs : Src P 1 tx xv n news w) (hB : B ≤ w.heap.size) (h63 : xs.length + n ≤ maxLen) (hfit : (xs.length + n) * i.bytes ≤ 140737488355328)
    (hk : ∀ v' w', Buf w' B e v' (xs ++ news) → Touch (own v) w w' → (own v' = own v ∨ own v' = [w.heap.size]) → ((∃ A cap, v = .slice A xs.length cap ∧ v' = .slice A (xs.length + n) cap) ∨ (Ext w w' ∧ own v' = [w.heap.size])) → wpList P ops Q rest (a.put o.dst v') w') : wpList P ops Q (o :: rest) a w := by
  refine wpList_plain hgd fun K hK => ?_
  obtain ⟨v', w', hr, h2, h3, h4, h5⟩ := run_append_buf2 (P := P) w t tx o.type e i z ht hi hz hs1 hz1 B v xs h xv n news hs hB h63 hfit
  unfold Oper.wp execOp
  simp only [ho, resolve, invoke, builtin, Sem.run_bind, Sem.run_pure, Result.andThen_ok, List.map_toArray, List.map_cons, List.map_nil, hv, hx, hr]
  exact hK _ _ (hk v' w' h2 h3 h4 h5)
end
/-- u reads ys; it lies where v lies, or in none of v's blocks. -/
def Near (w : World) (B : Nat) (e : TypeId) (v : Value) (ys : List Value) (b0 : Nat) (u : Value) : Prop :=
  Buf w B e u ys ∧ (∀ j ∈ own u, j ∈ own v ∨ b0 ≤ j) ∧ ((∃ A n c c', v = .slice A n c' ∧ u = .slice A c c') ∨ ∀ j ∈ own u, j ∉ own v)
/-- What a region does whose one append is to v, of xs. -/
structure AppR (B : Nat) (e : TypeId) (v : Value) (xs ys : List Value) (b0 : Nat) (w w' : World) : Prop where
  touch : Touch (own v) w w'
  kept : Buf w B e v xs → Buf w' B e v xs
  near : ∀ u, Near w B e v ys b0 u → Near w' B e v ys b0 u
theorem AppR.refl {B : Nat} {e : TypeId} {v : Value} {xs ys : List Value} {b0 : Nat} (w : World) : AppR B e v xs ys b0 w w := ⟨Touch.refl _ _, id, fun _ h => h⟩
theorem AppR.trans {B : Nat} {e : TypeId} {v : Value} {xs ys : List Value} {b0 : Nat} (a b c : World) (h : AppR B e v xs ys b0 a b) (k : AppR B e v xs ys b0 b c) : AppR B e v xs ys b0 a c :=
  ⟨h.touch.trans k.touch (fun _ hj => .inl hj), fun x => k.kept (h.kept x), fun _ x => k.near _ (h.near _ x)⟩
theorem AppR.ext {B : Nat} {e : TypeId} {v : Value} {xs ys : List Value} {b0 : Nat} {w w' : World} (h : Ext w w') : AppR B e v xs ys b0 w w' :=
  ⟨Touch.of_ext h, fun x => x.ext h, fun _ x => ⟨x.1.ext h, x.2⟩⟩
theorem AppR.drew {B : Nat} {e : TypeId} {v : Value} {xs ys : List Value} {b0 : Nat} (w : World) : AppR B e v xs ys b0 w w.drew := AppR.ext (Ext.drew w)
theorem AppR.app {B : Nat} {e : TypeId} {v v' : Value} {xs news : List Value} {n b0 : Nat} {w w' : World} (hn : news.length = n) (hv : Buf w B e v xs) (hb : b0 ≤ w.heap.size) (h1 : Buf w' B e v' (xs ++ news)) (h2 : Touch (own v) w w')
    (h5 : (∃ A cap, v = .slice A xs.length cap ∧ v' = .slice A (xs.length + n) cap) ∨ (Ext w w' ∧ own v' = [w.heap.size])) :
    AppR B e v xs (xs ++ news) b0 w w' ∧ Near w' B e v (xs ++ news) b0 v' := by
  rcases h5 with ⟨A, cap, rfl, rfl⟩ | ⟨hE, ho⟩
  · refine ⟨⟨h2, fun _ => ?_, fun u hu => ?_⟩, h1, fun j hj => .inl (by rw [own_slice A _ _ (xs.length + n) cap]; exact hj), .inl ⟨A, _, _, cap, rfl, rfl⟩⟩
    · have := h1.front xs.length (by rw [List.length_append]; omega)
      rwa [List.take_left' rfl] at this
    · obtain ⟨hu1, hu2, hu3⟩ := hu
      rcases hu3 with ⟨A', n', c, c', he, rfl⟩ | hd
      · injection he with e1 e2 e3
        subst e1 e3
        obtain ⟨A2, c2, hf⟩ := hu1.form
        injection hf with f1 f2 f3
        rw [List.length_append, hn] at f2
        subst f2
        exact ⟨h1, hu2, .inl ⟨A, _, _, cap, rfl, rfl⟩⟩
      · exact ⟨hu1.touch h2 hd, hu2, .inr hd⟩
  · refine ⟨AppR.ext hE, h1, fun j hj => .inr ?_, .inr fun j hj hj2 => ?_⟩
    · rw [ho, List.mem_singleton] at hj; omega
    · rw [ho, List.mem_singleton] at hj
      have := (hv.owns j hj2).2
      omega
end Go.Proofs.Ytgnbbklnobladaa
