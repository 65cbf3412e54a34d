/- The append of whole elements that says where it wrote; a relation for drawn regions with two appends to two rows. No condition. -/
import Derived.Test.YtgnbbklnobladaaBufS
import Derived.Test.YtgnbbklnobladaaCalm
namespace Go.Proofs.Ytgnbbklnobladaa
open Go.RowKit
section
variable {P : Program} (w : World)
theorem run_append_bufS2 (s : Nat) (hs0 : 0 < s) (t tx ty e : TypeId) (i : TypeInfo) (z : Value) (ht : P.underlying t = some (.slice e)) (hi : P.info? e = some i) (hz : i.zero = some z) (hs1 : i.size = s) (hz1 : z.cells.size = s)
    (B : Nat) (v : Value) (css : List (List Value)) (h : BufS s w B e v css) (x : Value) (n : Nat) (news : List (List Value)) (hnc : ∀ c ∈ news, c.length = s) (hs : Src P s tx x n news.flatten w) (hB : B ≤ w.heap.size) (h63 : css.length + n ≤ maxLen) (hfit : (css.length + n) * i.bytes ≤ 140737488355328) :
    ∃ v' w', (Builtin.append_ #[t, tx] ty #[v, x]).run P w = .ok v' w' ∧ BufS s w' B e v' (css ++ news) ∧ Touch (own v) w w' ∧ (own v' = own v ∨ own v' = [w.heap.size]) ∧ ((∃ A cap, v = .slice A css.length cap ∧ v' = .slice A (css.length + n) cap) ∨ (Ext w w' ∧ own v' = [w.heap.size])) := by
  obtain ⟨A, cap, rfl, h1, h2, h3, h4, h5⟩ := h
  have hnl : news.length = n := by
    have := hs.newsLen
    rw [flat_len hnc] at this
    exact Nat.eq_of_mul_eq_mul_right hs0 this
  have hll : (css ++ news).length = css.length + n := by rw [List.length_append, hnl]
  have hcc : ∀ c ∈ css ++ news, c.length = s := by
    intro c hc
    rcases List.mem_append.1 hc with h | h
    · exact h3 c h
    · exact hnc c h
  have hfl := flat_len h3
  have hfn := flat_len hnc
  rw [hnl] at hfn
  subst hs1
  by_cases hroom : css.length + n ≤ cap
  · rcases h5 with rfl | ⟨b, off, cs, rfl, hb, h6, h7⟩
    · have hx : css = [] := List.eq_nil_of_length_eq_zero (by omega)
      have hn : news = [] := List.eq_nil_of_length_eq_zero (by omega)
      subst hx hn
      have hn0 : n = 0 := by simpa using hnl.symm
      subst hn0
      refine ⟨.slice A 0 0, w, ?_, ⟨A, 0, rfl, by simp, by simp, hcc, h4, .inl rfl⟩, Touch.refl _ _, .inl rfl, .inl ⟨A, 0, rfl, rfl⟩⟩
      have hc := hs.cells
      rcases hs.kind with ⟨e', hk⟩ | hk <;> cases A <;> simp [Builtin.append_, run_underlying ht, run_underlying hk, sizeOf, typeInfo, hi, hs.len, hc, storeCells]
    · have hmul : (css.length + n) * i.size ≤ cap * i.size := Nat.mul_le_mul_right _ hroom
      rw [Nat.add_mul] at hmul
      have hr := run_append_room_src (P := P) w t tx ty e i ht hi b off css.length cap x n news.flatten hs hroom
        (fun j hj => by rw [hb.cell, List.getElem?_eq_getElem (by omega)]; rfl) (fun j hj => hb.free _ (by omega))
      have hb2 := hb.setCells (off + css.length * i.size) news.flatten (by omega)
      have ht2 := touch_setCells b news.flatten (off + css.length * i.size) w
      refine ⟨_, _, hr, ⟨_, cap, by rw [hll], by omega, h2, hcc, ?_, .inr ⟨b, off, _, rfl, hb2, ?_, ?_⟩⟩, ht2, .inl rfl, .inl ⟨_, _, rfl, rfl⟩⟩
      · intro j hj
        have := h4 j hj
        exact ⟨this.1, Nat.lt_of_lt_of_le this.2 ht2.size⟩
      · simp only [List.length_append, List.length_take, List.length_drop]; omega
      · rw [hll, List.append_assoc, List.drop_append_of_le_length (by rw [List.length_take]; omega), List.drop_take, show off + css.length * i.size - off = css.length * i.size by omega, h7]
        rw [← List.append_assoc, ← List.flatten_append]
        exact List.take_left' (by rw [flat_len hcc, hll])
  · have hold : (Builtin.firstCells i.size css.length (.slice A css.length cap)).run P w.drew = .ok css.flatten.toArray w.drew := by
      rcases Nat.eq_zero_or_pos css.length with h0 | h0
      · have hx : css = [] := List.eq_nil_of_length_eq_zero h0
        subst hx
        cases A with
        | none => exact run_firstCells_none w.drew i.size 0 0 cap
        | some a => exact run_firstCells_some w.drew i.size 0 a 0 cap [] (by simp) (by simp)
      · rcases h5 with h5 | ⟨b, off, cs, rfl, hb, h6, h7⟩
        · omega
        · refine run_firstCells_some w.drew i.size css.length _ css.length cap css.flatten (by rw [hfl]) (fun j u hu => ?_)
          have hj : j < css.length * i.size := by
            have := (List.getElem?_eq_some_iff.1 hu).1
            rwa [hfl] at this
          have hb' : BlkZ w.drew b e cs := hb
          rw [Addr.add_lit, hb'.cell]
          rw [← h7, List.getElem?_take_of_lt hj, List.getElem?_drop] at hu
          exact hu
    have hr := run_append_grow_src (P := P) w t tx ty e i z ht hi hz A css.length cap css.flatten hold x n news.flatten hs (by omega) (by simp only [maxLen] at h63; omega) (growslice_fits (by omega) hfit)
    have hge := grownCap_ge w (css.length + n) cap e
    have hcm := grownCap_le_maxLen w (css.length + n) cap e h63
    refine ⟨_, _, hr, ⟨_, _, by rw [hll], by rw [hll]; exact hge, hcm, hcc, by simp [own]; omega, .inr ⟨w.heap.size, 0, (css ++ news).flatten ++ (Builtin.zeroCells z.cells (grownCap w (css.length + n) cap e - (css.length + n))).toList, rfl, ?_, ?_, ?_⟩⟩, ⟨rfl, rfl, rfl, by simp, fun k hk _ => heap_alloc_old w.drew _ hk⟩, .inr rfl, .inr ⟨⟨rfl, rfl, rfl, by simp, fun k hk => heap_alloc_old w.drew _ hk⟩, rfl⟩⟩
    · have e1 : ((css.flatten ++ news.flatten).toArray ++ Builtin.zeroCells z.cells (grownCap w (css.length + n) cap e - (css.length + n))) = ((css ++ news).flatten ++ (Builtin.zeroCells z.cells (grownCap w (css.length + n) cap e - (css.length + n))).toList).toArray := by
        apply Array.ext'
        simp
      rw [e1]
      exact (Blk.new w.drew e _).z
    · have hzl : (Builtin.zeroCells z.cells (grownCap w (css.length + n) cap e - (css.length + n))).toList.length = (grownCap w (css.length + n) cap e - (css.length + n)) * i.size := by
        rw [Array.length_toList, size_zeroCells, hz1]
      rw [List.length_append, flat_len hcc, hll, hzl, ← Nat.add_mul, Nat.zero_add]
      exact Nat.mul_le_mul_right _ (by omega)
    · rw [List.drop_zero]; exact List.take_left' (by rw [flat_len hcc])
theorem wpList_append_twoS {ops : Array Oper} {rest : List Oper} {o : Oper} {a : Act} {Q : Exit → Act → World → Prop} (hgd : o.guard = none) (sl x : Operand) (t tx : TypeId)
    (ho : o.op = .call { callee := .builtin .append, args := #[sl, x], argTypes := #[t, tx] }) (s : Nat) (hs0 : 0 < s) (e : TypeId) (i : TypeInfo) (z : Value) (ht : P.underlying t = some (.slice e)) (hi : P.info? e = some i) (hz : i.zero = some z) (hs1 : i.size = s) (hz1 : z.cells.size = s)
    (B : Nat) (v : Value) (css : List (List Value)) (hv : a.eval sl = v) (h : BufS s w B e v css) (xv : Value) (n : Nat) (news : List (List Value)) (hnc : ∀ c ∈ news, c.length = s) (hx : a.eval x = xv) (hs : Src P s tx xv n news.flatten w) (hB : B ≤ w.heap.size) (h63 : css.length + n ≤ maxLen) (hfit : (css.length + n) * i.bytes ≤ 140737488355328)
    (hk : ∀ v' w', BufS s w' B e v' (css ++ news) → Touch (own v) w w' → ((∃ A cap, v = .slice A css.length cap ∧ v' = .slice A (css.length + n) cap) ∨ (Ext w w' ∧ own v' = [w.heap.size])) → wpList P ops Q rest (a.put o.dst v') w') : wpList P ops Q (o :: rest) a w := by
  refine wpList_plain hgd fun K hK => ?_
  obtain ⟨v', w', hr, h2, h3, h4, h5⟩ := run_append_bufS2 (P := P) w s hs0 t tx o.type e i z ht hi hz hs1 hz1 B v css h xv n news hnc hs hB h63 hfit
  unfold Oper.wp execOp
  simp only [ho, resolve, invoke, builtin, Sem.run_bind, Sem.run_pure, Result.andThen_ok, List.map_toArray, List.map_cons, List.map_nil, hv, hx, hr]
  exact hK _ _ (hk v' w' h2 h3 h5)
end
def NearS (s : Nat) (w : World) (B : Nat) (e : TypeId) (v : Value) (ys : List (List Value)) (b0 : Nat) (u : Value) : Prop :=
  BufS s w B e u ys ∧ (∀ j ∈ own u, j ∈ own v ∨ b0 ≤ j) ∧ ((∃ A n c c', v = .slice A n c' ∧ u = .slice A c c') ∨ ∀ j ∈ own u, j ∉ own v)
structure TwoR (B s1 s2 : Nat) (e1 e2 : TypeId) (v1 v2 : Value) (x1 y1 x2 y2 : List (List Value)) (b0 : Nat) (w w' : World) : Prop where
  touch : Touch (own v1 ++ own v2) w w'
  k1 : BufS s1 w B e1 v1 x1 → BufS s1 w' B e1 v1 x1
  n1 : ∀ u, NearS s1 w B e1 v1 y1 b0 u → NearS s1 w' B e1 v1 y1 b0 u
  k2 : BufS s2 w B e2 v2 x2 → BufS s2 w' B e2 v2 x2
  n2 : ∀ u, NearS s2 w B e2 v2 y2 b0 u → NearS s2 w' B e2 v2 y2 b0 u
section
variable {B s1 s2 : Nat} {e1 e2 : TypeId} {v1 v2 : Value} {x1 y1 x2 y2 : List (List Value)} {b0 : Nat}
theorem TwoR.refl (w : World) : TwoR B s1 s2 e1 e2 v1 v2 x1 y1 x2 y2 b0 w w := ⟨Touch.refl _ _, id, fun _ h => h, id, fun _ h => h⟩
theorem TwoR.trans (a b c : World) (h : TwoR B s1 s2 e1 e2 v1 v2 x1 y1 x2 y2 b0 a b) (k : TwoR B s1 s2 e1 e2 v1 v2 x1 y1 x2 y2 b0 b c) : TwoR B s1 s2 e1 e2 v1 v2 x1 y1 x2 y2 b0 a c :=
  ⟨h.touch.trans k.touch (fun _ hj => .inl hj), fun x => k.k1 (h.k1 x), fun _ x => k.n1 _ (h.n1 _ x), fun x => k.k2 (h.k2 x), fun _ x => k.n2 _ (h.n2 _ x)⟩
theorem TwoR.ext {w w' : World} (h : Ext w w') : TwoR B s1 s2 e1 e2 v1 v2 x1 y1 x2 y2 b0 w w' :=
  ⟨Touch.of_ext h, fun x => x.ext h, fun _ x => ⟨x.1.ext h, x.2⟩, fun x => x.ext h, fun _ x => ⟨x.1.ext h, x.2⟩⟩
theorem TwoR.drew (w : World) : TwoR B s1 s2 e1 e2 v1 v2 x1 y1 x2 y2 b0 w w.drew := TwoR.ext (Ext.drew w)
theorem TwoR.swap {w w' : World} (h : TwoR B s1 s2 e1 e2 v1 v2 x1 y1 x2 y2 b0 w w') : TwoR B s2 s1 e2 e1 v2 v1 x2 y2 x1 y1 b0 w w' :=
  ⟨h.touch.more (fun j hj => by rw [List.mem_append] at hj ⊢; exact hj.symm), h.k2, h.n2, h.k1, h.n1⟩
theorem near_app {s : Nat} {e : TypeId} {v v' : Value} {xs news : List (List Value)} {n : Nat} {w w' : World} (hn : news.length = n) (hv : BufS s w B e v xs) (hb : b0 ≤ w.heap.size) (h1 : BufS s w' B e v' (xs ++ news)) (h2 : Touch (own v) w w')
    (h5 : (∃ A cap, v = .slice A xs.length cap ∧ v' = .slice A (xs.length + n) cap) ∨ (Ext w w' ∧ own v' = [w.heap.size])) :
    BufS s w' B e v xs ∧ (∀ u, NearS s w B e v (xs ++ news) b0 u → NearS s w' B e v (xs ++ news) b0 u) ∧ NearS s w' B e v (xs ++ news) b0 v' := by
  rcases h5 with ⟨A, cap, rfl, rfl⟩ | ⟨hE, ho⟩
  · refine ⟨?_, fun u hu => ?_, h1, fun j hj => .inl (by rw [own_slice A _ _ (xs.length + n) cap]; exact hj), .inl ⟨A, _, _, cap, rfl, rfl⟩⟩
    · have := h1.front xs.length (by rw [List.length_append]; omega)
      rwa [List.take_left' rfl] at this
    · obtain ⟨hu1, hu2, hu3⟩ := hu
      rcases hu3 with ⟨A', n', c, c', he, rfl⟩ | hd
      · injection he with e1 e2 e3
        subst e1 e3
        obtain ⟨A2, c2, hf⟩ := hu1.form
        injection hf with f1 f2 f3
        rw [List.length_append, hn] at f2
        subst f2
        exact ⟨h1, hu2, .inl ⟨A, _, _, cap, rfl, rfl⟩⟩
      · exact ⟨hu1.touch h2 hd, hu2, .inr hd⟩
  · refine ⟨hv.ext hE, fun u hu => ⟨hu.1.ext hE, hu.2⟩, h1, fun j hj => .inr ?_, .inr fun j hj hj2 => ?_⟩
    · rw [ho, List.mem_singleton] at hj; omega
    · rw [ho, List.mem_singleton] at hj
      have := (hv.owns j hj2).2
      omega
theorem TwoR.app1 {v' : Value} {news : List (List Value)} {n : Nat} {w w' : World} (hn : news.length = n) (hy : y1 = x1 ++ news) (hd : ∀ j ∈ own v1, j ∉ own v2) (hl : ∀ j ∈ own v1, j < b0) (hv : BufS s1 w B e1 v1 x1) (hb : b0 ≤ w.heap.size) (h1 : BufS s1 w' B e1 v' (x1 ++ news)) (h2 : Touch (own v1) w w')
    (h5 : (∃ A cap, v1 = .slice A x1.length cap ∧ v' = .slice A (x1.length + n) cap) ∨ (Ext w w' ∧ own v' = [w.heap.size])) : TwoR B s1 s2 e1 e2 v1 v2 x1 y1 x2 y2 b0 w w' ∧ NearS s1 w' B e1 v1 y1 b0 v' := by
  subst hy
  obtain ⟨a1, a2, a3⟩ := near_app hn hv hb h1 h2 h5
  refine ⟨⟨h2.more (fun j hj => List.mem_append_left _ hj), fun _ => a1, a2, fun x => x.touch h2 (fun j hj hm => hd j hm hj), fun u hu => ⟨hu.1.touch h2 (fun j hj hm => ?_), hu.2⟩⟩, a3⟩
  rcases hu.2.1 j hj with h | h
  · exact hd j hm h
  · have := hl j hm; omega
end
end Go.Proofs.Ytgnbbklnobladaa
