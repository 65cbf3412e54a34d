/- Words on slices of elements of several cells that a call owns. No condition. -/
import Derived.Test.YtjphmjegfpdbeaaFlat
import Derived.Test.YtjphmjegfpdbeaaBufMore
import Derived.Lib.SliceRun
import Derived.Deep.RegionHeld3
namespace Go.Proofs.Ytjphmjegfpdbeaa
open Go.RowKit
set_option linter.unusedVariables false

theorem flat_len {α : Type} {s : Nat} : ∀ {css : List (List α)}, (∀ c ∈ css, c.length = s) → css.flatten.length = css.length * s
  | [], _ => by simp
  | c :: css, h => by
    rw [List.flatten_cons, List.length_append, flat_len (fun c hc => h c (by simp [hc])), h c (by simp), List.length_cons, Nat.add_mul, Nat.one_mul, Nat.add_comm]
theorem flat_take {α : Type} {s : Nat} : ∀ {css : List (List α)} (k : Nat), (∀ c ∈ css, c.length = s) → (css.take k).flatten = css.flatten.take (k * s)
  | [], k, _ => by simp
  | c :: css, 0, _ => by simp
  | c :: css, k + 1, h => by
    have hc := h c (by simp)
    rw [List.take_succ_cons, List.flatten_cons, List.flatten_cons, flat_take k (fun c hc => h c (by simp [hc])), List.take_append, hc, List.take_of_length_le (l := c) (by rw [hc, Nat.add_mul]; omega), Nat.add_mul, Nat.one_mul, Nat.add_sub_cancel]
theorem flat_drop {α : Type} {s : Nat} : ∀ {css : List (List α)} (k : Nat), (∀ c ∈ css, c.length = s) → (css.drop k).flatten = css.flatten.drop (k * s)
  | [], k, _ => by simp
  | c :: css, 0, _ => by simp
  | c :: css, k + 1, h => by
    have hc := h c (by simp)
    rw [List.drop_succ_cons, List.flatten_cons, flat_drop k (fun c hc => h c (by simp [hc])), List.drop_append, hc, List.drop_of_length_le (l := c) (by rw [hc, Nat.add_mul]; omega), Nat.add_mul, Nat.one_mul, Nat.add_sub_cancel, List.nil_append]
/-- The slice v reads the elements css, of type e and s cells each; its block lies at B or above. -/
def BufS (s : Nat) (w : World) (B : Nat) (e : TypeId) (v : Value) (css : List (List Value)) : Prop :=
  ∃ A cap, v = .slice A css.length cap ∧ css.length ≤ cap ∧ cap ≤ maxLen ∧ (∀ c ∈ css, c.length = s) ∧ (∀ k ∈ own v, B ≤ k ∧ k < w.heap.size) ∧
    (cap = 0 ∨ ∃ b off cs, A = some ⟨b, off, none⟩ ∧ BlkZ w b e cs ∧ off + cap * s ≤ cs.length ∧ (cs.drop off).take (css.length * s) = css.flatten)
theorem BufS.nil (s : Nat) (w : World) (B : Nat) (e : TypeId) : BufS s w B e (.slice none 0 0) [] := ⟨none, 0, rfl, Nat.le_refl _, Nat.zero_le _, by simp, by simp [own], .inl rfl⟩
theorem BufS.touch {s : Nat} {w w' : World} {B : Nat} {e : TypeId} {v : Value} {css : List (List Value)} {S : List Nat} (h : BufS s w B e v css) (k : Touch S w w') (hS : ∀ j ∈ own v, j ∉ S) : BufS s w' B e v css := by
  obtain ⟨A, cap, rfl, h1, h2, h3, h4, h5⟩ := h
  refine ⟨A, cap, rfl, h1, h2, h3, fun j hj => ⟨(h4 j hj).1, Nat.lt_of_lt_of_le (h4 j hj).2 k.size⟩, ?_⟩
  rcases h5 with h5 | ⟨b, off, cs, rfl, hb, h6, h7⟩
  · exact .inl h5
  · exact .inr ⟨b, off, cs, rfl, hb.touch k (hS b (by simp [own])), h6, h7⟩
theorem BufS.ext {s : Nat} {w w' : World} {B : Nat} {e : TypeId} {v : Value} {css : List (List Value)} (h : BufS s w B e v css) (k : Ext w w') : BufS s w' B e v css := h.touch (Touch.of_ext (S := []) k) (by simp)
theorem BufS.lower {s : Nat} {w : World} {B B' : Nat} {e : TypeId} {v : Value} {css : List (List Value)} (h : BufS s w B e v css) (hB : B' ≤ B) : BufS s w B' e v css := by
  obtain ⟨A, cap, rfl, h1, h2, h3, h4, h5⟩ := h
  exact ⟨A, cap, rfl, h1, h2, h3, fun j hj => ⟨Nat.le_trans hB (h4 j hj).1, (h4 j hj).2⟩, h5⟩
theorem BufS.owns {s : Nat} {w : World} {B : Nat} {e : TypeId} {v : Value} {css : List (List Value)} (h : BufS s w B e v css) : ∀ k ∈ own v, B ≤ k ∧ k < w.heap.size := by
  obtain ⟨A, cap, rfl, h1, h2, h3, h4, h5⟩ := h
  exact h4
theorem BufS.form {s : Nat} {w : World} {B : Nat} {e : TypeId} {v : Value} {css : List (List Value)} (h : BufS s w B e v css) : ∃ A cap, v = .slice A css.length cap := by
  obtain ⟨A, cap, rfl, _⟩ := h
  exact ⟨A, cap, rfl⟩
theorem BufS.each {s : Nat} {w : World} {B : Nat} {e : TypeId} {v : Value} {css : List (List Value)} (h : BufS s w B e v css) : ∀ c ∈ css, c.length = s := by
  obtain ⟨A, cap, rfl, h1, h2, h3, _⟩ := h
  exact h3
theorem BufS.len {s : Nat} {w : World} {B : Nat} {e : TypeId} {A : Option Addr} {n cap : Nat} {css : List (List Value)} (h : BufS s w B e (.slice A n cap) css) : n = css.length ∧ n ≤ cap ∧ cap ≤ maxLen := by
  obtain ⟨A', cap', he, h1, h2, _⟩ := h
  injection he with e1 e2 e3
  subst e1 e2 e3
  exact ⟨rfl, h1, h2⟩
/-- A new row whose slice reads it all. -/
theorem BufS.lit (s : Nat) (w : World) (e : TypeId) (B : Nat) (hB : B ≤ w.heap.size) (css : List (List Value)) (hc : ∀ c ∈ css, c.length = s) (hm : css.length ≤ maxLen) : BufS s (w.alloc (.cells css.flatten.toArray e)) B e (.slice (some ⟨w.heap.size, 0, none⟩) css.length css.length) css :=
  ⟨_, _, rfl, Nat.le_refl _, hm, hc, by simp [own]; omega, .inr ⟨_, _, css.flatten, rfl, (Blk.new _ _ _).z, by rw [flat_len hc]; omega, by rw [List.drop_zero, List.take_of_length_le (by rw [flat_len hc]; omega)]⟩⟩
theorem BufS.at {s : Nat} {w : World} {B : Nat} {e : TypeId} {A : Option Addr} {n cap : Nat} {css : List (List Value)} (h : BufS s w B e (.slice A n cap) css) (hs : 0 < s) {i : Nat} (hi : i < css.length) :
    ∃ b off, A = some ⟨b, off, none⟩ ∧ ∀ j u, css[i]?.bind (·[j]?) = some u → w.cell? ⟨b, off + i * s + j, none⟩ = some u := by
  obtain ⟨A', cap', he, h1, h2, h3, h4, h5⟩ := h
  injection he with e1 e2 e3
  subst e1 e3
  rcases h5 with h5 | ⟨b, off, cs, rfl, hb, h6, h7⟩
  · omega
  · refine ⟨b, off, rfl, fun j u hu => ?_⟩
    obtain ⟨c, hc, hj⟩ := Option.bind_eq_some_iff.1 hu
    have hjs : j < s := by rw [← h3 c (List.mem_of_getElem? hc)]; exact (List.getElem?_eq_some_iff.1 hj).1
    rw [← flat_at s css i j h3 hjs] at hu
    rw [hb.cell, Nat.add_assoc]
    have hlt : i * s + j < css.length * s := by rw [← flat_len h3]; exact (List.getElem?_eq_some_iff.1 hu).1
    rw [← h7, List.getElem?_take_of_lt hlt, List.getElem?_drop] at hu
    exact hu
theorem BufS.front {s : Nat} {w : World} {B : Nat} {e : TypeId} {A : Option Addr} {n cap : Nat} {css : List (List Value)} (h : BufS s w B e (.slice A n cap) css) (k : Nat) (hk : k ≤ css.length) : BufS s w B e (.slice A k cap) (css.take k) := by
  obtain ⟨A', cap', he, h1, h2, h3, h4, h5⟩ := h
  injection he with e1 e2 e3
  subst e1 e2 e3
  have hl : (css.take k).length = k := by rw [List.length_take]; omega
  refine ⟨_, cap, by rw [hl], by omega, h2, fun c hc => h3 c (List.mem_of_mem_take hc), by rw [own_slice _ _ _ css.length cap]; exact h4, ?_⟩
  rcases h5 with h5 | ⟨b, off, cs, rfl, hb, h6, h7⟩
  · exact .inl h5
  · refine .inr ⟨b, off, cs, rfl, hb, h6, ?_⟩
    rw [hl, flat_take k h3, ← h7, List.take_take, Nat.min_eq_left (Nat.mul_le_mul_right s hk)]
theorem BufS.cut {s : Nat} {w : World} {B : Nat} {e : TypeId} {A : Option Addr} {n cap : Nat} {css : List (List Value)} (h : BufS s w B e (.slice A n cap) css) (k : Nat) (hk : k ≤ css.length) :
    BufS s w B e (.slice (if cap = k then A else A.map (·.add (k * s))) (n - k) (cap - k)) (css.drop k) := by
  obtain ⟨A', cap', he, h1, h2, h3, h4, h5⟩ := h
  injection he with e1 e2 e3
  subst e1 e2 e3
  refine ⟨_, cap - k, by rw [List.length_drop], by rw [List.length_drop]; omega, by omega, fun c hc => h3 c (List.mem_of_mem_drop hc), ?_, ?_⟩
  · intro j hj
    refine h4 j ?_
    split at hj
    · rw [own_slice _ _ _ (css.length - k) (cap - k)]; exact hj
    · cases A with
      | none => simp [own] at hj
      | some a => simpa [own, Addr.add, apply_ite Addr.block] using hj
  · by_cases hc : cap = k
    · exact .inl (by omega)
    · rcases h5 with h5 | ⟨b, off, cs, rfl, hb, h6, h7⟩
      · omega
      · refine .inr ⟨b, off + k * s, cs, by rw [if_neg hc]; simp [Addr.add_lit], hb, by rw [Nat.sub_mul]; have := Nat.mul_le_mul_right s (show k ≤ cap by omega); omega, ?_⟩
        rw [flat_drop k h3, ← h7, List.drop_take, List.drop_drop, List.length_drop, Nat.sub_mul]
section
variable {P : Program} (w : World)
theorem BufS.src {s : Nat} {tx e e' : TypeId} {B n cap : Nat} {A : Option Addr} {css : List (List Value)} (h : BufS s w B e (.slice A n cap) css) (hs : 0 < s) (hk : P.underlying tx = some (.slice e')) (h1 : ∀ c ∈ css, ∀ u ∈ c, u.oneCell' = true) : Src P s tx (.slice A n cap) n css.flatten w := by
  have hn : n = css.length := h.len.1
  have hfl := flat_len h.each
  rcases Nat.eq_zero_or_pos n with h0 | h0
  · have hx : css = [] := List.eq_nil_of_length_eq_zero (by omega)
    subst hx
    subst h0
    cases A with
    | none => exact Src.ofNil w hk cap
    | some a => exact Src.ofSlice w hk a 0 cap [] (by simp) (by simp) (by simp)
  · obtain ⟨b, off, rfl, _⟩ := h.at hs (i := 0) (by omega)
    refine Src.ofSlice w hk _ n cap css.flatten (by rw [hfl, hn]) (fun j u hu => ?_) (fun u hu => ?_)
    · have hjl := (List.getElem?_eq_some_iff.1 hu).1
      rw [hfl] at hjl
      have hq : j / s < css.length := Nat.div_lt_of_lt_mul (by rw [Nat.mul_comm]; exact hjl)
      have hjs : j / s * s + j % s = j := by rw [Nat.mul_comm]; exact Nat.div_add_mod j s
      obtain ⟨b', off', e, hc⟩ := h.at hs hq
      injection e with e
      injection e with e1 e2
      subst e1 e2
      rw [Addr.add_lit, ← hjs, ← Nat.add_assoc]
      refine hc _ _ ?_
      rw [← flat_at s css _ _ h.each (Nat.mod_lt _ hs), hjs]
      exact hu
    · obtain ⟨c, hc, hu⟩ := List.mem_flatten.1 hu
      exact h1 c hc u hu
theorem run_append_bufS (s : Nat) (hs0 : 0 < s) (t tx ty e : TypeId) (i : TypeInfo) (z : Value) (ht : P.underlying t = some (.slice e)) (hi : P.info? e = some i) (hz : i.zero = some z) (hs1 : i.size = s) (hz1 : z.cells.size = s)
    (B : Nat) (v : Value) (css : List (List Value)) (h : BufS s w B e v css) (x : Value) (n : Nat) (news : List (List Value)) (hnc : ∀ c ∈ news, c.length = s) (hs : Src P s tx x n news.flatten w) (hB : B ≤ w.heap.size) (h63 : css.length + n ≤ maxLen) (hfit : (css.length + n) * i.bytes ≤ 140737488355328) :
    ∃ v' w', (Builtin.append_ #[t, tx] ty #[v, x]).run P w = .ok v' w' ∧ BufS s w' B e v' (css ++ news) ∧ Touch (own v) w w' ∧ (own v' = own v ∨ own v' = [w.heap.size]) := by
  obtain ⟨A, cap, rfl, h1, h2, h3, h4, h5⟩ := h
  have hnl : news.length = n := by
    have := hs.newsLen
    rw [flat_len hnc] at this
    exact Nat.eq_of_mul_eq_mul_right hs0 this
  have hll : (css ++ news).length = css.length + n := by rw [List.length_append, hnl]
  have hcc : ∀ c ∈ css ++ news, c.length = s := by
    intro c hc
    rcases List.mem_append.1 hc with h | h
    · exact h3 c h
    · exact hnc c h
  have hfl := flat_len h3
  have hfn := flat_len hnc
  rw [hnl] at hfn
  subst hs1
  by_cases hroom : css.length + n ≤ cap
  · rcases h5 with rfl | ⟨b, off, cs, rfl, hb, h6, h7⟩
    · have hx : css = [] := List.eq_nil_of_length_eq_zero (by omega)
      have hn : news = [] := List.eq_nil_of_length_eq_zero (by omega)
      subst hx hn
      have hn0 : n = 0 := by simpa using hnl.symm
      subst hn0
      refine ⟨.slice A 0 0, w, ?_, ⟨A, 0, rfl, by simp, by simp, hcc, h4, .inl rfl⟩, Touch.refl _ _, .inl rfl⟩
      have hc := hs.cells
      rcases hs.kind with ⟨e', hk⟩ | hk <;> cases A <;> simp [Builtin.append_, run_underlying ht, run_underlying hk, sizeOf, typeInfo, hi, hs.len, hc, storeCells]
    · have hmul : (css.length + n) * i.size ≤ cap * i.size := Nat.mul_le_mul_right _ hroom
      rw [Nat.add_mul] at hmul
      have hr := run_append_room_src (P := P) w t tx ty e i ht hi b off css.length cap x n news.flatten hs hroom
        (fun j hj => by rw [hb.cell, List.getElem?_eq_getElem (by omega)]; rfl) (fun j hj => hb.free _ (by omega))
      have hb2 := hb.setCells (off + css.length * i.size) news.flatten (by omega)
      have ht2 := touch_setCells b news.flatten (off + css.length * i.size) w
      refine ⟨_, _, hr, ⟨_, cap, by rw [hll], by omega, h2, hcc, ?_, .inr ⟨b, off, _, rfl, hb2, ?_, ?_⟩⟩, ht2, .inl rfl⟩
      · intro j hj
        have := h4 j hj
        exact ⟨this.1, Nat.lt_of_lt_of_le this.2 ht2.size⟩
      · simp only [List.length_append, List.length_take, List.length_drop]; omega
      · rw [hll, List.append_assoc, List.drop_append_of_le_length (by rw [List.length_take]; omega), List.drop_take, show off + css.length * i.size - off = css.length * i.size by omega, h7]
        rw [← List.append_assoc, ← List.flatten_append]
        exact List.take_left' (by rw [flat_len hcc, hll])
  · have hold : (Builtin.firstCells i.size css.length (.slice A css.length cap)).run P w.drew = .ok css.flatten.toArray w.drew := by
      rcases Nat.eq_zero_or_pos css.length with h0 | h0
      · have hx : css = [] := List.eq_nil_of_length_eq_zero h0
        subst hx
        cases A with
        | none => exact run_firstCells_none w.drew i.size 0 0 cap
        | some a => exact run_firstCells_some w.drew i.size 0 a 0 cap [] (by simp) (by simp)
      · rcases h5 with h5 | ⟨b, off, cs, rfl, hb, h6, h7⟩
        · omega
        · refine run_firstCells_some w.drew i.size css.length _ css.length cap css.flatten (by rw [hfl]) (fun j u hu => ?_)
          have hj : j < css.length * i.size := by
            have := (List.getElem?_eq_some_iff.1 hu).1
            rwa [hfl] at this
          have hb' : BlkZ w.drew b e cs := hb
          rw [Addr.add_lit, hb'.cell]
          rw [← h7, List.getElem?_take_of_lt hj, List.getElem?_drop] at hu
          exact hu
    have hr := run_append_grow_src (P := P) w t tx ty e i z ht hi hz A css.length cap css.flatten hold x n news.flatten hs (by omega) (by simp only [maxLen] at h63; omega) (growslice_fits (by omega) hfit)
    have hge := grownCap_ge w (css.length + n) cap e
    have hcm := grownCap_le_maxLen w (css.length + n) cap e h63
    refine ⟨_, _, hr, ⟨_, _, by rw [hll], by rw [hll]; exact hge, hcm, hcc, by simp [own]; omega, .inr ⟨w.heap.size, 0, (css ++ news).flatten ++ (Builtin.zeroCells z.cells (grownCap w (css.length + n) cap e - (css.length + n))).toList, rfl, ?_, ?_, ?_⟩⟩, ⟨rfl, rfl, rfl, by simp, fun k hk _ => heap_alloc_old w.drew _ hk⟩, .inr rfl⟩
    · have e1 : ((css.flatten ++ news.flatten).toArray ++ Builtin.zeroCells z.cells (grownCap w (css.length + n) cap e - (css.length + n))) = ((css ++ news).flatten ++ (Builtin.zeroCells z.cells (grownCap w (css.length + n) cap e - (css.length + n))).toList).toArray := by
        apply Array.ext'
        simp
      rw [e1]
      exact (Blk.new w.drew e _).z
    · have hzl : (Builtin.zeroCells z.cells (grownCap w (css.length + n) cap e - (css.length + n))).toList.length = (grownCap w (css.length + n) cap e - (css.length + n)) * i.size := by
        rw [Array.length_toList, size_zeroCells, hz1]
      rw [List.length_append, flat_len hcc, hll, hzl, ← Nat.add_mul, Nat.zero_add]
      exact Nat.mul_le_mul_right _ (by omega)
    · rw [List.drop_zero]; exact List.take_left' (by rw [flat_len hcc])
theorem wpList_append_bufS {ops : Array Oper} {rest : List Oper} {o : Oper} {a : Act} {Q : Exit → Act → World → Prop} (hgd : o.guard = none) (sl x : Operand) (t tx : TypeId)
    (ho : o.op = .call { callee := .builtin .append, args := #[sl, x], argTypes := #[t, tx] }) (s : Nat) (hs0 : 0 < s) (e : TypeId) (i : TypeInfo) (z : Value) (ht : P.underlying t = some (.slice e)) (hi : P.info? e = some i) (hz : i.zero = some z) (hs1 : i.size = s) (hz1 : z.cells.size = s)
    (B : Nat) (v : Value) (css : List (List Value)) (hv : a.eval sl = v) (h : BufS s w B e v css) (xv : Value) (n : Nat) (news : List (List Value)) (hnc : ∀ c ∈ news, c.length = s) (hx : a.eval x = xv) (hs : Src P s tx xv n news.flatten w) (hB : B ≤ w.heap.size) (h63 : css.length + n ≤ maxLen) (hfit : (css.length + n) * i.bytes ≤ 140737488355328)
    (hk : ∀ v' w', BufS s w' B e v' (css ++ news) → Touch (own v) w w' → (own v' = own v ∨ own v' = [w.heap.size]) → wpList P ops Q rest (a.put o.dst v') w') : wpList P ops Q (o :: rest) a w := by
  refine wpList_plain hgd fun K hK => ?_
  obtain ⟨v', w', hr, h2, h3, h4⟩ := run_append_bufS (P := P) w s hs0 t tx o.type e i z ht hi hz hs1 hz1 B v css h xv n news hnc hs hB h63 hfit
  unfold Oper.wp execOp
  simp only [ho, resolve, invoke, builtin, Sem.run_bind, Sem.run_pure, Result.andThen_ok, List.map_toArray, List.map_cons, List.map_nil, hv, hx, hr]
  exact hK _ _ (hk v' w' h2 h3 h4)
/-- append where there is room: in place. -/
theorem run_append_roomS (s : Nat) (hs0 : 0 < s) (t tx ty e : TypeId) (i : TypeInfo) (ht : P.underlying t = some (.slice e)) (hi : P.info? e = some i) (hs1 : i.size = s)
    (B : Nat) (A : Option Addr) (k cap : Nat) (css : List (List Value)) (h : BufS s w B e (.slice A k cap) css) (x : Value) (n : Nat) (news : List (List Value)) (hnc : ∀ c ∈ news, c.length = s) (hs : Src P s tx x n news.flatten w) (hroom : k + n ≤ cap) (hc0 : 0 < cap) :
    ∃ w', (Builtin.append_ #[t, tx] ty #[.slice A k cap, x]).run P w = .ok (.slice A (k + n) cap) w' ∧ BufS s w' B e (.slice A (k + n) cap) (css ++ news) ∧ Touch (own (.slice A k cap)) w w' := by
  obtain ⟨A', cap', he, h1, h2, h3, h4, h5⟩ := h
  injection he with e1 e2 e3
  subst e1 e2 e3
  have hnl : news.length = n := by
    have := hs.newsLen
    rw [flat_len hnc] at this
    exact Nat.eq_of_mul_eq_mul_right hs0 this
  have hll : (css ++ news).length = css.length + n := by rw [List.length_append, hnl]
  have hcc : ∀ c ∈ css ++ news, c.length = s := by
    intro c hc
    rcases List.mem_append.1 hc with h | h
    · exact h3 c h
    · exact hnc c h
  have hfn := flat_len hnc
  rw [hnl] at hfn
  subst hs1
  rcases h5 with h5 | ⟨b, off, cs, rfl, hb, h6, h7⟩
  · omega
  have hmul : (css.length + n) * i.size ≤ cap * i.size := Nat.mul_le_mul_right _ hroom
  rw [Nat.add_mul] at hmul
  have hr := run_append_room_src (P := P) w t tx ty e i ht hi b off css.length cap x n news.flatten hs hroom
    (fun j hj => by rw [hb.cell, List.getElem?_eq_getElem (by omega)]; rfl) (fun j hj => hb.free _ (by omega))
  have hb2 := hb.setCells (off + css.length * i.size) news.flatten (by omega)
  have ht2 := touch_setCells b news.flatten (off + css.length * i.size) w
  refine ⟨_, hr, ⟨_, cap, by rw [hll], by omega, h2, hcc, ?_, .inr ⟨b, off, _, rfl, hb2, ?_, ?_⟩⟩, ht2⟩
  · intro j hj
    have := h4 j hj
    exact ⟨this.1, Nat.lt_of_lt_of_le this.2 ht2.size⟩
  · simp only [List.length_append, List.length_take, List.length_drop]; omega
  · rw [hll, List.append_assoc, List.drop_append_of_le_length (by rw [List.length_take]; omega), List.drop_take, show off + css.length * i.size - off = css.length * i.size by omega, h7]
    rw [← List.append_assoc, ← List.flatten_append]
    exact List.take_left' (by rw [flat_len hcc, hll])
theorem step_append_roomS {ops : Array Oper} {o : Oper} {a : Act} {K : Act → World → Prop} {Q : Exit → Act → World → Prop} {E : Prop} (hgd : o.guard = none) (sl x : Operand) (t tx : TypeId)
    (ho : o.op = .call { callee := .builtin .append, args := #[sl, x], argTypes := #[t, tx] }) (s : Nat) (hs0 : 0 < s) (e : TypeId) (i : TypeInfo) (ht : P.underlying t = some (.slice e)) (hi : P.info? e = some i) (hs1 : i.size = s)
    (B : Nat) (A : Option Addr) (k cap : Nat) (css : List (List Value)) (hv : a.eval sl = .slice A k cap) (h : BufS s w B e (.slice A k cap) css) (xv : Value) (n : Nat) (news : List (List Value)) (hnc : ∀ c ∈ news, c.length = s) (hx : a.eval x = xv) (hs : Src P s tx xv n news.flatten w) (hroom : k + n ≤ cap) (hc0 : 0 < cap)
    (hk : ∀ w', BufS s w' B e (.slice A (k + n) cap) (css ++ news) → Touch (own (.slice A k cap)) w w' → K (a.put o.dst (.slice A (k + n) cap)) w') :
    if Region.wanted o (yielded ops a.tmps) = true then Oper.wp P o a w K Q else E := by
  have hw : Region.wanted o (yielded ops a.tmps) = true := by simp [Region.wanted, hgd]
  rw [if_pos hw]
  obtain ⟨w', hr, h2, h3⟩ := run_append_roomS (P := P) w s hs0 t tx o.type e i ht hi hs1 B A k cap css h xv n news hnc hs hroom hc0
  unfold Oper.wp execOp
  simp only [ho, resolve, invoke, builtin, Sem.run_bind, Sem.run_pure, Result.andThen_ok, List.map_toArray, List.map_cons, List.map_nil, hv, hx, hr]
  exact hk w' h2 h3
theorem BufS.blk {s : Nat} {w : World} {B : Nat} {e : TypeId} {b off n cap : Nat} {css : List (List Value)} (h : BufS s w B e (.slice (some ⟨b, off, none⟩) n cap) css) (h0 : 0 < cap) : ∃ cs, BlkZ w b e cs ∧ off + cap * s ≤ cs.length ∧ (cs.drop off).take (css.length * s) = css.flatten := by
  obtain ⟨A', cap', he, g1, g2, g3, g4, g5⟩ := h
  injection he with e1 e2 e3
  subst e1 e2 e3
  rcases g5 with g5 | ⟨b', off', cs, he, hb, g6, g7⟩
  · omega
  · injection he with he
    injection he with e1 e2
    subst e1 e2
    exact ⟨cs, hb, g6, g7⟩
/-- Cells behind what the slice reads are written. -/
theorem BufS.behind {s : Nat} {w : World} {B : Nat} {e : TypeId} {b off n cap : Nat} {css : List (List Value)} (h : BufS s w B e (.slice (some ⟨b, off, none⟩) n cap) css) (o : Nat) (zs : List Value) (h1 : off + n * s ≤ o) (h2 : o + zs.length ≤ off + cap * s) : BufS s (w.setCells b o zs) B e (.slice (some ⟨b, off, none⟩) n cap) css := by
  obtain ⟨A', cap', he, g1, g2, g3, g4, g5⟩ := h
  injection he with e1 e2 e3
  subst e1 e2 e3
  have ht2 := touch_setCells b zs o w
  refine ⟨_, _, rfl, g1, g2, g3, fun j hj => ⟨(g4 j hj).1, Nat.lt_of_lt_of_le (g4 j hj).2 ht2.size⟩, ?_⟩
  rcases g5 with g5 | ⟨b', off', cs, he, hb, g6, g7⟩
  · exact .inl g5
  · injection he with he
    injection he with e1 e2
    subst e1 e2
    refine .inr ⟨b, off, _, rfl, hb.setCells o zs (by omega), ?_, ?_⟩
    · simp only [List.length_append, List.length_take, List.length_drop]; omega
    · rw [List.append_assoc, List.drop_append_of_le_length (by rw [List.length_take]; omega), List.take_append_of_le_length (by rw [List.length_drop, List.length_take]; omega), List.drop_take, List.take_take, Nat.min_eq_left (by omega)]
      exact g7
theorem zeroCells_one {z : Array Value} (h1 : ∀ u ∈ z.toList, u.oneCell' = true) (h0 : 0 < z.size) (n : Nat) : ∀ u ∈ (Builtin.zeroCells z n).toList, u.oneCell' = true := by
  intro u hu
  unfold Builtin.zeroCells at hu
  simp only [Array.toList_map, List.mem_map] at hu
  obtain ⟨i, _, rfl⟩ := hu
  refine h1 _ ?_
  rw [getElem!_pos z _ (Nat.mod_lt _ h0)]
  simp
/-- clear(s) -/
theorem wpList_clearS {ops : Array Oper} {rest : List Oper} {o : Oper} {a : Act} {Q : Exit → Act → World → Prop} (hgd : o.guard = none) (x : Operand) (t : TypeId) (ho : o.op = .call { callee := .builtin .clear, args := #[x], argTypes := #[t] })
    (s : Nat) (hs0 : 0 < s) (e : TypeId) (i : TypeInfo) (z : Value) (ht : P.underlying t = some (.slice e)) (hi : P.info? e = some i) (hz : i.zero = some z) (hz1 : z.cells.size = s) (hzc : ∀ u ∈ z.cells.toList, u.oneCell' = true)
    (b of n c : Nat) (hx : a.eval x = .slice (some ⟨b, of, none⟩) n c) (cs : List Value) (T : TypeId) (hb : BlkZ w b T cs) (hn : 0 < n) (hl : of + n * s ≤ cs.length)
    (hk : ∀ zs : List Value, zs.length = n * s → wpList P ops Q rest (a.put o.dst (.tuple #[])) (w.setCells b of zs)) : wpList P ops Q (o :: rest) a w := by
  refine wpList_plain hgd fun K hK => ?_
  have hzl : (Builtin.zeroCells z.cells n).toList.length = n * s := by rw [Array.length_toList, size_zeroCells, hz1]
  have hst := run_storeCells_cells (P := P) b of (Builtin.zeroCells z.cells n).toList 0 w (fun j hj => by rw [Nat.add_zero, hb.cell, List.getElem?_eq_getElem (by omega)]; rfl) (fun j hj => by rw [Nat.add_zero]; exact hb.free _ (by omega)) (zeroCells_one hzc (by omega) n)
  simp only [Nat.add_zero] at hst
  obtain ⟨m, rfl⟩ : ∃ m, n = m + 1 := ⟨n - 1, by omega⟩
  have hr : (Builtin.clear_ #[t] o.type #[.slice (some ⟨b, of, none⟩) (m + 1) c]).run P w = .ok (.tuple #[]) (w.setCells b of (Builtin.zeroCells z.cells (m + 1)).toList) := by
    simp [Builtin.clear_, run_underlying ht, zeroValue, typeInfo, hi, hz, hst]
  unfold Oper.wp execOp
  simp only [ho, resolve, invoke, builtin, Sem.run_bind, Sem.run_pure, Result.andThen_ok, List.map_toArray, List.map_cons, List.map_nil, hx, hr]
  exact hK _ _ (hk _ hzl)
/-- append, as a step of a region that draws its order. -/
theorem step_append_bufS {ops : Array Oper} {o : Oper} {a : Act} {K : Act → World → Prop} {Q : Exit → Act → World → Prop} {E : Prop} (hgd : o.guard = none) (sl x : Operand) (t tx : TypeId)
    (ho : o.op = .call { callee := .builtin .append, args := #[sl, x], argTypes := #[t, tx] }) (s : Nat) (hs0 : 0 < s) (e : TypeId) (i : TypeInfo) (z : Value) (ht : P.underlying t = some (.slice e)) (hi : P.info? e = some i) (hz : i.zero = some z) (hs1 : i.size = s) (hz1 : z.cells.size = s)
    (B : Nat) (v : Value) (css : List (List Value)) (hv : a.eval sl = v) (h : BufS s w B e v css) (xv : Value) (n : Nat) (news : List (List Value)) (hnc : ∀ c ∈ news, c.length = s) (hx : a.eval x = xv) (hs : Src P s tx xv n news.flatten w) (hB : B ≤ w.heap.size) (h63 : css.length + n ≤ maxLen) (hfit : (css.length + n) * i.bytes ≤ 140737488355328)
    (hk : ∀ v' w', BufS s w' B e v' (css ++ news) → Touch (own v) w w' → (own v' = own v ∨ own v' = [w.heap.size]) → K (a.put o.dst v') w') :
    if Region.wanted o (yielded ops a.tmps) = true then Oper.wp P o a w K Q else E := by
  have hw : Region.wanted o (yielded ops a.tmps) = true := by simp [Region.wanted, hgd]
  rw [if_pos hw]
  obtain ⟨v', w', hr, h2, h3, h4⟩ := run_append_bufS (P := P) w s hs0 t tx o.type e i z ht hi hz hs1 hz1 B v css h xv n news hnc hs hB h63 hfit
  unfold Oper.wp execOp
  simp only [ho, resolve, invoke, builtin, Sem.run_bind, Sem.run_pure, Result.andThen_ok, List.map_toArray, List.map_cons, List.map_nil, hv, hx, hr]
  exact hk v' w' h2 h3 h4
/-- The same where a literal of one element was laid just before. -/
theorem step_append_litS {ops : Array Oper} {o : Oper} {a : Act} {K : Act → World → Prop} {Q : Exit → Act → World → Prop} {E : Prop} (hgd : o.guard = none) (sl x : Operand) (t : TypeId)
    (ho : o.op = .call { callee := .builtin .append, args := #[sl, x], argTypes := #[t, t] }) (s : Nat) (hs0 : 0 < s) (e : TypeId) (i : TypeInfo) (z : Value) (ht : P.underlying t = some (.slice e)) (hi : P.info? e = some i) (hz : i.zero = some z) (hs1 : i.size = s) (hz1 : z.cells.size = s)
    (B : Nat) (v : Value) (css : List (List Value)) (hv : a.eval sl = v) (h : BufS s w B e v css) (c : List Value) (hc : c.length = s) (hx : a.eval x = .slice (some ⟨w.heap.size, 0, none⟩) 1 1) (h1 : ∀ u ∈ c, u.oneCell' = true) (hB : B ≤ w.heap.size) (h63 : css.length + 1 ≤ maxLen) (hfit : (css.length + 1) * i.bytes ≤ 140737488355328)
    (hk : ∀ v' w', BufS s w' B e v' (css ++ [c]) → Touch (own v) w w' → (∀ j ∈ own v', j ∈ own v ∨ w.heap.size ≤ j) → K (a.put o.dst v') w') :
    if Region.wanted o (yielded ops a.tmps) = true then Oper.wp P o a (w.alloc (.cells c.toArray e)).drew K Q else E := by
  have hl := BufS.lit s w e B hB [c] (by simpa using hc) (by simp [maxLen])
  rw [show [c].flatten = c by simp] at hl
  have hsrc := BufS.src (P := P) _ (hl.ext (Ext.drew _)) hs0 ht (by simpa using h1)
  refine step_append_bufS _ hgd sl x t t ho s hs0 e i z ht hi hz hs1 hz1 B v css hv ((h.ext (Ext.alloc _ _)).ext (Ext.drew _)) _ 1 [c] (by simpa using hc) hx hsrc (Nat.le_trans hB (by simp)) h63 hfit ?_
  intro v' w' h2 h3 h4
  refine hk v' w' h2 ((Touch.of_ext (S := own v) (Ext.trans (Ext.alloc _ _) (Ext.drew _))).trans h3 (fun j hj => .inl hj)) ?_
  intro j hj
  rcases h4 with h4 | h4
  · rw [h4] at hj; exact .inl hj
  · rw [h4, List.mem_singleton] at hj; subst hj; right; simp
/-- append(s, x): the literal's block is the newest. -/
theorem wpList_append_litS {ops : Array Oper} {rest : List Oper} {o : Oper} {a : Act} {Q : Exit → Act → World → Prop} (hgd : o.guard = none) (sl x : Operand) (t : TypeId)
    (ho : o.op = .call { callee := .builtin .append, args := #[sl, x], argTypes := #[t, t] }) (s : Nat) (hs0 : 0 < s) (e : TypeId) (i : TypeInfo) (z : Value) (ht : P.underlying t = some (.slice e)) (hi : P.info? e = some i) (hz : i.zero = some z) (hs1 : i.size = s) (hz1 : z.cells.size = s)
    (B : Nat) (v : Value) (css : List (List Value)) (hv : a.eval sl = v) (h : BufS s w B e v css) (c : List Value) (hc : c.length = s) (hx : a.eval x = .slice (some ⟨w.heap.size, 0, none⟩) 1 1) (h1 : ∀ u ∈ c, u.oneCell' = true) (hB : B ≤ w.heap.size) (h63 : css.length + 1 ≤ maxLen) (hfit : (css.length + 1) * i.bytes ≤ 140737488355328)
    (hk : ∀ v' w', BufS s w' B e v' (css ++ [c]) → Touch (own v) w w' → (∀ j ∈ own v', j ∈ own v ∨ w.heap.size ≤ j) → wpList P ops Q rest (a.put o.dst v') w') : wpList P ops Q (o :: rest) a (w.alloc (.cells c.toArray e)) := by
  have hl := BufS.lit s w e B hB [c] (by simpa using hc) (by simp [maxLen])
  rw [show [c].flatten = c by simp] at hl
  have hsrc := BufS.src (P := P) _ hl hs0 ht (by simpa using h1)
  refine wpList_append_bufS _ hgd sl x t t ho s hs0 e i z ht hi hz hs1 hz1 B v css hv (h.ext (Ext.alloc _ _)) _ 1 [c] (by simpa using hc) hx hsrc (Nat.le_trans hB (by simp)) h63 hfit ?_
  intro v' w' h2 h3 h4
  refine hk v' w' h2 ((Touch.of_ext (S := own v) (Ext.alloc _ _)).trans h3 (fun j hj => .inl hj)) ?_
  intro j hj
  rcases h4 with h4 | h4
  · rw [h4] at hj; exact .inl hj
  · rw [h4, List.mem_singleton] at hj; subst hj; right; simp
end
end Go.Proofs.Ytjphmjegfpdbeaa
