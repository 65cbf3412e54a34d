/- append to a slice without room behind it: nothing that was there is written. No condition. -/
import Derived.Test.YtjphmjegfpdbeaaRd
namespace Go.Proofs.Ytjphmjegfpdbeaa
open Go.RowKit
set_option linter.unusedVariables false
section
variable {P : Program} (w : World)
theorem run_append_fullS (s : Nat) (hs0 : 0 < s) (t tx ty e : TypeId) (i : TypeInfo) (z : Value) (ht : P.underlying t = some (.slice e)) (hi : P.info? e = some i) (hz : i.zero = some z) (hs1 : i.size = s) (hz1 : z.cells.size = s)
    (A : Option Addr) (m : Nat) (css : List (List Value)) (h : Rd s w (.slice A m m) css) (x : Value) (n : Nat) (hn : 0 < n) (news : List (List Value)) (hnc : ∀ c ∈ news, c.length = s) (hs : Src P s tx x n news.flatten w) (h63 : css.length + n ≤ maxLen) (hfit : (css.length + n) * i.bytes ≤ 140737488355328) :
    ∃ v' w', (Builtin.append_ #[t, tx] ty #[.slice A m m, x]).run P w = .ok v' w' ∧ BufS s w' w.heap.size e v' (css ++ news) ∧ Ext w w' := by
  obtain ⟨A', cap', he, h1, h2, h3, h5⟩ := h
  injection he with e1 e2 e3
  subst e1 e2
  subst e3
  have hnl : news.length = n := by
    have := hs.newsLen
    rw [flat_len hnc] at this
    exact Nat.eq_of_mul_eq_mul_right hs0 this
  have hll : (css ++ news).length = css.length + n := by rw [List.length_append, hnl]
  have hcc : ∀ c ∈ css ++ news, c.length = s := by
    intro c hc
    rcases List.mem_append.1 hc with h | h
    · exact h3 c h
    · exact hnc c h
  have hfl := flat_len h3
  have hfn := flat_len hnc
  rw [hnl] at hfn
  subst hs1
  have hold : (Builtin.firstCells i.size css.length (.slice A css.length css.length)).run P w.drew = .ok css.flatten.toArray w.drew := by
    rcases Nat.eq_zero_or_pos css.length with h0 | h0
    · have hx : css = [] := List.eq_nil_of_length_eq_zero h0
      subst hx
      cases A with
      | none => exact run_firstCells_none w.drew i.size 0 0 0
      | some a => exact run_firstCells_some w.drew i.size 0 a 0 0 [] (by simp) (by simp)
    · have hpos : 0 < css.flatten.length := by rw [hfl]; exact Nat.mul_pos h0 hs0
      obtain ⟨b, off, rfl, hc⟩ := h5.at hpos
      refine run_firstCells_some w.drew i.size css.length _ css.length css.length css.flatten (by rw [hfl]) (fun j u hu => ?_)
      rw [Addr.add_lit]
      exact (Ext.drew w).cell (hc j u hu)
  have hr := run_append_grow_src (P := P) w t tx ty e i z ht hi hz A css.length css.length css.flatten hold x n news.flatten hs (by omega) (by simp only [maxLen] at h63; omega) (growslice_fits (by omega) hfit)
  have hge := grownCap_ge w (css.length + n) css.length e
  have hcm := grownCap_le_maxLen w (css.length + n) css.length e h63
  refine ⟨_, _, hr, ⟨_, _, by rw [hll], by rw [hll]; exact hge, hcm, hcc, by simp [own], .inr ⟨w.heap.size, 0, (css ++ news).flatten ++ (Builtin.zeroCells z.cells (grownCap w (css.length + n) css.length e - (css.length + n))).toList, rfl, ?_, ?_, ?_⟩⟩, ⟨rfl, rfl, rfl, by simp, fun k hk => heap_alloc_old w.drew _ hk⟩⟩
  · have e1 : ((css.flatten ++ news.flatten).toArray ++ Builtin.zeroCells z.cells (grownCap w (css.length + n) css.length e - (css.length + n))) = ((css ++ news).flatten ++ (Builtin.zeroCells z.cells (grownCap w (css.length + n) css.length e - (css.length + n))).toList).toArray := by
      apply Array.ext'
      simp
    rw [e1]
    exact (Blk.new w.drew e _).z
  · have hzl : (Builtin.zeroCells z.cells (grownCap w (css.length + n) css.length e - (css.length + n))).toList.length = (grownCap w (css.length + n) css.length e - (css.length + n)) * i.size := by
      rw [Array.length_toList, size_zeroCells, hz1]
    rw [List.length_append, flat_len hcc, hll, hzl, ← Nat.add_mul, Nat.zero_add]
    exact Nat.mul_le_mul_right _ (by omega)
  · rw [List.drop_zero]; exact List.take_left' (by rw [flat_len hcc])
theorem wpList_append_fullS {ops : Array Oper} {rest : List Oper} {o : Oper} {a : Act} {Q : Exit → Act → World → Prop} (hgd : o.guard = none) (sl x : Operand) (t tx : TypeId)
    (ho : o.op = .call { callee := .builtin .append, args := #[sl, x], argTypes := #[t, tx] }) (s : Nat) (hs0 : 0 < s) (e : TypeId) (i : TypeInfo) (z : Value) (ht : P.underlying t = some (.slice e)) (hi : P.info? e = some i) (hz : i.zero = some z) (hs1 : i.size = s) (hz1 : z.cells.size = s)
    (A : Option Addr) (m : Nat) (css : List (List Value)) (hv : a.eval sl = .slice A m m) (h : Rd s w (.slice A m m) css) (xv : Value) (n : Nat) (hn : 0 < n) (news : List (List Value)) (hnc : ∀ c ∈ news, c.length = s) (hx : a.eval x = xv) (hs : Src P s tx xv n news.flatten w) (h63 : css.length + n ≤ maxLen) (hfit : (css.length + n) * i.bytes ≤ 140737488355328)
    (hk : ∀ v' w', BufS s w' w.heap.size e v' (css ++ news) → Ext w w' → wpList P ops Q rest (a.put o.dst v') w') : wpList P ops Q (o :: rest) a w := by
  refine wpList_plain hgd fun K hK => ?_
  obtain ⟨v', w', hr, h2, h3⟩ := run_append_fullS (P := P) w s hs0 t tx o.type e i z ht hi hz hs1 hz1 A m css h xv n hn news hnc hs h63 hfit
  unfold Oper.wp execOp
  simp only [ho, resolve, invoke, builtin, Sem.run_bind, Sem.run_pure, Result.andThen_ok, List.map_toArray, List.map_cons, List.map_nil, hv, hx, hr]
  exact hK _ _ (hk v' w' h2 h3)
end
/-- A slice without what is behind it. -/
theorem Rd.clip {s : Nat} {w : World} {A : Option Addr} {n cap : Nat} {css : List (List Value)} (h : Rd s w (.slice A n cap) css) : Rd s w (.slice A n n) css := by
  obtain ⟨A', cap', he, h1, h2, h3, h5⟩ := h
  injection he with e1 e2 e3
  subst e1 e2 e3
  exact ⟨A, _, rfl, Nat.le_refl _, by omega, h3, h5⟩
end Go.Proofs.Ytjphmjegfpdbeaa
