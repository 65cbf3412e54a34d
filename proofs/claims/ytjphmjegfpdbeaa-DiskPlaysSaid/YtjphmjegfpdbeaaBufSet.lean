/- More words on slices of elements of several cells: stores into them. No condition. -/
import Derived.Test.YtjphmjegfpdbeaaBufS
namespace Go.Proofs.Ytjphmjegfpdbeaa
open Go.RowKit
set_option linter.unusedVariables false
/-- The block's cells have turned: so have the elements. -/
theorem BufS.recell {s : Nat} {w w' : World} {B : Nat} {e : TypeId} {b off n cap : Nat} {css css' : List (List Value)} {cs' : List Value} (h : BufS s w B e (.slice (some ⟨b, off, none⟩) n cap) css) (hz : w.heap.size ≤ w'.heap.size)
    (hb : BlkZ w' b e cs') (hl : off + cap * s ≤ cs'.length) (hcl : css'.length = css.length) (hc : ∀ c ∈ css', c.length = s) (hat : ∀ j, j < n * s → cs'[off + j]? = css'.flatten[j]?) : BufS s w' B e (.slice (some ⟨b, off, none⟩) n cap) css' := by
  obtain ⟨A', cap', he, g1, g2, g3, g4, g5⟩ := h
  injection he with e1 e2 e3
  subst e1 e2 e3
  refine ⟨_, _, by rw [hcl], by rw [hcl]; exact g1, g2, hc, fun j hj => ⟨(g4 j hj).1, Nat.lt_of_lt_of_le (g4 j hj).2 hz⟩, .inr ⟨b, off, cs', rfl, hb, hl, ?_⟩⟩
  have hfl := flat_len hc
  apply List.ext_getElem?
  intro j
  by_cases hj : j < css.length * s
  · rw [hcl, List.getElem?_take_of_lt hj, List.getElem?_drop]
    exact hat j hj
  · rw [List.getElem?_eq_none (by rw [hcl, List.length_take]; omega), List.getElem?_eq_none (by rw [hfl, hcl]; omega)]
theorem div_at {i s q r : Nat} (hr : r < s) : (i * s ≤ q * s + r ∧ q * s + r < i * s + s) ↔ q = i := by
  constructor
  · rintro ⟨h1, h2⟩
    rcases Nat.lt_trichotomy q i with h | h | h
    · have := Nat.mul_le_mul_right s (show q + 1 ≤ i from h)
      rw [Nat.add_mul, Nat.one_mul] at this
      omega
    · exact h
    · have := Nat.mul_le_mul_right s (show i + 1 ≤ q from h)
      rw [Nat.add_mul, Nat.one_mul] at this
      omega
  · rintro rfl
    omega
/-- s[i] = c -/
theorem BufS.set {s : Nat} {w : World} {B : Nat} {e : TypeId} {b off n cap : Nat} {css : List (List Value)} (h : BufS s w B e (.slice (some ⟨b, off, none⟩) n cap) css) (hs : 0 < s) (i : Nat) (hi : i < css.length) (c : List Value) (hc : c.length = s) :
    BufS s (w.setCells b (off + i * s) c) B e (.slice (some ⟨b, off, none⟩) n cap) (css.set i c) := by
  obtain ⟨hn, hcap, _⟩ := h.len
  obtain ⟨cs, hb, hl, h7⟩ := h.blk (by omega)
  have hi2 : i * s + s ≤ cap * s := by have := Nat.mul_le_mul_right s (show i + 1 ≤ cap by omega); rwa [Nat.add_mul, Nat.one_mul] at this
  have hce : ∀ d ∈ css.set i c, d.length = s := by
    intro d hd
    rcases List.mem_or_eq_of_mem_set hd with h1 | h1
    · exact h.each d h1
    · rw [h1]; exact hc
  refine h.recell (touch_setCells b c (off + i * s) w).size (hb.setCells (off + i * s) c (by omega)) (by simp only [List.length_append, List.length_take, List.length_drop]; omega) (by rw [List.length_set]) hce ?_
  intro j hj
  have hq : j / s < css.length := Nat.div_lt_of_lt_mul (by rw [Nat.mul_comm, ← hn]; exact hj)
  have hr : j % s < s := Nat.mod_lt _ hs
  have hjs : j / s * s + j % s = j := by rw [Nat.mul_comm]; exact Nat.div_add_mod j s
  have hold : cs[off + j]? = css.flatten[j]? := by rw [← h7, List.getElem?_take_of_lt (by rw [← hn]; exact hj), List.getElem?_drop]
  have hdiv := div_at (i := i) (q := j / s) hr
  rw [hjs] at hdiv
  have hnew : (css.set i c).flatten[j]? = (css.set i c)[j / s]?.bind (·[j % s]?) := by
    have := flat_at s _ (j / s) (j % s) hce hr
    rwa [hjs] at this
  have hcs : css.flatten[j]? = css[j / s]?.bind (·[j % s]?) := by
    have := flat_at s _ (j / s) (j % s) h.each hr
    rwa [hjs] at this
  rw [hnew]
  by_cases hj1 : off + j < off + i * s
  · have hne : ¬ i = j / s := fun e => by have := hdiv.2 e.symm; omega
    rw [List.append_assoc, List.getElem?_append_left (by rw [List.length_take]; omega), List.getElem?_take_of_lt hj1, hold, hcs, List.getElem?_set_ne hne]
  · by_cases hj2 : j < i * s + s
    · have he : j / s = i := hdiv.1 ⟨by omega, hj2⟩
      rw [List.getElem?_append_left (by rw [List.length_append, List.length_take]; omega), List.getElem?_append_right (by rw [List.length_take]; omega), List.length_take, Nat.min_eq_left (by omega), he, List.getElem?_set_self hi]
      simp only [Option.bind_some]
      congr 1
      have : j % s = j - i * s := by have := hjs; rw [he] at this; omega
      omega
    · have hne : ¬ i = j / s := fun e => by have := hdiv.2 e.symm; omega
      rw [List.getElem?_append_right (by rw [List.length_append, List.length_take]; omega), List.getElem?_drop, List.length_append, List.length_take, Nat.min_eq_left (by omega), List.getElem?_set_ne hne, ← hcs, ← hold]
      congr 1
      omega
/-- s[i].f = v, f the field at cell k -/
theorem BufS.setAt {s : Nat} {w : World} {B : Nat} {e : TypeId} {b off n cap : Nat} {css : List (List Value)} (h : BufS s w B e (.slice (some ⟨b, off, none⟩) n cap) css) (hs : 0 < s) (i : Nat) (hi : i < css.length) (k : Nat) (hk : k < s) (v : Value) :
    BufS s (w.setCell ⟨b, off + i * s + k, none⟩ v) B e (.slice (some ⟨b, off, none⟩) n cap) (css.set i ((css.getD i []).set k v)) := by
  obtain ⟨hn, hcap, _⟩ := h.len
  obtain ⟨cs, hb, hl, h7⟩ := h.blk (by omega)
  have hi2 : i * s + s ≤ cap * s := by have := Nat.mul_le_mul_right s (show i + 1 ≤ cap by omega); rwa [Nat.add_mul, Nat.one_mul] at this
  have hgi : css[i]? = some (css.getD i []) := by rw [List.getD_eq_getElem?_getD, List.getElem?_eq_getElem hi]; rfl
  have hgl : (css.getD i []).length = s := h.each _ (List.mem_of_getElem? hgi)
  have hce : ∀ d ∈ css.set i ((css.getD i []).set k v), d.length = s := by
    intro d hd
    rcases List.mem_or_eq_of_mem_set hd with h1 | h1
    · exact h.each d h1
    · rw [h1, List.length_set]; exact hgl
  have hb2 := hb.setCells (off + i * s + k) [v] (by simp only [List.length_cons, List.length_nil]; omega)
  have e1 : w.setCells b (off + i * s + k) [v] = w.setCell ⟨b, off + i * s + k, none⟩ v := rfl
  rw [e1] at hb2
  refine h.recell (Touch.set w _ v).size hb2 (by simp only [List.length_append, List.length_take, List.length_drop, List.length_cons, List.length_nil]; omega) (by rw [List.length_set]) hce ?_
  intro j hj
  have hq : j / s < css.length := Nat.div_lt_of_lt_mul (by rw [Nat.mul_comm, ← hn]; exact hj)
  have hr : j % s < s := Nat.mod_lt _ hs
  have hjs : j / s * s + j % s = j := by rw [Nat.mul_comm]; exact Nat.div_add_mod j s
  have hold : cs[off + j]? = css.flatten[j]? := by rw [← h7, List.getElem?_take_of_lt (by rw [← hn]; exact hj), List.getElem?_drop]
  have hnew : (css.set i ((css.getD i []).set k v)).flatten[j]? = (css.set i ((css.getD i []).set k v))[j / s]?.bind (·[j % s]?) := by
    have := flat_at s _ (j / s) (j % s) hce hr
    rwa [hjs] at this
  have hcs : css.flatten[j]? = css[j / s]?.bind (·[j % s]?) := by
    have := flat_at s _ (j / s) (j % s) h.each hr
    rwa [hjs] at this
  rw [hnew]
  by_cases hje : j = i * s + k
  · have hdiv := (div_at (i := i) (q := j / s) hr).1 (by rw [hjs]; omega)
    have hmod : j % s = k := by have := hjs; rw [hdiv] at this; omega
    rw [hdiv, hmod, List.getElem?_set_self hi]
    simp only [Option.bind_some]
    rw [List.getElem?_set_self (by omega), hje, List.getElem?_append_left (by simp only [List.length_append, List.length_take, List.length_cons, List.length_nil]; omega), List.getElem?_append_right (by rw [List.length_take]; omega), List.length_take, Nat.min_eq_left (by omega), show off + (i * s + k) - (off + i * s + k) = 0 by omega]
    rfl
  · have h1 : (css.set i ((css.getD i []).set k v))[j / s]?.bind (·[j % s]?) = css[j / s]?.bind (·[j % s]?) := by
      by_cases he : j / s = i
      · rw [he, List.getElem?_set_self hi, hgi]
        simp only [Option.bind_some]
        rw [List.getElem?_set_ne (fun e => hje (by rw [← hjs, he, e]))]
      · rw [List.getElem?_set_ne (fun e => he e.symm)]
    rw [h1, ← hcs, ← hold]
    by_cases hlt : off + j < off + i * s + k
    · rw [List.append_assoc, List.getElem?_append_left (by rw [List.length_take]; omega), List.getElem?_take_of_lt hlt]
    · rw [List.getElem?_append_right (by simp only [List.length_append, List.length_take, List.length_cons, List.length_nil]; omega), List.getElem?_drop, List.length_append, List.length_take, Nat.min_eq_left (by omega), List.length_cons, List.length_nil]
      congr 1
      omega
theorem BufS.slot {s : Nat} {w : World} {B : Nat} {e : TypeId} {b off n cap : Nat} {css : List (List Value)} (h : BufS s w B e (.slice (some ⟨b, off, none⟩) n cap) css) {i : Nat} (hi : i < css.length) {j : Nat} (hj : j < s) : ∃ u, w.cell? ⟨b, off + i * s + j, none⟩ = some u ∧ w.frozen? ⟨b, off + i * s + j, none⟩ = false := by
  obtain ⟨hn, hcap, _⟩ := h.len
  obtain ⟨cs, hb, hl, h7⟩ := h.blk (by omega)
  have hi2 : i * s + s ≤ cap * s := by have := Nat.mul_le_mul_right s (show i + 1 ≤ cap by omega); rwa [Nat.add_mul, Nat.one_mul] at this
  exact ⟨cs[off + i * s + j]'(by omega), by rw [hb.cell, List.getElem?_eq_getElem], hb.free _ (by omega)⟩
/-- v[m] = u, elements of one cell. -/
theorem Buf.set {w : World} {B : Nat} {e : TypeId} {b off n cap : Nat} {xs : List Value} (h : Buf w B e (.slice (some ⟨b, off, none⟩) n cap) xs) (m : Nat) (hm : m < xs.length) (u : Value) : Buf (w.setCell ⟨b, off + m, none⟩ u) B e (.slice (some ⟨b, off, none⟩) n cap) (xs.set m u) := by
  obtain ⟨A', cap', he, h1, h2, h3, h4⟩ := h
  injection he with e1 e2 e3
  subst e1 e2 e3
  rcases h4 with h4 | ⟨b', off', cs, he, hb, h5, h6⟩
  · omega
  · injection he with he
    injection he with e1 e2
    subst e1 e2
    have hb2 := hb.setCells (off + m) [u] (by simp only [List.length_cons, List.length_nil]; omega)
    have e1 : w.setCells b (off + m) [u] = w.setCell ⟨b, off + m, none⟩ u := rfl
    rw [e1] at hb2
    refine ⟨_, _, by rw [List.length_set], by rw [List.length_set]; exact h1, h2, fun j hj => ⟨(h3 j hj).1, Nat.lt_of_lt_of_le (h3 j hj).2 (Touch.set w _ u).size⟩, .inr ⟨b, off, _, rfl, hb2, by simp only [List.length_append, List.length_take, List.length_drop, List.length_cons, List.length_nil]; omega, ?_⟩⟩
    apply List.ext_getElem?
    intro j
    rw [List.length_set]
    by_cases hj : j < xs.length
    · have hold : cs[off + j]? = xs[j]? := by rw [← h6, List.getElem?_take_of_lt hj, List.getElem?_drop]
      rw [List.getElem?_take_of_lt hj, List.getElem?_drop]
      by_cases hjm : j = m
      · subst hjm
        rw [List.getElem?_set_self hm, List.getElem?_append_left (by simp only [List.length_append, List.length_take, List.length_cons, List.length_nil]; omega), List.getElem?_append_right (by rw [List.length_take]; omega), List.length_take, Nat.min_eq_left (by omega), Nat.sub_self]
        rfl
      · rw [List.getElem?_set_ne (fun e => hjm e.symm), ← hold]
        by_cases hlt : j < m
        · rw [List.append_assoc, List.getElem?_append_left (by rw [List.length_take]; omega), List.getElem?_take_of_lt (by omega)]
        · rw [List.getElem?_append_right (by simp only [List.length_append, List.length_take, List.length_cons, List.length_nil]; omega), List.getElem?_drop, List.length_append, List.length_take, Nat.min_eq_left (by omega), List.length_cons, List.length_nil]
          congr 1
          omega
    · rw [List.getElem?_eq_none (by rw [List.length_take]; omega), List.getElem?_eq_none (by rw [List.length_set]; omega)]
theorem Buf.free {w : World} {B : Nat} {e : TypeId} {b off n cap : Nat} {xs : List Value} (h : Buf w B e (.slice (some ⟨b, off, none⟩) n cap) xs) (m : Nat) (hm : m < xs.length) : w.frozen? ⟨b, off + m, none⟩ = false := by
  obtain ⟨A', cap', he, h1, h2, h3, h4⟩ := h
  injection he with e1 e2 e3
  subst e1 e2 e3
  rcases h4 with h4 | ⟨b', off', cs, he, hb, h5, h6⟩
  · omega
  · injection he with he
    injection he with e1 e2
    subst e1 e2
    exact hb.free _ (by omega)
theorem bytesV_set (l : List UInt8) (m : Nat) (b : UInt8) : (bytesV l).set m (.int .u8 (b.toNat : Int)) = bytesV (l.set m b) := by
  simp [bytesV, numsV, nb, List.map_set]
end Go.Proofs.Ytjphmjegfpdbeaa
