/- An object's names turned, one by one. No condition. -/
import Derived.Test.YtdjkcolceccclaaEdgeD
import Derived.Test.YtdjkcolceccclaaBufSet
namespace Go.Proofs.Ytdjkcolceccclaa
open Go.RowKit
namespace Edge
set_option linter.unusedSimpArgs false
set_option linter.unusedVariables false
def updE (f : Nat → S) (i : Nat) (l : List Ent) : List Ent := l.mapIdx fun j x => if j < i then { x with i := f j } else x
def updS (f : Nat → S) (i : Nat) (l : List S) : List S := l.mapIdx fun j p => if j + 1 < i then f (j + 1) else p
/-- The first names turned. -/
def updO (o : Ob) (f : Nat → S) (i : Nat) : Ob :=
  if o.k = 2 then { o with ents := updE f i o.ents }
  else if o.k = 3 then { o with tree := if 0 < i then f 0 else o.tree, pars := updS f i o.pars }
  else if o.k = 4 then { o with targ := if 0 < i then f 0 else o.targ } else o
theorem updO_k (o : Ob) (f : Nat → S) (i : Nat) : (updO o f i).k = o.k := by
  unfold updO; repeat' split
  all_goals rfl
theorem updE_len (f : Nat → S) (i : Nat) (l : List Ent) : (updE f i l).length = l.length := by simp [updE]
theorem updS_len (f : Nat → S) (i : Nat) (l : List S) : (updS f i l).length = l.length := by simp [updS]
theorem updO_elen (o : Ob) (f : Nat → S) (i : Nat) : (updO o f i).ents.length = o.ents.length := by
  unfold updO; repeat' split
  all_goals simp [updE_len]
theorem updO_plen (o : Ob) (f : Nat → S) (i : Nat) : (updO o f i).pars.length = o.pars.length := by
  unfold updO; repeat' split
  all_goals simp [updS_len]
theorem updO_zero (o : Ob) (f : Nat → S) : updO o f 0 = o := by
  have h1 : ∀ l : List Ent, updE f 0 l = l := fun l => by
    apply List.ext_getElem
    · simp [updE]
    · intro j h1 h2; simp [updE]
  have h2 : ∀ l : List S, updS f 0 l = l := fun l => by
    apply List.ext_getElem
    · simp [updS]
    · intro j h1 h2; simp [updS]
  unfold updO
  rw [h1, h2]
  repeat' split
  all_goals first | rfl | (rename_i h; exact absurd h (Nat.lt_irrefl 0))
theorem edges_upd (o : Ob) (f : Nat → S) (i : Nat) : edgesP (updO o f i) = (edgesP o).mapIdx fun j x => if j < i then ⟨f j, x.k⟩ else x := by
  unfold edgesP
  rw [updO_k]
  by_cases h2 : o.k = 2
  · rw [if_pos h2, if_pos h2]
    unfold updO
    rw [if_pos h2]
    apply List.ext_getElem
    · simp [updE_len]
    · intro j h1 h2
      simp only [List.getElem_map, List.getElem_mapIdx, updE]
      split <;> rfl
  · rw [if_neg h2, if_neg h2]
    by_cases h3 : o.k = 3
    · rw [if_pos h3, if_pos h3]
      unfold updO
      rw [if_neg h2, if_pos h3]
      simp only [List.mapIdx_cons]
      congr 1
      · split <;> rfl
      · apply List.ext_getElem
        · simp [updS_len]
        · intro j h1 h2
          simp only [List.getElem_map, List.getElem_mapIdx, updS]
          split <;> rfl
    · rw [if_neg h3, if_neg h3]
      by_cases h4 : o.k = 4
      · rw [if_pos h4, if_pos h4]
        unfold updO
        rw [if_neg h2, if_neg h3, if_pos h4]
        simp only [List.mapIdx_cons, List.mapIdx_nil]
        split <;> rfl
      · rw [if_neg h4, if_neg h4]
        simp
theorem spots_upd (g : Nat) (ev pv : Value) (o : Ob) (f : Nat → S) (i : Nat) : spotsP g ev pv (updO o f i) = spotsP g ev pv o := by
  unfold spotsP
  rw [updO_k, updO_elen, updO_plen]
  by_cases h2 : o.k = 2
  · rw [if_pos h2, if_pos h2]
    apply List.map_congr_left
    intro j hj
    rw [List.mem_range] at hj
    have h : (updO o f i).ents = updE f i o.ents := by unfold updO; rw [if_pos h2]
    have : kindE ((updO o f i).ents.getD j ⟨0, [], []⟩) = kindE (o.ents.getD j ⟨0, [], []⟩) := by
      rw [h, List.getD_eq_getElem?_getD, List.getD_eq_getElem?_getD, List.getElem?_eq_getElem (by rw [updE_len]; exact hj), List.getElem?_eq_getElem hj]
      simp only [Option.getD_some, updE, List.getElem_mapIdx]
      split <;> rfl
    rw [this]
  · rw [if_neg h2, if_neg h2]
    by_cases h3 : o.k = 3
    · rw [if_pos h3, if_pos h3]
    · rw [if_neg h3, if_neg h3]
      by_cases h4 : o.k = 4
      · rw [if_pos h4, if_pos h4]
        have : (updO o f i).of = o.of := by unfold updO; rw [if_neg h2, if_neg h3, if_pos h4]
        rw [this]
      · rw [if_neg h4, if_neg h4]
/-- A write into a block of another type. -/
theorem BufS.other {s : Nat} {w w' : World} {B : Nat} {e T : TypeId} {v : Value} {css : List (List Value)} {b : Nat} {cs : List Value} (h : BufS s w B e v css) (hb : BlkZ w b T cs) (hne : T ≠ e) (k : Touch [b] w w') : BufS s w' B e v css := by
  obtain ⟨A, cap, rfl, h1, h2, h3, h4, h5⟩ := h
  refine ⟨A, cap, rfl, h1, h2, h3, fun j hj => ⟨(h4 j hj).1, Nat.lt_of_lt_of_le (h4 j hj).2 k.size⟩, ?_⟩
  rcases h5 with h5 | ⟨b', off, cs', rfl, hb', h6, h7⟩
  · exact .inl h5
  · refine .inr ⟨b', off, cs', rfl, hb'.touch k (fun hm => ?_), h6, h7⟩
    rw [List.mem_singleton] at hm
    subst hm
    obtain ⟨_, e1, _⟩ := hb
    obtain ⟨_, e2, _⟩ := hb'
    rw [e1] at e2
    injection e2 with e2
    injection e2 with e2 e3
    exact hne e3
theorem ents_set (f : Nat → S) (i : Nat) (l : List Ent) (hi : i < l.length) : ((updE f i l).map entV).set i ((((updE f i l).map entV).getD i []).set 2 (.string (strOf (f i)))) = (updE f (i + 1) l).map entV := by
  apply List.ext_getElem
  · simp [updE_len]
  · intro j h1 h2
    have hj : j < l.length := by simpa [updE_len] using h1
    rw [List.getElem_set]
    by_cases hji : i = j
    · subst hji
      rw [if_pos rfl, List.getD_eq_getElem?_getD, List.getElem?_eq_getElem (by rw [List.length_map, updE_len]; exact hi)]
      simp only [Option.getD_some, List.getElem_map, updE, List.getElem_mapIdx, Nat.lt_irrefl, if_false, Nat.lt_succ_self, if_true]
      rfl
    · rw [if_neg hji]
      simp only [List.getElem_map, updE, List.getElem_mapIdx]
      by_cases h : j < i
      · rw [if_pos h, if_pos (by omega)]
      · rw [if_neg h, if_neg (by omega)]
theorem pars_set (f : Nat → S) (i : Nat) (l : List S) (hi : i < l.length) : ((updS f (i + 1) l).map sV).set i ((((updS f (i + 1) l).map sV).getD i []).set 0 (.string (strOf (f (i + 1))))) = (updS f (i + 2) l).map sV := by
  apply List.ext_getElem
  · simp [updS_len]
  · intro j h1 h2
    have hj : j < l.length := by simpa [updS_len] using h1
    rw [List.getElem_set]
    by_cases hji : i = j
    · subst hji
      rw [if_pos rfl, List.getD_eq_getElem?_getD, List.getElem?_eq_getElem (by rw [List.length_map, updS_len]; exact hi)]
      simp only [Option.getD_some, List.getElem_map, updS, List.getElem_mapIdx]
      rw [if_pos (show i + 1 < i + 2 by omega)]
      rfl
    · rw [if_neg hji]
      simp only [List.getElem_map, updS, List.getElem_mapIdx]
      by_cases h : j + 1 < i + 1
      · rw [if_pos h, if_pos (by omega)]
      · rw [if_neg h, if_neg (by omega)]
/-- The object lies in a block of its own. -/
structure ObAt (w : World) (B g : Nat) (o : Ob) (ev pv : Value) : Prop where
  b : Blk w g 25 (obV o ev pv)
  o : ObOwn w B o ev pv
  l : g < B
theorem ObAt.touch {w w' : World} {B g : Nat} {o : Ob} {ev pv : Value} (h : ObAt w B g o ev pv) {S : List Nat} (k : Touch S w w') (hS : ∀ j ∈ S, j < g ∨ w.heap.size ≤ j) : ObAt w' B g o ev pv :=
  ⟨h.b.touch k (fun hm => by have := hS _ hm; have := h.b.lt; omega), ⟨h.o.e.touch k (fun j hj hm => by have := hS _ hm; have := h.o.e.owns j hj; have := h.l; omega), h.o.p.touch k (fun j hj hm => by have := hS _ hm; have := h.o.p.owns j hj; have := h.l; omega)⟩, h.l⟩
/-- The next name turned. -/
theorem ObAt.put {w : World} {B g : Nat} {o : Ob} {f : Nat → S} {i : Nat} {ev pv : Value} (h : ObAt w B g (updO o f i) ev pv) (hi : i < (edgesP o).length) {ab ao : Nat} {k : Int} (ha : (spotsP g ev pv o)[i]? = some (⟨ab, ao, none⟩, k)) :
    (∃ u, w.cell? ⟨ab, ao, none⟩ = some u) ∧ w.frozen? ⟨ab, ao, none⟩ = false ∧ (ab = g ∨ ab ∈ own ev ∨ ab ∈ own pv) ∧ ObAt (w.setCell ⟨ab, ao, none⟩ (.string (strOf (f i)))) B g (updO o f (i + 1)) ev pv := by
  have hT := Touch.set w ⟨ab, ao, none⟩ (.string (strOf (f i)))
  have hl := h.l
  have hgl := h.b.lt
  by_cases h2 : o.k = 2
  · have he : edgesP o = o.ents.map fun x => ⟨x.i, kindE x⟩ := by unfold edgesP; rw [if_pos h2]
    have hs : spotsP g ev pv o = (List.range o.ents.length).map (fun i => (behind (sliceA ev) (i * 3 + 2), kindE (o.ents.getD i ⟨0, [], []⟩))) := by unfold spotsP; rw [if_pos h2]
    have hi2 : i < o.ents.length := by rw [he, List.length_map] at hi; exact hi
    have u1 : ∀ n, updO o f n = { o with ents := updE f n o.ents } := fun n => by unfold updO; rw [if_pos h2]
    have hE := h.o.e
    rw [u1] at hE
    obtain ⟨eA, ec, hev⟩ := hE.form
    subst hev
    have hi3 : i < ((updE f i o.ents).map entV).length := by rw [List.length_map, updE_len]; exact hi2
    obtain ⟨b, off, rfl, _⟩ := hE.at (by decide) (i := i) hi3
    rw [hs, List.getElem?_map, List.getElem?_range hi2] at ha
    injection ha with ha
    injection ha with ha hk
    injection ha with e1 e2
    subst e1
    obtain rfl : ao = off + i * 3 + 2 := by rw [← e2]; simp [Nat.add_assoc]
    obtain ⟨u, hu, hfr⟩ := hE.slot hi3 (j := 2) (by decide)
    have hset := hE.setAt (by decide) i hi3 2 (by decide) (.string (strOf (f i)))
    rw [ents_set f i o.ents hi2] at hset
    have hown := hE.owns b (by simp [own])
    refine ⟨⟨u, hu⟩, hfr, .inr (.inl (by simp [own])), ⟨?_, ⟨?_, ?_⟩, hl⟩⟩
    · have := h.b.touch hT (fun hm => by rw [List.mem_singleton] at hm; simp only at hm; omega)
      rw [u1] at this ⊢
      exact this
    · rw [u1]; exact hset
    · have hz : ∃ cs, BlkZ w b 46 cs := by
        obtain ⟨hn, hcap, _⟩ := hE.len
        obtain ⟨cs, hb, _⟩ := hE.blk (by rw [hn] at hcap; simp only [List.length_map, updE_len] at hcap; omega)
        exact ⟨cs, hb⟩
      obtain ⟨cs, hz⟩ := hz
      have := BufS.other h.o.p hz (by decide) hT
      rw [u1] at this ⊢
      exact this
  · by_cases h3 : o.k = 3
    · have he : edgesP o = ⟨o.tree, 2⟩ :: o.pars.map fun p => ⟨p, 3⟩ := by unfold edgesP; rw [if_neg h2, if_pos h3]
      have hs : spotsP g ev pv o = (⟨g, 3, none⟩, 2) :: (List.range o.pars.length).map (fun i => (behind (sliceA pv) i, 3)) := by unfold spotsP; rw [if_neg h2, if_pos h3]
      have u1 : ∀ n, updO o f n = { o with tree := if 0 < n then f 0 else o.tree, pars := updS f n o.pars } := fun n => by unfold updO; rw [if_neg h2, if_pos h3]
      cases i with
      | zero =>
        rw [hs] at ha
        simp only [List.getElem?_cons_zero] at ha
        injection ha with ha
        injection ha with ha hk
        injection ha with e1 e2
        subst e1 e2
        have hp : updS f 1 o.pars = updS f 0 o.pars := by apply List.ext_getElem (by simp [updS]); intro j h1 h2; simp only [updS, List.getElem_mapIdx]; rw [if_neg (by omega), if_neg (by omega)]
        refine ⟨⟨.string (strOf (updO o f 0).tree), by rw [h.b.cell]; rfl⟩, h.b.free 3, .inl rfl, ⟨?_, ⟨?_, ?_⟩, hl⟩⟩
        · have := h.b.set 3 (.string (strOf (f 0)))
          rw [u1] at this ⊢
          exact this
        · have := h.o.e.touch hT (fun j hj hm => by rw [List.mem_singleton] at hm; have := h.o.e.owns j hj; simp only at hm; omega)
          rw [u1] at this ⊢
          exact this
        · have := h.o.p.touch hT (fun j hj hm => by rw [List.mem_singleton] at hm; have := h.o.p.owns j hj; simp only at hm; omega)
          rw [u1] at this ⊢
          simp only at this ⊢
          rw [hp]
          exact this
      | succ i =>
        have hi2 : i < o.pars.length := by rw [he, List.length_cons, List.length_map] at hi; omega
        have hP := h.o.p
        rw [u1] at hP
        obtain ⟨pA, pc, hpv⟩ := hP.form
        subst hpv
        have hi3 : i < ((updS f (i + 1) o.pars).map sV).length := by rw [List.length_map, updS_len]; exact hi2
        obtain ⟨b, off, rfl, _⟩ := hP.at (by decide) (i := i) hi3
        rw [hs, List.getElem?_cons_succ, List.getElem?_map, List.getElem?_range hi2] at ha
        injection ha with ha
        injection ha with ha hk
        injection ha with e1 e2
        subst e1
        obtain rfl : ao = off + i * 1 + 0 := by rw [← e2]; simp
        obtain ⟨u, hu, hfr⟩ := hP.slot hi3 (j := 0) (by decide)
        have hset := hP.setAt (by decide) i hi3 0 (by decide) (.string (strOf (f (i + 1))))
        rw [pars_set f i o.pars hi2] at hset
        have hown := hP.owns b (by simp [own])
        refine ⟨⟨u, hu⟩, hfr, .inr (.inr (by simp [own])), ⟨?_, ⟨?_, ?_⟩, hl⟩⟩
        · have := h.b.touch hT (fun hm => by rw [List.mem_singleton] at hm; simp only at hm; omega)
          rw [u1] at this ⊢
          simp only [Nat.zero_lt_succ, if_true] at this ⊢
          exact this
        · have hz : ∃ cs, BlkZ w b 9 cs := by
            obtain ⟨hn, hcap, _⟩ := hP.len
            obtain ⟨cs, hb, _⟩ := hP.blk (by rw [hn] at hcap; simp only [List.length_map, updS_len] at hcap; omega)
            exact ⟨cs, hb⟩
          obtain ⟨cs, hz⟩ := hz
          have := BufS.other h.o.e hz (by decide) hT
          rw [u1] at this ⊢
          exact this
        · rw [u1]; exact hset
    · by_cases h4 : o.k = 4
      · have he : edgesP o = [⟨o.targ, o.of⟩] := by unfold edgesP; rw [if_neg h2, if_neg h3, if_pos h4]
        have hs : spotsP g ev pv o = [(⟨g, 5, none⟩, o.of)] := by unfold spotsP; rw [if_neg h2, if_neg h3, if_pos h4]
        have u1 : ∀ n, updO o f n = { o with targ := if 0 < n then f 0 else o.targ } := fun n => by unfold updO; rw [if_neg h2, if_neg h3, if_pos h4]
        obtain rfl : i = 0 := by rw [he] at hi; simp at hi; exact hi
        rw [hs] at ha
        simp only [List.getElem?_cons_zero] at ha
        injection ha with ha
        injection ha with ha hk
        injection ha with e1 e2
        subst e1 e2
        refine ⟨⟨.string (strOf (updO o f 0).targ), by rw [h.b.cell]; rfl⟩, h.b.free 5, .inl rfl, ⟨?_, ⟨?_, ?_⟩, hl⟩⟩
        · have := h.b.set 5 (.string (strOf (f 0)))
          rw [u1] at this ⊢
          exact this
        · have := h.o.e.touch hT (fun j hj hm => by rw [List.mem_singleton] at hm; have := h.o.e.owns j hj; simp only at hm; omega)
          rw [u1] at this ⊢
          exact this
        · have := h.o.p.touch hT (fun j hj hm => by rw [List.mem_singleton] at hm; have := h.o.p.owns j hj; simp only at hm; omega)
          rw [u1] at this ⊢
          exact this
      · exfalso
        have he : edgesP o = [] := by unfold edgesP; rw [if_neg h2, if_neg h3, if_neg h4]
        rw [he] at hi
        simp at hi
end Edge
end Go.Proofs.Ytdjkcolceccclaa
