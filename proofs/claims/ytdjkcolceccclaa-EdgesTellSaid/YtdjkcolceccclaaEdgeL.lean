/- Map over functions that only read; what comes of turned names. No condition. -/
import Derived.Test.YtdjkcolceccclaaEdgeK
namespace Go.Proofs.Ytdjkcolceccclaa
open Go.RowKit
namespace Edge
set_option linter.unusedSimpArgs false
set_option linter.unusedVariables false
theorem gives_still {fn : FuncId} {caps : Array Value} (E : List Ed) (f : Nat → S × Int) (wN : World) (hen : ∀ args w, (callFunc fn args).run Try.prog w = .ok (.enter fn args) w)
    (h : ∀ i w, (hi : i < E.length) → Ext wN w → Calls Try.prog fn (#[edA E[i]] ++ caps) w (SaysE w (f i).1 (f i).2)) : Gives fn caps E f (fun _ w => Ext wN w) [] wN.heap.size where
  low := by simp
  touch := fun i S w w' hj k hS => Touch.below hj k hS hj.size
  enter := hen
  call := fun i w hi hj => by
    refine (h i w hi hj).mono ?_
    rintro e w' ⟨rfl, hE⟩
    exact ⟨rfl, hj.trans hE, Touch.of_ext hE⟩
/-- Every name given. -/
theorem mapOk_any {fn : FuncId} {caps : Array Value} (o : Ob) (f : Nat → S) (hen : ∀ args w, (callFunc fn args).run Try.prog w = .ok (.enter fn args) w) (ev pv : Value) (he : o.ents.length ≤ 2000) (hp : o.pars.length ≤ 2000) (w : World) (hin : ObIn w o ev pv)
    (h : ∀ i W, (hi : i < (edgesP o).length) → Ext w W → Calls Try.prog fn (#[edA (edgesP o)[i]] ++ caps) W (SaysE W (f i) 0)) :
    Calls Try.prog 13 #[.agg (obV o ev pv).toArray, .func (.func fn) #[] caps] w fun e w' => ∃ ev2 pv2, e = .returned (.tuple #[.agg (obV (updO o f (edgesP o).length) ev2 pv2).toArray, .int .i64 0]) ∧ ObOwn w' w.heap.size (updO o f (edgesP o).length) ev2 pv2 ∧ Ext w w' := by
  have hG := gives_still (edgesP o) (fun i => (f i, 0)) w hen h
  refine (map_any o hG ev pv he hp w (Nat.le_refl _) hin (Ext.refl _)).mono ?_
  rintro e w' ⟨hT, h1⟩
  rcases h1 with ⟨ev2, pv2, _, rfl, hO, hE⟩ | ⟨k, _, _, hbad, _⟩
  · exact ⟨ev2, pv2, rfl, hO, hE⟩
  · exact absurd rfl hbad
/-- The first name is refused. -/
theorem mapNo_any {fn : FuncId} {caps : Array Value} (o : Ob) (c : Int) (hc : c ≠ 0) (h0 : 0 < (edgesP o).length) (hen : ∀ args w, (callFunc fn args).run Try.prog w = .ok (.enter fn args) w) (ev pv : Value) (he : o.ents.length ≤ 2000) (hp : o.pars.length ≤ 2000) (w : World) (hin : ObIn w o ev pv)
    (h : ∀ i W, (hi : i < (edgesP o).length) → Ext w W → Calls Try.prog fn (#[edA (edgesP o)[i]] ++ caps) W (SaysE W [] c)) :
    Calls Try.prog 13 #[.agg (obV o ev pv).toArray, .func (.func fn) #[] caps] w fun e w' => e = .returned (.tuple #[.agg ob0.toArray, .int .i64 c]) ∧ Ext w w' := by
  have hG := gives_still (edgesP o) (fun i => ([], c)) w hen h
  refine (map_any o hG ev pv he hp w (Nat.le_refl _) hin (Ext.refl _)).mono ?_
  rintro e w' ⟨hT, h1⟩
  rcases h1 with ⟨ev2, pv2, hz, _⟩ | ⟨k, _, _, hbad, rfl, hE⟩
  · exact absurd (hz 0 h0) hc
  · exact ⟨rfl, hE⟩
theorem updE_congr {f g : Nat → S} {i : Nat} (l : List Ent) (h : ∀ j, j < i → j < l.length → f j = g j) : updE f i l = updE g i l := by
  unfold updE
  apply List.ext_getElem
  · simp
  · intro j h1 h2
    simp only [List.getElem_mapIdx]
    split
    · rename_i hj; rw [h j hj (by simpa using h1)]
    · rfl
theorem updS_congr {f g : Nat → S} {i : Nat} (l : List S) (h : ∀ j, j < i → j < l.length + 1 → f j = g j) : updS f i l = updS g i l := by
  unfold updS
  apply List.ext_getElem
  · simp
  · intro j h1 h2
    have hj2 : j < l.length := by simpa using h1
    simp only [List.getElem_mapIdx]
    split
    · rename_i hj; rw [h (j + 1) hj (by omega)]
    · rfl
theorem len2 {o : Ob} (h : o.k = 2) : (edgesP o).length = o.ents.length := by unfold edgesP; rw [if_pos h, List.length_map]
theorem len3 {o : Ob} (h : o.k = 3) : (edgesP o).length = o.pars.length + 1 := by unfold edgesP; rw [if_neg (by omega), if_pos h, List.length_cons, List.length_map]
theorem len4 {o : Ob} (h : o.k = 4) : (edgesP o).length = 1 := by unfold edgesP; rw [if_neg (by omega), if_neg (by omega), if_pos h]; rfl
/-- Names that are the same make the same. -/
theorem updO_congr (o : Ob) {f g : Nat → S} (h : ∀ j, j < (edgesP o).length → f j = g j) : updO o f (edgesP o).length = updO o g (edgesP o).length := by
  unfold updO
  by_cases h2 : o.k = 2
  · rw [if_pos h2, if_pos h2, updE_congr o.ents (fun j h1 _ => h j h1)]
  · rw [if_neg h2, if_neg h2]
    by_cases h3 : o.k = 3
    · rw [if_pos h3, if_pos h3, updS_congr o.pars (fun j h1 _ => h j h1), h 0 (by rw [len3 h3]; omega)]
    · rw [if_neg h3, if_neg h3]
      by_cases h4 : o.k = 4
      · rw [if_pos h4, if_pos h4, h 0 (by rw [len4 h4]; omega)]
      · rw [if_neg h4, if_neg h4]
theorem updE_self (l : List Ent) (i : Nat) (f : Nat → S) (h : ∀ j (hj : j < l.length), f j = l[j].i) : updE f i l = l := by
  unfold updE
  apply List.ext_getElem
  · simp
  · intro j h1 h2
    simp only [List.getElem_mapIdx]
    split
    · rw [h j h2]
    · rfl
theorem updS_self (l : List S) (i : Nat) (f : Nat → S) (h : ∀ j (hj : j < l.length), f (j + 1) = l[j]) : updS f i l = l := by
  unfold updS
  apply List.ext_getElem
  · simp
  · intro j h1 h2
    simp only [List.getElem_mapIdx]
    split
    · rw [h j h2]
    · rfl
theorem ed_get2 {o : Ob} (h : o.k = 2) {j : Nat} (hj : j < (edgesP o).length) : (edgesP o)[j].id = (o.ents[j]'(by rw [← len2 h]; exact hj)).i := by
  have : edgesP o = o.ents.map fun x => ⟨x.i, kindE x⟩ := by unfold edgesP; rw [if_pos h]
  simp only [this, List.getElem_map]
theorem ed_get3 {o : Ob} (h : o.k = 3) {j : Nat} (hj : j + 1 < (edgesP o).length) : (edgesP o)[j + 1].id = (o.pars[j]'(by have := len3 h; omega)) := by
  have : edgesP o = ⟨o.tree, 2⟩ :: o.pars.map fun p => ⟨p, 3⟩ := by unfold edgesP; rw [if_neg (by omega), if_pos h]
  simp only [this, List.getElem_cons_succ, List.getElem_map]
theorem ed_get30 {o : Ob} (h : o.k = 3) (hj : 0 < (edgesP o).length) : (edgesP o)[0].id = o.tree := by
  have : edgesP o = ⟨o.tree, 2⟩ :: o.pars.map fun p => ⟨p, 3⟩ := by unfold edgesP; rw [if_neg (by omega), if_pos h]
  simp only [this, List.getElem_cons_zero]
theorem ed_get4 {o : Ob} (h : o.k = 4) (hj : 0 < (edgesP o).length) : (edgesP o)[0].id = o.targ := by
  have : edgesP o = [⟨o.targ, o.of⟩] := by unfold edgesP; rw [if_neg (by omega), if_neg (by omega), if_pos h]
  simp only [this, List.getElem_cons_zero]
/-- With its own names an object is the same. -/
theorem updO_self (o : Ob) {f : Nat → S} (h : ∀ j (hj : j < (edgesP o).length), f j = (edgesP o)[j].id) : updO o f (edgesP o).length = o := by
  unfold updO
  by_cases h2 : o.k = 2
  · rw [if_pos h2, updE_self o.ents _ f (fun j hj => by rw [h j (by rw [len2 h2]; exact hj), ed_get2 h2])]
  · rw [if_neg h2]
    by_cases h3 : o.k = 3
    · rw [if_pos h3, updS_self o.pars _ f (fun j hj => by rw [h (j + 1) (by rw [len3 h3]; omega), ed_get3 h3]), h 0 (by rw [len3 h3]; omega), ed_get30 h3, if_pos (by rw [len3 h3]; omega)]
    · rw [if_neg h3]
      by_cases h4 : o.k = 4
      · rw [if_pos h4, h 0 (by rw [len4 h4]; omega), ed_get4 h4, if_pos (by rw [len4 h4]; omega)]
      · rw [if_neg h4]
theorem upd_len (o : Ob) (f : Nat → S) (i : Nat) : (edgesP (updO o f i)).length = (edgesP o).length := by rw [edges_upd, List.length_mapIdx]
theorem upd_get (o : Ob) (f : Nat → S) {j : Nat} (hj : j < (edgesP o).length) : (edgesP (updO o f (edgesP o).length))[j]'(by rw [upd_len]; exact hj) = ⟨f j, (edgesP o)[j].k⟩ := by
  simp only [edges_upd, List.getElem_mapIdx]
  rw [if_pos hj]
/-- The names turned twice. -/
theorem updO_twice (o : Ob) (f g : Nat → S) : updO (updO o f (edgesP o).length) g (edgesP o).length = updO o g (edgesP o).length := by
  by_cases h2 : o.k = 2
  · have e1 : ∀ f i, updO o f i = { o with ents := updE f i o.ents } := fun f i => by unfold updO; rw [if_pos h2]
    have e2 : ∀ (q : Ob), q.k = 2 → ∀ f i, updO q f i = { q with ents := updE f i q.ents } := fun q hq f i => by unfold updO; rw [if_pos hq]
    rw [e2 (updO o f (edgesP o).length) (by rw [updO_k]; exact h2) g, e1 f, e1 g]
    simp only
    congr 1
    unfold updE
    apply List.ext_getElem
    · simp
    · intro j h1 h3
      simp only [List.getElem_mapIdx]
      have hj : j < (edgesP o).length := by rw [len2 h2]; simpa using h1
      simp only [if_pos hj]
  · by_cases h3 : o.k = 3
    · have e2 : ∀ (q : Ob), q.k = 3 → ∀ f i, updO q f i = { q with tree := if 0 < i then f 0 else q.tree, pars := updS f i q.pars } := fun q hq f i => by unfold updO; rw [if_neg (by omega), if_pos hq]
      rw [e2 (updO o f (edgesP o).length) (by rw [updO_k]; exact h3) g, e2 o h3 f, e2 o h3 g]
      have h0 : 0 < (edgesP o).length := by rw [len3 h3]; omega
      simp only [h0, if_true]
      congr 1
      unfold updS
      apply List.ext_getElem
      · simp
      · intro j h1 h4
        simp only [List.getElem_mapIdx]
        have hj : j + 1 < (edgesP o).length := by rw [len3 h3]; simpa using h1
        simp only [if_pos hj]
    · by_cases h4 : o.k = 4
      · have e2 : ∀ (q : Ob), q.k = 4 → ∀ f i, updO q f i = { q with targ := if 0 < i then f 0 else q.targ } := fun q hq f i => by unfold updO; rw [if_neg (by omega), if_neg (by omega), if_pos hq]
        rw [e2 (updO o f (edgesP o).length) (by rw [updO_k]; exact h4) g, e2 o h4 f, e2 o h4 g]
        have h0 : 0 < (edgesP o).length := by rw [len4 h4]; omega
        simp only [h0, if_true]
      · have e2 : ∀ f i, updO o f i = o := fun f i => by unfold updO; rw [if_neg h2, if_neg h3, if_neg h4]
        rw [e2 f, e2 g]
end Edge
end Go.Proofs.Ytdjkcolceccclaa
