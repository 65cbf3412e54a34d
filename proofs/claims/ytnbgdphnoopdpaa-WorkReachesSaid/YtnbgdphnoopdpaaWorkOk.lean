/- Plain words on a walk where all say true and there is room. No condition. -/
import Derived.Test.YtnbgdphnoopdpaaWorkWalk
namespace Go.Proofs.Ytnbgdphnoopdpaa
open Go.RowKit
namespace Work
set_option linter.unusedSimpArgs false
set_option linter.unusedVariables false
structure OkW (nx : Int → List Int × Bool) (out l : List Int) (r : List Int × Bool) : Prop where
  yes : r.2 = true
  ext : ∃ new, r.1 = out ++ new
  all : ∀ k ∈ l, k ∈ r.1
  cl : ∀ k ∈ r.1, k ∉ out → ∀ j ∈ (nx k).1, j ∈ r.1
  told : ∀ pre k post, r.1 = pre ++ k :: post → out.length ≤ pre.length → k ∉ pre ∧ (k ∈ l ∨ ∃ j ∈ pre, k ∈ (nx j).1)
theorem OkW.mono {nx : Int → List Int × Bool} {out l : List Int} {r : List Int × Bool} (h : OkW nx out l r) {k : Int} (hk : k ∈ out) : k ∈ r.1 := by
  obtain ⟨new, e⟩ := h.ext
  rw [e]; exact List.mem_append_left _ hk
theorem OkW.nil (nx : Int → List Int × Bool) (out : List Int) : OkW nx out [] (out, true) where
  yes := rfl
  ext := ⟨[], by simp⟩
  all := by simp
  cl := fun k h hn => absurd h hn
  told := fun pre k post e hl => by
    have := congrArg List.length e
    simp at this
    omega
theorem OkW.here {nx : Int → List Int × Bool} {out : List Int} {k : Int} (h : k ∈ out) : OkW nx out [k] (out, true) where
  yes := rfl
  ext := ⟨[], by simp⟩
  all := by simpa using h
  cl := fun k h hn => absurd h hn
  told := fun pre k post e hl => by
    have := congrArg List.length e
    simp at this
    omega
theorem OkW.cons {nx : Int → List Int × Bool} {out l : List Int} {k : Int} {r1 r2 : List Int × Bool} (h1 : OkW nx out [k] r1) (h2 : OkW nx r1.1 l r2) : OkW nx out (k :: l) r2 where
  yes := h2.yes
  ext := by
    obtain ⟨n1, e1⟩ := h1.ext
    obtain ⟨n2, e2⟩ := h2.ext
    exact ⟨n1 ++ n2, by rw [e2, e1, List.append_assoc]⟩
  all := fun j hj => by
    rcases List.mem_cons.1 hj with rfl | hj
    · exact h2.mono (h1.all j (by simp))
    · exact h2.all j hj
  cl := fun x hx hn j hj => by
    by_cases h : x ∈ r1.1
    · exact h2.mono (h1.cl x h hn j hj)
    · exact h2.cl x hx h j hj
  told := fun pre x post e hl => by
    by_cases hp : r1.1.length ≤ pre.length
    · obtain ⟨a, b⟩ := h2.told pre x post e hp
      exact ⟨a, b.elim (fun h => .inl (List.mem_cons_of_mem _ h)) .inr⟩
    · obtain ⟨n2, e2⟩ := h2.ext
      have e3 : r1.1 = pre ++ x :: (r1.1.drop (pre.length + 1)) := by
        have h3 : r1.1 = r2.1.take r1.1.length := by rw [e2]; simp
        have h4 : r1.1 = (pre ++ x :: post).take r1.1.length := by rw [← e]; exact h3
        obtain ⟨m, hm⟩ : ∃ m, r1.1.length = pre.length + (m + 1) := ⟨r1.1.length - pre.length - 1, by omega⟩
        rw [hm, List.take_append, List.take_of_length_le (by omega), show pre.length + (m + 1) - pre.length = m + 1 by omega, List.take_succ_cons] at h4
        rw [h4, List.drop_append, List.drop_of_length_le (by omega), show pre.length + 1 - pre.length = 1 by omega]
        simp
      obtain ⟨a, b⟩ := h1.told pre x _ e3 hl
      refine ⟨a, b.elim (fun h => .inl ?_) .inr⟩
      rw [List.mem_singleton] at h
      simp [h]
theorem OkW.come {nx : Int → List Int × Bool} {out : List Int} {k : Int} {r : List Int × Bool} (hn : k ∉ out) (h : OkW nx (out ++ [k]) (nx k).1 r) : OkW nx out [k] r where
  yes := h.yes
  ext := by
    obtain ⟨n, e⟩ := h.ext
    exact ⟨k :: n, by rw [e]; simp⟩
  all := fun j hj => by
    rw [List.mem_singleton] at hj
    exact h.mono (by simp [hj])
  cl := fun x hx hxn j hj => by
    by_cases e : x = k
    · subst e; exact h.all j hj
    · exact h.cl x hx (by simp [hxn, e]) j hj
  told := fun pre x post e hl => by
    obtain ⟨n, e1⟩ := h.ext
    have e2 : out ++ (k :: n) = pre ++ x :: post := by rw [← e, e1]; simp
    by_cases hp : pre.length = out.length
    · obtain ⟨h1, h2⟩ := List.append_inj e2 hp.symm
      injection h2 with h3 _
      subst h1 h3
      exact ⟨hn, .inl (by simp)⟩
    · obtain ⟨a, b⟩ := h.told pre x post e (by simp; omega)
      refine ⟨a, b.elim (fun hb => .inr ⟨k, ?_, hb⟩) .inr⟩
      have h3 : pre = (out ++ k :: n).take pre.length := by rw [e2]; simp
      rw [h3, List.take_append, show pre.length - out.length = (pre.length - out.length - 1) + 1 by omega, List.take_succ_cons]
      simp
theorem comeG_ok {U : List Int} {nx : Int → List Int × Bool} (hU : ∀ k ∈ U, ∀ j ∈ (nx k).1, j ∈ U) (hy : ∀ k ∈ U, (nx k).2 = true) (most : Int) : ∀ (f : Nat) (out : List Int) (k : Int), leftN U out ≤ f → k ∈ U → (out.length + leftN U out : Int) < most + 1 → OkW nx out [k] (comeG nx most f out k)
  | 0, out, k, hl, hk, hm => by
    have hin : k ∈ out := Classical.byContradiction fun hn => by have := leftN_snoc hk hn; omega
    unfold comeG
    rw [if_pos hin]
    exact OkW.here hin
  | f + 1, out, k, hl, hk, hm => by
    unfold comeG
    by_cases hin : k ∈ out
    · rw [if_pos hin]; exact OkW.here hin
    · have h2 := leftN_snoc hk hin
      rw [if_neg hin, if_neg (by omega), if_pos (hy k hk)]
      refine OkW.come hin ?_
      have aux : ∀ (l o : List Int), leftN U o ≤ f → (∀ j ∈ l, j ∈ U) → (o.length + leftN U o : Int) < most + 1 → OkW nx o l (allF (comeG nx most f) o l) := by
        intro l
        induction l with
        | nil => intro o _ _ _; exact OkW.nil _ _
        | cons x l ih =>
          intro o ho hl hm2
          have hx := hl x (by simp)
          have h1 := comeG_ok hU hy most f o x ho hx hm2
          have hg := comeG_grow hU most f o x hx
          simp only [allF]
          rw [if_pos h1.yes]
          exact OkW.cons h1 (ih _ (Nat.le_trans hg.1 ho) (fun j hj => hl j (by simp [hj])) (by have := hg.2; omega))
      have hg := Grow.snoc (out := out) hk hin
      exact aux _ _ (by omega) (hU k hk) (by have := hg.2; simp only [List.length_append, List.length_singleton] at *; omega)
theorem walkG_ok {U : List Int} {nx : Int → List Int × Bool} (hU : ∀ k ∈ U, ∀ j ∈ (nx k).1, j ∈ U) (hy : ∀ k ∈ U, (nx k).2 = true) (most : Int) (first : List Int) (hf : ∀ k ∈ first, k ∈ U) (hm : (leftN U [] : Int) < most + 1) : OkW nx [] first (walkG nx U most first) := by
  have aux : ∀ (l o : List Int), leftN U o ≤ leftN U [] → (∀ j ∈ l, j ∈ U) → (o.length + leftN U o : Int) < most + 1 → OkW nx o l (allF (comeG nx most (leftN U [])) o l) := by
    intro l
    induction l with
    | nil => intro o _ _ _; exact OkW.nil _ _
    | cons x l ih =>
      intro o ho hl hm2
      have hx := hl x (by simp)
      have h1 := comeG_ok hU hy most (leftN U []) o x ho hx hm2
      have hg := comeG_grow hU most (leftN U []) o x hx
      simp only [allF]
      rw [if_pos h1.yes]
      exact OkW.cons h1 (ih _ (Nat.le_trans hg.1 ho) (fun j hj => hl j (by simp [hj])) (by have := hg.2; omega))
  exact aux first [] (Nat.le_refl _) hf (by simpa using hm)
/-- What was come to, each once. -/
theorem OkW.nodup {nx : Int → List Int × Bool} {l : List Int} {r : List Int × Bool} (h : OkW nx [] l r) : r.1.Nodup := by
  have aux : ∀ (n : Nat), (r.1.take n).Nodup := by
    intro n
    induction n with
    | zero => simp
    | succ n ih =>
      by_cases hn : n < r.1.length
      · have e : r.1 = r.1.take n ++ r.1[n] :: r.1.drop (n + 1) := by simp
        have := (h.told _ _ _ e (by simp)).1
        rw [List.take_succ_eq_append_getElem hn, List.nodup_append]
        refine ⟨ih, by simp, fun a ha b hb => ?_⟩
        rw [List.mem_singleton] at hb
        subst hb
        intro hab
        exact this (hab ▸ ha)
      · rw [List.take_of_length_le (by omega)] at ih ⊢
        exact ih
  have := aux r.1.length
  rwa [List.take_length] at this
/-- Nothing else. -/
theorem OkW.within {nx : Int → List Int × Bool} {l S : List Int} {r : List Int × Bool} (h : OkW nx [] l r) (hl : ∀ k ∈ l, k ∈ S) (hS : ∀ k ∈ S, ∀ j ∈ (nx k).1, j ∈ S) : ∀ k ∈ r.1, k ∈ S := by
  have aux : ∀ (n : Nat), ∀ k ∈ r.1.take n, k ∈ S := by
    intro n
    induction n with
    | zero => simp
    | succ n ih =>
      by_cases hn : n < r.1.length
      · have e : r.1 = r.1.take n ++ r.1[n] :: r.1.drop (n + 1) := by simp
        have := (h.told _ _ _ e (by simp)).2
        rw [List.take_succ_eq_append_getElem hn]
        intro k hk
        rcases List.mem_append.1 hk with hk | hk
        · exact ih k hk
        · rw [List.mem_singleton] at hk
          subst hk
          rcases this with h1 | ⟨j, hj, h1⟩
          · exact hl _ h1
          · exact hS j (ih j hj) _ h1
      · rw [List.take_of_length_le (by omega)] at ih ⊢
        exact ih
  have := aux r.1.length
  rwa [List.take_length] at this
theorem nodup_le : ∀ (a b : List Int), a.Nodup → (∀ k ∈ a, k ∈ b) → a.length ≤ b.length
  | [], _, _, _ => by simp
  | x :: a, b, h, hs => by
    have hx := hs x (by simp)
    obtain ⟨h1, h2⟩ := List.nodup_cons.1 h
    have := nodup_le a (b.erase x) h2 (fun k hk => (List.mem_erase_of_ne (fun (e : k = x) => h1 (by rw [← e]; exact hk))).2 (hs k (by simp [hk])))
    rw [List.length_erase_of_mem hx] at this
    have := List.length_pos_of_mem hx
    simp; omega
theorem allF_len {s : List Int → Int → List Int × Bool} (hs : ∀ out k, out.length ≤ (s out k).1.length) : ∀ (l out : List Int), out.length ≤ (allF s out l).1.length
  | [], out => Nat.le_refl _
  | k :: l, out => by
    simp only [allF]
    split
    · exact Nat.le_trans (hs out k) (allF_len hs l _)
    · exact hs out k
theorem comeG_len (nx : Int → List Int × Bool) (most : Int) : ∀ (f : Nat) (out : List Int) (k : Int), out.length ≤ (comeG nx most f out k).1.length
  | 0, out, k => by unfold comeG; split; exact Nat.le_refl _; split <;> simp
  | f + 1, out, k => by
    unfold comeG
    split
    · exact Nat.le_refl _
    · split
      · exact Nat.le_refl _
      · split
        · exact Nat.le_trans (by simp) (allF_len (fun o j => comeG_len nx most f o j) _ _)
        · simp
theorem allF_room {s1 s2 : List Int → Int → List Int × Bool} {most : Int} (hs : ∀ out k, out.length ≤ (s1 out k).1.length) (h : ∀ out k r, s1 out k = (r, true) → (r.length : Int) ≤ most → s2 out k = (r, true)) : ∀ (l out r : List Int), allF s1 out l = (r, true) → (r.length : Int) ≤ most → allF s2 out l = (r, true)
  | [], out, r, e, _ => e
  | k :: l, out, r, e, hm => by
    simp only [allF] at e ⊢
    split at e
    · rename_i h1
      have h2 : s1 out k = ((s1 out k).1, true) := Prod.ext rfl h1
      have h3 := allF_len hs l (s1 out k).1
      rw [e] at h3
      have h4 := h out k _ h2 (by simp at h3; omega)
      rw [h4]
      simp only [if_true]
      exact allF_room hs h l _ r e hm
    · cases e
theorem comeG_room (nx : Int → List Int × Bool) (m1 m2 : Int) : ∀ (f : Nat) (out : List Int) (k : Int) (r : List Int), comeG nx m1 f out k = (r, true) → (r.length : Int) ≤ m2 → comeG nx m2 f out k = (r, true)
  | 0, out, k, r, e, hm => by
    unfold comeG at e ⊢
    split at e
    · rename_i h; rw [if_pos h]; exact e
    · split at e <;> cases e
  | f + 1, out, k, r, e, hm => by
    unfold comeG at e ⊢
    split at e
    · rename_i h; rw [if_pos h]; exact e
    · rename_i h
      split at e
      · cases e
      · split at e
        · rename_i h2 h3
          have h4 := allF_len (fun o j => comeG_len nx m1 f o j) (nx k).1 (out ++ [k])
          rw [e] at h4
          simp at h4
          rw [if_neg h, if_neg (by omega), if_pos h3]
          exact allF_room (fun o j => comeG_len nx m1 f o j) (fun o j r e2 hr => comeG_room nx m1 m2 f o j r e2 hr) _ _ r e hm
        · cases e
/-- Room for just as many is enough. -/
theorem walkG_room {nx : Int → List Int × Bool} {U first r : List Int} {m1 m2 : Int} (h : walkG nx U m1 first = (r, true)) (hm : (r.length : Int) ≤ m2) : walkG nx U m2 first = (r, true) :=
  allF_room (fun o j => comeG_len nx m1 _ o j) (fun o j r e2 hr => comeG_room nx m1 m2 _ o j r e2 hr) _ _ r h hm
end Work
end Go.Proofs.Ytnbgdphnoopdpaa
