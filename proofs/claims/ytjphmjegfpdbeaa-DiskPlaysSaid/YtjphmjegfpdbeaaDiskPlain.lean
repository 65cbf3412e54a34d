/- The disk, plain: files by rising paths, effects that wait. No condition. -/
import Derived.Test.YtjphmjegfpdbeaaStr
import Derived.Test.YtjphmjegfpdbeaaMap
namespace Go.Proofs.Ytjphmjegfpdbeaa
open Go.RowKit
namespace Disk
open Str
set_option linter.unusedSimpArgs false
set_option linter.unusedVariables false
/-- A path and a text. -/
abbrev F := S × S
def Up (l : List F) : Prop := (l.map (·.1)).Pairwise (· < ·)
def dropP (l : List F) (p : S) : List F := l.filter fun f => decide (f.1 ≠ p)
def insF (f : F) : List F → List F
  | [] => [f]
  | x :: r => if x.1 < f.1 then x :: insF f r else f :: x :: r
def withP (l : List F) (f : F) : List F := insF f (dropP l f.1)
def takenP (l : List F) : Nat := (l.map fun f => f.1.length + f.2.length).sum
structure Eff where
  k : Int
  p : S
  t : S
def doneP (l : List F) (e : Eff) : List F :=
  if e.k = 0 then withP l (e.p, e.t) else if e.k = 1 then (match getK l e.p with | none => l | some t => withP (dropP l e.p) (e.t, t)) else if e.k = 2 then dropP l e.p else l
theorem done_0 (l : List F) (p t : S) : doneP l ⟨0, p, t⟩ = withP l (p, t) := rfl
theorem done_1n {l : List F} {p : S} (t : S) (h : getK l p = none) : doneP l ⟨1, p, t⟩ = l := by simp [doneP, h]
theorem done_1s {l : List F} {p x : S} (t : S) (h : getK l p = some x) : doneP l ⟨1, p, t⟩ = withP (dropP l p) (t, x) := by simp [doneP, h]
theorem done_2 (l : List F) (p t : S) : doneP l ⟨2, p, t⟩ = dropP l p := rfl
structure Dk where
  room : Int
  lies : List F
  rows : List Eff
  down : Bool
  cnt : Int
  keep : Int
def seenP (d : Dk) : List F := d.rows.foldl doneP d.lies
theorem Up.nodup {l : List F} (h : Up l) : (keysK l).Nodup := by
  unfold keysK List.Nodup
  exact List.Pairwise.imp (S := fun a b => a ≠ b) (fun {a b} h e => List.lt_irrefl b (by rw [e] at h; exact h)) h
theorem mem_dropP {l : List F} {p : S} {f : F} : f ∈ dropP l p ↔ f ∈ l ∧ f.1 ≠ p := by simp [dropP]
theorem up_dropP {l : List F} (h : Up l) (p : S) : Up (dropP l p) := List.Pairwise.sublist (List.Sublist.map _ List.filter_sublist) h
theorem mem_insF {f x : F} : ∀ {l : List F}, x ∈ insF f l ↔ x = f ∨ x ∈ l
  | [] => by simp [insF]
  | y :: r => by
    unfold insF
    split
    · rw [List.mem_cons, mem_insF, List.mem_cons]
      constructor
      · rintro (h | h | h) <;> simp [h]
      · rintro (h | h | h) <;> simp [h]
    · simp
theorem perm_insF (f : F) : ∀ l : List F, (insF f l).Perm (f :: l)
  | [] => List.Perm.refl _
  | y :: r => by
    unfold insF
    split
    · exact ((perm_insF f r).cons y).trans (List.Perm.swap f y r)
    · exact List.Perm.refl _
theorem up_insF {f : F} : ∀ {l : List F}, Up l → (∀ x ∈ l, x.1 ≠ f.1) → Up (insF f l)
  | [], _, _ => by simp [insF, Up]
  | y :: r, h, hn => by
    have h1 := List.pairwise_cons.1 (show (y.1 :: r.map (·.1)).Pairwise (· < ·) from h)
    unfold insF
    split
    · rename_i hlt
      have h2 : Up (insF f r) := up_insF h1.2 (fun x hx => hn x (by simp [hx]))
      refine List.pairwise_cons.2 ⟨fun z hz => ?_, h2⟩
      obtain ⟨x, hx, rfl⟩ := List.mem_map.1 hz
      rcases mem_insF.1 hx with h3 | h3
      · subst h3; exact hlt
      · exact h1.1 _ (List.mem_map.2 ⟨x, h3, rfl⟩)
    · rename_i hlt
      have hfy : f.1 < y.1 := lt_of_le_ne hlt (fun e => hn y (by simp) e.symm)
      refine List.pairwise_cons.2 ⟨fun z hz => ?_, h⟩
      rcases List.mem_cons.1 hz with h3 | h3
      · subst h3; exact hfy
      · exact List.lt_trans hfy (h1.1 _ h3)
theorem up_withP {l : List F} (h : Up l) (f : F) : Up (withP l f) := up_insF (up_dropP h _) (fun x hx => (mem_dropP.1 hx).2)
theorem mem_withP {l : List F} {f x : F} : x ∈ withP l f ↔ x = f ∨ (x ∈ l ∧ x.1 ≠ f.1) := by rw [withP, mem_insF, mem_dropP]
theorem up_doneP {l : List F} (h : Up l) (e : Eff) : Up (doneP l e) := by
  unfold doneP
  split
  · exact up_withP h _
  · split
    · split
      · exact h
      · exact up_withP (up_dropP h _) _
    · split
      · exact up_dropP h _
      · exact h
theorem up_seen (rs : List Eff) : ∀ {l : List F}, Up l → Up (rs.foldl doneP l) := by
  induction rs with
  | nil => exact fun h => h
  | cons e r ih => exact fun h => ih (up_doneP h e)
theorem getK_dropP {l : List F} (h : Up l) (p j : S) : getK (dropP l p) j = if j = p then none else getK l j := by
  split
  · rename_i e
    subst e
    rw [getK_none, keysK]
    intro hm
    obtain ⟨x, hx, he⟩ := List.mem_map.1 hm
    exact (mem_dropP.1 hx).2 he
  · rename_i hne
    cases hg : getK l j with
    | none =>
      rw [getK_none] at hg ⊢
      intro hm
      obtain ⟨x, hx, he⟩ := List.mem_map.1 hm
      exact hg (List.mem_map.2 ⟨x, (mem_dropP.1 hx).1, he⟩)
    | some v => exact getK_of_mem (up_dropP h p).nodup (mem_dropP.2 ⟨getK_mem hg, hne⟩)
theorem getK_withP {l : List F} (h : Up l) (f : F) (j : S) : getK (withP l f) j = if j = f.1 then some f.2 else getK l j := by
  split
  · rename_i e
    subst e
    exact getK_of_mem (up_withP h f).nodup (mem_withP.2 (.inl rfl))
  · rename_i hne
    cases hg : getK l j with
    | none =>
      rw [getK_none] at hg ⊢
      intro hm
      obtain ⟨x, hx, he⟩ := List.mem_map.1 hm
      rcases mem_withP.1 hx with h1 | h1
      · subst h1; exact hne he.symm
      · exact hg (List.mem_map.2 ⟨x, h1.1, he⟩)
    | some v => exact getK_of_mem (up_withP h f).nodup (mem_withP.2 (.inr ⟨getK_mem hg, hne⟩))
/-- The same files. -/
theorem up_eq {a b : List F} (ha : Up a) (hb : Up b) (h : ∀ x, x ∈ a ↔ x ∈ b) : a = b := by
  have hk : a.map (·.1) = b.map (·.1) := rise_eq _ _ ha hb (fun x => by
    rw [List.mem_map, List.mem_map]
    constructor
    · rintro ⟨y, hy, e⟩; exact ⟨y, (h y).1 hy, e⟩
    · rintro ⟨y, hy, e⟩; exact ⟨y, (h y).2 hy, e⟩)
  have hl : a.length = b.length := by simpa using congrArg List.length hk
  apply List.ext_getElem hl
  intro i h1 h2
  have e1 : (a[i]).1 = (b[i]).1 := by
    have := congrArg (·[i]?) hk
    simpa [h1, h2] using this
  have g1 : getK a a[i].1 = some a[i].2 := getK_of_mem ha.nodup (List.getElem_mem h1)
  have g2 : getK a b[i].1 = some b[i].2 := getK_of_mem ha.nodup ((h _).2 (List.getElem_mem h2))
  rw [e1, g2] at g1
  injection g1 with g1
  exact Prod.ext e1 g1.symm
theorem up_eq_get {a b : List F} (ha : Up a) (hb : Up b) (h : ∀ p, getK a p = getK b p) : a = b := up_eq ha hb (fun x => by
  constructor
  · intro hx
    exact getK_mem ((h x.1).symm.trans (getK_of_mem ha.nodup hx))
  · intro hx
    exact getK_mem ((h x.1).trans (getK_of_mem hb.nodup hx)))
theorem getK_perm {l L : List F} (h : l.Perm L) (hn : (keysK L).Nodup) (p : S) : getK l p = getK L p := by
  have hnl : (keysK l).Nodup := (h.map _).nodup_iff.2 hn
  cases hg : getK L p with
  | none =>
    rw [getK_none] at hg ⊢
    exact fun hm => hg ((h.map _).mem_iff.1 hm)
  | some v => exact getK_of_mem hnl (h.mem_iff.2 (getK_mem hg))
theorem delK_eq {l : List F} (hn : (keysK l).Nodup) (p : S) : (delK l p).Perm (dropP l p) := by
  induction l with
  | nil => exact List.Perm.refl _
  | cons q l ih =>
    rw [keysK, List.map_cons, List.nodup_cons] at hn
    unfold delK
    by_cases hk : q.1 = p
    · rw [if_pos hk]
      have : dropP (q :: l) p = dropP l p := by simp [dropP, hk]
      rw [this]
      have : dropP l p = l := List.filter_eq_self.2 (fun x hx => by
        simp only [ne_eq, decide_not, Bool.not_eq_true', decide_eq_false_iff_not]
        intro e
        exact hn.1 (List.mem_map.2 ⟨x, hx, by rw [e, hk]⟩))
      rw [this]
    · rw [if_neg hk]
      have : dropP (q :: l) p = q :: dropP l p := by simp [dropP, hk]
      rw [this]
      exact (ih hn.2).cons q
theorem putK_perm {l : List F} (hn : (keysK l).Nodup) (p t : S) : (putK l p t).Perm ((p, t) :: dropP l p) := by
  induction l with
  | nil => exact List.Perm.refl _
  | cons q l ih =>
    rw [keysK, List.map_cons, List.nodup_cons] at hn
    unfold putK
    by_cases hk : q.1 = p
    · rw [if_pos hk]
      have : dropP (q :: l) p = dropP l p := by simp [dropP, hk]
      rw [this]
      have : dropP l p = l := List.filter_eq_self.2 (fun x hx => by
        simp only [ne_eq, decide_not, Bool.not_eq_true', decide_eq_false_iff_not]
        intro e
        exact hn.1 (List.mem_map.2 ⟨x, hx, by rw [e, hk]⟩))
      rw [this]
    · rw [if_neg hk]
      have : dropP (q :: l) p = q :: dropP l p := by simp [dropP, hk]
      rw [this]
      exact ((ih hn.2).cons q).trans (List.Perm.swap _ _ _)
theorem put_ok {l L : List F} (h : l.Perm L) (hn : (keysK L).Nodup) (p t : S) : (putK l p t).Perm (withP L (p, t)) :=
  (putK_perm ((h.map _).nodup_iff.2 hn) p t).trans (((h.filter _).cons _).trans (perm_insF _ _).symm)
theorem del_ok {l L : List F} (h : l.Perm L) (hn : (keysK L).Nodup) (p : S) : (delK l p).Perm (dropP L p) :=
  (delK_eq ((h.map _).nodup_iff.2 hn) p).trans (h.filter _)
theorem taken_perm {l L : List F} (h : l.Perm L) : takenP l = takenP L := (h.map _).sum_nat
theorem taken_with (l : List F) (f : F) : takenP (withP l f) = f.1.length + f.2.length + takenP (dropP l f.1) := by
  rw [withP, taken_perm (perm_insF f _)]
  simp [takenP]
theorem taken_drop {l : List F} (h : Up l) (p : S) : takenP l = takenP (dropP l p) + (match getK l p with | none => 0 | some t => p.length + t.length) := by
  induction l with
  | nil => rfl
  | cons q l ih =>
    have h1 := List.pairwise_cons.1 (show (q.1 :: l.map (·.1)).Pairwise (· < ·) from h)
    have ihl := ih h1.2
    by_cases hk : q.1 = p
    · have e1 : dropP (q :: l) p = dropP l p := by simp [dropP, hk]
      have e2 : dropP l p = l := List.filter_eq_self.2 (fun x hx => by
        simp only [ne_eq, decide_not, Bool.not_eq_true', decide_eq_false_iff_not]
        intro e
        exact List.lt_irrefl p (by have := h1.1 x.1 (List.mem_map.2 ⟨x, hx, rfl⟩); rwa [hk, e] at this))
      rw [e1, e2]
      have e4 : takenP (q :: l) = q.1.length + q.2.length + takenP l := by simp [takenP]
      have e6 : (match getK (q :: l) p with | none => 0 | some t => p.length + t.length) = p.length + q.2.length := by simp [getK, hk]
      rw [e6, e4, hk]
      omega
    · have e1 : dropP (q :: l) p = q :: dropP l p := by simp [dropP, hk]
      rw [e1]
      have e3 : getK (q :: l) p = getK l p := by simp [getK, hk]
      rw [e3]
      have e4 : takenP (q :: l) = q.1.length + q.2.length + takenP l := by simp [takenP]
      have e5 : takenP (q :: dropP l p) = q.1.length + q.2.length + takenP (dropP l p) := by simp [takenP]
      rw [e4, e5, ihl]
      omega
theorem len_drop (l : List F) (p : S) : (dropP l p).length ≤ l.length := List.length_filter_le _ _
theorem len_with (l : List F) (f : F) : (withP l f).length ≤ l.length + 1 := by
  rw [withP, (perm_insF f _).length_eq, List.length_cons]
  have := len_drop l f.1
  omega
/-! ### sizes -/
def SZ : Nat := 2147483648
structure Bd (n : Nat) (l : List F) : Prop where
  len : l.length ≤ n
  each : ∀ f ∈ l, f.1.length ≤ SZ ∧ f.2.length ≤ SZ
theorem Bd.nil : Bd 0 [] := ⟨Nat.le_refl _, by simp⟩
theorem Bd.mono {n m : Nat} {l : List F} (h : Bd n l) (hm : n ≤ m) : Bd m l := ⟨Nat.le_trans h.len hm, h.each⟩
theorem Bd.drop {n : Nat} {l : List F} (h : Bd n l) (p : S) : Bd n (dropP l p) := ⟨Nat.le_trans (len_drop l p) h.len, fun f hf => h.each f (mem_dropP.1 hf).1⟩
theorem Bd.with {n : Nat} {l : List F} (h : Bd n l) (f : F) (hf : f.1.length ≤ SZ ∧ f.2.length ≤ SZ) : Bd (n + 1) (withP l f) := ⟨Nat.le_trans (len_with l f) (by have := h.len; omega), fun x hx => by
  rcases mem_withP.1 hx with h1 | h1
  · subst h1; exact hf
  · exact h.each x h1.1⟩
def EffB (e : Eff) : Prop := e.p.length ≤ SZ ∧ e.t.length ≤ SZ ∧ (e.k = 0 ∨ e.k = 1 ∨ e.k = 2)
theorem Bd.done {n : Nat} {l : List F} (h : Bd n l) {e : Eff} (he : EffB e) : Bd (n + 1) (doneP l e) := by
  unfold doneP
  split
  · exact h.with _ ⟨he.1, he.2.1⟩
  · split
    · split
      · exact h.mono (by omega)
      · rename_i t ht
        exact (h.drop _).with _ ⟨he.2.1, (h.each _ (getK_mem ht)).2⟩
    · split
      · exact (h.drop _).mono (by omega)
      · exact h.mono (by omega)
theorem Bd.seen : ∀ (rs : List Eff) {n : Nat} {l : List F}, Bd n l → (∀ e ∈ rs, EffB e) → Bd (n + rs.length) (rs.foldl doneP l)
  | [], n, l, h, _ => h
  | e :: r, n, l, h, he => by
    have := Bd.seen r (h.done (he e (by simp))) (fun x hx => he x (by simp [hx]))
    rw [List.foldl_cons]
    exact this.mono (by simp; omega)
theorem Bd.taken {l : List F} : ∀ {n : Nat}, Bd n l → takenP l ≤ n * 4294967296 := by
  induction l with
  | nil => intro n h; simp [takenP]
  | cons x l ih =>
    intro n h
    have h1 := h.len
    rw [List.length_cons] at h1
    have h2 := ih (n := n - 1) ⟨by omega, fun f hf => h.each f (by simp [hf])⟩
    have h3 := h.each x (by simp)
    simp only [SZ] at h3
    have e4 : takenP (x :: l) = x.1.length + x.2.length + takenP l := by simp [takenP]
    rw [e4]
    have : n = (n - 1) + 1 := by omega
    rw [this, Nat.add_mul]
    omega
/-! ### calls -/
/-- Which of the effects that wait are kept. -/
def keepP (b : Nat → Bool) : Nat → List Eff → List F → List F
  | _, [], l => l
  | i, e :: r, l => keepP b (i + 1) r (if b i then doneP l e else l)
/-- Bit i of the cut's word, as the program tells it. -/
def bitP (keep : Int) (i : Nat) : Bool := (bits BinOp.and IntKind.u64 (keep / 2 ^ i) 1 == 1)
theorem bit_zero (i : Nat) : bitP 0 i = false := by
  have h : (0 : Int) / 2 ^ i = 0 := Int.zero_ediv _
  unfold bitP
  rw [h]
  decide
def failP (d : Dk) : Dk := { d with lies := keepP (bitP d.keep) 0 (d.rows.take 64) d.lies, rows := [], down := true, cnt := 0, keep := 0 }
def callP (d : Dk) : Dk × Bool := if d.cnt = 0 then (d, false) else if d.cnt - 1 = 0 then (failP d, true) else ({ d with cnt := d.cnt - 1 }, false)
def fullP (d : Dk) (e : Eff) : Bool := decide (e.k ≠ 2 ∧ (4096 < (doneP (seenP d) e).length ∨ d.room < (takenP (doneP (seenP d) e) : Int)))
def addP (d : Dk) (e : Eff) : Dk := { d with rows := d.rows ++ [e] }
def waitP (d : Dk) (e : Eff) : Int × Dk := if fullP d e then (7, d) else if (callP (addP d e)).2 then (8, (callP (addP d e)).1) else (0, (callP (addP d e)).1)
def okP (p : S) : Bool := decide (p ≠ [] ∧ p.length ≤ 255)
def writeP (d : Dk) (p t : S) : Int × Dk := if d.down then (8, d) else if okP p = false then (12, d) else waitP d ⟨0, p, t⟩
def renameP (d : Dk) (p q : S) : Int × Dk := if d.down then (8, d) else if okP q = false then (12, d) else if getK (seenP d) p = none then (5, d) else waitP d ⟨1, p, q⟩
def removeP (d : Dk) (p : S) : Int × Dk := if d.down then (8, d) else if getK (seenP d) p = none then (5, d) else waitP d ⟨2, p, []⟩
def readP (d : Dk) (p : S) : S × Int := if d.down then ([], 8) else match getK (seenP d) p with | none => ([], 5) | some t => (t, 0)
def syncP (d : Dk) : Int × Dk := if d.down then (8, d) else if (callP d).2 then (8, (callP d).1) else (0, { (callP d).1 with lies := seenP d, rows := [] })
def listP (l : List F) (pre : S) : List S := (l.map (·.1)).filter (fun p => pre.isPrefixOf p)
def listD (d : Dk) (pre : S) : List S := if d.down then [] else listP (seenP d) pre
def takenD (d : Dk) : Nat := if d.down then 0 else takenP (seenP d)
def armP (d : Dk) (n keep : Int) : Dk := if n < 1 then { d with cnt := 0, keep := 0 } else { d with cnt := n, keep := keep }
def startP (d : Dk) : Dk := { d with down := false }
def newP (room : Int) : Dk := ⟨room, [], [], false, 0, 0⟩
/-- A disk of at most so many. -/
structure DkB (n : Nat) (d : Dk) : Prop where
  lies : ∃ m, Bd m d.lies ∧ m + d.rows.length ≤ n
  each : ∀ e ∈ d.rows, EffB e
  up : Up d.lies
  cnt : 0 ≤ d.cnt ∧ d.cnt ≤ 9223372036854775807
  keep : 0 ≤ d.keep ∧ d.keep ≤ 18446744073709551615
  room : -9223372036854775808 ≤ d.room ∧ d.room ≤ 9223372036854775807
theorem DkB.rows {n : Nat} {d : Dk} (h : DkB n d) : d.rows.length ≤ n := by obtain ⟨m, h1, h2⟩ := h.lies; omega
theorem DkB.low {n : Nat} {d : Dk} (h : DkB n d) : Bd n d.lies := by obtain ⟨m, h1, h2⟩ := h.lies; exact h1.mono (by omega)
theorem DkB.seen {n : Nat} {d : Dk} (h : DkB n d) : Bd n (seenP d) := by
  obtain ⟨m, h1, h2⟩ := h.lies
  exact (Bd.seen d.rows h1 h.each).mono h2
theorem DkB.upSeen {n : Nat} {d : Dk} (h : DkB n d) : Up (seenP d) := up_seen _ h.up
theorem DkB.mono {n m : Nat} {d : Dk} (h : DkB n d) (hm : n ≤ m) : DkB m d := ⟨by obtain ⟨k, h1, h2⟩ := h.lies; exact ⟨k, h1, by omega⟩, h.each, h.up, h.cnt, h.keep, h.room⟩
theorem up_keepP (b : Nat → Bool) : ∀ (rs : List Eff) (i : Nat) {l : List F}, Up l → Up (keepP b i rs l)
  | [], _, _, h => h
  | e :: r, i, l, h => by
    unfold keepP
    exact up_keepP b r (i + 1) (by split; exact up_doneP h e; exact h)
theorem Bd.keep (b : Nat → Bool) : ∀ (rs : List Eff) (i : Nat) {n : Nat} {l : List F}, Bd n l → (∀ e ∈ rs, EffB e) → Bd (n + rs.length) (keepP b i rs l)
  | [], _, _, _, h, _ => h
  | e :: r, i, n, l, h, he => by
    unfold keepP
    have h1 : Bd (n + 1) (if b i then doneP l e else l) := by
      split
      · exact h.done (he e (by simp))
      · exact h.mono (by omega)
    exact (Bd.keep b r (i + 1) h1 (fun x hx => he x (by simp [hx]))).mono (by simp; omega)
theorem DkB.fail {n : Nat} {d : Dk} (h : DkB n d) : DkB n (failP d) := ⟨by
  obtain ⟨m, h1, h2⟩ := h.lies
  exact ⟨n, (Bd.keep _ _ _ h1 (fun e he => h.each e (List.mem_of_mem_take he))).mono (by rw [List.length_take]; omega), by simp [failP]⟩, by simp [failP], up_keepP _ _ _ h.up, by simp [failP], by simp [failP], h.room⟩
theorem DkB.call {n : Nat} {d : Dk} (h : DkB n d) : DkB n (callP d).1 := by
  unfold callP
  split
  · exact h
  · split
    · exact h.fail
    · exact ⟨h.lies, h.each, h.up, by have := h.cnt; simp only; omega, h.keep, h.room⟩
theorem DkB.add {n : Nat} {d : Dk} (h : DkB n d) {e : Eff} (he : EffB e) : DkB (n + 1) (addP d e) := ⟨by
  obtain ⟨m, h1, h2⟩ := h.lies
  exact ⟨m, h1, by simp [addP]; omega⟩, fun x hx => by
    simp only [addP, List.mem_append, List.mem_singleton] at hx
    rcases hx with hx | rfl
    · exact h.each x hx
    · exact he, h.up, h.cnt, h.keep, h.room⟩
theorem DkB.wait {n : Nat} {d : Dk} (h : DkB n d) {e : Eff} (he : EffB e) : DkB (n + 1) (waitP d e).2 := by
  unfold waitP
  split
  · exact h.mono (by omega)
  · split <;> exact (h.add he).call
theorem DkB.write {n : Nat} {d : Dk} (h : DkB n d) {p t : S} (hp : p.length ≤ SZ) (ht : t.length ≤ SZ) : DkB (n + 1) (writeP d p t).2 := by
  unfold writeP
  split
  · exact h.mono (by omega)
  · split
    · exact h.mono (by omega)
    · exact h.wait ⟨hp, ht, .inl rfl⟩
theorem DkB.rename {n : Nat} {d : Dk} (h : DkB n d) {p t : S} (hp : p.length ≤ SZ) (ht : t.length ≤ SZ) : DkB (n + 1) (renameP d p t).2 := by
  unfold renameP
  split
  · exact h.mono (by omega)
  · split
    · exact h.mono (by omega)
    · split
      · exact h.mono (by omega)
      · exact h.wait ⟨hp, ht, .inr (.inl rfl)⟩
theorem DkB.remove {n : Nat} {d : Dk} (h : DkB n d) {p : S} (hp : p.length ≤ SZ) : DkB (n + 1) (removeP d p).2 := by
  unfold removeP
  split
  · exact h.mono (by omega)
  · split
    · exact h.mono (by omega)
    · exact h.wait ⟨hp, Nat.zero_le _, .inr (.inr rfl)⟩
theorem DkB.sync {n : Nat} {d : Dk} (h : DkB n d) : DkB n (syncP d).2 := by
  unfold syncP
  split
  · exact h
  · split
    · exact h.call
    · exact ⟨⟨n, h.seen, by simp⟩, by simp, h.upSeen, h.call.cnt, h.call.keep, h.call.room⟩
theorem DkB.arm {n : Nat} {d : Dk} (h : DkB n d) (c k : Int) (hc : c ≤ 9223372036854775807) (hk : 0 ≤ k ∧ k ≤ 18446744073709551615) : DkB n (armP d c k) := by
  unfold armP
  split
  · exact ⟨h.lies, h.each, h.up, by simp, by simp, h.room⟩
  · exact ⟨h.lies, h.each, h.up, by simp only; omega, hk, h.room⟩
theorem DkB.start {n : Nat} {d : Dk} (h : DkB n d) : DkB n (startP d) := ⟨h.lies, h.each, h.up, h.cnt, h.keep, h.room⟩
theorem DkB.new (room : Int) (h : -9223372036854775808 ≤ room ∧ room ≤ 9223372036854775807) : DkB 0 (newP room) := ⟨⟨0, Bd.nil, by simp [newP]⟩, by simp [newP], by simp [newP, Up], by simp [newP], by simp [newP], h⟩
theorem seen_add (d : Dk) (e : Eff) : seenP (addP d e) = doneP (seenP d) e := by simp [seenP, addP]
theorem seen_fail (d : Dk) : seenP (failP d) = (failP d).lies := rfl
end Disk
end Go.Proofs.Ytjphmjegfpdbeaa
