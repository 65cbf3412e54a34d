/- The program's disk and the document's agree: plain. No condition. -/
import Derived.Test.YtjphmjegfpdbeaaDiskRI2
import Derived.Test.YtjphmjegfpdbeaaDiskBeside
import Derived.Test.YtjphmjegfpdbeaaDiskRH
namespace Go.Proofs.Ytjphmjegfpdbeaa
open Go.RowKit
namespace Disk
open Str
set_option linter.unusedSimpArgs false
set_option linter.unusedVariables false
/-- A removal bears no text. -/
def normE (e : Eff) : Eff := if e.k = 2 then { e with t := [] } else e
theorem done_norm (l : List F) (e : Eff) : doneP l (normE e) = doneP l e := by
  unfold normE
  split
  · rename_i h
    unfold doneP
    simp only [h]
    rfl
  · rfl
theorem foldl_norm : ∀ (r : List Eff) (l : List F), (r.map normE).foldl doneP l = r.foldl doneP l
  | [], _ => rfl
  | e :: r, l => by rw [List.map_cons, List.foldl_cons, List.foldl_cons, done_norm, foldl_norm r]
theorem keep_norm (b : Nat → Bool) : ∀ (r : List Eff) (i : Nat) (l : List F), keepP b i (r.map normE) l = keepP b i r l
  | [], _, _ => rfl
  | e :: r, i, l => by rw [List.map_cons]; unfold keepP; rw [done_norm, keep_norm b r]
theorem norm_k (e : Eff) : (normE e).k = e.k := by unfold normE; split <;> rfl
/-- The same disk, but for the texts of removals. -/
structure Nr (d m : Dk) : Prop where
  room : m.room = d.room
  lies : m.lies = d.lies
  down : m.down = d.down
  cnt : m.cnt = d.cnt
  keep : m.keep = d.keep
  rows : m.rows.map normE = d.rows
  each : ∀ e ∈ m.rows, EffB e
theorem Nr.len {d m : Dk} (h : Nr d m) : m.rows.length = d.rows.length := by rw [← h.rows, List.length_map]
theorem Nr.b {n : Nat} {d m : Dk} (h : Nr d m) (hb : DkB n d) : DkB n m := by
  refine ⟨?_, h.each, by rw [h.lies]; exact hb.up, by rw [h.cnt]; exact hb.cnt, by rw [h.keep]; exact hb.keep, by rw [h.room]; exact hb.room⟩
  rw [h.lies, h.len]
  exact hb.lies
theorem Nr.seen {d m : Dk} (h : Nr d m) : seenP m = seenP d := by
  unfold seenP
  rw [← h.rows, foldl_norm, h.lies]
theorem Nr.fail {d m : Dk} (h : Nr d m) : Nr (failP d) (failP m) := by
  refine ⟨h.room, ?_, rfl, rfl, rfl, rfl, by simp [failP]⟩
  show keepP (bitP m.keep) 0 (m.rows.take 64) m.lies = keepP (bitP d.keep) 0 (d.rows.take 64) d.lies
  rw [← h.rows, ← List.map_take, keep_norm, h.keep, h.lies]
theorem Nr.call {d m : Dk} (h : Nr d m) : (callP m).2 = (callP d).2 ∧ Nr (callP d).1 (callP m).1 := by
  unfold callP
  rw [h.cnt]
  split
  · exact ⟨rfl, h⟩
  · split
    · exact ⟨rfl, h.fail⟩
    · exact ⟨rfl, h.room, h.lies, h.down, rfl, h.keep, h.rows, h.each⟩
theorem Nr.add {d m : Dk} (h : Nr d m) {x : Eff} (hx : EffB x) : Nr (addP d (normE x)) (addP m x) :=
  ⟨h.room, h.lies, h.down, h.cnt, h.keep, by simp [addP, h.rows], fun e he => by
    simp only [addP, List.mem_append, List.mem_singleton] at he
    rcases he with he | rfl
    · exact h.each e he
    · exact hx⟩
theorem Nr.full {d m : Dk} (h : Nr d m) (x : Eff) : fullP m x = fullP d (normE x) := by
  unfold fullP
  rw [h.seen, done_norm, norm_k, h.room]
theorem Nr.wait {d m : Dk} (h : Nr d m) {x : Eff} (hx : EffB x) : (waitP m x).1 = (waitP d (normE x)).1 ∧ Nr (waitP d (normE x)).2 (waitP m x).2 := by
  unfold waitP
  rw [h.full]
  split
  · exact ⟨rfl, h⟩
  · obtain ⟨h1, h2⟩ := (h.add hx).call
    rw [h1]
    split <;> exact ⟨rfl, h2⟩
theorem Nr.sync {d m : Dk} (h : Nr d m) : (syncP m).1 = (syncP d).1 ∧ Nr (syncP d).2 (syncP m).2 := by
  unfold syncP
  rw [h.down]
  split
  · exact ⟨rfl, h⟩
  · obtain ⟨h1, h2⟩ := h.call
    rw [h1]
    split
    · exact ⟨rfl, h2⟩
    · exact ⟨rfl, h2.room, h.seen, h2.down, h2.cnt, h2.keep, rfl, by simp⟩
/-- A write, a rename, a removal. -/
theorem Nr.do {d m : Dk} (h : Nr d m) {a : Act} (hk : a.k = 1 ∨ a.k = 2 ∨ a.k = 3) (hp : a.p.length ≤ SZ) (ht : a.t.length ≤ SZ) :
    (actP d a).1.1 = [] ∧ (actP d a).1.2.1 = [] ∧ (doQ m ⟨a.k - 1, a.p, a.t⟩).1 = (actP d a).1.2.2 ∧ Nr (actP d a).2 (doQ m ⟨a.k - 1, a.p, a.t⟩).2 := by
  obtain ⟨k, p, t, n, kp⟩ := a
  simp only at hk hp ht ⊢
  rcases hk with rfl | rfl | rfl
  · have hx : EffB ⟨0, p, t⟩ := ⟨hp, ht, .inl rfl⟩
    have e : actP d ⟨1, p, t, n, kp⟩ = (([], [], (writeP d p t).1), (writeP d p t).2) := rfl
    rw [e]
    refine ⟨rfl, rfl, ?_⟩
    show (doQ m ⟨0, p, t⟩).1 = (writeP d p t).1 ∧ Nr (writeP d p t).2 (doQ m ⟨0, p, t⟩).2
    have hw := h.wait hx
    rw [show normE ⟨0, p, t⟩ = ⟨0, p, t⟩ from rfl] at hw
    unfold doQ writeP
    simp only [h.down, true_and, ne_eq, not_true_eq_false, false_and, if_false, show ¬ (0 : Int) = 1 by decide, or_false]
    split
    · exact ⟨rfl, h⟩
    · split
      · exact ⟨rfl, h⟩
      · exact hw
  · have hx : EffB ⟨1, p, t⟩ := ⟨hp, ht, .inr (.inl rfl)⟩
    have e : actP d ⟨2, p, t, n, kp⟩ = (([], [], (renameP d p t).1), (renameP d p t).2) := rfl
    rw [e]
    refine ⟨rfl, rfl, ?_⟩
    show (doQ m ⟨1, p, t⟩).1 = (renameP d p t).1 ∧ Nr (renameP d p t).2 (doQ m ⟨1, p, t⟩).2
    have hw := h.wait hx
    rw [show normE ⟨1, p, t⟩ = ⟨1, p, t⟩ from rfl] at hw
    unfold doQ renameP
    simp only [h.down, h.seen, true_and, ne_eq, show ¬ (1 : Int) = 0 by decide, false_and, false_or, not_false_eq_true]
    split
    · exact ⟨rfl, h⟩
    · split
      · exact ⟨rfl, h⟩
      · split
        · exact ⟨rfl, h⟩
        · exact hw
  · have hx : EffB ⟨2, p, t⟩ := ⟨hp, ht, .inr (.inr rfl)⟩
    have e : actP d ⟨3, p, t, n, kp⟩ = (([], [], (removeP d p).1), (removeP d p).2) := rfl
    rw [e]
    refine ⟨rfl, rfl, ?_⟩
    show (doQ m ⟨2, p, t⟩).1 = (removeP d p).1 ∧ Nr (removeP d p).2 (doQ m ⟨2, p, t⟩).2
    have hw := h.wait hx
    rw [show normE ⟨2, p, t⟩ = ⟨2, p, []⟩ from rfl] at hw
    unfold doQ removeP
    simp only [h.down, h.seen, true_and, ne_eq, show ¬ (2 : Int) = 0 by decide, show ¬ (2 : Int) = 1 by decide, false_and, or_self, if_false, not_false_eq_true]
    split
    · exact ⟨rfl, h⟩
    · split
      · exact ⟨rfl, h⟩
      · exact hw
theorem Nr.arm {d m : Dk} (h : Nr d m) (n k : Int) : Nr (armP d n k) { m with cnt := if n < 1 then 0 else n, keep := (armP d n k).keep } := by
  unfold armP
  split
  · rename_i hn
    exact ⟨h.room, h.lies, h.down, by simp [hn], rfl, h.rows, h.each⟩
  · rename_i hn
    exact ⟨h.room, h.lies, h.down, by simp [hn], rfl, h.rows, h.each⟩
theorem Nr.start {d m : Dk} (h : Nr d m) : Nr (startP d) { m with down := false } := ⟨h.room, h.lies, rfl, h.cnt, h.keep, h.rows, h.each⟩
theorem Nr.new (room : Int) : Nr (newP room) (newP room) := ⟨rfl, rfl, rfl, rfl, rfl, rfl, by simp [newP]⟩
/-! ### where they lie -/
theorem keep_cell {P : List Nat} {w w' : World} (k : KeepB P w w') {a : Addr} {v : Value} (hc : w.cell? a = some v) (h : a.block ∈ P) : w'.cell? a = some v := by
  have hb := k.block a.block h
  have hc2 := hc
  unfold World.cell? at hc ⊢
  rw [hb]
  exact hc
theorem keep_rd {s : Nat} {w w' : World} {v : Value} {css : List (List Value)} (h : Rd s w v css) {P : List Nat} (k : KeepB P w w') (hP : css ≠ [] → ∀ j ∈ own v, j ∈ P) : Rd s w' v css := by
  obtain ⟨A, cap, rfl, h2, h3, h4, h5⟩ := h
  refine ⟨A, cap, rfl, h2, h3, h4, ?_⟩
  rcases h5 with h5 | ⟨b, off, rfl, hc⟩
  · exact .inl h5
  · by_cases h0 : css = []
    · subst h0; exact .inl rfl
    · exact .inr ⟨b, off, rfl, fun j u hu => keep_cell k (hc j u hu) (hP h0 b (by simp [own]))⟩
theorem rd_lt {s : Nat} {w : World} {v : Value} {css : List (List Value)} (h : Rd s w v css) (hs : 0 < s) (h0 : css ≠ []) : ∀ j ∈ own v, j < w.heap.size := by
  obtain ⟨A, cap, rfl⟩ := h.form
  obtain ⟨b, off, rfl, h1, _⟩ := h.at hs (i := 0) (List.length_pos_iff.2 h0)
  intro j hj
  simp only [own, List.mem_singleton] at hj
  subst hj
  exact h1
/-- The blocks that a list's slice needs. -/
def ownL {α : Type} (L : List α) (v : Value) : List Nat := if L.isEmpty then [] else own v
theorem mem_ownL {α : Type} {L : List α} {v : Value} {j : Nat} (h : j ∈ ownL L v) : L ≠ [] ∧ j ∈ own v := by
  unfold ownL at h
  split at h
  · simp at h
  · rename_i h0
    exact ⟨fun e => h0 (by rw [e]; rfl), h⟩
theorem ownL_mem {α : Type} {L : List α} {v : Value} {j : Nat} (h0 : L ≠ []) (h : j ∈ own v) : j ∈ ownL L v := by
  unfold ownL
  rw [if_neg (by simpa using h0)]
  exact h
def besideP (q : Nat) (m : Dk) (lv rv : Value) : List Nat := q :: (ownL m.lies lv ++ ownL m.rows rv)
/-- The program's disk d at g, the document's m at q. -/
structure Side (w wi : World) (g q : Nat) (d m : Dk) (lv rv : Value) (an ak : Int) : Prop where
  at1 : At1 w wi g d (besideP q m lv rv)
  blk : Blk wi q 49 (rdV m lv rv an ak)
  rd : RdIn (fun _ => True) wi m lv rv
  lo : w.heap.size ≤ q
theorem RdIn.keep {G : Nat → Prop} {w w' : World} {m : Dk} {lv rv : Value} {q : Nat} (h : RdIn G w m lv rv) (k : KeepB (besideP q m lv rv) w w') : RdIn G w' m lv rv :=
  ⟨⟨keep_rd h.l.1 k (fun h0 j hj => by simp only [besideP, List.mem_cons, List.mem_append]; exact .inr (.inl (ownL_mem (fun e => h0 (by rw [e]; rfl)) hj))), h.l.2⟩,
   ⟨keep_rd h.r.1 k (fun h0 j hj => by simp only [besideP, List.mem_cons, List.mem_append]; exact .inr (.inr (ownL_mem (fun e => h0 (by rw [e]; rfl)) hj))), h.r.2⟩⟩
theorem Side.ext {w wi wj : World} {g q : Nat} {d m : Dk} {lv rv : Value} {an ak : Int} (h : Side w wi g q d m lv rv an ak) (k : Ext wi wj) : Side w wj g q d m lv rv an ak := ⟨h.at1.ext k, h.blk.ext k, h.rd.ext k, h.lo⟩
theorem Side.all {w wi : World} {g q : Nat} {d m : Dk} {lv rv : Value} {an ak : Int} (h : Side w wi g q d m lv rv an ak) : Ext w wi := h.at1.at0.all
/-- An act of the program's; what was made just ahead of it is as it was. -/
theorem Side.act {w wr wi : World} {g q : Nat} {d m : Dk} {lv rv : Value} {an ak : Int} (h : Side w wr g q d m lv rv an ak) (k : Ext wr wi) (n : Nat) (hb : DkB n d) (hn : n + 1 ≤ 1048576) (a : Act) (ha : ActOk a) (hp : a.p.length ≤ SZ) (ht : a.t.length ≤ SZ) :
    Calls Try.prog 11 #[.pointer (some ⟨g, 0, none⟩), .agg (actV a).toArray] wi fun e w' => ∃ v, e = .returned (.tuple #[.string (strOf (actP d a).1.1), v, .int .i64 (actP d a).1.2.2]) ∧ Buf w' wi.heap.size 9 v ((actP d a).1.2.1.map tV) ∧ Side w w' g q (actP d a).2 m lv rv an ak ∧ (∀ j, wr.heap.size ≤ j → j < wi.heap.size → w'.heap[j]? = wi.heap[j]?) := by
  obtain ⟨D, h1, h2, h3⟩ := h.at1
  have h := h.ext k
  have h3' : ∀ j ∈ besideP q m lv rv, j ∉ D ∧ j < wi.heap.size := fun j hj => ⟨(h3 j hj).1, Nat.lt_of_lt_of_le (h3 j hj).2 k.size⟩
  refine (act_any wi _ D g d n a (h1.ext k) hb hn ha hp ht).mono fun e w' ⟨v, he, hbuf, D', a1, a2, a3⟩ => ?_
  have h4 : KeepB (besideP q m lv rv) wi w' := ⟨a2.size, fun j hj => a2.block j (h3' j hj).2 (h3' j hj).1⟩
  refine ⟨v, he, hbuf, ⟨⟨D', a1, Touch.below (h2.trans k) a2 (fun j hj => (h1.lt j hj).1) (h2.trans k).size, fun j hj => ⟨fun hm => ?_, Nat.lt_of_lt_of_le (h3' j hj).2 a2.size⟩⟩, (h4.block q (by simp [besideP])).trans h.blk, h.rd.keep h4, h.lo⟩, fun j hj1 hj2 => a2.block j hj2 (fun hm => by have := (h1.lt j hm).2; omega)⟩
  rcases a3 j hm with hm | hm
  · exact (h3' j hj).1 hm
  · have := (h3' j hj).2; omega
/-- The document's Do. -/
theorem doR_any {G : Nat → Prop} (d : Dk) (n : Nat) (hb : DkB n d) (hn : n ≤ 1048574) (x : Eff) (hx : EffB x) (j : Int) (hj : j = x.k + 1) (lv rv : Value) (an ak : Int) (hak : d.cnt ≠ 0 → ak = d.keep) (w : World) (hG : ∀ j, w.heap.size ≤ j → G j) (h : RdIn G w d lv rv) : Calls Try.prog 20 #[.agg (rdV d lv rv an ak).toArray, .agg #[.int .i64 j, .string (strOf x.p), .string (strOf x.t)]] w (DoRE G w d x an ak) := by
  obtain ⟨k, p, t⟩ := x
  simp only at hj ⊢
  subst hj
  rcases hx.2.2 with rfl | rfl | rfl
  · exact doR_0 d n hb hn p t hx lv rv an ak hak w hG h
  · exact doR_1 d n hb hn p t hx lv rv an ak hak w hG h
  · exact doR_2 d n hb hn p t hx lv rv an ak hak w hG h
/-- A step of the document's: what it may give (G), and what then lies there once its answer is stored. -/
theorem Side.doc {w wi : World} {g q : Nat} {d m : Dk} {lv rv : Value} {an ak : Int} (h : Side w wi g q d m lv rv an ak) :
    ∃ G : Nat → Prop, (∀ j, wi.heap.size ≤ j → G j) ∧ RdIn G wi m lv rv ∧
      (∀ (w2 : World) (m2 : Dk) (lv2 rv2 : Value) (an2 ak2 : Int), Ext wi w2 → RdIn G w2 m2 lv2 rv2 → Side w (w2.setRow q (rdV m2 lv2 rv2 an2 ak2).toArray) g q d m2 lv2 rv2 an2 ak2) ∧
      (∀ (m2 : Dk) (i : Nat) (v : Value), (rdV m lv rv an ak).set i v = rdV m2 lv rv an ak → m2.lies = m.lies → m2.rows = m.rows → Side w (wi.setCell ⟨q, i, none⟩ v) g q d m2 lv rv an ak) := by
  obtain ⟨⟨D, h1, h2, h3⟩, hblk, hrd, hlo⟩ := h
  have hqD : q ∉ D := (h3 q (by simp [besideP])).1
  have hG : RdIn (fun j => j ∉ D) wi m lv rv := ⟨⟨hrd.l.1, fun h0 j hj => (h3 j (by simp only [besideP, List.mem_cons, List.mem_append]; exact .inr (.inl (ownL_mem h0 hj)))).1⟩, ⟨hrd.r.1, fun h0 j hj => (h3 j (by simp only [besideP, List.mem_cons, List.mem_append]; exact .inr (.inr (ownL_mem h0 hj)))).1⟩⟩
  obtain ⟨A, n, c, rfl⟩ := hrd.l.form
  obtain ⟨B, cb, rfl⟩ := hrd.r.form
  refine ⟨fun j => j ∉ D, fun j hj hm => by have := (h1.lt j hm).2; omega, hG, ?_, ?_⟩
  · intro w2 m2 lv2 rv2 an2 ak2 hE hr2
    have hb2 := hblk.ext hE
    have ht := Touch.row w2 q (rdV m2 lv2 rv2 an2 ak2).toArray
    have hr3 := hr2.apart hb2 rdV_dry ht
    refine ⟨⟨D, (h1.ext hE).touch ht (fun j hj hm => by rw [List.mem_singleton] at hm; subst hm; exact hqD hj), store_ext (h2.trans hE) hlo _, fun j hj => ?_⟩, hb2.row _, ⟨⟨hr3.l.1, fun _ _ _ => trivial⟩, ⟨hr3.r.1, fun _ _ _ => trivial⟩⟩, hlo⟩
    simp only [besideP, List.mem_cons, List.mem_append] at hj
    rcases hj with rfl | hj | hj
    · exact ⟨hqD, Nat.lt_of_lt_of_le hb2.lt ht.size⟩
    · obtain ⟨h0, hj⟩ := mem_ownL hj
      exact ⟨hr3.l.2 h0 j hj, rd_lt hr3.l.1 (by decide) (by simpa using h0) j hj⟩
    · obtain ⟨h0, hj⟩ := mem_ownL hj
      exact ⟨hr3.r.2 h0 j hj, rd_lt hr3.r.1 (by decide) (by simpa using h0) j hj⟩
  · intro m2 i v hset hl hr
    have ht := Touch.set wi ⟨q, i, none⟩ v
    have hb2 := hblk.set i v
    rw [hset] at hb2
    have hr3 := hG.apart hblk rdV_dry ht
    refine ⟨⟨D, h1.touch ht (fun j hj hm => by rw [List.mem_singleton] at hm; subst hm; exact hqD hj), cell_ext h2 hlo _ _, fun j hj => ?_⟩, hb2, ⟨⟨by rw [hl]; exact hr3.l.1, fun _ _ _ => trivial⟩, ⟨by rw [hr]; exact hr3.r.1, fun _ _ _ => trivial⟩⟩, hlo⟩
    simp only [besideP, hl, hr] at hj
    exact ⟨(h3 j hj).1, Nat.lt_of_lt_of_le (h3 j hj).2 ht.size⟩
end Disk
end Go.Proofs.Ytjphmjegfpdbeaa
