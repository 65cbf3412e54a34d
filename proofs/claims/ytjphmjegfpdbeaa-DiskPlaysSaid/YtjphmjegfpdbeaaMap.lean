/- Words on maps that a call makes: the block's entries as a plain list, in the order in which they were laid. No condition. -/
import Derived.Test.YtjphmjegfpdbeaaBuf
import Derived.MapKept
import Derived.Carry
import Derived.Maps.RangeRun
namespace Go.Proofs.Ytjphmjegfpdbeaa
open Go.RowKit Go.MapKept
open Go.ChangeMaps (setBlock)
set_option linter.unusedSimpArgs false
set_option linter.unusedVariables false
set_option linter.unusedSectionVars false

section plain
variable {α β : Type} [DecidableEq α]
def getK : List (α × β) → α → Option β
  | [], _ => none
  | p :: l, k => if p.1 = k then some p.2 else getK l k
def putK : List (α × β) → α → β → List (α × β)
  | [], k, v => [(k, v)]
  | p :: l, k, v => if p.1 = k then (k, v) :: l else p :: putK l k v
def delK : List (α × β) → α → List (α × β)
  | [], _ => []
  | p :: l, k => if p.1 = k then l else p :: delK l k
def keysK (l : List (α × β)) : List α := l.map (·.1)
theorem getK_none {l : List (α × β)} {k : α} : getK l k = none ↔ k ∉ keysK l := by
  induction l with
  | nil => simp [getK, keysK]
  | cons p l ih =>
    unfold getK
    by_cases h : p.1 = k
    · rw [if_pos h]; simp [keysK, h]
    · rw [if_neg h, ih]; simp [keysK, Ne.symm h]
theorem getK_mem {l : List (α × β)} {k : α} {v : β} (h : getK l k = some v) : (k, v) ∈ l := by
  induction l with
  | nil => simp [getK] at h
  | cons p l ih =>
    unfold getK at h
    by_cases hk : p.1 = k
    · rw [if_pos hk] at h; injection h with h; subst hk; subst h; exact List.mem_cons_self
    · rw [if_neg hk] at h; exact List.mem_cons_of_mem _ (ih h)
theorem getK_of_mem {l : List (α × β)} (hn : (keysK l).Nodup) {k : α} {v : β} (h : (k, v) ∈ l) : getK l k = some v := by
  induction l with
  | nil => simp at h
  | cons p l ih =>
    unfold getK
    rw [keysK, List.map_cons, List.nodup_cons] at hn
    rcases List.mem_cons.1 h with h | h
    · subst h; simp
    · rw [if_neg (fun e => hn.1 (by rw [e]; exact List.mem_map.2 ⟨(k, v), h, rfl⟩)), ih hn.2 h]
theorem getK_put (l : List (α × β)) (k j : α) (v : β) : getK (putK l k v) j = if j = k then some v else getK l j := by
  induction l with
  | nil => simp only [putK, getK]; by_cases h : k = j <;> simp [h, eq_comm]
  | cons p l ih =>
    unfold putK
    by_cases hk : p.1 = k
    · rw [if_pos hk]; simp only [getK]
      by_cases hj : k = j
      · rw [if_pos hj, if_pos hj.symm]
      · rw [if_neg hj, if_neg (Ne.symm hj), if_neg (by rw [hk]; exact hj)]
    · rw [if_neg hk]; simp only [getK, ih]
      by_cases hj : p.1 = j
      · rw [if_pos hj, if_pos hj, if_neg (by rw [← hj]; exact hk)]
      · rw [if_neg hj, if_neg hj]
theorem keysK_put (l : List (α × β)) (k : α) (v : β) : keysK (putK l k v) = if k ∈ keysK l then keysK l else keysK l ++ [k] := by
  induction l with
  | nil => simp [putK, keysK]
  | cons p l ih =>
    unfold putK
    by_cases hk : p.1 = k
    · rw [if_pos hk, if_pos (by simp [keysK, hk])]; simp [keysK, hk]
    · rw [if_neg hk]
      have : keysK (p :: putK l k v) = p.1 :: keysK (putK l k v) := rfl
      rw [this, ih]
      by_cases hm : k ∈ keysK l
      · rw [if_pos hm, if_pos (by simp only [keysK, List.map_cons, List.mem_cons]; exact .inr hm)]; rfl
      · rw [if_neg hm, if_neg (by simp only [keysK, List.map_cons, List.mem_cons]; rintro (h | h); exact hk h.symm; exact hm h)]; rfl
theorem nodup_put {l : List (α × β)} (h : (keysK l).Nodup) (k : α) (v : β) : (keysK (putK l k v)).Nodup := by
  rw [keysK_put]
  split
  · exact h
  · rename_i hm
    rw [List.nodup_append]
    exact ⟨h, by simp, fun a ha b hb => by rw [List.mem_singleton] at hb; subst hb; intro e; exact hm (e ▸ ha)⟩
theorem mem_del {l : List (α × β)} (hn : (keysK l).Nodup) {k : α} {p : α × β} : p ∈ delK l k ↔ p ∈ l ∧ p.1 ≠ k := by
  induction l with
  | nil => simp [delK]
  | cons q l ih =>
    rw [keysK, List.map_cons, List.nodup_cons] at hn
    unfold delK
    by_cases hk : q.1 = k
    · rw [if_pos hk]
      constructor
      · intro h
        exact ⟨List.mem_cons_of_mem _ h, fun e => hn.1 (by rw [hk, ← e]; exact List.mem_map.2 ⟨_, h, rfl⟩)⟩
      · rintro ⟨h, hne⟩
        rcases List.mem_cons.1 h with h | h
        · subst h; exact absurd hk hne
        · exact h
    · rw [if_neg hk, List.mem_cons, ih hn.2, List.mem_cons]
      constructor
      · rintro (h | h)
        · subst h; exact ⟨.inl rfl, hk⟩
        · exact ⟨.inr h.1, h.2⟩
      · rintro ⟨h | h, hne⟩
        · exact .inl h
        · exact .inr ⟨h, hne⟩
theorem del_sub (l : List (α × β)) (k : α) : (delK l k).Sublist l := by
  induction l with
  | nil => simp [delK]
  | cons q l ih =>
    unfold delK
    split
    · exact List.sublist_cons_self _ _
    · exact ih.cons_cons _
theorem nodup_del {l : List (α × β)} (h : (keysK l).Nodup) (k : α) : (keysK (delK l k)).Nodup := h.sublist ((del_sub l k).map _)
theorem getK_del {l : List (α × β)} (hn : (keysK l).Nodup) (k j : α) : getK (delK l k) j = if j = k then none else getK l j := by
  induction l with
  | nil => simp [delK, getK]
  | cons q l ih =>
    have hn0 := hn
    rw [keysK, List.map_cons, List.nodup_cons] at hn
    unfold delK
    by_cases hk : q.1 = k
    · rw [if_pos hk]
      by_cases hj : j = k
      · rw [if_pos hj, hj, ← hk]; exact getK_none.2 hn.1
      · rw [if_neg hj, getK, if_neg (by rw [hk]; exact Ne.symm hj)]
    · rw [if_neg hk]; simp only [getK, ih hn.2]
      by_cases hj : q.1 = j
      · rw [if_pos hj, if_pos hj, if_neg (by rw [← hj]; exact hk)]
      · rw [if_neg hj, if_neg hj]
theorem del_none {l : List (α × β)} {k : α} (h : k ∉ keysK l) : delK l k = l := by
  induction l with
  | nil => rfl
  | cons q l ih =>
    simp only [keysK, List.map_cons, List.mem_cons, not_or] at h
    unfold delK
    rw [if_neg (Ne.symm h.1), ih h.2]
end plain

/-- How keys are spelled as values. -/
structure KeyOk {α : Type} (P : Program) (K : TypeId) (kv : α → Value) : Prop where
  d : ∃ d, P.underlying K = some d ∧ ∀ a, IsKey d (kv a)
  inj : ∀ a b, kv a = kv b → a = b
def strK (l : List UInt8) : Value := .string (strOf l)
def intK (i : Int) : Value := .int .i64 i
theorem strK_ok {P : Program} {K : TypeId} (h : P.underlying K = some .string) : KeyOk P K strK :=
  ⟨⟨_, h, fun a => by simp [IsKey, strK]⟩, fun a b e => by
    simp only [strK, Value.string.injEq] at e
    have := congrArg (fun s : ByteArray => s.data.toList) e
    simpa [strOf_list] using this⟩
theorem intK_ok {P : Program} {K : TypeId} (h : P.underlying K = some (.int .i64)) : KeyOk P K intK :=
  ⟨⟨_, h, fun a => by simp [IsKey, intK]⟩, fun a b e => by
    simp only [intK, Value.int.injEq] at e
    exact e.2⟩

section
variable {α β : Type} [DecidableEq α] (kv : α → Value) (ev : β → Value)
def pairV (p : α × β) : Value × Value := (kv p.1, ev p.2)
/-- The block b is a map of these entries. -/
def MapOf (w : World) (b : Nat) (l : List (α × β)) : Prop :=
  ∃ es clock, w.heap[b]? = some (.map es clock) ∧ es.toList.map (fun e => (e.key, e.val)) = l.map (pairV kv ev) ∧ Stamped es clock
variable {kv ev} {w w' : World} {b : Nat} {l : List (α × β)}
theorem MapOf.lt (h : MapOf kv ev w b l) : b < w.heap.size := by
  obtain ⟨es, clock, hb, _⟩ := h
  exact (Array.getElem?_eq_some_iff.1 hb).1
theorem MapOf.made (w : World) : MapOf kv ev (w.alloc (.map #[] 0)) w.heap.size ([] : List (α × β)) := ⟨#[], 0, (MapKept.heap_alloc w _).1, rfl, stamped_empty 0⟩
theorem MapOf.block (h : MapOf kv ev w b l) (he : w'.heap[b]? = w.heap[b]?) : MapOf kv ev w' b l := by
  obtain ⟨es, clock, hb, h2⟩ := h
  exact ⟨es, clock, he.trans hb, h2⟩
theorem MapOf.touch {S : List Nat} (h : MapOf kv ev w b l) (k : Touch S w w') (hS : b ∉ S) : MapOf kv ev w' b l := h.block (k.block b h.lt hS)
theorem MapOf.ext (h : MapOf kv ev w b l) (k : Ext w w') : MapOf kv ev w' b l := h.touch (Touch.of_ext (S := []) k) (by simp)
theorem MapOf.nodup {P : Program} {K : TypeId} (h : MapOf kv ev w b l) (hk : KeyOk P K kv) : (keysK l).Nodup := by
  obtain ⟨es, clock, hb, hl, hs⟩ := h
  have h2 : es.toList.map (·.key) = l.map fun p => kv p.1 := by
    have := congrArg (List.map Prod.fst) hl
    simpa [pairV, Function.comp_def] using this
  have h3 : (es.toList.map (·.key)).Pairwise (· ≠ ·) := hs.2.2
  rw [h2, List.pairwise_map] at h3
  unfold keysK
  rw [List.Nodup, List.pairwise_map]
  exact h3.imp (fun hne e => hne (by rw [e]))
theorem isKeys {d : TypeDesc} (hd : ∀ a, IsKey d (kv a)) {es : Array MapEntry} (hl : es.toList.map (fun e => (e.key, e.val)) = l.map (pairV kv ev)) : ∀ x ∈ es.toList, IsKey d x.key := by
  intro x hx
  have : (x.key, x.val) ∈ es.toList.map (fun e => (e.key, e.val)) := List.mem_map.2 ⟨x, hx, rfl⟩
  rw [hl] at this
  obtain ⟨p, _, hp⟩ := List.mem_map.1 this
  simp only [pairV, Prod.mk.injEq] at hp
  rw [← hp.1]; exact hd _
/-- What the search for a key finds. -/
theorem find_of {P : Program} {K : TypeId} (hk : KeyOk P K kv) {d : TypeDesc} (hd : ∀ a, IsKey d (kv a)) (k : α) : ∀ (es : List MapEntry) (l : List (α × β)) (i : Nat), es.map (fun e => (e.key, e.val)) = l.map (pairV kv ev) →
    (getK l k = none ∧ Instr.findNow d (kv k) es i = some none) ∨ ∃ j v, getK l k = some v ∧ Instr.findNow d (kv k) es i = some (some (i + j, ev v)) ∧ (l[j]?).map (·.1) = some k ∧ putK l k v = l ∧ j < l.length
  | [], [], i, _ => .inl ⟨rfl, rfl⟩
  | [], p :: l, i, h => by simp at h
  | e :: es, [], i, h => by simp at h
  | e :: es, p :: l, i, h => by
    simp only [List.map_cons, List.cons.injEq] at h
    obtain ⟨h1, h2⟩ := h
    simp only [pairV, Prod.mk.injEq] at h1
    have hx : IsKey d e.key := by rw [h1.1]; exact hd _
    obtain ⟨r, hr, hiff⟩ := sameNow_of_keys (hd k) hx
    by_cases hpk : p.1 = k
    · have : r = true := hiff.2 (by rw [h1.1, hpk])
      subst this
      refine .inr ⟨0, p.2, by simp [getK, hpk], by simp [Instr.findNow, hr, h1.2], by simp [hpk], by simp only [putK, if_pos hpk]; rw [← hpk], by simp⟩
    · have : r = false := by
        cases r with
        | false => rfl
        | true => exact absurd (hk.inj _ _ (by rw [← h1.1]; exact (hiff.1 rfl).symm)) hpk
      subst this
      rcases find_of hk hd k es l (i + 1) h2 with ⟨a1, a2⟩ | ⟨j, v, a1, a2, a3, a4, a5⟩
      · exact .inl ⟨by simp [getK, hpk, a1], by simp [Instr.findNow, hr, a2]⟩
      · refine .inr ⟨j + 1, v, by simp [getK, hpk, a1], by simp [Instr.findNow, hr, a2]; omega, by simpa using a3, by simp only [putK, if_neg hpk]; rw [a4], by simp; omega⟩
variable {P : Program} {K E t : TypeId}
theorem MapOf.look_ok (h : MapOf kv ev w b l) (hk : KeyOk P K kv) (ht : P.underlying t = some (.map K E)) {z : Value} (hz : (zeroValue E).run P w = .ok z w) (k : α) :
    (Instr.lookup t (.map (some b)) (kv k) true).run P w = .ok (.tuple #[((getK l k).map ev).getD z, .bool (getK l k).isSome]) w := by
  obtain ⟨es, clock, hb, hl, hs⟩ := h
  obtain ⟨d, hd, hkd⟩ := hk.d
  rcases find_of hk hkd k es.toList l 0 hl with ⟨h1, h2⟩ | ⟨j, v, h1, h2, _⟩
  · simp [Instr.lookup, run_underlying ht, Go.MapKept.run_getObj_map hb, run_checkKey hd (hkd k), run_findKey hd h2, Result.andThen, hz, h1]
  · simp [Instr.lookup, run_underlying ht, Go.MapKept.run_getObj_map hb, run_checkKey hd (hkd k), run_findKey hd h2, Result.andThen, h1]
theorem MapOf.look (h : MapOf kv ev w b l) (hk : KeyOk P K kv) (ht : P.underlying t = some (.map K E)) {z : Value} (hz : (zeroValue E).run P w = .ok z w) (k : α) :
    (Instr.lookup t (.map (some b)) (kv k) false).run P w = .ok (((getK l k).map ev).getD z) w := by
  obtain ⟨es, clock, hb, hl, hs⟩ := h
  obtain ⟨d, hd, hkd⟩ := hk.d
  rcases find_of hk hkd k es.toList l 0 hl with ⟨h1, h2⟩ | ⟨j, v, h1, h2, _⟩
  · simp [Instr.lookup, run_underlying ht, Go.MapKept.run_getObj_map hb, run_checkKey hd (hkd k), run_findKey hd h2, Result.andThen, hz, h1]
  · simp [Instr.lookup, run_underlying ht, Go.MapKept.run_getObj_map hb, run_checkKey hd (hkd k), run_findKey hd h2, Result.andThen, h1]
theorem look_nil_ok (hk : KeyOk P K kv) (ht : P.underlying t = some (.map K E)) {z : Value} (hz : (zeroValue E).run P w = .ok z w) (k : α) :
    (Instr.lookup t (.map none) (kv k) true).run P w = .ok (.tuple #[z, .bool false]) w := by
  obtain ⟨d, hd, hkd⟩ := hk.d
  simp [Instr.lookup, run_underlying ht, run_checkKey hd (hkd k), Instr.findKey, run_underlying hd, Instr.findNow, Result.andThen, hz]
theorem look_nil_no (hk : KeyOk P K kv) (ht : P.underlying t = some (.map K E)) {z : Value} (hz : (zeroValue E).run P w = .ok z w) (k : α) :
    (Instr.lookup t (.map none) (kv k) false).run P w = .ok z w := by
  obtain ⟨d, hd, hkd⟩ := hk.d
  simp [Instr.lookup, run_underlying ht, run_checkKey hd (hkd k), Instr.findKey, run_underlying hd, Instr.findNow, Result.andThen, hz]
theorem MapOf.len (h : MapOf kv ev w b l) (ht : P.underlying t = some (.map K E)) (ty : TypeId) : (Builtin.len_ #[t] ty #[.map (some b)]).run P w = .ok (.int .i64 (l.length : Int)) w := by
  obtain ⟨es, clock, hb, hl, hs⟩ := h
  have : es.size = l.length := by have := congrArg List.length hl; simpa using this
  simp [Builtin.len_, run_underlying ht, Go.MapKept.run_getObj_map hb, Result.andThen, goInt, this]
theorem touch_setBlock {es : Array MapEntry} {clock : Nat} (hb : w.heap[b]? = some (.map es clock)) (o : Obj) : Touch [b] w (setBlock w b o) :=
  ⟨rfl, rfl, rfl, by simp [setBlock], fun k _ hk => Go.ChangeMaps.heap_setBlock_other hb o (by simpa using hk)⟩
theorem set_pairs : ∀ (es : List MapEntry) (l : List (α × β)) (j : Nat) (k : α) (v : β), es.map (fun e => (e.key, e.val)) = l.map (pairV kv ev) → (l[j]?).map (·.1) = some k → (∀ i, i < j → (l[i]?).map (·.1) ≠ some k) →
    (es.modify j fun e => { e with key := kv k, val := ev v }).map (fun e => (e.key, e.val)) = (putK l k v).map (pairV kv ev)
  | [], [], j, k, v, _, h, _ => by simp at h
  | [], p :: l, j, k, v, h, _, _ => by simp at h
  | e :: es, [], j, k, v, h, _, _ => by simp at h
  | e :: es, p :: l, 0, k, v, h, hj, _ => by
    simp at hj
    simp only [List.map_cons, List.cons.injEq] at h
    simp [putK, hj, List.modify, h.2, pairV]
  | e :: es, p :: l, j + 1, k, v, h, hj, hb => by
    simp only [List.map_cons, List.cons.injEq] at h
    have hne : p.1 ≠ k := by have := hb 0 (by omega); simpa using this
    have ih := set_pairs es l j k v h.2 (by simpa using hj) (fun i hi => by have := hb (i + 1) (by omega); simpa using this)
    simp only [putK, if_neg hne, List.modify_succ_cons, List.map_cons, ih, h.1]
theorem MapOf.put (h : MapOf kv ev w b l) (hk : KeyOk P K kv) (ht : P.underlying t = some (.map K E)) (k : α) (v : β) :
    ∃ w', (Instr.mapUpdate t (.map (some b)) (kv k) (ev v)).run P w = .ok () w' ∧ MapOf kv ev w' b (putK l k v) ∧ Touch [b] w w' ∧ w'.heap.size = w.heap.size := by
  have hnd := h.nodup hk
  obtain ⟨es, clock, hb, hl, hs⟩ := h
  obtain ⟨d, hd, hkd⟩ := hk.d
  rcases find_of hk hkd k es.toList l 0 hl with ⟨h1, h2⟩ | ⟨j, v0, h1, h2, h3, _, hjl⟩
  · have hnk : ∀ x ∈ es.toList, x.key ≠ kv k := by
      intro x hx e
      have : (x.key, x.val) ∈ es.toList.map (fun e => (e.key, e.val)) := List.mem_map.2 ⟨x, hx, rfl⟩
      rw [hl] at this
      obtain ⟨p, hp, hpe⟩ := List.mem_map.1 this
      simp only [pairV, Prod.mk.injEq] at hpe
      exact getK_none.1 h1 (List.mem_map.2 ⟨p, hp, hk.inj _ _ (by rw [hpe.1, e])⟩)
    refine ⟨setBlock w b (.map (es.push { key := kv k, val := ev v, born := clock }) (clock + 1)), ?_, ⟨_, _, Go.ChangeMaps.heap_setBlock_same hb _, ?_, stamped_push hs hnk⟩, touch_setBlock hb _, by simp [setBlock]⟩
    · simp [Instr.mapUpdate, run_underlying ht, Go.MapKept.run_getObj_map hb, run_checkKey hd (hkd k), run_findKey hd h2, run_setObj_map _ hb, Result.andThen, setBlock]
    · have hp : putK l k v = l ++ [(k, v)] := by
        clear hnd hl h2 hnk
        induction l with
        | nil => rfl
        | cons p l ih =>
          unfold getK at h1
          by_cases hpk : p.1 = k
          · rw [if_pos hpk] at h1; cases h1
          · rw [if_neg hpk] at h1
            simp only [putK, if_neg hpk, ih h1, List.cons_append]
      rw [hp]
      simp [hl, pairV]
  · have hj : ∃ e, es[j]? = some e ∧ e.key = kv k := by
      have hlen : es.toList.length = l.length := by have := congrArg List.length hl; simpa using this
      have hjl' : j < es.toList.length := by omega
      refine ⟨es.toList[j], by simp, ?_⟩
      have e1 : (es.toList.map (fun e => (e.key, e.val)))[j]? = (l.map (pairV kv ev))[j]? := by rw [hl]
      simp only [List.getElem?_map, List.getElem?_eq_getElem hjl', List.getElem?_eq_getElem hjl, Option.map_some, pairV, Option.some.injEq, Prod.mk.injEq] at e1 h3
      rw [e1.1, h3]
    obtain ⟨e, hje, hek⟩ := hj
    rw [Nat.zero_add] at h2
    have hrun : (Instr.mapUpdate t (.map (some b)) (kv k) (ev v)).run P w = .ok () (setBlock w b (.map (es.modify j fun e => { e with key := kv k, val := ev v }) clock)) := by
      simp [Instr.mapUpdate, run_underlying ht, Go.MapKept.run_getObj_map hb, run_checkKey hd (hkd k), run_findKey hd h2, hje, hek, run_keyThatStays (hkd k), run_setObj_map _ hb, Result.andThen, setBlock]
    refine ⟨_, hrun, ⟨_, _, Go.ChangeMaps.heap_setBlock_same hb _, ?_, stamped_modify hs _ _ (fun _ _ => rfl) (fun e' _ he' => by rw [hje] at he'; cases he'; exact hek.symm)⟩, touch_setBlock hb _, by simp [setBlock]⟩
    rw [Array.toList_modify]
    refine set_pairs es.toList l j k v hl h3 (fun i hi e => ?_)
    have hp := List.pairwise_iff_getElem.1 hnd i j (by unfold keysK; rw [List.length_map]; omega) (by unfold keysK; rw [List.length_map]; omega) hi
    simp only [keysK, List.getElem_map] at hp
    rw [List.getElem?_eq_getElem (by omega)] at e h3
    simp only [Option.map_some, Option.some.injEq] at e h3
    exact hp (by rw [e, h3])
theorem erase_pairs : ∀ (es : List MapEntry) (l : List (α × β)) (j : Nat) (k : α), es.map (fun e => (e.key, e.val)) = l.map (pairV kv ev) → (l[j]?).map (·.1) = some k → (∀ i, i < j → (l[i]?).map (·.1) ≠ some k) →
    (es.eraseIdx j).map (fun e => (e.key, e.val)) = (delK l k).map (pairV kv ev)
  | [], [], j, k, _, h, _ => by simp at h
  | [], p :: l, j, k, h, _, _ => by simp at h
  | e :: es, [], j, k, h, _, _ => by simp at h
  | e :: es, p :: l, 0, k, h, hj, _ => by
    simp at hj
    simp only [List.map_cons, List.cons.injEq] at h
    simp [delK, hj, h.2]
  | e :: es, p :: l, j + 1, k, h, hj, hb => by
    simp only [List.map_cons, List.cons.injEq] at h
    have hne : p.1 ≠ k := by have := hb 0 (by omega); simpa using this
    have ih := erase_pairs es l j k h.2 (by simpa using hj) (fun i hi => by have := hb (i + 1) (by omega); simpa using this)
    simp only [delK, if_neg hne, List.eraseIdx_cons_succ, List.map_cons, ih, h.1]
theorem MapOf.del (h : MapOf kv ev w b l) (hk : KeyOk P K kv) (ht : P.underlying t = some (.map K E)) (k : α) (ty : TypeId) :
    ∃ w', (Builtin.delete_ #[t, K] ty #[.map (some b), kv k]).run P w = .ok (.tuple #[]) w' ∧ MapOf kv ev w' b (delK l k) ∧ Touch [b] w w' ∧ w'.heap.size = w.heap.size := by
  have hnd := h.nodup hk
  obtain ⟨es, clock, hb, hl, hs⟩ := h
  obtain ⟨d, hd, hkd⟩ := hk.d
  rcases find_of hk hkd k es.toList l 0 hl with ⟨h1, h2⟩ | ⟨j, v0, h1, h2, h3, _, hjl⟩
  · refine ⟨setBlock w b (.map es clock), ?_, ⟨_, _, Go.ChangeMaps.heap_setBlock_same hb _, ?_, hs⟩, touch_setBlock hb _, by simp [setBlock]⟩
    · simp [Builtin.delete_, run_underlying ht, Go.MapKept.run_getObj_map hb, run_checkKey hd (hkd k), run_findKey hd h2, run_setObj_map _ hb, Result.andThen, setBlock]
    · rw [hl, del_none (getK_none.1 h1)]
  · rw [Nat.zero_add] at h2
    refine ⟨setBlock w b (.map (es.eraseIdxIfInBounds j) clock), ?_, ⟨_, _, Go.ChangeMaps.heap_setBlock_same hb _, ?_, stamped_erase hs _⟩, touch_setBlock hb _, by simp [setBlock]⟩
    · simp [Builtin.delete_, run_underlying ht, Go.MapKept.run_getObj_map hb, run_checkKey hd (hkd k), run_findKey hd h2, run_setObj_map _ hb, Result.andThen, setBlock]
    · have hlen : es.size = l.length := by have := congrArg List.length hl; simpa using this
      unfold Array.eraseIdxIfInBounds
      rw [dif_pos (by omega), Array.toList_eraseIdx]
      refine erase_pairs es.toList l j k hl h3 (fun i hi e => ?_)
      have hp := List.pairwise_iff_getElem.1 hnd i j (by unfold keysK; rw [List.length_map]; omega) (by unfold keysK; rw [List.length_map]; omega) hi
      simp only [keysK, List.getElem_map] at hp
      rw [List.getElem?_eq_getElem (by omega)] at e h3
      simp only [Option.map_some, Option.some.injEq] at e h3
      exact hp (by rw [e, h3])
/-- An iterator over the map: what is still to come. -/
def IterOf (kv : α → Value) (ev : β → Value) (w : World) (b r : Nat) (l todo : List (α × β)) : Prop :=
  ∃ es clock since c0 seen, w.heap[b]? = some (.map es clock) ∧ es.toList.map (fun e => (e.key, e.val)) = l.map (pairV kv ev) ∧ Stamped es clock ∧ w.heap[r]? = some (.mapIter (some b) since seen c0) ∧
    (∀ x ∈ es.toList, x.born < since) ∧ since ≤ c0 ∧ c0 ≤ clock ∧ (leftOf es seen).toList.map (fun e => (e.key, e.val)) = todo.map (pairV kv ev)
theorem IterOf.map {r : Nat} {todo : List (α × β)} (h : IterOf kv ev w b r l todo) : MapOf kv ev w b l := by
  obtain ⟨es, clock, since, c0, seen, h1, h2, h3, _⟩ := h
  exact ⟨es, clock, h1, h2, h3⟩
theorem IterOf.lt {r : Nat} {todo : List (α × β)} (h : IterOf kv ev w b r l todo) : r < w.heap.size := by
  obtain ⟨es, clock, since, c0, seen, h1, h2, h3, h4, _⟩ := h
  exact (Array.getElem?_eq_some_iff.1 h4).1
theorem IterOf.touch {S : List Nat} {r : Nat} {todo : List (α × β)} (h : IterOf kv ev w b r l todo) (k : Touch S w w') (h1 : b ∉ S) (h2 : r ∉ S) : IterOf kv ev w' b r l todo := by
  have hb := h.map.lt
  have hr := h.lt
  obtain ⟨es, clock, since, c0, seen, a1, a2, a3, a4, a5⟩ := h
  exact ⟨es, clock, since, c0, seen, (k.block b hb h1).trans a1, a2, a3, (k.block r hr h2).trans a4, a5⟩
theorem IterOf.ext {r : Nat} {todo : List (α × β)} (h : IterOf kv ev w b r l todo) (k : Ext w w') : IterOf kv ev w' b r l todo := h.touch (Touch.of_ext (S := []) k) (by simp) (by simp)
theorem left_none (es : Array MapEntry) : leftOf es #[] = es := by
  unfold leftOf
  simp
theorem MapOf.range (h : MapOf kv ev w b l) (ht : P.underlying t = some (.map K E)) :
    ∃ w', (Instr.range t (.map (some b))).run P w = .ok (.pointer (some ⟨w.heap.size, 0, none⟩)) w' ∧ IterOf kv ev w' b w.heap.size l l ∧ Ext w w' ∧ w'.heap.size = w.heap.size + 1 := by
  have hlt := h.lt
  obtain ⟨es, clock, hb, hl, hs⟩ := h
  refine ⟨_, run_range_map w t K E b es clock ht hb, ⟨es, clock, clock, clock, #[], (heap_alloc_old w _ hlt).trans hb, hl, hs, heap_alloc_new w _, hs.1, Nat.le_refl _, Nat.le_refl _, by rw [left_none]; exact hl⟩, Ext.alloc _ _, by simp⟩
theorem left_push {es : Array MapEntry} {seen : Array Nat} {e : MapEntry} (hn : (es.toList.map (·.born)).Nodup) (he : e ∈ (leftOf es seen).toList) :
    ∃ pre post, (leftOf es seen).toList = pre ++ e :: post ∧ (leftOf es (seen.push e.born)).toList = pre ++ post := by
  obtain ⟨pre, post, hpp⟩ := List.append_of_mem he
  refine ⟨pre, post, hpp, ?_⟩
  have h1 : (leftOf es (seen.push e.born)).toList = (leftOf es seen).toList.filter (fun x => !(x.born == e.born)) := by
    unfold leftOf
    simp only [Array.toList_filter, List.filter_filter]
    congr 1
    funext x
    rw [Array.contains_push]
    cases seen.contains x.born <;> cases h : (x.born == e.born) <;> simp [h]
  have hsub : ((leftOf es seen).toList.map (·.born)).Nodup := by
    unfold leftOf
    rw [Array.toList_filter]
    exact hn.sublist (List.filter_sublist.map _)
  rw [hpp, List.map_append, List.map_cons, List.nodup_append, List.nodup_cons] at hsub
  obtain ⟨g1, ⟨g2, g3⟩, g4⟩ := hsub
  rw [h1, hpp, List.filter_append, List.filter_cons]
  have e1 : pre.filter (fun x => !(x.born == e.born)) = pre := List.filter_eq_self.2 (fun x hx => by
    have := g4 x.born (List.mem_map.2 ⟨x, hx, rfl⟩) e.born (by simp)
    simp [this])
  have e2 : post.filter (fun x => !(x.born == e.born)) = post := List.filter_eq_self.2 (fun x hx => by
    have : x.born ≠ e.born := fun hh => g2 (hh ▸ List.mem_map.2 ⟨x, hx, rfl⟩)
    simp [this])
  rw [e1, e2]
  simp
/-- One step of a range over the map. -/
theorem IterOf.next {r : Nat} {todo : List (α × β)} (h : IterOf kv ev w b r l todo) (ty : TypeId) :
    (todo = [] ∧ (Instr.next (.pointer (some ⟨r, 0, none⟩)) false ty).run P w = .ok (.tuple #[.bool false]) w) ∨
    ∃ pre p post w', todo = pre ++ p :: post ∧ (Instr.next (.pointer (some ⟨r, 0, none⟩)) false ty).run P w = .ok (.tuple #[.bool true, kv p.1, ev p.2]) w' ∧ IterOf kv ev w' b r l (pre ++ post) ∧ Touch [r] w w' ∧ w'.heap.size = w.heap.size ∧
      (Instr.entry (.pointer (some ⟨r, 0, none⟩))).run P w' = .ok (.tuple #[kv p.1, ev p.2]) w' := by
  obtain ⟨es, clock, since, c0, seen, hb, hl, hs, hr, hold, hsc, hcc, htd⟩ := h
  have hrb : r ≠ b := fun e => by rw [e, hb] at hr; cases hr
  rcases run_next_at (P := P) w ty r b since c0 seen es clock hr hb hold hsc with ⟨h0, hrun⟩ | ⟨e, he, w1, hw1, hrun⟩
  · refine .inl ⟨?_, hrun⟩
    have := congrArg List.length htd
    simp [h0] at this
    exact List.eq_nil_of_length_eq_zero this.symm
  · obtain ⟨pre, post, hpp, hpush⟩ := left_push ((stamped_iff es clock).1 hs).2.1 he
    rw [hpp, List.map_append, List.map_cons] at htd
    obtain ⟨p1, p2, rfl, e1, e2⟩ := List.append_eq_map_iff.1 htd
    obtain ⟨p, p3, rfl, e3, e4⟩ := List.map_eq_cons_iff.1 e2
    simp only [pairV, Prod.mk.injEq] at e3
    have hr1 : w1.heap[r]? = some (.mapIter (some b) since seen c0) := by rcases hw1 with rfl | rfl <;> exact hr
    have hb1 : w1.heap[b]? = some (.map es clock) := by rcases hw1 with rfl | rfl <;> exact hb
    have hsame : (setBlock w1 r (.mapIter (some b) since (seen.push e.born) clock)).heap[r]? = some (.mapIter (some b) since (seen.push e.born) clock) := (heap_set hr1).1
    have hoth : ∀ k, k ≠ r → (setBlock w1 r (.mapIter (some b) since (seen.push e.born) clock)).heap[k]? = w1.heap[k]? := fun k hk => (heap_set hr1).2 k hk
    have hbb := (hoth b (Ne.symm hrb)).trans hb1
    have hsz : (setBlock w1 r (.mapIter (some b) since (seen.push e.born) clock)).heap.size = w.heap.size := by rcases hw1 with rfl | rfl <;> simp [setBlock]
    refine .inr ⟨p1, p, p3, _, rfl, by rw [e3.1, e3.2]; exact hrun, ⟨es, clock, since, clock, seen.push e.born, hbb, hl, hs, hsame, hold, Nat.le_trans hsc hcc, Nat.le_refl _, by rw [hpush, List.map_append, List.map_append, e1, e4]⟩, ?_, hsz, ?_⟩
    · refine ⟨?_, ?_, ?_, by rw [hsz]; exact Nat.le_refl _, fun k _ hk => ?_⟩
      · rcases hw1 with rfl | rfl <;> rfl
      · rcases hw1 with rfl | rfl <;> rfl
      · rcases hw1 with rfl | rfl <;> rfl
      · rw [hoth k (by simpa using hk)]
        rcases hw1 with rfl | rfl <;> rfl
    · rw [e3.1, e3.2]
      exact run_entry_at _ r b since seen es clock e hsame hbb (mem_left he).1 ((stamped_iff es clock).1 hs).2.1

variable (w) {ops : Array Oper} {rest : List Oper} {o : Oper} {a : Act} {Q : Exit → Act → World → Prop}
theorem wpList_put_of (hg : o.guard = none) (m x v : Operand) (t : TypeId) (hop : o.op = Op.mapUpdate t m x v) (K E : TypeId) (hk : KeyOk P K kv) (ht : P.underlying t = some (.map K E)) (b : Nat) (l : List (α × β)) (hown : MapOf kv ev w b l)
    (hm : a.eval m = .map (some b)) (k : α) (y : β) (hx : a.eval x = kv k) (hv : a.eval v = ev y)
    (hK : ∀ w', MapOf kv ev w' b (putK l k y) → Touch [b] w w' → w'.heap.size = w.heap.size → wpList P ops Q rest (a.put o.dst undef) w') : wpList P ops Q (o :: rest) a w := by
  refine wpList_plain hg fun K' hK' => ?_
  obtain ⟨w', hrun, r1, r2, r3⟩ := hown.put hk ht k y
  unfold Oper.wp
  simp [execOp, hop, hm, hx, hv, hrun, Result.andThen]
  exact hK' _ _ (hK w' r1 r2 r3)
theorem wpList_del_of (hg : o.guard = none) (m x : Operand) (t K : TypeId) (hop : o.op = Op.call { callee := Callee.builtin Builtin.delete, args := #[m, x], argTypes := #[t, K] }) (E : TypeId) (hk : KeyOk P K kv) (ht : P.underlying t = some (.map K E)) (b : Nat) (l : List (α × β)) (hown : MapOf kv ev w b l)
    (hm : a.eval m = .map (some b)) (k : α) (hx : a.eval x = kv k)
    (hK : ∀ w', MapOf kv ev w' b (delK l k) → Touch [b] w w' → w'.heap.size = w.heap.size → wpList P ops Q rest (a.put o.dst (.tuple #[])) w') : wpList P ops Q (o :: rest) a w := by
  refine wpList_plain hg fun K' hK' => ?_
  obtain ⟨w', hrun, r1, r2, r3⟩ := hown.del hk ht k o.type
  unfold Oper.wp
  simp [execOp, hop, resolve, invoke, builtin, hm, hx, hrun, Result.andThen]
  exact hK' _ _ (hK w' r1 r2 r3)
theorem wpList_range_of (hg : o.guard = none) (m : Operand) (t : TypeId) (hop : o.op = Op.range t m) (K E : TypeId) (ht : P.underlying t = some (.map K E)) (b : Nat) (l : List (α × β)) (hown : MapOf kv ev w b l)
    (hm : a.eval m = .map (some b))
    (hK : ∀ w', IterOf kv ev w' b w.heap.size l l → Ext w w' → w'.heap.size = w.heap.size + 1 → wpList P ops Q rest (a.put o.dst (.pointer (some ⟨w.heap.size, 0, none⟩))) w') : wpList P ops Q (o :: rest) a w := by
  refine wpList_plain hg fun K' hK' => ?_
  obtain ⟨w', hrun, r1, r2, r3⟩ := hown.range (P := P) ht
  unfold Oper.wp
  simp [execOp, hop, hm, hrun, Result.andThen]
  exact hK' _ _ (hK w' r1 r2 r3)
theorem wpList_next_of (hg : o.guard = none) (it : Operand) (hop : o.op = Op.next it false) (b r : Nat) (l todo : List (α × β)) (h : IterOf kv ev w b r l todo) (hit : a.eval it = .pointer (some ⟨r, 0, none⟩))
    (hDone : todo = [] → wpList P ops Q rest (a.put o.dst (.tuple #[.bool false])) w)
    (hMore : ∀ pre p post w', todo = pre ++ p :: post → IterOf kv ev w' b r l (pre ++ post) → Touch [r] w w' → w'.heap.size = w.heap.size → (Instr.entry (.pointer (some ⟨r, 0, none⟩))).run P w' = .ok (.tuple #[kv p.1, ev p.2]) w' →
      wpList P ops Q rest (a.put o.dst (.tuple #[.bool true, kv p.1, ev p.2])) w') : wpList P ops Q (o :: rest) a w := by
  refine wpList_plain hg fun K' hK' => ?_
  unfold Oper.wp
  rcases h.next (P := P) o.type with ⟨h0, hrun⟩ | ⟨pre, p, post, w', htd, hrun, h1, h2, h3, h4⟩
  · simp [execOp, hop, hit, hrun, Result.andThen]
    exact hK' _ _ (hDone h0)
  · simp [execOp, hop, hit, hrun, Result.andThen]
    exact hK' _ _ (hMore pre p post w' htd h1 h2 h3 h4)
theorem wpList_look_of (hg : o.guard = none) (m x : Operand) (t : TypeId) (ok : Bool) (hop : o.op = Op.lookup t m x ok) (K E : TypeId) (hk : KeyOk P K kv) (ht : P.underlying t = some (.map K E)) (b : Nat) (l : List (α × β)) (hown : MapOf kv ev w b l)
    (z : Value) (hz : (zeroValue E).run P w = .ok z w) (hm : a.eval m = .map (some b)) (k : α) (hx : a.eval x = kv k)
    (hK : wpList P ops Q rest (a.put o.dst (if ok then .tuple #[((getK l k).map ev).getD z, .bool (getK l k).isSome] else ((getK l k).map ev).getD z)) w) : wpList P ops Q (o :: rest) a w := by
  refine wpList_plain hg fun K' hK' => ?_
  unfold Oper.wp
  cases ok
  · have hrun := hown.look hk ht hz k
    simp [execOp, hop, hm, hx, hrun, Result.andThen]
    exact hK' _ _ (by simpa using hK)
  · have hrun := hown.look_ok hk ht hz k
    simp [execOp, hop, hm, hx, hrun, Result.andThen]
    exact hK' _ _ (by simpa using hK)
end
end Go.Proofs.Ytjphmjegfpdbeaa
