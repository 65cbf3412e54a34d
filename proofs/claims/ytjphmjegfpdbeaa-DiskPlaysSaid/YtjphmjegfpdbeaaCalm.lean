/- A law for a region that draws its order: each operation is looked at alone, in a world that has grown from the region's first one; nothing is said of the order. No condition. -/
import Derived.Orders
import Derived.StillTail
import Derived.Test.YtjphmjegfpdbeaaRow
import Derived.KernelRfl
namespace Go.Proofs.Ytjphmjegfpdbeaa
open Go.RowKit

/-- The value is this one. -/
def EqV (v : Value) : World → Value → Prop := fun _ u => u = v
/-- The operation without its edges and its guard. -/
def bare (o : Oper) : Oper := { o with after := #[], guard := none }
/-- What an operation leaves: its value is as told, the world has gone on as R says, nothing is deferred. -/
def CalmPost (d : Option Tmp) (V : World → Value → Prop) (R : World → World → Prop) (ds : List Deferred) (w : World) : Exit → Act → World → Prop
  | .normal, a, w' => a.defers = ds ∧ (∀ t, d = some t → V w' (a.tmps.getD t undef)) ∧ R w w'
  | _, _, _ => False
def VAt (Vs : List (World → Value → Prop)) (j : Nat) : World → Value → Prop := Vs.getD j (fun _ _ => True)
/-- What is known of the values that an operation looks at. -/
def Look (Vs : List (World → Value → Prop)) (vs : Nat → Value) (w : World) : List (Nat × Nat) → Prop
  | [] => True
  | p :: r => VAt Vs p.2 w (vs p.2) ∧ Look Vs vs w r
theorem Look.mem {Vs : List (World → Value → Prop)} {vs : Nat → Value} {w : World} : ∀ {c : List (Nat × Nat)}, (∀ p ∈ c, VAt Vs p.2 w (vs p.2)) → Look Vs vs w c
  | [], _ => trivial
  | p :: r, h => ⟨h p (by simp), Look.mem fun q hq => h q (by simp [hq])⟩
def setAll (vs : Nat → Value) (tm : Array Value) (l : List (Nat × Nat)) : Array Value := l.foldl (fun tm p => tm.setIfInBounds p.1 (vs p.2)) tm
def Guarded (g : Option (Nat × Bool)) (vs : Nat → Value) (run skip : Prop) : Prop :=
  match g with
  | none => run
  | some (j, b) => (vs j = .bool b → run) ∧ (vs j ≠ .bool b → skip)
def CalmOp (P : Program) (R : World → World → Prop) (w0 : World) (a0 : Act) (Vs : List (World → Value → Prop)) (vs : Nat → Value) (i : Nat) (o : Oper) (c : List (Nat × Nat)) : Prop :=
  ∀ w, R w0 w → Look Vs vs w c → Guarded o.guard vs (wpList P #[] (CalmPost o.dst (VAt Vs i) R a0.defers w) [bare o] ⟨setAll vs a0.tmps c, a0.defers⟩ w) (VAt Vs i w undef)
def CalmOps (P : Program) (R : World → World → Prop) (w0 : World) (a0 : Act) (Vs : List (World → Value → Prop)) (vs : Nat → Value) : Nat → List Oper → List (List (Nat × Nat)) → Prop
  | _, [], _ => True
  | i, o :: os, cs => CalmOp P R w0 a0 Vs vs i o (cs.headD []) ∧ CalmOps P R w0 a0 Vs vs (i + 1) os cs.tail
theorem CalmOps.at {P : Program} {R : World → World → Prop} {w0 : World} {a0 : Act} {Vs : List (World → Value → Prop)} {vs : Nat → Value} :
    ∀ {os : List Oper} {k : Nat} {cs : List (List (Nat × Nat))}, CalmOps P R w0 a0 Vs vs k os cs → ∀ i o, os[i]? = some o → CalmOp P R w0 a0 Vs vs (k + i) o (cs.getD i [])
  | [], _, _, _, i, o, hi => by simp at hi
  | p :: os, k, cs, h, 0, o, hi => by
    simp at hi; subst hi
    have := h.1
    cases cs <;> simpa using this
  | p :: os, k, cs, h, i + 1, o, hi => by
    have := CalmOps.at h.2 i o (by simpa using hi)
    rw [show k + 1 + i = k + (i + 1) by omega] at this
    cases cs <;> simpa using this

/-- Just the head has come up. -/
def headListed (ops : Array Oper) (m : Nat) : Array Bool := ((List.range ops.size).map fun i => decide (i < m)).toArray
/-- The table of what each operation looks at (slot, place of the operation that wrote it) fits the region. -/
def calmB (ops : Array Oper) (n m : Nat) (cs : List (List (Nat × Nat))) (fin : List (Nat × Nat)) : Bool :=
  Region.noSelect ops &&
  decide (m ≤ ops.size) && (decide (m = ops.size) || Region.sinkB .any ops m) && Region.chainB .any ops m && Region.seqB .any ops (ops.size - m) m (headListed ops m) &&
  fin.all (fun p => decide (p.2 < m) && match ops[p.2]? with | some q => q.dst == some p.1 | none => false) &&
  (List.range m).all (fun i => match ops[i]? with
    | none => false
    | some o =>
      (match o.dst with
        | some d => decide (d < n) && fin.contains (d, i) && (List.range i).all (fun j => match ops[j]? with | some p => p.dst != some d | none => true)
        | none => true) &&
      o.after.all (fun e => !Region.binds .any e || decide (e.on < i)) &&
      (cs.getD i []).all (fun p => (match ops[p.2]? with | some q => q.dst == some p.1 | none => false) && o.after.any (fun e => Region.binds .any e && e.on == p.2)) &&
      (match o.guard with
        | some (g, _) => (cs.getD i []).any (fun p => p.2 == g)
        | none => true) &&
      (o.looksAt ops).all (fun t => (cs.getD i []).any (fun p => p.1 == t) ||
        (List.range m).all (fun j => j == i || match ops[j]? with | some q => q.dst != some t || q.after.any (fun e => Region.binds .any e && e.on == i) | none => true)))

structure CalmFits (ops : Array Oper) (n m : Nat) (cs : List (List (Nat × Nat))) (fin : List (Nat × Nat)) : Prop where
  sel : Region.noSelect ops = true
  le : m ≤ ops.size
  sink : m = ops.size ∨ Region.sinkB .any ops m = true
  chain : Region.chainB .any ops m = true
  seq : Region.seqB .any ops (ops.size - m) m (headListed ops m) = true
  fin1 : ∀ p ∈ fin, p.2 < m ∧ ∃ q : Oper, ops[p.2]? = some q ∧ q.dst = some p.1
  fin2 : ∀ (i : Nat) (o : Oper) (d : Tmp), i < m → ops[i]? = some o → o.dst = some d → (d, i) ∈ fin
  lt : ∀ (i : Nat) (o : Oper) (d : Tmp), i < m → ops[i]? = some o → o.dst = some d → d < n
  one : ∀ (i j : Nat) (o p : Oper) (d : Tmp), i < m → j < m → ops[i]? = some o → ops[j]? = some p → o.dst = some d → p.dst = some d → i = j
  back : ∀ (i : Nat) (o : Oper), i < m → ops[i]? = some o → ∀ e ∈ o.after, Region.binds .any e = true → e.on < i
  cert : ∀ (i : Nat) (o : Oper), i < m → ops[i]? = some o → ∀ p ∈ cs.getD i [], (∃ q : Oper, ops[p.2]? = some q ∧ q.dst = some p.1) ∧ ∃ e ∈ o.after, Region.binds .any e = true ∧ e.on = p.2
  guard : ∀ (i : Nat) (o : Oper) (g : Nat) (b : Bool), i < m → ops[i]? = some o → o.guard = some (g, b) → ∃ p ∈ cs.getD i [], p.2 = g
  look : ∀ (i : Nat) (o : Oper), i < m → ops[i]? = some o → ∀ t ∈ o.looksAt ops, (∃ p ∈ cs.getD i [], p.1 = t) ∨ ∀ (j : Nat) (q : Oper), j < m → ops[j]? = some q → j ≠ i → q.dst = some t → ∃ e ∈ q.after, Region.binds .any e = true ∧ e.on = i

theorem calmB_fits {ops : Array Oper} {n m : Nat} {cs : List (List (Nat × Nat))} {fin : List (Nat × Nat)} (h : calmB ops n m cs fin = true) : CalmFits ops n m cs fin := by
  unfold calmB at h
  simp only [Bool.and_eq_true, Bool.or_eq_true, List.all_eq_true, List.mem_range, decide_eq_true_eq] at h
  obtain ⟨⟨⟨⟨⟨⟨hsel, hle⟩, hsink⟩, hchain⟩, hseq⟩, hfin⟩, hall⟩ := h
  have ha : ∀ i o, i < m → ops[i]? = some o →
      ((((match o.dst with
        | some d => decide (d < n) && fin.contains (d, i) && (List.range i).all (fun j => match ops[j]? with | some p => p.dst != some d | none => true)
        | none => true) = true ∧
      o.after.all (fun e => !Region.binds .any e || decide (e.on < i)) = true) ∧
      (cs.getD i []).all (fun p => (match ops[p.2]? with | some q => q.dst == some p.1 | none => false) && o.after.any (fun e => Region.binds .any e && e.on == p.2)) = true) ∧
      (match o.guard with
        | some (g, _) => (cs.getD i []).any (fun p => p.2 == g)
        | none => true) = true) ∧
      (o.looksAt ops).all (fun t => (cs.getD i []).any (fun p => p.1 == t) ||
        (List.range m).all (fun j => j == i || match ops[j]? with | some q => q.dst != some t || q.after.any (fun e => Region.binds .any e && e.on == i) | none => true)) = true := by
    intro i o him hi
    have := hall i him
    rw [hi] at this
    simpa only [Bool.and_eq_true] using this
  have hone : ∀ (i j : Nat) (o p : Oper) (d : Tmp), i < m → ops[i]? = some o → ops[j]? = some p → o.dst = some d → p.dst = some d → ¬ j < i := by
    intro i j o p d him hi hj ho hp hlt
    have h1 := (ha i o him hi).1.1.1.1
    rw [ho] at h1
    simp only [Bool.and_eq_true, List.all_eq_true, List.mem_range] at h1
    have h2 := h1.2 j hlt
    rw [hj] at h2
    simp [hp] at h2
  refine ⟨hsel, hle, hsink, hchain, hseq, ?_, ?_, ?_, ?_, ?_, ?_, ?_, ?_⟩
  · intro p hp
    have := hfin p hp
    refine ⟨this.1, ?_⟩
    have := this.2
    cases hq : ops[p.2]? with
    | none => rw [hq] at this; simp at this
    | some q => rw [hq] at this; exact ⟨q, rfl, by simpa using this⟩
  · intro i o d him hi ho
    have h1 := (ha i o him hi).1.1.1.1
    rw [ho] at h1
    simp only [Bool.and_eq_true] at h1
    simpa using h1.1.2
  · intro i o d him hi ho
    have h1 := (ha i o him hi).1.1.1.1
    rw [ho] at h1
    simp only [Bool.and_eq_true] at h1
    simpa using h1.1.1
  · intro i j o p d him hjm hi hj ho hp
    have h1 := hone i j o p d him hi hj ho hp
    have h2 := hone j i p o d hjm hj hi hp ho
    omega
  · intro i o him hi e he hb
    have h1 := (ha i o him hi).1.1.1.2
    rw [Array.all_eq_true_iff_forall_mem] at h1
    simpa [hb] using h1 e he
  · intro i o him hi p hp
    have h1 := (ha i o him hi).1.1.2
    rw [List.all_eq_true] at h1
    have h2 := h1 p hp
    rw [Bool.and_eq_true] at h2
    refine ⟨?_, ?_⟩
    · have h3 := h2.1
      cases hq : ops[p.2]? with
      | none => rw [hq] at h3; simp at h3
      | some q => rw [hq] at h3; exact ⟨q, rfl, by simpa using h3⟩
    · obtain ⟨e, he, hb⟩ := Array.any_eq_true'.1 h2.2
      simp only [Bool.and_eq_true, beq_iff_eq] at hb
      exact ⟨e, he, hb⟩
  · intro i o g b him hi hg
    have h1 := (ha i o him hi).1.2
    rw [hg] at h1
    obtain ⟨p, hp, hpg⟩ := List.any_eq_true.1 h1
    exact ⟨p, hp, by simpa using hpg⟩
  · intro i o him hi t ht
    have h1 := (ha i o him hi).2
    rw [List.all_eq_true] at h1
    have h2 := h1 t ht
    rw [Bool.or_eq_true] at h2
    rcases h2 with h2 | h2
    · obtain ⟨p, hp, hpt⟩ := List.any_eq_true.1 h2
      exact .inl ⟨p, hp, by simpa using hpt⟩
    · refine .inr fun j q hjm hj hji hq => ?_
      rw [List.all_eq_true] at h2
      have h3 := h2 j (List.mem_range.2 hjm)
      rw [hj] at h3
      simp only [Bool.or_eq_true, beq_iff_eq, hji, false_or, hq, bne_self_eq_false, Bool.false_eq_true] at h3
      obtain ⟨e, he, hb⟩ := Array.any_eq_true'.1 h3
      simp only [Bool.and_eq_true, beq_iff_eq] at hb
      exact ⟨e, he, hb⟩

theorem execOp_bare (ρ : Operand → Value) (o : Oper) : execOp ρ (bare o) = execOp ρ o := by
  obtain ⟨dst, op, type, pos, after, guard⟩ := o
  cases op <;> rfl
theorem looksAt_operand {ops : Array Oper} {o : Oper} {t : Tmp} (h : Operand.tmp t ∈ o.op.operands) : t ∈ o.looksAt ops :=
  List.mem_append_left _ (List.mem_filterMap.2 ⟨.tmp t, by simpa using h, rfl⟩)

/-- From the operation alone to the operation in its region. -/
theorem upon_calm {P : Program} {o : Oper} {a ai : Act} {w : World} {V : World → Value → Prop} {R : World → World → Prop} {ds : List Deferred} {r : Result Next} {K : Act → World → Prop} {Q : Exit → Act → World → Prop}
    (hn : ∀ d, o.dst = some d → d < ai.tmps.size) (hds : ai.defers = ds)
    (h : (bare o).upon P ai (fun a w' => CalmPost o.dst V R ds w .normal a w') (CalmPost o.dst V R ds w) r)
    (hK : ∀ v w', (∀ t, o.dst = some t → V w' v) → R w w' → K (a.put o.dst v) w') : o.upon P a K Q r := by
  have put : ∀ v w', CalmPost o.dst V R ds w .normal (ai.put o.dst v) w' → K (a.put o.dst v) w' := by
    intro v w' hp
    refine hK v w' (fun t ht => ?_) hp.2.2
    have h1 := hp.2.1 t ht
    have h2 := hn t ht
    rw [ht] at h1
    simpa [Act.put, h2] using h1
  have hdst : (bare o).dst = o.dst := rfl
  cases r with
  | ok x w' =>
    cases x with
    | value v => exact put v w' h
    | skip => exact put undef w' h
    | defer d =>
      have h1 : ({ ai with defers := d :: ai.defers }.put o.dst undef).defers = ds := h.1
      have h2 : ({ ai with defers := d :: ai.defers }.put o.dst undef).defers = d :: ai.defers := by cases o.dst <;> rfl
      rw [h2, hds] at h1
      exact absurd (congrArg List.length h1) (by simp)
    | enter f args =>
      refine Calls.mono h fun e w'' he => ?_
      cases e with
      | returned v => exact put v w'' he
      | panicked c => exact he.elim
      | outgrown => obtain ⟨_, _, hf⟩ := he; exact hf.elim
    | row f args => exact Rows.mono h fun v w'' he => put v w'' he
    | _ => exact h.elim
  | halt x w' =>
    cases x with
    | panic v => exact (h : False).elim
    | _ => exact (h : False).elim

theorem setAll_size (vs : Nat → Value) : ∀ (l : List (Nat × Nat)) (tm : Array Value), (setAll vs tm l).size = tm.size
  | [], _ => rfl
  | p :: l, tm => by
    show (setAll vs (tm.setIfInBounds p.1 (vs p.2)) l).size = _
    rw [setAll_size vs l]; simp
/-- A slot that no place of the table writes. -/
theorem setAll_not (vs : Nat → Value) (t : Nat) : ∀ (l : List (Nat × Nat)) (tm : Array Value), (∀ p ∈ l, p.1 ≠ t) → (setAll vs tm l)[t]? = tm[t]?
  | [], _, _ => rfl
  | p :: l, tm, h => by
    show (setAll vs (tm.setIfInBounds p.1 (vs p.2)) l)[t]? = _
    rw [setAll_not vs t l _ (fun q hq => h q (by simp [hq])), Array.getElem?_setIfInBounds_ne (h p (by simp))]
/-- A slot that a place of the table writes: all that write it write one value. -/
theorem setAll_yes (vs : Nat → Value) (t : Nat) (v : Value) : ∀ (l : List (Nat × Nat)) (tm : Array Value), (∀ p ∈ l, p.1 = t → vs p.2 = v) → (∃ p ∈ l, p.1 = t) → t < tm.size → (setAll vs tm l)[t]? = some v
  | [], _, _, ⟨_, hp, _⟩, _ => by simp at hp
  | p :: l, tm, h, hex, ht => by
    show (setAll vs (tm.setIfInBounds p.1 (vs p.2)) l)[t]? = _
    by_cases hr : ∃ q ∈ l, q.1 = t
    · exact setAll_yes vs t v l _ (fun q hq => h q (by simp [hq])) hr (by simpa using ht)
    · obtain ⟨q, hq, hqt⟩ := hex
      have hqp : q = p := by
        rcases List.mem_cons.1 hq with e | e
        · exact e
        · exact absurd ⟨q, e, hqt⟩ hr
      subst hqp
      rw [setAll_not vs t l _ (fun q hq e => hr ⟨q, hq, e⟩), hqt, Array.getElem?_setIfInBounds_self_of_lt ht, h q (by simp) hqt]

/-- Operations of which one alone is ready at each step. -/
theorem wpAny_seq {P : Program} {md : Region.Mode} {ops : Array Oper} {Q : Exit → Act → World → Prop} : ∀ (l : List Oper) (k fuel : Nat) (listed : Array Bool) (a : Act) (w : World), l.length ≤ fuel → (∀ j, l[j]? = ops[k + j]?) →
    Region.seqB md ops l.length k listed = true → wpList P ops Q l a w → wpAny P md ops Q fuel listed a w
  | [], _, fuel, _, _, _, _, _, hB, h => wpAny_done (by simpa [Region.seqB] using hB) h fuel
  | o :: l, k, 0, listed, a, w, hf, hl, hB, h => by simp at hf
  | o :: l, k, fuel + 1, listed, a, w, hf, hl, hB, h => by
    have h0 : ops[k]? = some o := by simpa using (hl 0).symm
    simp only [List.length_cons, Region.seqB, Bool.and_eq_true, decide_eq_true_eq] at hB
    refine ⟨fun h1 => (by rw [hB.1] at h1; cases h1), fun i hi => ?_⟩
    rw [hB.1] at hi
    have hik : i = k := by simpa using hi
    subst hik
    have hw : wpOp P ops Q i (wpList P ops Q l) a w := by unfold wpOp; simp only [h0]; exact h
    exact wpOp_mono (fun a' w' h' => wpAny_seq l (i + 1) fuel _ a' w' (by simp at hf; omega) (fun j => by have := hl (j + 1); simpa [Nat.add_assoc, Nat.add_comm 1 j] using this) hB.2 h') hw
/-- How many have not come up. -/
def left (ops : Array Oper) (listed : Array Bool) : Nat := ((List.range ops.size).filter fun j => listed.getD j true == false).length
/-- An invariant that each operation of the head keeps, whichever comes up; behind the head, the tail. -/
theorem wpAny_inv {P : Program} {md : Region.Mode} {ops : Array Oper} {Q : Exit → Act → World → Prop} (I : Array Bool → Act → World → Prop) (m : Nat)
    (hhead : ∀ listed a w i j, I listed a w → i ∈ Region.ready md ops listed → j ∈ Region.ready md ops listed → i < m → j < m)
    (hstep : ∀ listed a w i, I listed a w → i ∈ Region.ready md ops listed → i < m → wpOp P ops Q i (fun a' w' => I (listed.setIfInBounds i true) a' w') a w)
    (hdone : ∀ listed a w fuel, I listed a w → (∀ i ∈ Region.ready md ops listed, ¬ i < m) → left ops listed ≤ fuel → wpAny P md ops Q fuel listed a w) :
    ∀ (fuel : Nat) (listed : Array Bool) (a : Act) (w : World), left ops listed ≤ fuel → I listed a w → wpAny P md ops Q fuel listed a w := by
  intro fuel
  induction fuel with
  | zero =>
    intro listed a w hf hI
    refine hdone _ _ _ _ hI (fun i hi => ?_) hf
    have h1 := (mem_ready.1 hi).1
    obtain ⟨o, ho, _⟩ := (mem_ready.1 hi).2
    have h2 : i ∈ (List.range ops.size).filter fun j => listed.getD j true == false :=
      List.mem_filter.2 ⟨List.mem_range.2 (Array.getElem?_eq_some_iff.1 ho).1, by simpa using h1⟩
    have := List.length_pos_of_mem h2
    unfold left at hf
    omega
  | succ fuel ih =>
    intro listed a w hf hI
    by_cases hex : ∃ i ∈ Region.ready md ops listed, i < m
    case neg => exact hdone _ _ _ _ hI (fun i hi h => hex ⟨i, hi, h⟩) hf
    obtain ⟨i0, hi0, hlt0⟩ := hex
    refine ⟨fun hnil => (by rw [hnil] at hi0; cases hi0), fun i hi => ?_⟩
    refine wpOp_mono (fun a' w' h => ih _ a' w' ?_ h) (hstep listed a w i hI hi (hhead listed a w i0 i hI hi0 hi hlt0))
    have h1 := (mem_ready.1 hi).1
    obtain ⟨o, ho, _⟩ := (mem_ready.1 hi).2
    have hlt := (Array.getElem?_eq_some_iff.1 ho).1
    have e : ((List.range ops.size).filter fun j => (listed.setIfInBounds i true).getD j true == false) = ((List.range ops.size).filter fun j => listed.getD j true == false).filter fun j => j != i := by
      rw [List.filter_filter]
      apply List.filter_congr
      intro j hj
      by_cases hji : j = i
      · subst hji
        have : (listed.setIfInBounds j true).getD j true = true := by
          rcases Nat.lt_or_ge j listed.size with h | h
          · simp [h]
          · simp
        simp only [this]
        simp
      · rw [getD_set_ne true (Ne.symm hji)]; simp [hji]
    unfold left at hf ⊢
    rw [e]
    have hmem : i ∈ (List.range ops.size).filter fun j => listed.getD j true == false := List.mem_filter.2 ⟨List.mem_range.2 hlt, by simpa using h1⟩
    have := (List.length_filter_lt_length_iff_exists (p := fun j => j != i)).2 ⟨i, hmem, by simp⟩
    omega

/-- What holds while a region runs: of what has come up, the value as told; all else as it was. -/
def CalmInv (l : List Oper) (m : Nat) (a : Act) (w : World) (R : World → World → Prop) (Vs : List (World → Value → Prop)) (listed : Array Bool) (b : Act) (w' : World) : Prop :=
  listed.size = l.toArray.size ∧ (∀ j, listed.getD j false = true → j < m) ∧ R w w' ∧ b.defers = a.defers ∧ b.tmps.size = a.tmps.size ∧
  (∀ (j : Nat) (q : Oper), l.toArray[j]? = some q → listed.getD j false = true → ∀ e ∈ q.after, Region.binds .any e = true → listed.getD e.on false = true) ∧ ∃ vs : Nat → Value,
  (∀ (j : Nat) (o : Oper) (t : Tmp), l.toArray[j]? = some o → listed.getD j false = true → o.dst = some t → VAt Vs j w' (vs j) ∧ b.tmps[t]? = some (vs j)) ∧
  (∀ t, (∀ (j : Nat) (o : Oper), l.toArray[j]? = some o → listed.getD j false = true → o.dst ≠ some t) → b.tmps[t]? = a.tmps[t]?)

/-- THE LAW: the first m operations in whatever order, then the others, in the text's order. -/
theorem wp_region_calm {P : Program} {id : Nat} {l : List Oper} {Q : Exit → Act → World → Prop} {a : Act} {w : World} (R : World → World → Prop) (m : Nat)
    (cs : List (List (Nat × Nat))) (fin : List (Nat × Nat)) (Vs : List (World → Value → Prop))
    (hm : P.follows .mixedOrders = true) (hB : calmB l.toArray a.tmps.size m cs fin = true)
    (hrefl : ∀ w, R w w) (htrans : ∀ a b c, R a b → R b c → R a c) (hdrew : ∀ w : World, R w w.drew)
    (hmono : ∀ i w w' v, R w w' → VAt Vs i w v → VAt Vs i w' v)
    (hops : ∀ vs : Nat → Value, CalmOps P R w a Vs vs 0 (l.take m) cs)
    (hdone : ∀ (vs : Nat → Value) (w' : World), R w w' → Look Vs vs w' fin → wpList P l.toArray Q (l.drop m) ⟨setAll vs a.tmps fin, a.defers⟩ w') :
    (Code.region id l.toArray true).wp P Q a w := by
  have F := calmB_fits hB
  refine wp_region_any hm ?_
  have up : ∀ {listed : Array Bool} {j : Nat}, listed.getD j false = true → listed.getD j true = true := by
    intro listed j hl
    rcases Nat.lt_or_ge j listed.size with h' | h'
    · simp [h'] at hl ⊢; exact hl
    · simp [Array.getElem?_eq_none h'] at hl
  -- what is ready behind the head waits for the whole head
  have hsinkAll : ∀ {listed : Array Bool} {b : Act} {w' : World} {j : Nat}, CalmInv l m a w R Vs listed b w' → j ∈ Region.ready .any l.toArray listed → ¬ j < m → ∀ i, i < m → listed.getD i false = true := by
    intro listed b w' j hI hj hjm
    obtain ⟨hsz, htl, _, _, _, hcl, _⟩ := hI
    obtain ⟨hun, o, ho, hdeps⟩ := mem_ready.1 hj
    have hjlt := (Array.getElem?_eq_some_iff.1 ho).1
    have hjm' : j = m := by
      rcases Nat.lt_or_ge m j with h | h
      · have h1 := List.all_eq_true.1 F.chain j (List.mem_range.2 hjlt)
        rw [Bool.or_eq_true] at h1
        rcases h1 with h1 | h1
        · have : j ≤ m := by simpa using h1
          omega
        · obtain ⟨oj, hoj, e, he, hb, heq⟩ := Region.waitsFor_spec h1
          rw [ho] at hoj; cases hoj
          have h2 := htl _ (hdeps e he hb)
          omega
      · omega
    subst hjm'
    have hsink := F.sink.resolve_left (by omega)
    have key : ∀ d i, i < j → j - i ≤ d → listed.getD i false = true := by
      intro d
      induction d with
      | zero => intro i hi hd; omega
      | succ d ih =>
        intro i hi hd
        have h1 := List.all_eq_true.1 hsink i (List.mem_range.2 hi)
        obtain ⟨k, hk, h2⟩ := List.any_eq_true.1 h1
        rw [Bool.and_eq_true] at h2
        have hik : i < k := by simpa using h2.1
        have hkj : k < j + 1 := List.mem_range.1 hk
        obtain ⟨ok, hok, e, he, hb, heq⟩ := Region.waitsFor_spec h2.2
        rcases Nat.lt_or_ge k j with h3 | h3
        · have := hcl k ok hok (ih k h3 (by omega)) e he hb
          rw [heq] at this; exact this
        · have hkj : k = j := by omega
          subst hkj
          rw [ho] at hok; cases hok
          have := hdeps e he hb
          rw [heq] at this; exact this
    exact fun i hi => key (j - i) i hi (Nat.le_refl _)
  refine wpAny_inv (CalmInv l m a w R Vs) m ?_ ?_ ?_ _ _ _ _ ?_ ?_
  · intro listed b w1 i j hI hi hj him
    refine Nat.lt_of_not_le fun hjm => ?_
    have h1 := up (hsinkAll hI hj (by omega) i him)
    rw [(mem_ready.1 hi).1] at h1
    cases h1
  · rintro listed b w1 i ⟨hsz, htl, hR, hdf, hbs, hcl, vs, hv1, hv2⟩ hi him
    obtain ⟨hun, o, ho, hdeps⟩ := mem_ready.1 hi
    have hilt : i < listed.size := by rw [hsz]; exact (Array.getElem?_eq_some_iff.1 ho).1
    have hop : CalmOp P R w a Vs vs (0 + i) o (cs.getD i []) := CalmOps.at (hops vs) i o (by rw [List.getElem?_take_of_lt him]; simpa using ho)
    rw [Nat.zero_add] at hop
    have hlist : ∀ p ∈ cs.getD i [], ∃ q, l.toArray[p.2]? = some q ∧ q.dst = some p.1 ∧ listed.getD p.2 false = true := by
      intro p hp
      obtain ⟨⟨q, hq, hqd⟩, e, he, hb, heq⟩ := F.cert i o him ho p hp
      exact ⟨q, hq, hqd, heq ▸ hdeps e he hb⟩
    have hlook : Look Vs vs w1 (cs.getD i []) := Look.mem fun p hp => by
      obtain ⟨q, hq, hqd, hl⟩ := hlist p hp
      exact (hv1 p.2 q p.1 hq hl hqd).1
    have hG := hop w1 hR hlook
    -- a slot that the operation looks at
    have hslot : ∀ t ∈ o.looksAt l.toArray, b.tmps[t]? = (setAll vs a.tmps (cs.getD i []))[t]? := by
      intro t ht
      by_cases hc : ∃ p ∈ cs.getD i [], p.1 = t
      · obtain ⟨p, hp, hpt⟩ := hc
        obtain ⟨q, hq, hqd, hl⟩ := hlist p hp
        have hlt : t < a.tmps.size := F.lt p.2 q t (htl _ hl) hq (hpt ▸ hqd)
        rw [(hv1 p.2 q t hq hl (hpt ▸ hqd)).2]
        refine (setAll_yes vs t (vs p.2) _ _ (fun p' hp' hpt' => ?_) ⟨p, hp, hpt⟩ hlt).symm
        obtain ⟨q', hq', hqd', hl'⟩ := hlist p' hp'
        rw [F.one p'.2 p.2 q' q t (htl _ hl') (htl _ hl) hq' hq (hpt' ▸ hqd') (hpt ▸ hqd)]
      · have hn := (F.look i o him ho t ht).resolve_left hc
        rw [setAll_not vs t _ _ (fun p hp e => hc ⟨p, hp, e⟩)]
        refine hv2 t fun j q hq hl hqd => ?_
        by_cases hji : j = i
        · subst hji
          have h1 := up hl
          rw [hun] at h1; cases h1
        · obtain ⟨e, he, hb, hei⟩ := hn j q (htl _ hl) hq hji hqd
          have h1 := up (hcl j q hq hl e he hb)
          rw [hei, hun] at h1; cases h1
    -- behind the operation
    have next : ∀ v w2, (∀ t, o.dst = some t → VAt Vs i w2 v) → R w1 w2 → CalmInv l m a w R Vs (listed.setIfInBounds i true) (b.put o.dst v) w2 := by
      intro v w2 hV hR2
      have hdf2 : (b.put o.dst v).defers = b.defers := by cases o.dst <;> rfl
      have hsz2 : (b.put o.dst v).tmps.size = b.tmps.size := by cases o.dst <;> simp [Act.put]
      refine ⟨by simpa using hsz, fun j hl => ?_, htrans _ _ _ hR hR2, hdf2.trans hdf, hsz2.trans hbs, ?_, fun j => if j = i then v else vs j, ?_, ?_⟩
      · by_cases hji : j = i
        · subst hji; exact him
        · rw [getD_set_ne false (Ne.symm hji)] at hl; exact htl j hl
      · intro j q hq hl e he hb
        by_cases hji : j = i
        · subst hji
          rw [ho] at hq; cases hq
          exact getD_set_true (hdeps e he hb)
        · rw [getD_set_ne false (Ne.symm hji)] at hl
          exact getD_set_true (hcl j q hq hl e he hb)
      · intro j q t hq hl hqd
        by_cases hji : j = i
        · subst hji
          rw [ho] at hq; cases hq
          simp only [↓reduceIte]
          refine ⟨hV t hqd, ?_⟩
          have hlt := F.lt j o t him ho hqd
          rw [hqd]
          simp [Act.put, hbs, hlt]
        · simp only [if_neg hji]
          rw [getD_set_ne false (Ne.symm hji)] at hl
          obtain ⟨h1, h2⟩ := hv1 j q t hq hl hqd
          refine ⟨hmono _ _ _ _ hR2 h1, ?_⟩
          cases hod : o.dst with
          | none => exact h2
          | some d =>
            have hdt : d ≠ t := fun e => hji (F.one j i q o t (htl _ hl) him hq ho hqd (e ▸ hod))
            simp [Act.put, Array.getElem?_setIfInBounds_ne hdt, h2]
      · intro t ht
        have hot : o.dst ≠ some t := ht i o ho (by simp [hilt])
        have h1 : b.tmps[t]? = a.tmps[t]? := hv2 t fun j q hq hl hqd => ht j q hq (getD_set_true hl) hqd
        cases hod : o.dst with
        | none => exact h1
        | some d =>
          have hdt : d ≠ t := fun e => hot (e ▸ hod)
          simp [Act.put, Array.getElem?_setIfInBounds_ne hdt, h1]
    -- the operation alone
    have run : wpList P #[] (CalmPost o.dst (VAt Vs i) R a.defers w1) [bare o] ⟨setAll vs a.tmps (cs.getD i []), a.defers⟩ w1 →
        o.wp P b w1 (fun a' w' => CalmInv l m a w R Vs (listed.setIfInBounds i true) a' w') Q := by
      intro h
      have h1 : (bare o).wp P ⟨setAll vs a.tmps (cs.getD i []), a.defers⟩ w1 (fun b' w' => CalmPost o.dst (VAt Vs i) R a.defers w1 .normal b' w') (CalmPost o.dst (VAt Vs i) R a.defers w1) := by
        unfold wpList at h
        rw [if_pos (by rfl)] at h
        rcases h with h | ⟨_, _, _, h⟩
        · exact Oper.wp_mono (fun b' w' q => by unfold wpList at q; exact q) h
        · exact (h : False).elim
      have he : execOp (Act.eval ⟨setAll vs a.tmps (cs.getD i []), a.defers⟩) (bare o) = execOp b.eval o := by
        rw [execOp_bare]
        refine (execOp_congr o (fun c d => Region.noSelect_spec F.sel i o c d ho) fun x hx => ?_).symm
        cases x with
        | tmp t =>
          have := hslot t (looksAt_operand hx)
          simp [Act.eval, Array.getD_eq_getD_getElem?, this]
        | _ => rfl
      unfold Oper.wp at h1 ⊢
      rw [he] at h1
      exact upon_calm (ai := ⟨setAll vs a.tmps (cs.getD i []), a.defers⟩) (ds := a.defers) (fun d hd => by rw [setAll_size]; exact F.lt i o d him ho hd) rfl h1 next
    have skip : VAt Vs i w1 undef → CalmInv l m a w R Vs (listed.setIfInBounds i true) (b.put o.dst undef) w1 := fun hv => next undef w1 (fun _ _ => hv) (hrefl _)
    unfold wpOp
    simp only [ho]
    cases hg : o.guard with
    | none =>
      rw [hg] at hG
      rw [if_pos (by simp [Region.wanted, hg])]
      exact .inl (run hG)
    | some gb =>
      obtain ⟨g, bb⟩ := gb
      rw [hg] at hG
      obtain ⟨p, hp, hpg⟩ := F.guard i o g bb him ho hg
      obtain ⟨q, hq, hqd, hl⟩ := hlist p hp
      have hval := (hv1 p.2 q p.1 hq hl hqd).2
      rw [hpg] at hq hval
      have hy : yielded l.toArray b.tmps g = match vs g with | .bool b => some b | _ => none := by
        unfold yielded
        rw [hq]
        simp only [Option.bind_some, hqd, hval]
        cases vs g <;> rfl
      by_cases hvg : vs g = .bool bb
      · rw [if_pos (by rw [hvg] at hy; simp [Region.wanted, hg, hy])]
        exact .inl (run (hG.1 hvg))
      · have hno : ¬ Region.wanted o (yielded l.toArray b.tmps) = true := by
          simp only [Region.wanted, hg, hy, beq_iff_eq]
          intro e
          cases hv : vs g <;> rw [hv] at e hvg <;> simp at e
          exact hvg (by rw [e])
        rw [if_neg hno]
        exact skip (hG.2 hvg)
  · rintro listed b w1 fuel ⟨hsz, htl, hR, hdf, hbs, hcl, vs, hv1, hv2⟩ hno hfuel
    -- the head has come up
    have hall : ∀ (n j : Nat), j < n → j < m → listed.getD j false = true := by
      intro n
      induction n with
      | zero => intro j hj; omega
      | succ n ih =>
        intro j hj hjm
        have hjs : j < l.toArray.size := Nat.lt_of_lt_of_le hjm F.le
        have ho : l.toArray[j]? = some l.toArray[j] := Array.getElem?_eq_getElem hjs
        cases hb : listed.getD j false with
        | true => rfl
        | false =>
          have hjlt : j < listed.size := by rw [hsz]; exact hjs
          have : j ∈ Region.ready .any l.toArray listed := mem_ready.2 ⟨by simp [hjlt] at hb ⊢; exact hb, _, ho, fun e he hb' => by
            have hlt := F.back j _ hjm ho e he hb'
            exact ih e.on (by omega) (by omega)⟩
          exact absurd hjm (hno j this)
    have hlisted : ∀ j, j < m → listed.getD j false = true := fun j hj => hall (j + 1) j (by omega) hj
    have hfin : b = ⟨setAll vs a.tmps fin, a.defers⟩ := by
      have ht : b.tmps = setAll vs a.tmps fin := by
        apply Array.ext_getElem?
        intro t
        by_cases hw : ∃ p ∈ fin, p.1 = t
        · obtain ⟨p, hp, hpt⟩ := hw
          obtain ⟨hpm, q, hq, hqd⟩ := F.fin1 p hp
          rw [(hv1 p.2 q t hq (hlisted _ hpm) (hpt ▸ hqd)).2]
          refine (setAll_yes vs t (vs p.2) _ _ (fun p' hp' hpt' => ?_) ⟨p, hp, hpt⟩ (F.lt p.2 q t hpm hq (hpt ▸ hqd))).symm
          obtain ⟨hpm', q', hq', hqd'⟩ := F.fin1 p' hp'
          rw [F.one p'.2 p.2 q' q t hpm' hpm hq' hq (hpt' ▸ hqd') (hpt ▸ hqd)]
        · rw [setAll_not vs t _ _ (fun p hp e => hw ⟨p, hp, e⟩)]
          exact hv2 t fun j o ho hl hod => hw ⟨(t, j), F.fin2 j o t (htl _ hl) ho hod, rfl⟩
      cases b
      simp only at ht hdf
      rw [ht, hdf]
    have hlist0 : listed = headListed l.toArray m := by
      apply Array.ext
      · rw [hsz]; simp [headListed]
      · intro j h1 h2
        have e1 : (headListed l.toArray m)[j] = decide (j < m) := by simp [headListed]
        rw [e1]
        by_cases hjm : j < m
        · have := hlisted j hjm
          simp [h1] at this
          rw [this]; simp [hjm]
        · have : listed[j] ≠ true := fun e => hjm (htl j (by simp [h1, e]))
          simp [hjm, this]
    have hcount : (l.drop m).length ≤ left l.toArray listed := by
      have hsub : ((List.range l.toArray.size).drop m).length ≤ left l.toArray listed := by
        unfold left
        have : (List.range l.toArray.size).drop m = ((List.range l.toArray.size).drop m).filter fun j => listed.getD j true == false := by
          rw [List.filter_eq_self.2]
          intro j hj
          obtain ⟨k, hk, rfl⟩ := List.mem_iff_getElem.1 hj
          have hlt : m + k < l.toArray.size := by simp at hk ⊢; omega
          have hun : listed.getD (m + k) false ≠ true := fun e => by have := htl _ e; omega
          have hlt' : m + k < listed.size := by rw [hsz]; exact hlt
          simp [hlt'] at hun ⊢
          exact hun
        rw [this]
        conv => rhs; rw [← List.take_append_drop m (List.range l.toArray.size), List.filter_append, List.length_append]
        omega
      simpa using hsub
    rw [hfin, hlist0]
    rw [hlist0] at hcount hfuel
    refine wpAny_seq (l.drop m) m fuel _ _ _ (Nat.le_trans hcount hfuel) (fun j => by simp) (by simpa using F.seq) ?_
    refine hdone vs w1 hR (Look.mem fun p hp => ?_)
    obtain ⟨hpm, q, hq, hqd⟩ := F.fin1 p hp
    exact (hv1 p.2 q p.1 hq (hlisted _ hpm) hqd).1
  · unfold left
    exact Nat.le_trans (List.length_filter_le _ _) (by simp)
  · have hf : ∀ j, (Array.replicate l.toArray.size false).getD j false = false := by
      intro j
      simp [Array.getD]
    refine ⟨by simp, fun j hl => ?_, hdrew w, rfl, rfl, fun j q _ hl => ?_, fun _ => undef, fun j o t _ hl => ?_, fun t _ => rfl⟩
    · rw [hf] at hl; cases hl
    · rw [hf] at hl; cases hl
    · rw [hf] at hl; cases hl

/-- The world has only drawn. -/
def DrewR (w w' : World) : Prop := ∃ n, w' = w.drewN n
theorem DrewR.refl (w : World) : DrewR w w := ⟨0, rfl⟩
theorem DrewR.trans (a b c : World) (h : DrewR a b) (k : DrewR b c) : DrewR a c := by
  obtain ⟨n, rfl⟩ := h
  obtain ⟨m, rfl⟩ := k
  exact ⟨n + m, World.drewN_drewN ..⟩
theorem DrewR.drew (w : World) : DrewR w w.drew := ⟨1, rfl⟩
/-- Each of the words holds on as the world goes on. -/
def MonoL (R : World → World → Prop) (Vs : List (World → Value → Prop)) : Prop := ∀ V ∈ Vs, ∀ w w' v, R w w' → V w v → V w' v
theorem MonoL.nil {R : World → World → Prop} : MonoL R [] := fun V h => by simp at h
theorem MonoL.eq {R : World → World → Prop} {Vs : List (World → Value → Prop)} (e : Value) (h : MonoL R Vs) : MonoL R (EqV e :: Vs) := fun V hV w w' v hR => by
  rcases List.mem_cons.1 hV with rfl | hV
  · exact fun h => h
  · exact h V hV w w' v hR
theorem MonoL.cons {R : World → World → Prop} {V : World → Value → Prop} {Vs : List (World → Value → Prop)} (hV : ∀ w w' v, R w w' → V w v → V w' v) (h : MonoL R Vs) : MonoL R (V :: Vs) := fun U hU => by
  rcases List.mem_cons.1 hU with rfl | hU
  · exact hV
  · exact h U hU
theorem MonoL.at {R : World → World → Prop} {Vs : List (World → Value → Prop)} (h : MonoL R Vs) (i : Nat) (w w' : World) (v : Value) (hR : R w w') : VAt Vs i w v → VAt Vs i w' v := by
  unfold VAt
  intro hv
  rcases Nat.lt_or_ge i Vs.length with hi | hi
  · rw [List.getD_eq_getElem?_getD, List.getElem?_eq_getElem hi] at hv ⊢
    exact h _ (List.getElem_mem hi) w w' v hR hv
  · rw [List.getD_eq_getElem?_getD, List.getElem?_eq_none hi]; trivial
theorem CalmPost.mk {t : Nat} {V : World → Value → Prop} {R : World → World → Prop} {ds : List Deferred} {w w' : World} {tm : Array Value} {v : Value}
    (hv : tm.getD t undef = v) (hV : V w' v) (hR : R w w') : CalmPost (some t) V R ds w .normal ⟨tm, ds⟩ w' := ⟨rfl, fun t' ht => by cases ht; rw [hv]; exact hV, hR⟩
theorem CalmOps.cons {P : Program} {R : World → World → Prop} {w0 : World} {a0 : Act} {Vs : List (World → Value → Prop)} {vs : Nat → Value} {i : Nat} {o : Oper} {os : List Oper} {c : List (Nat × Nat)} {cs : List (List (Nat × Nat))}
    (h : CalmOp P R w0 a0 Vs vs i o c) (hs : CalmOps P R w0 a0 Vs vs (i + 1) os cs) : CalmOps P R w0 a0 Vs vs i (o :: os) (c :: cs) := ⟨h, hs⟩

end Go.Proofs.Ytjphmjegfpdbeaa
