/- wp_region_calm with one pure operation taken first. No condition. -/
import Derived.Test.YtdjkcolceccclaaCalm
namespace Go.Proofs.Ytdjkcolceccclaa
open Go.RowKit
set_option linter.unusedSimpArgs false
set_option linter.unusedVariables false
/-- The table of what each operation looks at (slot, place of the operation that wrote it) fits the region. -/
def calmSB (sk : Nat) (ops : Array Oper) (n m : Nat) (cs : List (List (Nat × Nat))) (fin : List (Nat × Nat)) : Bool :=
  Region.noSelect ops &&
  decide (m ≤ ops.size) && (decide (m = ops.size) || (List.range m).all fun i => i == sk || (List.range (m + 1)).any fun j => decide (i < j) && Region.waitsFor .any ops j i) && Region.chainB .any ops m && Region.seqB .any ops (ops.size - m) m (headListed ops m) &&
  fin.all (fun p => decide (p.2 < m) && match ops[p.2]? with | some q => q.dst == some p.1 | none => false) &&
  (List.range m).all (fun i => match ops[i]? with
    | none => false
    | some o =>
      (match o.dst with
        | some d => decide (d < n) && fin.contains (d, i) && (List.range i).all (fun j => match ops[j]? with | some p => p.dst != some d | none => true)
        | none => true) &&
      o.after.all (fun e => !Region.binds .any e || decide (e.on < i)) &&
      (cs.getD i []).all (fun p => (match ops[p.2]? with | some q => q.dst == some p.1 | none => false) && o.after.any (fun e => Region.binds .any e && e.on == p.2)) &&
      (match o.guard with
        | some (g, _) => (cs.getD i []).any (fun p => p.2 == g)
        | none => true) &&
      (o.looksAt ops).all (fun t => (cs.getD i []).any (fun p => p.1 == t) ||
        (List.range m).all (fun j => j == i || match ops[j]? with | some q => q.dst != some t || q.after.any (fun e => Region.binds .any e && e.on == i) | none => true)))

structure CalmSFits (sk : Nat) (ops : Array Oper) (n m : Nat) (cs : List (List (Nat × Nat))) (fin : List (Nat × Nat)) : Prop where
  sel : Region.noSelect ops = true
  le : m ≤ ops.size
  sink : m = ops.size ∨ ((List.range m).all fun i => i == sk || (List.range (m + 1)).any fun j => decide (i < j) && Region.waitsFor .any ops j i) = true
  chain : Region.chainB .any ops m = true
  seq : Region.seqB .any ops (ops.size - m) m (headListed ops m) = true
  fin1 : ∀ p ∈ fin, p.2 < m ∧ ∃ q : Oper, ops[p.2]? = some q ∧ q.dst = some p.1
  fin2 : ∀ (i : Nat) (o : Oper) (d : Tmp), i < m → ops[i]? = some o → o.dst = some d → (d, i) ∈ fin
  lt : ∀ (i : Nat) (o : Oper) (d : Tmp), i < m → ops[i]? = some o → o.dst = some d → d < n
  one : ∀ (i j : Nat) (o p : Oper) (d : Tmp), i < m → j < m → ops[i]? = some o → ops[j]? = some p → o.dst = some d → p.dst = some d → i = j
  back : ∀ (i : Nat) (o : Oper), i < m → ops[i]? = some o → ∀ e ∈ o.after, Region.binds .any e = true → e.on < i
  cert : ∀ (i : Nat) (o : Oper), i < m → ops[i]? = some o → ∀ p ∈ cs.getD i [], (∃ q : Oper, ops[p.2]? = some q ∧ q.dst = some p.1) ∧ ∃ e ∈ o.after, Region.binds .any e = true ∧ e.on = p.2
  guard : ∀ (i : Nat) (o : Oper) (g : Nat) (b : Bool), i < m → ops[i]? = some o → o.guard = some (g, b) → ∃ p ∈ cs.getD i [], p.2 = g
  look : ∀ (i : Nat) (o : Oper), i < m → ops[i]? = some o → ∀ t ∈ o.looksAt ops, (∃ p ∈ cs.getD i [], p.1 = t) ∨ ∀ (j : Nat) (q : Oper), j < m → ops[j]? = some q → j ≠ i → q.dst = some t → ∃ e ∈ q.after, Region.binds .any e = true ∧ e.on = i

theorem calmSB_fits {sk : Nat} {ops : Array Oper} {n m : Nat} {cs : List (List (Nat × Nat))} {fin : List (Nat × Nat)} (h : calmSB sk ops n m cs fin = true) : CalmSFits sk ops n m cs fin := by
  unfold calmSB at h
  rw [Bool.and_eq_true, Bool.and_eq_true, Bool.and_eq_true, Bool.and_eq_true, Bool.and_eq_true, Bool.and_eq_true, Bool.or_eq_true] at h
  obtain ⟨⟨⟨⟨⟨⟨hsel, hle⟩, hsink⟩, hchain⟩, hseq⟩, hfin⟩, hall⟩ := h
  simp only [Bool.and_eq_true, List.all_eq_true, List.mem_range, decide_eq_true_eq] at hle hfin hall
  rw [decide_eq_true_eq] at hsink
  have ha : ∀ i o, i < m → ops[i]? = some o →
      ((((match o.dst with
        | some d => decide (d < n) && fin.contains (d, i) && (List.range i).all (fun j => match ops[j]? with | some p => p.dst != some d | none => true)
        | none => true) = true ∧
      o.after.all (fun e => !Region.binds .any e || decide (e.on < i)) = true) ∧
      (cs.getD i []).all (fun p => (match ops[p.2]? with | some q => q.dst == some p.1 | none => false) && o.after.any (fun e => Region.binds .any e && e.on == p.2)) = true) ∧
      (match o.guard with
        | some (g, _) => (cs.getD i []).any (fun p => p.2 == g)
        | none => true) = true) ∧
      (o.looksAt ops).all (fun t => (cs.getD i []).any (fun p => p.1 == t) ||
        (List.range m).all (fun j => j == i || match ops[j]? with | some q => q.dst != some t || q.after.any (fun e => Region.binds .any e && e.on == i) | none => true)) = true := by
    intro i o him hi
    have := hall i him
    rw [hi] at this
    simpa only [Bool.and_eq_true] using this
  have hone : ∀ (i j : Nat) (o p : Oper) (d : Tmp), i < m → ops[i]? = some o → ops[j]? = some p → o.dst = some d → p.dst = some d → ¬ j < i := by
    intro i j o p d him hi hj ho hp hlt
    have h1 := (ha i o him hi).1.1.1.1
    rw [ho] at h1
    simp only [Bool.and_eq_true, List.all_eq_true, List.mem_range] at h1
    have h2 := h1.2 j hlt
    rw [hj] at h2
    simp [hp] at h2
  refine ⟨hsel, hle, hsink, hchain, hseq, ?_, ?_, ?_, ?_, ?_, ?_, ?_, ?_⟩
  · intro p hp
    have := hfin p hp
    refine ⟨this.1, ?_⟩
    have := this.2
    cases hq : ops[p.2]? with
    | none => rw [hq] at this; simp at this
    | some q => rw [hq] at this; exact ⟨q, rfl, by simpa using this⟩
  · intro i o d him hi ho
    have h1 := (ha i o him hi).1.1.1.1
    rw [ho] at h1
    simp only [Bool.and_eq_true] at h1
    simpa using h1.1.2
  · intro i o d him hi ho
    have h1 := (ha i o him hi).1.1.1.1
    rw [ho] at h1
    simp only [Bool.and_eq_true] at h1
    simpa using h1.1.1
  · intro i j o p d him hjm hi hj ho hp
    have h1 := hone i j o p d him hi hj ho hp
    have h2 := hone j i p o d hjm hj hi hp ho
    omega
  · intro i o him hi e he hb
    have h1 := (ha i o him hi).1.1.1.2
    rw [Array.all_eq_true_iff_forall_mem] at h1
    simpa [hb] using h1 e he
  · intro i o him hi p hp
    have h1 := (ha i o him hi).1.1.2
    rw [List.all_eq_true] at h1
    have h2 := h1 p hp
    rw [Bool.and_eq_true] at h2
    refine ⟨?_, ?_⟩
    · have h3 := h2.1
      cases hq : ops[p.2]? with
      | none => rw [hq] at h3; simp at h3
      | some q => rw [hq] at h3; exact ⟨q, rfl, by simpa using h3⟩
    · obtain ⟨e, he, hb⟩ := Array.any_eq_true'.1 h2.2
      simp only [Bool.and_eq_true, beq_iff_eq] at hb
      exact ⟨e, he, hb⟩
  · intro i o g b him hi hg
    have h1 := (ha i o him hi).1.2
    rw [hg] at h1
    obtain ⟨p, hp, hpg⟩ := List.any_eq_true.1 h1
    exact ⟨p, hp, by simpa using hpg⟩
  · intro i o him hi t ht
    have h1 := (ha i o him hi).2
    rw [List.all_eq_true] at h1
    have h2 := h1 t ht
    rw [Bool.or_eq_true] at h2
    rcases h2 with h2 | h2
    · obtain ⟨p, hp, hpt⟩ := List.any_eq_true.1 h2
      exact .inl ⟨p, hp, by simpa using hpt⟩
    · refine .inr fun j q hjm hj hji hq => ?_
      rw [List.all_eq_true] at h2
      have h3 := h2 j (List.mem_range.2 hjm)
      rw [hj] at h3
      simp only [Bool.or_eq_true, beq_iff_eq, hji, false_or, hq, bne_self_eq_false, Bool.false_eq_true] at h3
      obtain ⟨e, he, hb⟩ := Array.any_eq_true'.1 h3
      simp only [Bool.and_eq_true, beq_iff_eq] at hb
      exact ⟨e, he, hb⟩

/-- THE LAW: the first m operations in whatever order, then the others, in the text's order. -/
theorem wp_region_calmS {P : Program} {id : Nat} {o1 : Oper} {v1 : Value} {l : List Oper} {Q : Exit → Act → World → Prop} {a : Act} {w : World} (sk : Nat) (R : World → World → Prop) (m : Nat)
    (cs : List (List (Nat × Nat))) (fin : List (Nat × Nat)) (Vs : List (World → Value → Prop))
    (hm : P.follows .mixedOrders = true) (hB : calmSB sk l.toArray a.tmps.size m cs fin = true)
    (hskm : sk < m) (hi1 : l.toArray[sk]? = some o1) (hf1 : Region.free .any l.toArray (Array.replicate l.toArray.size false) sk = true) (hr1 : (Region.ready .any l.toArray (Array.replicate l.toArray.size false)).contains sk = true)
    (hQ : ∀ c b u, Q (.panic c) (b.put o1.dst v1) u → Q (.panic c) b u) (hy : Yields P l.toArray o1 v1 a) (hvv1 : ∀ u, VAt Vs sk u v1)
    (hrefl : ∀ w, R w w) (htrans : ∀ a b c, R a b → R b c → R a c) (hdrew : ∀ w : World, R w w.drew)
    (hmono : ∀ i w w' v, R w w' → VAt Vs i w v → VAt Vs i w' v)
    (hops : ∀ vs : Nat → Value, CalmOps P R w a Vs vs 0 (l.take m) cs)
    (hdone : ∀ (vs : Nat → Value) (w' : World), R w w' → Look Vs vs w' fin → wpList P l.toArray Q (l.drop m) ⟨setAll vs a.tmps fin, a.defers⟩ w') :
    (Code.region id l.toArray true).wp P Q a w := by
  have F := calmSB_fits hB
  refine wp_region_any hm ?_
  have hpos : 0 < l.toArray.size := Nat.lt_of_lt_of_le (Nat.lt_of_le_of_lt (Nat.zero_le _) hskm) F.le
  suffices hgo : wpAny P .any l.toArray Q (l.toArray.size - 1) ((Array.replicate l.toArray.size false).setIfInBounds sk true) (a.put o1.dst v1) w.drew by
    have h := wpAny_take hi1 F.sel hf1 hr1 hQ hy hgo
    rwa [Nat.sub_add_cancel hpos] at h
  have up : ∀ {listed : Array Bool} {j : Nat}, listed.getD j false = true → listed.getD j true = true := by
    intro listed j hl
    rcases Nat.lt_or_ge j listed.size with h' | h'
    · simp [h'] at hl ⊢; exact hl
    · simp [Array.getElem?_eq_none h'] at hl
  -- what is ready behind the head waits for the whole head
  have hsinkAll : ∀ {listed : Array Bool} {b : Act} {w' : World} {j : Nat}, CalmInv l m a w R Vs listed b w' → listed.getD sk false = true → j ∈ Region.ready .any l.toArray listed → ¬ j < m → ∀ i, i < m → listed.getD i false = true := by
    intro listed b w' j hI hsk hj hjm
    obtain ⟨hsz, htl, _, _, _, hcl, _⟩ := hI
    obtain ⟨hun, o, ho, hdeps⟩ := mem_ready.1 hj
    have hjlt := (Array.getElem?_eq_some_iff.1 ho).1
    have hjm' : j = m := by
      rcases Nat.lt_or_ge m j with h | h
      · have h1 := List.all_eq_true.1 F.chain j (List.mem_range.2 hjlt)
        rw [Bool.or_eq_true] at h1
        rcases h1 with h1 | h1
        · have : j ≤ m := by simpa using h1
          omega
        · obtain ⟨oj, hoj, e, he, hb, heq⟩ := Region.waitsFor_spec h1
          rw [ho] at hoj; cases hoj
          have h2 := htl _ (hdeps e he hb)
          omega
      · omega
    subst hjm'
    have hsink := F.sink.resolve_left (by omega)
    have key : ∀ d i, i < j → j - i ≤ d → listed.getD i false = true := by
      intro d
      induction d with
      | zero => intro i hi hd; omega
      | succ d ih =>
        intro i hi hd
        have h1 := List.all_eq_true.1 hsink i (List.mem_range.2 hi)
        rw [Bool.or_eq_true] at h1
        rcases h1 with h1 | h1
        · rw [beq_iff_eq] at h1; rw [h1]; exact hsk
        obtain ⟨k, hk, h2⟩ := List.any_eq_true.1 h1
        rw [Bool.and_eq_true] at h2
        have hik : i < k := by simpa using h2.1
        have hkj : k < j + 1 := List.mem_range.1 hk
        obtain ⟨ok, hok, e, he, hb, heq⟩ := Region.waitsFor_spec h2.2
        rcases Nat.lt_or_ge k j with h3 | h3
        · have := hcl k ok hok (ih k h3 (by omega)) e he hb
          rw [heq] at this; exact this
        · have hkj : k = j := by omega
          subst hkj
          rw [ho] at hok; cases hok
          have := hdeps e he hb
          rw [heq] at this; exact this
    exact fun i hi => key (j - i) i hi (Nat.le_refl _)
  refine wpAny_inv (fun listed b w' => CalmInv l m a w R Vs listed b w' ∧ listed.getD sk false = true) m ?_ ?_ ?_ _ _ _ _ ?_ ?_
  · intro listed b w1 i j hI hi hj him
    refine Nat.lt_of_not_le fun hjm => ?_
    have h1 := up (hsinkAll hI.1 hI.2 hj (by omega) i him)
    rw [(mem_ready.1 hi).1] at h1
    cases h1
  · rintro listed b w1 i ⟨⟨hsz, htl, hR, hdf, hbs, hcl, vs, hv1, hv2⟩, hskl⟩ hi him
    obtain ⟨hun, o, ho, hdeps⟩ := mem_ready.1 hi
    have hilt : i < listed.size := by rw [hsz]; exact (Array.getElem?_eq_some_iff.1 ho).1
    have hop : CalmOp P R w a Vs vs (0 + i) o (cs.getD i []) := CalmOps.at (hops vs) i o (by rw [List.getElem?_take_of_lt him]; simpa using ho)
    rw [Nat.zero_add] at hop
    have hlist : ∀ p ∈ cs.getD i [], ∃ q, l.toArray[p.2]? = some q ∧ q.dst = some p.1 ∧ listed.getD p.2 false = true := by
      intro p hp
      obtain ⟨⟨q, hq, hqd⟩, e, he, hb, heq⟩ := F.cert i o him ho p hp
      exact ⟨q, hq, hqd, heq ▸ hdeps e he hb⟩
    have hlook : Look Vs vs w1 (cs.getD i []) := Look.mem fun p hp => by
      obtain ⟨q, hq, hqd, hl⟩ := hlist p hp
      exact (hv1 p.2 q p.1 hq hl hqd).1
    have hG := hop w1 hR hlook
    -- a slot that the operation looks at
    have hslot : ∀ t ∈ o.looksAt l.toArray, b.tmps[t]? = (setAll vs a.tmps (cs.getD i []))[t]? := by
      intro t ht
      by_cases hc : ∃ p ∈ cs.getD i [], p.1 = t
      · obtain ⟨p, hp, hpt⟩ := hc
        obtain ⟨q, hq, hqd, hl⟩ := hlist p hp
        have hlt : t < a.tmps.size := F.lt p.2 q t (htl _ hl) hq (hpt ▸ hqd)
        rw [(hv1 p.2 q t hq hl (hpt ▸ hqd)).2]
        refine (setAll_yes vs t (vs p.2) _ _ (fun p' hp' hpt' => ?_) ⟨p, hp, hpt⟩ hlt).symm
        obtain ⟨q', hq', hqd', hl'⟩ := hlist p' hp'
        rw [F.one p'.2 p.2 q' q t (htl _ hl') (htl _ hl) hq' hq (hpt' ▸ hqd') (hpt ▸ hqd)]
      · have hn := (F.look i o him ho t ht).resolve_left hc
        rw [setAll_not vs t _ _ (fun p hp e => hc ⟨p, hp, e⟩)]
        refine hv2 t fun j q hq hl hqd => ?_
        by_cases hji : j = i
        · subst hji
          have h1 := up hl
          rw [hun] at h1; cases h1
        · obtain ⟨e, he, hb, hei⟩ := hn j q (htl _ hl) hq hji hqd
          have h1 := up (hcl j q hq hl e he hb)
          rw [hei, hun] at h1; cases h1
    -- behind the operation
    have next : ∀ v w2, (∀ t, o.dst = some t → VAt Vs i w2 v) → R w1 w2 → CalmInv l m a w R Vs (listed.setIfInBounds i true) (b.put o.dst v) w2 ∧ (listed.setIfInBounds i true).getD sk false = true := by
      intro v w2 hV hR2
      have hdf2 : (b.put o.dst v).defers = b.defers := by cases o.dst <;> rfl
      have hsz2 : (b.put o.dst v).tmps.size = b.tmps.size := by cases o.dst <;> simp [Act.put]
      refine ⟨⟨by simpa using hsz, fun j hl => ?_, htrans _ _ _ hR hR2, hdf2.trans hdf, hsz2.trans hbs, ?_, fun j => if j = i then v else vs j, ?_, ?_⟩, getD_set_true hskl⟩
      · by_cases hji : j = i
        · subst hji; exact him
        · rw [getD_set_ne false (Ne.symm hji)] at hl; exact htl j hl
      · intro j q hq hl e he hb
        by_cases hji : j = i
        · subst hji
          rw [ho] at hq; cases hq
          exact getD_set_true (hdeps e he hb)
        · rw [getD_set_ne false (Ne.symm hji)] at hl
          exact getD_set_true (hcl j q hq hl e he hb)
      · intro j q t hq hl hqd
        by_cases hji : j = i
        · subst hji
          rw [ho] at hq; cases hq
          simp only [↓reduceIte]
          refine ⟨hV t hqd, ?_⟩
          have hlt := F.lt j o t him ho hqd
          rw [hqd]
          simp [Act.put, hbs, hlt]
        · simp only [if_neg hji]
          rw [getD_set_ne false (Ne.symm hji)] at hl
          obtain ⟨h1, h2⟩ := hv1 j q t hq hl hqd
          refine ⟨hmono _ _ _ _ hR2 h1, ?_⟩
          cases hod : o.dst with
          | none => exact h2
          | some d =>
            have hdt : d ≠ t := fun e => hji (F.one j i q o t (htl _ hl) him hq ho hqd (e ▸ hod))
            simp [Act.put, Array.getElem?_setIfInBounds_ne hdt, h2]
      · intro t ht
        have hot : o.dst ≠ some t := ht i o ho (by simp [hilt])
        have h1 : b.tmps[t]? = a.tmps[t]? := hv2 t fun j q hq hl hqd => ht j q hq (getD_set_true hl) hqd
        cases hod : o.dst with
        | none => exact h1
        | some d =>
          have hdt : d ≠ t := fun e => hot (e ▸ hod)
          simp [Act.put, Array.getElem?_setIfInBounds_ne hdt, h1]
    -- the operation alone
    have run : wpList P #[] (CalmPost o.dst (VAt Vs i) R a.defers w1) [bare o] ⟨setAll vs a.tmps (cs.getD i []), a.defers⟩ w1 →
        o.wp P b w1 (fun a' w' => CalmInv l m a w R Vs (listed.setIfInBounds i true) a' w' ∧ (listed.setIfInBounds i true).getD sk false = true) Q := by
      intro h
      have h1 : (bare o).wp P ⟨setAll vs a.tmps (cs.getD i []), a.defers⟩ w1 (fun b' w' => CalmPost o.dst (VAt Vs i) R a.defers w1 .normal b' w') (CalmPost o.dst (VAt Vs i) R a.defers w1) := by
        unfold wpList at h
        rw [if_pos (by rfl)] at h
        rcases h with h | ⟨_, _, _, h⟩
        · exact Oper.wp_mono (fun b' w' q => by unfold wpList at q; exact q) h
        · exact (h : False).elim
      have he : execOp (Act.eval ⟨setAll vs a.tmps (cs.getD i []), a.defers⟩) (bare o) = execOp b.eval o := by
        rw [execOp_bare]
        refine (execOp_congr o (fun c d => Region.noSelect_spec F.sel i o c d ho) fun x hx => ?_).symm
        cases x with
        | tmp t =>
          have := hslot t (looksAt_operand hx)
          simp [Act.eval, Array.getD_eq_getD_getElem?, this]
        | _ => rfl
      unfold Oper.wp at h1 ⊢
      rw [he] at h1
      exact upon_calm (ai := ⟨setAll vs a.tmps (cs.getD i []), a.defers⟩) (ds := a.defers) (fun d hd => by rw [setAll_size]; exact F.lt i o d him ho hd) rfl h1 next
    have skip : VAt Vs i w1 undef → CalmInv l m a w R Vs (listed.setIfInBounds i true) (b.put o.dst undef) w1 ∧ (listed.setIfInBounds i true).getD sk false = true := fun hv => next undef w1 (fun _ _ => hv) (hrefl _)
    unfold wpOp
    simp only [ho]
    cases hg : o.guard with
    | none =>
      rw [hg] at hG
      rw [if_pos (by simp [Region.wanted, hg])]
      exact .inl (run hG)
    | some gb =>
      obtain ⟨g, bb⟩ := gb
      rw [hg] at hG
      obtain ⟨p, hp, hpg⟩ := F.guard i o g bb him ho hg
      obtain ⟨q, hq, hqd, hl⟩ := hlist p hp
      have hval := (hv1 p.2 q p.1 hq hl hqd).2
      rw [hpg] at hq hval
      have hy : yielded l.toArray b.tmps g = match vs g with | .bool b => some b | _ => none := by
        unfold yielded
        rw [hq]
        simp only [Option.bind_some, hqd, hval]
        cases vs g <;> rfl
      by_cases hvg : vs g = .bool bb
      · rw [if_pos (by rw [hvg] at hy; simp [Region.wanted, hg, hy])]
        exact .inl (run (hG.1 hvg))
      · have hno : ¬ Region.wanted o (yielded l.toArray b.tmps) = true := by
          simp only [Region.wanted, hg, hy, beq_iff_eq]
          intro e
          cases hv : vs g <;> rw [hv] at e hvg <;> simp at e
          exact hvg (by rw [e])
        rw [if_neg hno]
        exact skip (hG.2 hvg)
  · rintro listed b w1 fuel ⟨⟨hsz, htl, hR, hdf, hbs, hcl, vs, hv1, hv2⟩, hskl⟩ hno hfuel
    -- the head has come up
    have hall : ∀ (n j : Nat), j < n → j < m → listed.getD j false = true := by
      intro n
      induction n with
      | zero => intro j hj; omega
      | succ n ih =>
        intro j hj hjm
        have hjs : j < l.toArray.size := Nat.lt_of_lt_of_le hjm F.le
        have ho : l.toArray[j]? = some l.toArray[j] := Array.getElem?_eq_getElem hjs
        cases hb : listed.getD j false with
        | true => rfl
        | false =>
          have hjlt : j < listed.size := by rw [hsz]; exact hjs
          have : j ∈ Region.ready .any l.toArray listed := mem_ready.2 ⟨by simp [hjlt] at hb ⊢; exact hb, _, ho, fun e he hb' => by
            have hlt := F.back j _ hjm ho e he hb'
            exact ih e.on (by omega) (by omega)⟩
          exact absurd hjm (hno j this)
    have hlisted : ∀ j, j < m → listed.getD j false = true := fun j hj => hall (j + 1) j (by omega) hj
    have hfin : b = ⟨setAll vs a.tmps fin, a.defers⟩ := by
      have ht : b.tmps = setAll vs a.tmps fin := by
        apply Array.ext_getElem?
        intro t
        by_cases hw : ∃ p ∈ fin, p.1 = t
        · obtain ⟨p, hp, hpt⟩ := hw
          obtain ⟨hpm, q, hq, hqd⟩ := F.fin1 p hp
          rw [(hv1 p.2 q t hq (hlisted _ hpm) (hpt ▸ hqd)).2]
          refine (setAll_yes vs t (vs p.2) _ _ (fun p' hp' hpt' => ?_) ⟨p, hp, hpt⟩ (F.lt p.2 q t hpm hq (hpt ▸ hqd))).symm
          obtain ⟨hpm', q', hq', hqd'⟩ := F.fin1 p' hp'
          rw [F.one p'.2 p.2 q' q t hpm' hpm hq' hq (hpt' ▸ hqd') (hpt ▸ hqd)]
        · rw [setAll_not vs t _ _ (fun p hp e => hw ⟨p, hp, e⟩)]
          exact hv2 t fun j o ho hl hod => hw ⟨(t, j), F.fin2 j o t (htl _ hl) ho hod, rfl⟩
      cases b
      simp only at ht hdf
      rw [ht, hdf]
    have hlist0 : listed = headListed l.toArray m := by
      apply Array.ext
      · rw [hsz]; simp [headListed]
      · intro j h1 h2
        have e1 : (headListed l.toArray m)[j] = decide (j < m) := by simp [headListed]
        rw [e1]
        by_cases hjm : j < m
        · have := hlisted j hjm
          simp [h1] at this
          rw [this]; simp [hjm]
        · have : listed[j] ≠ true := fun e => hjm (htl j (by simp [h1, e]))
          simp [hjm, this]
    have hcount : (l.drop m).length ≤ left l.toArray listed := by
      have hsub : ((List.range l.toArray.size).drop m).length ≤ left l.toArray listed := by
        unfold left
        have : (List.range l.toArray.size).drop m = ((List.range l.toArray.size).drop m).filter fun j => listed.getD j true == false := by
          rw [List.filter_eq_self.2]
          intro j hj
          obtain ⟨k, hk, rfl⟩ := List.mem_iff_getElem.1 hj
          have hlt : m + k < l.toArray.size := by simp at hk ⊢; omega
          have hun : listed.getD (m + k) false ≠ true := fun e => by have := htl _ e; omega
          have hlt' : m + k < listed.size := by rw [hsz]; exact hlt
          simp [hlt'] at hun ⊢
          exact hun
        rw [this]
        conv => rhs; rw [← List.take_append_drop m (List.range l.toArray.size), List.filter_append, List.length_append]
        omega
      simpa using hsub
    rw [hfin, hlist0]
    rw [hlist0] at hcount hfuel
    refine wpAny_seq (l.drop m) m fuel _ _ _ (Nat.le_trans hcount hfuel) (fun j => by simp) (by simpa using F.seq) ?_
    refine hdone vs w1 hR (Look.mem fun p hp => ?_)
    obtain ⟨hpm, q, hq, hqd⟩ := F.fin1 p hp
    exact (hv1 p.2 q p.1 hq (hlisted _ hpm) hqd).1
  · have hlt : sk < l.toArray.size := Nat.lt_of_lt_of_le hskm F.le
    have e0 : left l.toArray (Array.replicate l.toArray.size false) ≤ l.toArray.size := by
      unfold left
      exact Nat.le_trans (List.length_filter_le _ _) (by simp)
    have e : ((List.range l.toArray.size).filter fun j => ((Array.replicate l.toArray.size false).setIfInBounds sk true).getD j true == false) = ((List.range l.toArray.size).filter fun j => (Array.replicate l.toArray.size false).getD j true == false).filter fun j => j != sk := by
      rw [List.filter_filter]
      apply List.filter_congr
      intro j hj
      by_cases hji : j = sk
      · subst hji
        have : ((Array.replicate l.toArray.size false).setIfInBounds j true).getD j true = true := by simp
        simp only [this]
        simp
      · rw [getD_set_ne true (Ne.symm hji)]; simp [hji]
    have hlt2 : sk < l.length := by simpa using hlt
    have hmem : sk ∈ (List.range l.toArray.size).filter fun j => (Array.replicate l.toArray.size false).getD j true == false := List.mem_filter.2 ⟨List.mem_range.2 hlt, by simp [Array.getElem?_replicate, hlt2]⟩
    have := (List.length_filter_lt_length_iff_exists (p := fun j => j != sk)).2 ⟨sk, hmem, by simp⟩
    unfold left at e0 ⊢
    rw [e]
    omega
  · have hlt : sk < l.toArray.size := Nat.lt_of_lt_of_le hskm F.le
    have hf : ∀ j, ((Array.replicate l.toArray.size false).setIfInBounds sk true).getD j false = true → j = sk := by
      intro j hj
      by_cases hji : j = sk
      · exact hji
      · rw [getD_set_ne false (Ne.symm hji)] at hj
        simp [Array.getD] at hj
    have hlt' : sk < l.length := by simpa using hlt
    have hs1 : ((Array.replicate l.toArray.size false).setIfInBounds sk true).getD sk false = true := by simp [hlt']
    have hdf2 : (a.put o1.dst v1).defers = a.defers := by cases o1.dst <;> rfl
    have hsz2 : (a.put o1.dst v1).tmps.size = a.tmps.size := by cases o1.dst <;> simp [Act.put]
    have hrd := (mem_ready.1 (by simpa using hr1 : sk ∈ Region.ready .any l.toArray (Array.replicate l.toArray.size false))).2
    have hno : ∀ e ∈ o1.after, Region.binds .any e = true → False := by
      intro e he hb
      obtain ⟨o, ho, hd⟩ := hrd
      rw [hi1] at ho; cases ho
      have := hd e he hb
      simp [Array.getD] at this
    refine ⟨⟨by simp, fun j hl => hf j hl ▸ hskm, hdrew w, hdf2, hsz2, fun j q hq hl e he hb => ?_, fun _ => v1, fun j o t ho hl hod => ?_, fun t ht => ?_⟩, hs1⟩
    · have := hf j hl
      subst this
      rw [hi1] at hq; cases hq
      exact (hno e he hb).elim
    · have := hf j hl
      subst this
      rw [hi1] at ho; cases ho
      refine ⟨hvv1 _, ?_⟩
      have hltt := F.lt j o1 t hskm hi1 hod
      rw [hod]
      simp [Act.put, hltt]
    · have h1 : o1.dst ≠ some t := ht sk o1 hi1 hs1
      cases hod : o1.dst with
      | none => rfl
      | some d =>
        have hdt : d ≠ t := fun e => h1 (e ▸ hod)
        simp [Act.put, Array.getElem?_setIfInBounds_ne hdt]

end Go.Proofs.Ytdjkcolceccclaa
