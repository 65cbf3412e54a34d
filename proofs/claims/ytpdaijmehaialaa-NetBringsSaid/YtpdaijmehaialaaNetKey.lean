/- A packet as a key of a map; what the law's 'sent' holds. No condition. -/
import Derived.Test.YtpdaijmehaialaaNetLawA
import Derived.DeepKeys4
import Derived.Maps.Own
import Derived.Maps.OwnOps
import Derived.Maps.OwnSet
namespace Go.Proofs.Ytpdaijmehaialaa
open Go.RowKit Go.Maps Go.ChangeShapes Go.WideShapes
namespace Net
set_option linter.unusedSimpArgs false
set_option linter.unusedVariables false
theorem laid29 : laidOutB Try.prog = true := by kernel_rfl
theorem rowP : (34 : TypeId) < Try.prog.types.size := of_decide_eq_true (by kernel_rfl)
theorem wideP : (match Try.prog.underlying 34 with | some (.array _ _) | some (.struct _) => true | _ => false) = true := by rw [Try.underlying34]
theorem lawP : Keyed Try.prog 34 := Keyed.of_law (deep_law_laid laid29 (m := 2) (by omega) rowP (by kernel_rfl) wideP)
theorem zeroB (w : World) : (zeroValue 4).run Try.prog w = .ok (.bool false) w := by kernel_rfl
theorem cellsP : Try.prog.cellsOf 34 = 3 := by kernel_rfl
theorem cellsI : Try.prog.cellsOf 3 = 1 := by kernel_rfl
theorem cellsS : Try.prog.cellsOf 9 = 1 := by kernel_rfl
theorem ktP : Try.prog.keyType 34 = true := by kernel_rfl
theorem litsI (n : Nat) (a : Int) (h : (Lit.int .i64 a).wf = true) : Try.prog.keyLits (n + 1) 3 [.int .i64 a] = some [.int .i64 a] := by
  unfold Program.keyLits
  simp [Try.underlying3, h]
theorem litsS (n : Nat) (b : List UInt8) (h : b.length ≤ 140737488351232) : Try.prog.keyLits (n + 1) 9 [.string (strOf b)] = some [.string (strOf b).data.toList] := by
  unfold Program.keyLits
  have hs : (strOf b).size ≤ maxLen := by rw [strOf_size]; simp only [maxLen]; omega
  simp [Try.underlying9, hs]
structure PkOk (p : Pk) : Prop where
  f : (Lit.int .i64 p.f).wf = true
  t : (Lit.int .i64 p.t).wf = true
  b : p.b.length ≤ 140737488351232
def KeyP (p : Pk) (kl : Lit) : Prop := keyOf Try.prog 34 (.agg #[.int .i64 p.f, .int .i64 p.t, .string (strOf p.b)]) = some kl
theorem key_pk (p : Pk) (h : PkOk p) : ∃ kl, KeyP p kl := by
  have hf : Value.formed Try.prog 34 (.agg #[.int .i64 p.f, .int .i64 p.t, .string (strOf p.b)]) = true := by simp [Value.formed, Try.underlying34, cellsP]
  have hl : Try.prog.keyLits (Try.prog.types.size + 1) 34 (Value.agg #[.int .i64 p.f, .int .i64 p.t, .string (strOf p.b)]).cells.toList = some [.int .i64 p.f, .int .i64 p.t, .string (strOf p.b).data.toList] := by
    have hn : Try.prog.types.size = (Try.prog.types.size - 1) + 1 := by kernel_rfl
    unfold Program.keyLits
    rw [hn]
    simp [Try.underlying34, cellsP, cellsI, cellsS, Value.cells, litsI _ _ h.f, litsI _ _ h.t, litsS _ _ h.b]
  simp [KeyP, keyOf, Try.underlying34, ktP, hf]
  exact ⟨_, _, hl, rfl⟩
/-- Every packet of the row is a key of what was sent. -/
def Sent (D : DataW Unit) (l : List Pk) : Prop := ∀ p ∈ l, ∃ kl, KeyP p kl ∧ D.atKey kl (.lit (.bool false)) = .lit (.bool true)
theorem Sent.sub {D : DataW Unit} {l l' : List Pk} (h : Sent D l) (hs : ∀ p ∈ l', p ∈ l) : Sent D l' := fun p hp => h p (hs p hp)
theorem Sent.put {D : DataW Unit} {l : List Pk} (h : Sent D l) (hD : IsMap D) {q : Pk} {kl : Lit} (hk : KeyP q kl) {l' : List Pk} (hs : ∀ p ∈ l', p ∈ l ∨ p = q) : Sent (D.put kl (.lit (.bool true))) l' := by
  intro p hp
  rcases hs p hp with h1 | rfl
  · obtain ⟨k1, hk1, h2⟩ := h p h1
    refine ⟨k1, hk1, ?_⟩
    by_cases he : k1 = kl
    · subst he; exact atKey_put_same hD (lawP.key hk) _ _
    · rw [atKey_put_other he]; exact h2
  · exact ⟨kl, hk, atKey_put_same hD (lawP.key hk) _ _⟩
theorem takeP_mem (l : List Pk) (i : Int) : ∀ p ∈ (takeP l i).1, p ∈ l := by
  unfold takeP
  intro p hp
  split at hp
  · rcases List.mem_append.1 hp with h2 | h2
    · exact List.mem_of_mem_take h2
    · exact List.mem_of_mem_drop h2
  · exact hp
theorem takeP_got (l : List Pk) (i : Int) (h : (takeP l i).2.2 = true) : (takeP l i).2.1 ∈ l := by
  unfold takeP at h ⊢
  split at h
  · rename_i ht
    rw [if_pos ht]
    have hlt : i.toNat < l.length := by simp [thereB] at ht; omega
    show l.getD i.toNat noPk ∈ l
    rw [List.getD_eq_getElem?_getD, List.getElem?_eq_getElem hlt]
    exact List.getElem_mem hlt
  · cases h
theorem doP_mem {places : Int} {l : List Pk} (a : Act) (hk : a.k ≠ 4) : ∀ p ∈ (doP places l a).1, p ∈ l ∨ (a.k = 0 ∧ p = a.p) := by
  unfold doP
  intro p hp
  split at hp
  · rename_i h0
    unfold sendP at hp
    simp only [] at hp
    split at hp
    · exact .inl hp
    · rcases List.mem_append.1 hp with h2 | h2
      · exact .inl h2
      · rw [List.mem_singleton] at h2; exact .inr ⟨h0, h2⟩
  split at hp
  · exact .inl (takeP_mem l a.i p hp)
  split at hp
  · exact .inl (takeP_mem l a.i p hp)
  split at hp
  · unfold doubleP at hp
    simp only [] at hp
    split at hp
    · rename_i ht
      split at hp
      · exact .inl hp
      · rcases List.mem_append.1 hp with h2 | h2
        · exact .inl h2
        · rw [List.mem_singleton] at h2
          have hlt : a.i.toNat < l.length := by simp [thereB] at ht; omega
          refine .inl ?_
          rw [h2, List.getD_eq_getElem?_getD, List.getElem?_eq_getElem hlt]
          exact List.getElem_mem hlt
    · exact .inl hp
  split at hp
  · exact .inl (List.mem_filter.1 hp).1
  · exact .inl hp
theorem doP_got {places : Int} {l : List Pk} (a : Act) (hk : a.k = 1) (h : (doP places l a).2.2.1 = true) : (doP places l a).2.1 ∈ l := by
  unfold doP at h ⊢
  rw [if_neg (by omega), if_pos hk] at h ⊢
  exact takeP_got l a.i h
def InActsW (W : World) (a : Option Addr) (len cap : Nat) (zs : List Act) : Prop := InActs W a len cap zs ∧ ∀ z ∈ zs, PkOk z.p
theorem in_actsW {H : Type} {enc : TypeId × Value → H} {W : World} {base : Nat} {spare : Nat → Bool} {held : Bool} {a : Option Addr} {len cap : Nat} {d : DataW H} {p : List MemPlace}
    (h : DataW.Trod enc Try.prog W base spare held 22 (.slice a len cap) d p) (hw : ∀ n ∈ d.weights Try.prog 22, n ≤ reachBytes) : ∃ zs, InActsW W a len cap zs := by
  obtain ⟨css, h1, h2⟩ := in_flat 7 Try.underlying22 (by kernel_rfl) (by decide) h
  obtain ⟨zs, rfl, h3⟩ := list_of (f := actV) (p := fun z => ActOk z ∧ PkOk z.p) css (fun c hc => by
    obtain ⟨hl, n, x, hx, hxw⟩ := h2 c hc
    obtain ⟨y0, e0, _⟩ := leaf_int (n := 3) (off := 0) (t' := 3) (k := .i64) (by kernel_rfl) Try.underlying3 hx
    obtain ⟨y1, e1, w1⟩ := leaf_int (n := 3) (off := 1) (t' := 3) (k := .i64) (by kernel_rfl) Try.underlying3 hx
    obtain ⟨y2, e2, w2⟩ := leaf_int (n := 3) (off := 2) (t' := 3) (k := .i64) (by kernel_rfl) Try.underlying3 hx
    obtain ⟨s, e3, hs⟩ := leaf_string_sized (n := 3) (off := 3) (t' := 9) (by kernel_rfl) Try.underlying9 hx (fun k hk => hw k (hxw k hk))
    obtain ⟨y4, e4, _⟩ := leaf_int (n := 3) (off := 4) (t' := 3) (k := .i64) (by kernel_rfl) Try.underlying3 hx
    obtain ⟨y5, e5, _⟩ := leaf_int (n := 3) (off := 5) (t' := 3) (k := .i64) (by kernel_rfl) Try.underlying3 hx
    obtain ⟨y6, e6, h6⟩ := leaf_int (n := 3) (off := 6) (t' := 5) (k := .u8) (by kernel_rfl) Try.underlying5 hx
    have h6' : 0 ≤ y6 ∧ y6 ≤ 255 := by simp [Lit.wf, IntKind.min, IntKind.max, IntKind.signed, IntKind.bits] at h6; omega
    have hsl : s.data.toList.length ≤ 140737488351232 := by simpa [reachBytes] using hs
    refine ⟨⟨y0, ⟨y1, y2, s.data.toList⟩, y4, y5, y6⟩, ?_, ⟨hsl, h6'.1, h6'.2⟩, ⟨w1, w2, hsl⟩⟩
    match c, hl with
    | [c0, c1, c2, c3, c4, c5, c6], _ => simp at e0 e1 e2 e3 e4 e5 e6; simp [actV, strOf_self, e0, e1, e2, e3, e4, e5, e6])
  exact ⟨zs, ⟨h1, fun z hz => (h3 z hz).1⟩, fun z hz => (h3 z hz).2⟩
/-- What a lookup in 'sent' answers, at a packet of the net. -/
theorem sent_run {w : World} {b n : Nat} {D : DataW Unit} (h : w.ownsMap Try.prog 34 (plainElem Try.prog 4) b n D) {l : List Pk} (hS : Sent D l) {p : Pk} (hp : p ∈ l) :
    (Instr.lookup 29 (.map (some b)) (.agg #[.int .i64 p.f, .int .i64 p.t, .string (strOf p.b)]) false).run Try.prog w = .ok (.bool true) w := by
  obtain ⟨kl, hk, hat⟩ := hS p hp
  obtain ⟨v, ps, hrun, hv⟩ := h.lookup lawP Try.underlying29 (zeroB w) (plainElem_bool Try.underlying4 false) hk
  rw [hat] at hv
  have hb : v = .bool true := by
    unfold plainElem at hv
    rw [Try.underlying4] at hv
    cases v <;> simp at hv
    rw [hv.1]
  rw [hrun, hb]
end Net
end Go.Proofs.Ytpdaijmehaialaa
