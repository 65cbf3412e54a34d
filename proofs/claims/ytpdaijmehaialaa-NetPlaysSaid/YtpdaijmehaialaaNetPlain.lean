/- Plain words on the net: packets, acts. No condition. -/
import Derived.Test.YtpdaijmehaialaaBufS
namespace Go.Proofs.Ytpdaijmehaialaa
open Go.RowKit
namespace Net
structure Pk where
  f : Int
  t : Int
  b : List UInt8
  deriving DecidableEq
def pk (p : Pk) : List Value := [.int .i64 p.f, .int .i64 p.t, .string (strOf p.b)]
theorem pk_len (p : Pk) : (pk p).length = 3 := rfl
theorem pk_each (l : List Pk) : ∀ c ∈ l.map pk, c.length = 3 := by
  intro c hc
  obtain ⟨p, _, rfl⟩ := List.mem_map.1 hc
  rfl
theorem pk_one (l : List Pk) : ∀ c ∈ l.map pk, ∀ u ∈ c, u.oneCell' = true := by
  intro c hc u hu
  obtain ⟨p, _, rfl⟩ := List.mem_map.1 hc
  simp [pk] at hu
  rcases hu with rfl | rfl | rfl <;> rfl
theorem pk_inj {p q : Pk} (h : pk p = pk q) : p = q := by
  cases p; cases q
  simp [pk, str_eq, strOf_list] at h
  simp [h]
def noPk : Pk := ⟨0, 0, []⟩
structure Act where
  k : Int
  p : Pk
  i : Int
  at' : Int
  turn : Int
/-- Is there a packet in that place? -/
def thereB (l : List Pk) (i : Int) : Bool := decide (0 ≤ i ∧ i < (l.length : Int))
def sendP (places : Int) (l : List Pk) (p : Pk) : List Pk × Bool := if places ≤ (l.length : Int) ∨ 1048576 < (p.b.length : Int) then (l, false) else (l ++ [p], true)
def takeP (l : List Pk) (i : Int) : List Pk × Pk × Bool := if thereB l i then (l.take i.toNat ++ l.drop (i.toNat + 1), l.getD i.toNat noPk, true) else (l, noPk, false)
def doubleP (places : Int) (l : List Pk) (i : Int) : List Pk × Bool := if thereB l i then (if places ≤ (l.length : Int) then (l, false) else (l ++ [l.getD i.toNat noPk], true)) else (l, false)
def turnB (b : List UInt8) (k : Nat) (turn : Int) : List UInt8 := b.set k (UInt8.ofNat ((b.getD k 0).toNat ^^^ turn.toNat))
def spoilPk (p : Pk) (at' turn : Int) : Pk := { p with b := turnB p.b ((if at' < 0 then 0 else at').toNat % p.b.length) turn }
def spoilP (l : List Pk) (i at' turn : Int) : List Pk × Bool :=
  if thereB l i = false ∨ turn = 0 ∨ (l.getD i.toNat noPk).b = [] then (l, false) else (l.set i.toNat (spoilPk (l.getD i.toNat noPk) at' turn), true)
def emptyP (l : List Pk) (i : Int) : List Pk := l.filter fun p => decide (p.f ≠ i ∧ p.t ≠ i)
def doP (places : Int) (l : List Pk) (a : Act) : List Pk × Pk × Bool × Int :=
  if a.k = 0 then ((sendP places l a.p).1, noPk, (sendP places l a.p).2, 0)
  else if a.k = 1 then ((takeP l a.i).1, (takeP l a.i).2.1, (takeP l a.i).2.2, 0)
  else if a.k = 2 then ((takeP l a.i).1, noPk, (takeP l a.i).2.2, 0)
  else if a.k = 3 then ((doubleP places l a.i).1, noPk, (doubleP places l a.i).2, 0)
  else if a.k = 4 then ((spoilP l a.i a.at' a.turn).1, noPk, (spoilP l a.i a.at' a.turn).2, 0)
  else if a.k = 5 then (emptyP l a.i, noPk, false, (l.length : Int) - (emptyP l a.i).length)
  else (l, noPk, false, 0)
/-- A net in memory. -/
def NetAt (w : World) (B g : Nat) (places : Int) (v : Value) (l : List Pk) : Prop :=
  Blk w g 52 [.int .i64 places, v] ∧ BufS 3 w B 34 v (l.map pk) ∧ B ≤ g ∧ g ∉ own v
theorem NetAt.form {w : World} {B g : Nat} {places : Int} {v : Value} {l : List Pk} (h : NetAt w B g places v l) : ∃ A cap, v = .slice A l.length cap := by
  obtain ⟨A, cap, e⟩ := h.2.1.form
  exact ⟨A, cap, by rw [e, List.length_map]⟩
theorem NetAt.c0 {w : World} {B g : Nat} {places : Int} {v : Value} {l : List Pk} (h : NetAt w B g places v l) : w.cell? ⟨g, 0, none⟩ = some (.int .i64 places) := by rw [h.1.cell]; rfl
theorem NetAt.c1 {w : World} {B g : Nat} {places : Int} {v : Value} {l : List Pk} (h : NetAt w B g places v l) : w.cell? ⟨g, 1, none⟩ = some v := by rw [h.1.cell]; rfl
theorem NetAt.free {w : World} {B g : Nat} {places : Int} {v : Value} {l : List Pk} (h : NetAt w B g places v l) (j : Nat) : w.frozen? ⟨g, j, none⟩ = false := h.1.free j
theorem NetAt.touch {w w' : World} {B g : Nat} {places : Int} {v : Value} {l : List Pk} {S : List Nat} (h : NetAt w B g places v l) (k : Touch S w w') (hS : ∀ j ∈ g :: own v, j ∉ S) : NetAt w' B g places v l :=
  ⟨h.1.touch k (hS g (by simp)), h.2.1.touch k (fun j hj => hS j (by simp [hj])), h.2.2.1, h.2.2.2⟩
theorem NetAt.ext {w w' : World} {B g : Nat} {places : Int} {v : Value} {l : List Pk} (h : NetAt w B g places v l) (k : Ext w w') : NetAt w' B g places v l := h.touch (Touch.of_ext (S := []) k) (by simp)
theorem NetAt.owns {w : World} {B g : Nat} {places : Int} {v : Value} {l : List Pk} (h : NetAt w B g places v l) : ∀ j ∈ g :: own v, B ≤ j ∧ j < w.heap.size := by
  intro j hj
  rcases List.mem_cons.1 hj with rfl | hj
  · exact ⟨h.2.2.1, h.1.lt⟩
  · exact h.2.1.owns j hj
theorem NetAt.at {w : World} {B g : Nat} {places : Int} {A : Option Addr} {n cap : Nat} {l : List Pk} (h : NetAt w B g places (.slice A n cap) l) {i : Nat} (hi : i < l.length) :
    ∃ b off, A = some ⟨b, off, none⟩ ∧ w.cell? ⟨b, off + i * 3, none⟩ = some (.int .i64 (l.getD i noPk).f) ∧ w.cell? ⟨b, off + i * 3 + 1, none⟩ = some (.int .i64 (l.getD i noPk).t) ∧ w.cell? ⟨b, off + i * 3 + 2, none⟩ = some (.string (strOf (l.getD i noPk).b)) := by
  obtain ⟨b, off, e, hc⟩ := h.2.1.at (by decide) (i := i) (by simpa using hi)
  have hg : (l.map pk)[i]? = some (pk (l.getD i noPk)) := by
    rw [List.getElem?_map, List.getElem?_eq_getElem hi, List.getD_eq_getElem?_getD, List.getElem?_eq_getElem hi]; rfl
  have c (j : Nat) (u : Value) (hu : (pk (l.getD i noPk))[j]? = some u) := hc j u (by rw [hg]; exact hu)
  exact ⟨b, off, e, c 0 _ rfl, c 1 _ rfl, c 2 _ rfl⟩
/-- What a call on a net leaves. -/
def NetE (w : World) (B g : Nat) (places : Int) (v : Value) (l : List Pk) (r : Value) (e : Ending) (w' : World) : Prop :=
  e = .returned r ∧ ∃ v', NetAt w' B g places v' l ∧ Touch (g :: own v) w w' ∧ ∀ j ∈ own v', j ∈ own v ∨ w.heap.size ≤ j
/-- The new row of packets is laid into the net. -/
theorem NetAt.store {w wr w1 : World} {B g : Nat} {places : Int} {v v' : Value} {l l' : List Pk} (h : NetAt w B g places v l) (hr : Ext w wr) (hT : Touch (own v) wr w1) (hV : BufS 3 w1 B 34 v' (l'.map pk)) (ho : ∀ j ∈ own v', j ∈ own v ∨ wr.heap.size ≤ j) :
    NetAt (w1.setCell ⟨g, 1, none⟩ v') B g places v' l' ∧ Touch (g :: own v) w (w1.setCell ⟨g, 1, none⟩ v') ∧ ∀ j ∈ own v', j ∈ own v ∨ w.heap.size ≤ j := by
  have hg := (h.owns g (by simp)).2
  have hz := hr.size
  have hn : g ∉ own v' := fun hj => by
    rcases ho g hj with h1 | h1
    · exact h.2.2.2 h1
    · omega
  refine ⟨⟨(((h.1.ext hr).touch hT h.2.2.2).set 1 v'), hV.touch (Touch.set w1 _ v') (fun j hj hm => ?_), h.2.2.1, hn⟩, ?_, fun j hj => ?_⟩
  · rw [List.mem_singleton] at hm
    have hm' : j = g := hm
    exact hn (hm' ▸ hj)
  · exact (((Touch.of_ext (S := g :: own v) hr).trans hT (fun j hj => .inl (by simp [hj]))).trans (Touch.set w1 ⟨g, 1, none⟩ v') (fun j hj => .inl (by rw [List.mem_singleton] at hj; simp [hj])))
  · rcases ho j hj with h1 | h1
    · exact .inl h1
    · exact .inr (by omega)
end Net
end Go.Proofs.Ytpdaijmehaialaa
