/- The law's do. No condition. -/
import Derived.Test.YtjphmjegfpdbeaaDiskI
namespace Go.Proofs.Ytjphmjegfpdbeaa
open Go.RowKit
namespace Disk
open Str
set_option linter.unusedSimpArgs false
set_option linter.unusedVariables false
def actP (d : Dk) (a : Act) : (S × List S × Int) × Dk :=
  if a.k = 1 then (([], [], (writeP d a.p a.t).1), (writeP d a.p a.t).2)
  else if a.k = 2 then (([], [], (renameP d a.p a.t).1), (renameP d a.p a.t).2)
  else if a.k = 3 then (([], [], (removeP d a.p).1), (removeP d a.p).2)
  else if a.k = 4 then (([], [], (syncP d).1), (syncP d).2)
  else if a.k = 5 then (([], [], 0), armP d a.n a.keep)
  else if a.k = 6 then (([], [], 0), startP d)
  else if a.k = 7 then (((readP d a.p).1, [], (readP d a.p).2), d)
  else if a.k = 8 then (([], listD d a.p, 0), d)
  else (([], [], 0), d)
def ActE (w : World) (B : Nat) (D : List Nat) (g : Nat) (R : (S × List S × Int) × Dk) (e : Ending) (w' : World) : Prop :=
  ∃ v, e = .returned (.tuple #[.string (strOf R.1.1), v, .int .i64 R.1.2.2]) ∧ Buf w' w.heap.size 9 v (R.1.2.1.map tV) ∧ After w B D g R.2 w'
theorem ActE.mk0 {w w1 w2 : World} {B : Nat} {D : List Nat} {g : Nat} {R : (S × List S × Int) × Dk} {s : S} {c : Int} {d' : Dk} (hE : Ext w w1) (hR : R = ((s, [], c), d')) (h : After w1 B D g d' w2) : ActE w B D g R (.returned (.tuple #[.string (strOf s), .slice none 0 0, .int .i64 c])) w2 := by
  subst hR
  exact ⟨_, rfl, by simpa using Buf.nil w2 w.heap.size 9, After.trans (Touch.of_ext hE) (fun j hj => .inl hj) h⟩
theorem DkB.act {n : Nat} {d : Dk} (h : DkB n d) {a : Act} (ha : ActOk a) (hp : a.p.length ≤ SZ) (ht : a.t.length ≤ SZ) : DkB (n + 1) (actP d a).2 := by
  unfold actP
  split
  · exact h.write hp ht
  · split
    · exact h.rename hp ht
    · split
      · exact h.remove hp
      · split
        · exact h.sync.mono (by omega)
        · split
          · exact (h.arm _ _ ha.n.2 ha.keep).mono (by omega)
          · split
            · exact h.start.mono (by omega)
            · split
              · exact h.mono (by omega)
              · split <;> exact h.mono (by omega)
set_option maxRecDepth 100000 in
set_option maxHeartbeats 8000000 in
theorem act_any (w : World) (B : Nat) (D : List Nat) (g : Nat) (d : Dk) (n : Nat) (a : Act) (h : DkAt w B D g d) (hb : DkB n d) (hn : n + 1 ≤ 1048576) (ha : ActOk a) (hp : a.p.length ≤ SZ) (ht : a.t.length ≤ SZ) :
    Calls Try.prog 11 #[.pointer (some ⟨g, 0, none⟩), .agg (actV a).toArray] w (ActE w B D g (actP d a)) := by
  obtain ⟨k, p, t, c, keep⟩ := a
  have hE := Ext.alloc w (.cells (actV ⟨k, p, t, c, keep⟩).toArray 33)
  have KE := Kept.mk hE
  have KA := Kept.mk (h.ext hE)
  have Kd := Kept.mk hb
  have Kx := Kept.mk (Blk.new w 33 (actV ⟨k, p, t, c, keep⟩))
  have Kp := Kept.mk hp
  have Kt := Kept.mk ht
  have Kl := Kept.mk (show p.length ≤ 9223372036854775807 from by have := ha.p; simp only at this; omega)
  have Kn := Kept.mk hn
  simp only [actV] at KE KA Kx ⊢
  simp only at Kp Kt
  clear hE h hb ha hp ht hn
  by_cases h1 : k = 1
  · subst h1
    have KP : Kept (actP d ⟨1, p, t, c, keep⟩ = (([], [], (writeP d p t).1), (writeP d p t).2)) := Kept.mk rfl
    generalize actP d ⟨1, p, t, c, keep⟩ = R at *
    go_enter Try.func11, Try.ntmps11
    go_upto_region 1 with (fail)
    generalize w.alloc (.cells #[.int .i64 1, .string (strOf p), .string (strOf t), .int .i64 c, .int .u64 keep] 33) = w1 at *
    generalize w.heap.size = xg at Kx ⊢
    have x0 := Kx.out.cell 0
    have x1 := Kx.out.cell 1
    have x2 := Kx.out.cell 2
    have x3 := Kx.out.cell 3
    have x4 := Kx.out.cell 4
    simp only [List.getElem?_cons_zero, List.getElem?_cons_succ] at x0 x1 x2 x3 x4
    have KC := Kept.mk (write_any w1 B D g d n p t KA.out Kd.out Kn.out Kp.out Kt.out)
    go_wp2_with fail
    refine KC.out.mono ?_
    rintro e w2 ⟨rfl, hA⟩
    have KR := Kept.mk (ActE.mk0 KE.out KP.out hA)
    clear hA
    go_wp2_with fail
    go_ret3
    exact KR.out
  by_cases h2 : k = 2
  · subst h2
    have KP : Kept (actP d ⟨2, p, t, c, keep⟩ = (([], [], (renameP d p t).1), (renameP d p t).2)) := Kept.mk rfl
    generalize actP d ⟨2, p, t, c, keep⟩ = R at *
    clear h1
    go_enter Try.func11, Try.ntmps11
    go_upto_region 1 with (fail)
    generalize w.alloc (.cells #[.int .i64 2, .string (strOf p), .string (strOf t), .int .i64 c, .int .u64 keep] 33) = w1 at *
    generalize w.heap.size = xg at Kx ⊢
    have x0 := Kx.out.cell 0
    have x1 := Kx.out.cell 1
    have x2 := Kx.out.cell 2
    have x3 := Kx.out.cell 3
    have x4 := Kx.out.cell 4
    simp only [List.getElem?_cons_zero, List.getElem?_cons_succ] at x0 x1 x2 x3 x4
    have KC := Kept.mk (rename_any w1 B D g d n p t KA.out Kd.out Kn.out Kp.out Kt.out)
    go_wp2_with fail
    refine KC.out.mono ?_
    rintro e w2 ⟨rfl, hA⟩
    have KR := Kept.mk (ActE.mk0 KE.out KP.out hA)
    clear hA
    go_wp2_with fail
    go_ret3
    exact KR.out
  by_cases h3 : k = 3
  · subst h3
    have KP : Kept (actP d ⟨3, p, t, c, keep⟩ = (([], [], (removeP d p).1), (removeP d p).2)) := Kept.mk rfl
    generalize actP d ⟨3, p, t, c, keep⟩ = R at *
    clear h1 h2
    go_enter Try.func11, Try.ntmps11
    go_upto_region 1 with (fail)
    generalize w.alloc (.cells #[.int .i64 3, .string (strOf p), .string (strOf t), .int .i64 c, .int .u64 keep] 33) = w1 at *
    generalize w.heap.size = xg at Kx ⊢
    have x0 := Kx.out.cell 0
    have x1 := Kx.out.cell 1
    have x2 := Kx.out.cell 2
    have x3 := Kx.out.cell 3
    have x4 := Kx.out.cell 4
    simp only [List.getElem?_cons_zero, List.getElem?_cons_succ] at x0 x1 x2 x3 x4
    have KC := Kept.mk (remove_any w1 B D g d n p KA.out Kd.out Kn.out Kp.out)
    go_wp2_with fail
    refine KC.out.mono ?_
    rintro e w2 ⟨rfl, hA⟩
    have KR := Kept.mk (ActE.mk0 KE.out KP.out hA)
    clear hA
    go_wp2_with fail
    go_ret3
    exact KR.out
  by_cases h4 : k = 4
  · subst h4
    have KP : Kept (actP d ⟨4, p, t, c, keep⟩ = (([], [], (syncP d).1), (syncP d).2)) := Kept.mk rfl
    generalize actP d ⟨4, p, t, c, keep⟩ = R at *
    clear h1 h2 h3
    go_enter Try.func11, Try.ntmps11
    go_upto_region 1 with (fail)
    generalize w.alloc (.cells #[.int .i64 4, .string (strOf p), .string (strOf t), .int .i64 c, .int .u64 keep] 33) = w1 at *
    generalize w.heap.size = xg at Kx ⊢
    have x0 := Kx.out.cell 0
    have x1 := Kx.out.cell 1
    have x2 := Kx.out.cell 2
    have x3 := Kx.out.cell 3
    have x4 := Kx.out.cell 4
    simp only [List.getElem?_cons_zero, List.getElem?_cons_succ] at x0 x1 x2 x3 x4
    have KC := Kept.mk (sync_any w1 B D g d n KA.out Kd.out (by have := Kn.out; omega))
    go_wp2_with fail
    refine KC.out.mono ?_
    rintro e w2 ⟨rfl, hA⟩
    have KR := Kept.mk (ActE.mk0 KE.out KP.out hA)
    clear hA
    go_wp2_with fail
    go_ret3
    exact KR.out
  by_cases h5 : k = 5
  · subst h5
    have KP : Kept (actP d ⟨5, p, t, c, keep⟩ = (([], [], 0), armP d c keep)) := Kept.mk rfl
    generalize actP d ⟨5, p, t, c, keep⟩ = R at *
    clear h1 h2 h3 h4
    go_enter Try.func11, Try.ntmps11
    go_upto_region 1 with (fail)
    generalize w.alloc (.cells #[.int .i64 5, .string (strOf p), .string (strOf t), .int .i64 c, .int .u64 keep] 33) = w1 at *
    generalize w.heap.size = xg at Kx ⊢
    have x0 := Kx.out.cell 0
    have x1 := Kx.out.cell 1
    have x2 := Kx.out.cell 2
    have x3 := Kx.out.cell 3
    have x4 := Kx.out.cell 4
    simp only [List.getElem?_cons_zero, List.getElem?_cons_succ] at x0 x1 x2 x3 x4
    have KC := Kept.mk (arm_any w1 B D g d KA.out c keep)
    go_wp2_with fail
    refine KC.out.mono ?_
    rintro e w2 ⟨rfl, hA⟩
    have KR := Kept.mk (ActE.mk0 KE.out KP.out hA)
    clear hA
    go_wp2_with fail
    go_ret3
    exact KR.out
  by_cases h6 : k = 6
  · subst h6
    have KP : Kept (actP d ⟨6, p, t, c, keep⟩ = (([], [], 0), startP d)) := Kept.mk rfl
    generalize actP d ⟨6, p, t, c, keep⟩ = R at *
    clear h1 h2 h3 h4 h5
    go_enter Try.func11, Try.ntmps11
    go_upto_region 1 with (fail)
    generalize w.alloc (.cells #[.int .i64 6, .string (strOf p), .string (strOf t), .int .i64 c, .int .u64 keep] 33) = w1 at *
    generalize w.heap.size = xg at Kx ⊢
    have x0 := Kx.out.cell 0
    have x1 := Kx.out.cell 1
    have x2 := Kx.out.cell 2
    have x3 := Kx.out.cell 3
    have x4 := Kx.out.cell 4
    simp only [List.getElem?_cons_zero, List.getElem?_cons_succ] at x0 x1 x2 x3 x4
    have KC := Kept.mk (start_any w1 B D g d KA.out)
    go_wp2_with fail
    refine KC.out.mono ?_
    rintro e w2 ⟨rfl, hA⟩
    have KR := Kept.mk (ActE.mk0 KE.out KP.out hA)
    clear hA
    go_wp2_with fail
    go_ret3
    exact KR.out
  by_cases h7 : k = 7
  · subst h7
    have KP : Kept (actP d ⟨7, p, t, c, keep⟩ = (((readP d p).1, [], (readP d p).2), d)) := Kept.mk rfl
    generalize actP d ⟨7, p, t, c, keep⟩ = R at *
    clear h1 h2 h3 h4 h5 h6
    go_enter Try.func11, Try.ntmps11
    go_upto_region 1 with (fail)
    generalize w.alloc (.cells #[.int .i64 7, .string (strOf p), .string (strOf t), .int .i64 c, .int .u64 keep] 33) = w1 at *
    generalize w.heap.size = xg at Kx ⊢
    have x0 := Kx.out.cell 0
    have x1 := Kx.out.cell 1
    have x2 := Kx.out.cell 2
    have x3 := Kx.out.cell 3
    have x4 := Kx.out.cell 4
    simp only [List.getElem?_cons_zero, List.getElem?_cons_succ] at x0 x1 x2 x3 x4
    have KC := Kept.mk (read_any w1 B D g d p KA.out)
    go_wp2_with fail
    refine KC.out.mono ?_
    rintro e w2 ⟨rfl, rfl⟩
    have KR := Kept.mk (ActE.mk0 KE.out KP.out (After.same KA.out (Ext.refl w1)))
    go_wp2_with fail
    go_ret3
    exact KR.out
  by_cases h8 : k = 8
  · subst h8
    have KP : Kept (actP d ⟨8, p, t, c, keep⟩ = (([], listD d p, 0), d)) := Kept.mk rfl
    generalize actP d ⟨8, p, t, c, keep⟩ = R at *
    clear h1 h2 h3 h4 h5 h6 h7
    go_enter Try.func11, Try.ntmps11
    go_upto_region 1 with (fail)
    generalize w.alloc (.cells #[.int .i64 8, .string (strOf p), .string (strOf t), .int .i64 c, .int .u64 keep] 33) = w1 at *
    generalize w.heap.size = xg at Kx ⊢
    have x0 := Kx.out.cell 0
    have x1 := Kx.out.cell 1
    have x2 := Kx.out.cell 2
    have x3 := Kx.out.cell 3
    have x4 := Kx.out.cell 4
    simp only [List.getElem?_cons_zero, List.getElem?_cons_succ] at x0 x1 x2 x3 x4
    have KC := Kept.mk (list_any w1 B D g d n p KA.out Kd.out (by have := Kn.out; omega) Kl.out)
    go_wp2_with fail
    refine KC.out.mono ?_
    rintro e w2 ⟨v, rfl, hb, hE2⟩
    obtain ⟨A, cp, hv⟩ := hb.form
    rw [List.length_map] at hv
    have KR := Kept.mk (show ActE w B D g R (.returned (.tuple #[.string (strOf []), v, .int .i64 0])) w2 from by
      rw [KP.out]
      exact ⟨v, rfl, hb.lower KE.out.size, After.trans (Touch.of_ext KE.out) (fun j hj => .inl hj) (After.same KA.out hE2)⟩)
    subst hv
    clear hb hE2
    go_wp2_with fail
    go_ret3
    exact KR.out
  have KP : Kept (actP d ⟨k, p, t, c, keep⟩ = (([], [], 0), d)) := Kept.mk (by unfold actP; simp [h1, h2, h3, h4, h5, h6, h7, h8])
  generalize actP d ⟨k, p, t, c, keep⟩ = R at *
  have q1 : (k == 1) = false := by simpa using h1
  have q2 : (k == 2) = false := by simpa using h2
  have q3 : (k == 3) = false := by simpa using h3
  have q4 : (k == 4) = false := by simpa using h4
  have q5 : (k == 5) = false := by simpa using h5
  have q6 : (k == 6) = false := by simpa using h6
  have q7 : (k == 7) = false := by simpa using h7
  have q8 : (k == 8) = false := by simpa using h8
  clear h1 h2 h3 h4 h5 h6 h7 h8
  go_enter Try.func11, Try.ntmps11
  go_upto_region 1 with (fail)
  generalize w.alloc (.cells #[.int .i64 k, .string (strOf p), .string (strOf t), .int .i64 c, .int .u64 keep] 33) = w1 at *
  generalize w.heap.size = xg at Kx ⊢
  have x0 := Kx.out.cell 0
  have x1 := Kx.out.cell 1
  have x2 := Kx.out.cell 2
  have x3 := Kx.out.cell 3
  have x4 := Kx.out.cell 4
  simp only [List.getElem?_cons_zero, List.getElem?_cons_succ] at x0 x1 x2 x3 x4
  have KR := Kept.mk (ActE.mk0 KE.out KP.out (After.same KA.out (Ext.refl w1)))
  go_wp2_with fail
  go_ret3
  exact KR.out
end Disk
end Go.Proofs.Ytjphmjegfpdbeaa
