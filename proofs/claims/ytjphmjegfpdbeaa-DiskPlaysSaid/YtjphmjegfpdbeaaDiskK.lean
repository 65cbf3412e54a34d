/- A disk of the law's own; awake. No condition. -/
import Derived.Test.YtjphmjegfpdbeaaDiskJ
namespace Go.Proofs.Ytjphmjegfpdbeaa
open Go.RowKit
namespace Disk
open Str
set_option linter.unusedSimpArgs false
set_option linter.unusedVariables false
/-- A disk that was made behind w. -/
def At0 (w wi : World) (g : Nat) (d : Dk) : Prop := ∃ D, DkAt wi w.heap.size D g d ∧ Ext w wi
theorem At0.after {w wi wj : World} {g : Nat} {d d' : Dk} {D : List Nat} (h : DkAt wi w.heap.size D g d) (k : Ext w wi) (a : After wi w.heap.size D g d' wj) : At0 w wj g d' := by
  obtain ⟨D', h1, h2, h3⟩ := a
  exact ⟨D', h1, Touch.below k h2 (fun j hj => (h.lt j hj).1) k.size⟩
theorem At0.ext {w wi wj : World} {g : Nat} {d : Dk} (h : At0 w wi g d) (k : Ext wi wj) : At0 w wj g d := by
  obtain ⟨D, h1, h2⟩ := h
  exact ⟨D, h1.ext k, h2.trans k⟩
theorem At0.all {w wi : World} {g : Nat} {d : Dk} (h : At0 w wi g d) : Ext w wi := by
  obtain ⟨D, h1, h2⟩ := h
  exact h2
theorem write_at {w wi : World} {g : Nat} {d : Dk} (h : At0 w wi g d) (n : Nat) (hb : DkB n d) (hn : n + 1 ≤ 1048576) (p t : S) (hp : p.length ≤ SZ) (ht : t.length ≤ SZ) :
    Calls Try.prog 16 #[.pointer (some ⟨g, 0, none⟩), .string (strOf p), .string (strOf t)] wi fun e w' => e = .returned (.int .i64 (writeP d p t).1) ∧ At0 w w' g (writeP d p t).2 := by
  obtain ⟨D, h1, h2⟩ := h
  exact (write_any wi _ D g d n p t h1 hb hn hp ht).mono fun e w' ⟨he, ha⟩ => ⟨he, At0.after h1 h2 ha⟩
theorem rename_at {w wi : World} {g : Nat} {d : Dk} (h : At0 w wi g d) (n : Nat) (hb : DkB n d) (hn : n + 1 ≤ 1048576) (p t : S) (hp : p.length ≤ SZ) (ht : t.length ≤ SZ) :
    Calls Try.prog 15 #[.pointer (some ⟨g, 0, none⟩), .string (strOf p), .string (strOf t)] wi fun e w' => e = .returned (.int .i64 (renameP d p t).1) ∧ At0 w w' g (renameP d p t).2 := by
  obtain ⟨D, h1, h2⟩ := h
  exact (rename_any wi _ D g d n p t h1 hb hn hp ht).mono fun e w' ⟨he, ha⟩ => ⟨he, At0.after h1 h2 ha⟩
theorem remove_at {w wi : World} {g : Nat} {d : Dk} (h : At0 w wi g d) (n : Nat) (hb : DkB n d) (hn : n + 1 ≤ 1048576) (p : S) (hp : p.length ≤ SZ) :
    Calls Try.prog 17 #[.pointer (some ⟨g, 0, none⟩), .string (strOf p)] wi fun e w' => e = .returned (.int .i64 (removeP d p).1) ∧ At0 w w' g (removeP d p).2 := by
  obtain ⟨D, h1, h2⟩ := h
  exact (remove_any wi _ D g d n p h1 hb hn hp).mono fun e w' ⟨he, ha⟩ => ⟨he, At0.after h1 h2 ha⟩
theorem sync_at {w wi : World} {g : Nat} {d : Dk} (h : At0 w wi g d) (n : Nat) (hb : DkB n d) (hn : n ≤ 1048576) :
    Calls Try.prog 29 #[.pointer (some ⟨g, 0, none⟩)] wi fun e w' => e = .returned (.int .i64 (syncP d).1) ∧ At0 w w' g (syncP d).2 := by
  obtain ⟨D, h1, h2⟩ := h
  exact (sync_any wi _ D g d n h1 hb hn).mono fun e w' ⟨he, ha⟩ => ⟨he, At0.after h1 h2 ha⟩
theorem arm_at {w wi : World} {g : Nat} {d : Dk} (h : At0 w wi g d) (c k : Int) :
    Calls Try.prog 30 #[.pointer (some ⟨g, 0, none⟩), .agg #[.int .i64 c, .int .u64 k]] wi fun e w' => e = .returned (.tuple #[]) ∧ At0 w w' g (armP d c k) := by
  obtain ⟨D, h1, h2⟩ := h
  exact (arm_any wi _ D g d h1 c k).mono fun e w' ⟨he, ha⟩ => ⟨he, At0.after h1 h2 ha⟩
theorem start_at {w wi : World} {g : Nat} {d : Dk} (h : At0 w wi g d) :
    Calls Try.prog 31 #[.pointer (some ⟨g, 0, none⟩)] wi fun e w' => e = .returned (.tuple #[]) ∧ At0 w w' g (startP d) := by
  obtain ⟨D, h1, h2⟩ := h
  exact (start_any wi _ D g d h1).mono fun e w' ⟨he, ha⟩ => ⟨he, At0.after h1 h2 ha⟩
theorem read_at {w wi : World} {g : Nat} {d : Dk} (h : At0 w wi g d) (p : S) :
    Calls Try.prog 14 #[.pointer (some ⟨g, 0, none⟩), .string (strOf p)] wi fun e w' => e = .returned (.tuple #[.string (strOf (readP d p).1), .int .i64 (readP d p).2]) ∧ wi = w' := by
  obtain ⟨D, h1, h2⟩ := h
  exact read_any wi _ D g d p h1
theorem taken_at {w wi : World} {g : Nat} {d : Dk} (h : At0 w wi g d) (n : Nat) (hb : DkB n d) (hn : n ≤ 1048576) :
    Calls Try.prog 13 #[.pointer (some ⟨g, 0, none⟩)] wi fun e w' => e = .returned (.int .i64 (takenD d : Int)) ∧ Ext wi w' := by
  obtain ⟨D, h1, h2⟩ := h
  exact takenD_any wi _ D g d n h1 hb hn
theorem down_at {w wi : World} {g : Nat} {d : Dk} (h : At0 w wi g d) :
    Calls Try.prog 27 #[.pointer (some ⟨g, 0, none⟩)] wi fun e w' => e = .returned (.bool d.down) ∧ wi = w' := by
  obtain ⟨D, h1, h2⟩ := h
  exact down_any wi _ D g d h1
theorem waiting_at {w wi : World} {g : Nat} {d : Dk} (h : At0 w wi g d) :
    Calls Try.prog 28 #[.pointer (some ⟨g, 0, none⟩)] wi fun e w' => e = .returned (.int .i64 (d.rows.length : Int)) ∧ wi = w' := by
  obtain ⟨D, h1, h2⟩ := h
  exact waiting_any wi _ D g d h1
theorem list_at {w wi : World} {g : Nat} {d : Dk} (h : At0 w wi g d) (n : Nat) (hb : DkB n d) (hn : n ≤ 1048576) (pre : S) (hp : pre.length ≤ 9223372036854775807) :
    Calls Try.prog 12 #[.pointer (some ⟨g, 0, none⟩), .string (strOf pre)] wi (ListE wi d pre) := by
  obtain ⟨D, h1, h2⟩ := h
  exact list_any wi _ D g d n pre h1 hb hn hp
/-- What the law's do leaves, of a disk of the law's own. -/
def Act0 (w wi : World) (g : Nat) (R : (S × List S × Int) × Dk) (e : Ending) (w' : World) : Prop :=
  ∃ v, e = .returned (.tuple #[.string (strOf R.1.1), v, .int .i64 R.1.2.2]) ∧ Buf w' wi.heap.size 9 v (R.1.2.1.map tV) ∧ At0 w w' g R.2
theorem act_at {w wi : World} {g : Nat} {d : Dk} (h : At0 w wi g d) (n : Nat) (hb : DkB n d) (hn : n + 1 ≤ 1048576) (a : Act) (ha : ActOk a) (hp : a.p.length ≤ SZ) (ht : a.t.length ≤ SZ) :
    Calls Try.prog 11 #[.pointer (some ⟨g, 0, none⟩), .agg (actV a).toArray] wi (Act0 w wi g (actP d a)) := by
  obtain ⟨D, h1, h2⟩ := h
  exact (act_any wi _ D g d n a h1 hb hn ha hp ht).mono fun e w' ⟨v, he, hb, ha⟩ => ⟨v, he, hb, At0.after h1 h2 ha⟩
theorem new_at (room : Int) (h0 : 0 ≤ room) (h1 : room ≤ 16777216) (w wi : World) (k : Ext w wi) :
    Calls Try.prog 10 #[.int .i64 room] wi fun e w' => ∃ g, e = .returned (.tuple #[.pointer (some ⟨g, 0, none⟩), .int .i64 0]) ∧ At0 w w' g (newP room) :=
  (new_any room h0 h1 wi).mono fun e w' ⟨g, D, he, hd, hE⟩ => ⟨g, he, D, by
    obtain ⟨hg, bl, bs, v, hb, hp⟩ := hd
    exact ⟨hg, bl, bs, v, hb, ⟨hp.fl, hp.fs, hp.wb.lower k.size, hp.dl, hp.ds, hp.dv, hp.ne, fun j hj => ⟨Nat.le_trans k.size (hp.lo j hj).1, (hp.lo j hj).2⟩⟩⟩, k.trans hE⟩
def w1 : Dk := (writeP (newP 100) [97] [120]).2
def w2 : Dk := (syncP w1).2
def w3 : Dk := (writeP w2 [97] [121]).2
def w4 : Dk := armP w3 1 0
def w5 : Dk := (renameP w4 [97] [98]).2
def w6 : Dk := startP w5
theorem b1 : DkB 1 w1 := (DkB.new 100 (by decide)).write (by decide) (by decide)
theorem b2 : DkB 1 w2 := b1.sync
theorem b3 : DkB 2 w3 := b2.write (by decide) (by decide)
theorem b4 : DkB 2 w4 := b3.arm 1 0 (by decide) (by decide)
theorem b5 : DkB 3 w5 := b4.rename (by decide) (by decide)
theorem b6 : DkB 3 w6 := b5.start
theorem s0 : (writeP (newP 100) [97] [120]).1 = 0 := by decide +kernel
theorem s1 : (syncP w1).1 = 0 := by decide +kernel
theorem s4 : (renameP w4 [97] [98]).1 = 8 := by decide +kernel
theorem s5 : (readP w5 [97]).2 = 8 := by decide +kernel
theorem s6 : readP w6 [97] = ([120], 0) := by decide +kernel
theorem s7 : takenD w6 = 2 := by decide +kernel
theorem s8 : (listD w6 []).length = 1 := by decide +kernel
theorem s9 : writeP w6 [] [122] = (12, w6) := rfl
theorem s10 : (removeP w6 [113]).1 = 5 := by decide +kernel
def AwE (w : World) (e : Ending) (w' : World) : Prop := e = .returned (.bool true) ∧ Ext w w'
set_option maxRecDepth 100000 in
set_option maxHeartbeats 8000000 in
theorem awake_any (w : World) : Calls Try.prog 8 #[] w (AwE w) := by
  go_enter Try.func8, Try.ntmps8
  go_wp2_with fail
  refine (new_at 100 (by decide) (by decide) w w (Ext.refl w)).mono ?_
  rintro e wa ⟨g, rfl, hA⟩
  have K0 := Kept.mk hA
  clear hA
  go_wp2_with fail
  refine (new_bad (-1) (by decide) wa).mono ?_
  rintro e wb ⟨rfl, rfl⟩
  go_wp2_with fail
  have KC := Kept.mk (write_at K0.out 0 (DkB.new 100 (by decide)) (by decide) [97] [120] (by decide) (by decide))
  rw [s0] at KC
  refine KC.out.mono ?_
  rintro e wq ⟨rfl, hA⟩
  have K1 : Kept (At0 w wq g w1) := Kept.mk hA
  clear hA KC
  go_wp2_with fail
  have KC := Kept.mk (sync_at K1.out 1 b1 (by decide))
  rw [s1] at KC
  refine KC.out.mono ?_
  rintro e wq ⟨rfl, hA⟩
  have K2 : Kept (At0 w wq g w2) := Kept.mk hA
  clear hA KC
  go_wp2_with fail
  have KC := Kept.mk (write_at K2.out 1 b2 (by decide) [97] [121] (by decide) (by decide))
  refine KC.out.mono ?_
  rintro e wq ⟨rfl, hA⟩
  have K3 : Kept (At0 w wq g w3) := Kept.mk hA
  clear hA KC
  generalize (writeP w2 [97] [121]).1 = z3
  go_wp2_with fail
  have KC := Kept.mk (arm_at K3.out 1 0)
  refine KC.out.mono ?_
  rintro e wq ⟨rfl, hA⟩
  have K4 : Kept (At0 w wq g w4) := Kept.mk hA
  clear hA KC
  go_wp2_with fail
  have KC := Kept.mk (rename_at K4.out 2 b4 (by decide) [97] [98] (by decide) (by decide))
  rw [s4] at KC
  refine KC.out.mono ?_
  rintro e wq ⟨rfl, hA⟩
  have K5 : Kept (At0 w wq g w5) := Kept.mk hA
  clear hA KC
  go_wp2_with fail
  have KC := Kept.mk (read_at K5.out [97])
  rw [s5] at KC
  refine KC.out.mono ?_
  rintro e wq' ⟨rfl, rfl⟩
  clear KC
  generalize (readP w5 [97]).1 = z5
  go_wp2_with fail
  have KC := Kept.mk (start_at K5.out)
  refine KC.out.mono ?_
  rintro e wr ⟨rfl, hA⟩
  have K6 : Kept (At0 w wr g w6) := Kept.mk hA
  clear hA KC
  go_wp2_with fail
  have KC := Kept.mk (read_at K6.out [97])
  rw [s6] at KC
  refine KC.out.mono ?_
  rintro e wr' ⟨rfl, rfl⟩
  clear KC
  have hx : strOf [120] = ByteArray.mk #[120] := rfl
  go_wp2_with fail
  have KC := Kept.mk (taken_at K6.out 3 b6 (by decide))
  rw [s7] at KC
  refine KC.out.mono ?_
  rintro e wt ⟨rfl, hE⟩
  have K7 := Kept.mk (K6.out.ext hE)
  clear hE KC
  go_wp2_with fail
  have KC := Kept.mk (list_at K7.out 3 b6 (by decide) [] (by decide))
  refine KC.out.mono ?_
  rintro e wu ⟨v, rfl, hb, hE⟩
  obtain ⟨lA, lc, hv⟩ := hb.form
  rw [List.length_map, s8] at hv
  subst hv
  have K8 := Kept.mk (K7.out.ext hE)
  clear hE KC hb
  go_wp2_with fail
  have KC := Kept.mk (write_at K8.out 3 b6 (by decide) [] [122] (by decide) (by decide))
  rw [s9] at KC
  refine KC.out.mono ?_
  rintro e wv ⟨rfl, hA⟩
  have K9 := Kept.mk hA
  clear hA KC
  go_wp2_with fail
  have KC := Kept.mk (remove_at K9.out 3 b6 (by decide) [113] (by decide))
  rw [s10] at KC
  refine KC.out.mono ?_
  rintro e wz ⟨rfl, hA⟩
  have KZ := Kept.mk hA
  clear hA KC
  go_wp2_with fail
  go_ret
  exact ⟨rfl, KZ.out.all⟩
end Disk
end Go.Proofs.Ytjphmjegfpdbeaa
