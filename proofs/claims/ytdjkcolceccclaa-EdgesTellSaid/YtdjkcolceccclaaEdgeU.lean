/- What EdgesTell's function answers. No condition. -/
import Derived.Test.YtdjkcolceccclaaEdgeT
import Derived.Test.YtdjkcolceccclaaEdgeM
import Derived.BigQuiet
import Derived.IntWalk
namespace Go.Proofs.Ytdjkcolceccclaa
open Go.RowKit
namespace Edge
set_option linter.unusedSimpArgs false
set_option linter.unusedVariables false
theorem neq_edR (p q : Ed) (w : World) : (binOp .neq 35 (.agg #[.string (strOf p.id), .int .i64 p.k]) (.agg #[.string (strOf q.id), .int .i64 q.k])).run Try.prog w = .ok (.bool (!decide (p = q))) w := by
  have hS : Try.prog.underlying 35 = some (.struct (Try.prog.fieldsOf 35)) := by kernel_rfl
  have hp : Try.prog.stoodInHeld 35 = false := by kernel_rfl
  rw [run_neq_struct, show (10000 : Nat) = 9999 + 1 from rfl, run_equalIn_agg w 9999 35 _ _ hS hp]
  have hb := ed_same p q
  simp only [Program.fieldsOf, Try.underlying35]
  have u3 := Try.underlying3
  have u9 := Try.underlying9
  go_simp
  rw [← hb]
  by_cases h1 : (strOf p.id).toList = (strOf q.id).toList <;> by_cases h2 : p.k = q.k <;> simp [h1, h2]
def fT (stop : Int) (other : List S) (i : Nat) : S × Int := if (i : Int) = stop then ([], 6) else (other.getD i [], 0)
/-- It has been asked so often. -/
def JT (wN : World) (ga : Nat) (i : Nat) (w : World) : Prop := Touch [ga] wN w ∧ Blk w ga 3 [.int .i64 (i : Int)]
set_option maxRecDepth 100000 in
set_option maxHeartbeats 4000000 in
theorem tell_any (wN w : World) (ga gm gs go : Nat) (i : Nat) (E : List Ed) (stop : Int) (other : List S) (hlo : other.length = E.length) (hlE : E.length ≤ 2001) (hi : i < E.length) (mv ov : Value) (B1 B2 : Nat)
    (hm : wN.cell? ⟨gm, 0, none⟩ = some mv) (hmr : BufS 2 wN B1 35 mv (E.map edV)) (hst : wN.cell? ⟨gs, 0, none⟩ = some (.int .i64 stop)) (hov : wN.cell? ⟨go, 0, none⟩ = some ov) (hor : BufS 1 wN B2 9 ov (other.map sV))
    (n1 : gm ≠ ga) (n2 : gs ≠ ga) (n3 : go ≠ ga) (n4 : ga ∉ own mv) (n5 : ga ∉ own ov) (hJ : JT wN ga i w) :
    Calls Try.prog 14 #[edA E[i], .pointer (some ⟨ga, 0, none⟩), .pointer (some ⟨gm, 0, none⟩), .pointer (some ⟨gs, 0, none⟩), .pointer (some ⟨go, 0, none⟩)] w
      fun e w' => e = .returned (.tuple #[.string (strOf (fT stop other i).1), .int .i64 (fT stop other i).2]) ∧ JT wN ga (i + 1) w' ∧ Touch [ga] w w' := by
  obtain ⟨hT, hb⟩ := hJ
  have hi3 : i ≤ 2001 := by omega
  have hS := Touch.set w ⟨ga, 0, none⟩ (.int .i64 ((i : Int) + 1))
  have hE := Ext.alloc (w.setCell ⟨ga, 0, none⟩ (.int .i64 ((i : Int) + 1))) (.cells #[.string (strOf E[i].id), .int .i64 E[i].k] 36)
  have hX := Blk.new (w.setCell ⟨ga, 0, none⟩ (.int .i64 ((i : Int) + 1))) 36 [.string (strOf E[i].id), .int .i64 E[i].k]
  have hsz : (w.setCell ⟨ga, 0, none⟩ (.int .i64 ((i : Int) + 1))).heap.size = w.heap.size := by simp
  rw [hsz] at hX
  have hgl := hb.lt
  have hTa : Touch [ga] w ((w.setCell ⟨ga, 0, none⟩ (.int .i64 ((i : Int) + 1))).alloc (.cells #[.string (strOf E[i].id), .int .i64 E[i].k] 36)) := hS.trans (Touch.of_ext (S := []) hE) (by simp)
  have hTb := hT.trans hTa (fun j hj => .inl hj)
  have g0 := hb.cell 0
  have g1 := hb.free 0
  simp only [List.getElem?_cons_zero] at g0
  have y0 := hX.cell 0
  have y1 := hX.cell 1
  simp only [List.getElem?_cons_zero, List.getElem?_cons_succ] at y0 y1
  have hbS := (hb.set 0 (.int .i64 ((i : Int) + 1))).ext hE
  have z0 := hbS.cell 0
  simp only [List.set_cons_zero, List.getElem?_cons_zero] at z0
  obtain ⟨mA, mc, rfl⟩ := hmr.form
  obtain ⟨oA, oc, rfl⟩ := hor.form
  rw [List.length_map] at *
  obtain ⟨mb, mo, rfl, -, hmc⟩ := hmr.rd.get (by decide) (i := i) hi
  have a0 := hTb.cell (hmc 0 (.string (strOf E[i].id)) rfl) (fun hm => n4 (by rw [List.mem_singleton] at hm; simp only at hm; subst hm; simp [own]))
  have a1 := hTb.cell (hmc 1 (.int .i64 E[i].k) rfl) (fun hm => n4 (by rw [List.mem_singleton] at hm; simp only at hm; subst hm; simp [own]))
  obtain ⟨ob, oo, rfl, -, hoc⟩ := hor.rd.get (by decide) (i := i) (by rw [hlo]; exact hi)
  have b0 := hTb.cell (hoc 0 (.string (strOf (other[i]'(by rw [hlo]; exact hi)))) rfl) (fun hm => n5 (by rw [List.mem_singleton] at hm; simp only at hm; subst hm; simp [own]))
  have m0 := hTb.cell hm (by simpa using n1)
  have t0 := hTb.cell hst (by simpa using n2)
  have o0 := hTb.cell hov (by simpa using n3)
  have KT := Kept.mk hTa
  have KJ : Kept (JT wN ga (i + 1) ((w.setCell ⟨ga, 0, none⟩ (.int .i64 ((i : Int) + 1))).alloc (.cells #[.string (strOf E[i].id), .int .i64 E[i].k] 36))) := Kept.mk ⟨hTb, by have := hbS; simp only [List.set_cons_zero] at this; push_cast; exact this⟩
  have hfO : fT stop other i = if (i : Int) = stop then ([], 6) else (other[i]'(by rw [hlo]; exact hi), 0) := by
    unfold fT; rw [List.getD_eq_getElem?_getD, List.getElem?_eq_getElem (by rw [hlo]; exact hi)]; rfl
  have Kf := Kept.mk hfO
  have hq := fun W => neq_edR E[i] E[i] W
  simp only [decide_true, Bool.not_true] at hq
  rw [Nat.add_zero] at a0
  rw [Nat.add_zero, Nat.mul_one] at b0
  generalize other[i]'(by rw [hlo]; exact hi) = ot at b0 Kf
  unfold edA
  generalize E[i] = x at *
  generalize hn : E.length = n at *
  clear hn
  have hltI : (i : Int) < (n : Int) := by omega
  have hd : decide ((n : Int) ≤ (i : Int)) = false := by simp; omega
  have r1 : IntKind.i64.wrap ((i : Int) + 1 - 1) = (i : Int) := by rw [show (i : Int) + 1 - 1 = (i : Int) by omega]; exact IntWalk.i64_in _ (by omega)
  have r2 : IntKind.i64.wrap (i : Int) = (i : Int) := IntWalk.i64_in _ (by omega)
  clear hmc hoc hT hb hE hX hS hTa hTb hbS hm hst hov hmr hor hfO hsz
  go_enter Try.func14, Try.ntmps14
  go_wp2_with fail
  go_quiet (fail)
  have KJ2 := Kept.mk (show JT wN ga (i + 1) _ from ⟨KJ.out.1.trans (Touch.of_ext (S := []) (Ext.drewN _ nq)) (by simp), KJ.out.2.ext (Ext.drewN _ nq)⟩)
  have KT2 := Kept.mk (KT.out.trans (Touch.of_ext (S := []) (Ext.drewN _ nq)) (by simp))
  have z0' := (Ext.drewN _ nq).cell z0
  have t0' := (Ext.drewN _ nq).cell t0
  have o0' := (Ext.drewN _ nq).cell o0
  have b0' := (Ext.drewN _ nq).cell b0
  clear z0 t0 o0 b0 a0 a1 m0 y0 y1 g0 g1 hq hd
  generalize ((w.setCell ⟨ga, 0, none⟩ (.int .i64 ((i : Int) + 1))).alloc (.cells #[.string (strOf x.id), .int .i64 x.k] 36)).drewN nq = wz at *
  by_cases hs : (i : Int) = stop
  · have hsb : ((i : Int) == stop) = true := by simpa using hs
    have Kf2 := Kf.out
    rw [if_pos hs] at Kf2
    have Kf3 := Kept.mk Kf2
    clear hs Kf2
    go_wp2_with fail
    exact bodyPost_ret (v := .tuple #[.string (strOf []), .int .i64 6]) (by simp [results, Try.results14, go_sem] <;> rfl) rfl ⟨by rw [Kf3.out], KJ2.out, KT2.out⟩
  · have hsb : ((i : Int) == stop) = false := by simpa using hs
    have Kf2 := Kf.out
    rw [if_neg hs] at Kf2
    have Kf3 := Kept.mk Kf2
    clear hs Kf2
    go_wp2_with fail
    exact bodyPost_ret (v := .tuple #[.string (strOf ot), .int .i64 0]) (by simp [results, Try.results14, go_sem] <;> rfl) rfl ⟨by rw [Kf3.out], KJ2.out, KT2.out⟩
theorem gives_tell (wN : World) (ga gm gs go : Nat) (E : List Ed) (stop : Int) (other : List S) (hlo : other.length = E.length) (hlE : E.length ≤ 2001) (mv ov : Value) (B1 B2 : Nat)
    (hm : wN.cell? ⟨gm, 0, none⟩ = some mv) (hmr : BufS 2 wN B1 35 mv (E.map edV)) (hst : wN.cell? ⟨gs, 0, none⟩ = some (.int .i64 stop)) (hov : wN.cell? ⟨go, 0, none⟩ = some ov) (hor : BufS 1 wN B2 9 ov (other.map sV))
    (n1 : gm ≠ ga) (n2 : gs ≠ ga) (n3 : go ≠ ga) (n4 : ga ∉ own mv) (n5 : ga ∉ own ov) (hga : ga < wN.heap.size) :
    Gives 14 #[.pointer (some ⟨ga, 0, none⟩), .pointer (some ⟨gm, 0, none⟩), .pointer (some ⟨gs, 0, none⟩), .pointer (some ⟨go, 0, none⟩)] E (fT stop other) (JT wN ga) [ga] wN.heap.size where
  low := by simpa using hga
  touch := fun i S w w' hj k hS => ⟨hj.1.trans k (fun j hm => .inr (hS j hm)), hj.2.touch k (fun hm => by have := hS _ hm; omega)⟩
  enter := enters_of Try.func14 (by kernel_rfl) rfl
  call := fun i w hi hj => tell_any wN w ga gm gs go i E stop other hlo hlE hi mv ov B1 B2 hm hmr hst hov hor n1 n2 n3 n4 n5 hj
end Edge
end Go.Proofs.Ytdjkcolceccclaa
