/- The walks of slices.Clone and DeleteFunc at packets, of net's Packets and Empty. No condition. -/
import Derived.Test.YtpdaijmehaialaaNetWalkC
import Derived.Test.YtpdaijmehaialaaBufSet
namespace Go.Proofs.Ytpdaijmehaialaa
open Go.RowKit
namespace Net
set_option linter.unusedSimpArgs false
set_option linter.unusedVariables false
def CloneE (w : World) (css : List (List Value)) (e : Ending) (w' : World) : Prop := ∃ v', e = .returned v' ∧ BufS 3 w' w.heap.size 34 v' css ∧ Ext w w'
set_option maxRecDepth 100000 in
set_option maxHeartbeats 2000000 in
theorem clone_any (B : Nat) (A : Option Addr) (n cap : Nat) (css : List (List Value)) (hl : css.length ≤ 100000) (h1 : ∀ c ∈ css, ∀ u ∈ c, u.oneCell' = true) (w : World) (h : BufS 3 w B 34 (.slice A n cap) css) :
    Calls Try.prog 22 #[.slice A n cap] w (CloneE w css) := by
  obtain ⟨iP, hiP, hzP, hsP, hbP⟩ := infoP
  obtain ⟨hn, hcap, hmx⟩ := h.len
  rcases A with _ | a
  · have hnil : css = [] := by
      apply List.eq_nil_of_length_eq_zero
      rcases Nat.eq_zero_or_pos css.length with h0 | h0
      · exact h0
      · obtain ⟨b, off, e, _⟩ := h.at (by decide) h0
        cases e
    subst hnil
    have hq : (binOp .eql 39 (.slice none n cap) (.slice none 0 0)).run Try.prog w = .ok (.bool true) w := Lib.run_eql_slice_nil w _ _ none n cap 0 0 Try.underlying39
    clear hn h h1 hl
    go_enter Try.func22, Try.ntmps22
    go_wp2_with fail
    go_ret
    exact ⟨_, rfl, BufS.nil _ _ _ _, Ext.refl _⟩
  · have KV := Kept.mk h
    have hE := Ext.alloc w (.cells #[] 34)
    have hL := BufS.lit 3 w 34 w.heap.size (Nat.le_refl _) [] (by simp) (by simp [maxLen])
    have hL2 : BufS 3 (w.alloc (.cells #[] 34)) w.heap.size 34 (.slice (some ⟨w.heap.size, 0, none⟩) 0 0) [] := hL
    have hsrc := BufS.src (P := Try.prog) _ (h.ext hE) (by decide) Try.underlying39 h1
    have Kc := Kept.mk h.each
    have Kn := Kept.mk hn
    have Ks := Kept.mk hsrc
    have KL := Kept.mk hL2
    have KE := Kept.mk hE
    have hq : (binOp .eql 39 (.slice (some a) n cap) (.slice none 0 0)).run Try.prog w = .ok (.bool false) w := Lib.run_eql_slice_nil w _ _ (some a) n cap 0 0 Try.underlying39
    clear h hn hsrc hL hL2 hE h1
    go_enter Try.func22, Try.ntmps22
    go_wp2_with (refine wpList_append_bufS (P := Try.prog) _ rfl (.tmp 5) (.tmp 6) 39 39 rfl 3 (by decide) 34 iP _ Try.underlying39 hiP hzP hsP rfl w.heap.size (.slice (some ⟨w.heap.size, 0, none⟩) 0 0) [] rfl KL.out (.slice (some a) n cap) n css Kc.out rfl Ks.out (by simp) (by have := Kn.out; simp only [maxLen, List.length_nil]; omega) (by have := Kn.out; rw [hbP]; simp only [List.length_nil]; omega) ?_)
    intro v' w' hV hT ho
    have hE' : Ext w w' := Touch.below KE.out hT (fun j hj => by simp [own] at hj; omega) (Ext.size KE.out)
    have KV' := Kept.mk hV
    have KE' := Kept.mk hE'
    obtain ⟨A', cap', rfl⟩ := hV.form
    clear hV hT ho hE'
    go_wp2_with fail
    go_ret
    exact ⟨_, rfl, KV'.out, KE'.out⟩
/-- A copy of the net's packets. -/
def PacketsE (w : World) (l : List Pk) (e : Ending) (w' : World) : Prop := CloneE w (l.map pk) e w'
set_option maxRecDepth 100000 in
set_option maxHeartbeats 2000000 in
theorem packets_any (B g : Nat) (places : Int) (v : Value) (l : List Pk) (hl : l.length ≤ 100000) (w : World) (h : NetAt w B g places v l) : Calls Try.prog 16 #[.pointer (some ⟨g, 0, none⟩)] w (PacketsE w l) := by
  obtain ⟨A, cap, rfl⟩ := h.form
  have c1 := h.c1
  have KC := Kept.mk (clone_any B A l.length cap (l.map pk) (by simpa using hl) (pk_one l) w h.2.1)
  clear h
  go_enter Try.func16, Try.ntmps16
  go_wp2_with fail
  refine KC.out.mono ?_
  rintro e w1 ⟨v', rfl, h1, h2⟩
  have K1 := Kept.mk h1
  have K2 := Kept.mk h2
  clear h1 h2
  go_wp2_with fail
  go_ret
  exact ⟨_, rfl, K1.out, K2.out⟩
/-- Does a packet go from or to that side? -/
def hitB (i : Int) (p : Pk) : Bool := !decide (p.f ≠ i ∧ p.t ≠ i)
def BoolX (w : World) (b : Bool) (e : Ending) (w' : World) : Prop := e = .returned (.bool b) ∧ Ext w w'
set_option maxRecDepth 100000 in
set_option maxHeartbeats 2000000 in
theorem hit_any (bx : Nat) (i : Int) (p : Pk) (w : World) (hb : w.cell? ⟨bx, 0, none⟩ = some (.int .i64 i)) : Calls Try.prog 24 #[.agg #[.int .i64 p.f, .int .i64 p.t, .string (strOf p.b)], .pointer (some ⟨bx, 0, none⟩)] w (BoolX w (hitB i p)) := by
  obtain ⟨f, t, b⟩ := p
  have hE := Ext.alloc w (.cells #[.int .i64 f, .int .i64 t, .string (strOf b)] 34)
  have hb2 := hE.cell hb
  have KE := Kept.mk hE
  clear hE
  by_cases h1 : f = i
  · subst h1
    have hh : hitB f ⟨f, t, b⟩ = true := by simp [hitB]
    rw [hh]
    clear hh
    go_enter Try.func24, Try.ntmps24
    go_wp2_with fail
    go_ret
    exact ⟨rfl, KE.out⟩
  · by_cases h2 : t = i
    · subst h2
      have hh : hitB t ⟨f, t, b⟩ = true := by simp [hitB]
      have hd : (f == t) = false := by simpa using h1
      rw [hh]
      clear hh
      go_enter Try.func24, Try.ntmps24
      go_wp2_with fail
      go_ret
      exact ⟨rfl, KE.out⟩
    · have hh : hitB i ⟨f, t, b⟩ = false := by simp [hitB, h1, h2]
      have hd : (f == i) = false := by simpa using h1
      have hd2 : (t == i) = false := by simpa using h2
      rw [hh]
      clear hh
      go_enter Try.func24, Try.ntmps24
      go_wp2_with fail
      go_ret
      exact ⟨rfl, KE.out⟩
end Net
end Go.Proofs.Ytpdaijmehaialaa
