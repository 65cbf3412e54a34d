/- The law on pipes. No condition. -/
import Derived.Test.YtnbgdphnoopdpaaWorkLawA
namespace Go.Proofs.Ytnbgdphnoopdpaa
open Go.RowKit Go.Maps Go.ChangeShapes Go.WideShapes
namespace Work
set_option linter.unusedSimpArgs false
set_option linter.unusedVariables false
structure Act where
  k : Int
  x : Int
def actV (a : Act) : List Value := [.int .i64 a.k, .int .i64 a.x]
def ActOk (a : Act) : Prop := Wf a.k ∧ Wf a.x
def InActs (W : World) (a : Option Addr) (len cap : Nat) (acs : List Act) : Prop := InFlat W a len cap (acs.map actV) ∧ ∀ e ∈ acs, ActOk e
theorem in_acts {H : Type} {enc : TypeId × Value → H} {W : World} {base : Nat} {spare : Nat → Bool} {held : Bool} {a : Option Addr} {len cap : Nat} {d : DataW H} {p : List MemPlace}
    (h : DataW.Trod enc Try.prog W base spare held 40 (.slice a len cap) d p) (hw : ∀ n ∈ d.weights Try.prog 40, n ≤ reachBytes) : ∃ acs, InActs W a len cap acs := by
  obtain ⟨css, h1, h2⟩ := in_flat 2 Try.underlying40 (by kernel_rfl) (by decide) h
  obtain ⟨zs, rfl, h3⟩ := list_of (f := actV) (p := ActOk) css (fun c hc => by
    obtain ⟨hl, n, x, hx, hxw⟩ := h2 c hc
    obtain ⟨y0, e0, w0⟩ := leaf_int (n := 3) (off := 0) (t' := 3) (k := .i64) (by kernel_rfl) Try.underlying3 hx
    obtain ⟨y1, e1, w1⟩ := leaf_int (n := 3) (off := 1) (t' := 3) (k := .i64) (by kernel_rfl) Try.underlying3 hx
    refine ⟨⟨y0, y1⟩, ?_, w0, w1⟩
    match c, hl with
    | [c0, c1], _ => simp at e0 e1; simp [actV, e0, e1])
  exact ⟨zs, h1, h3⟩
theorem InActs.at {W : World} {a : Option Addr} {len cap : Nat} {acs : List Act} (h : InActs W a len cap acs) {i : Nat} (hi : i < len) :
    ∃ b off e, acs[i]? = some e ∧ a = some ⟨b, off, none⟩ ∧ W.cell? ⟨b, off + i * 2, none⟩ = some (.int .i64 e.k) ∧ W.cell? ⟨b, off + i * 2 + 1, none⟩ = some (.int .i64 e.x) := by
  obtain ⟨⟨h1, h2, h3, h4, h5⟩, h6⟩ := h
  have hl : acs.length = len := by simpa using h1
  have hz : acs[i]? = some (acs[i]'(by omega)) := List.getElem?_eq_getElem (by omega)
  generalize acs[i]'(by omega) = z at hz
  have hcs : ∀ c ∈ acs.map actV, c.length = 2 := by
    intro c hc
    obtain ⟨z, _, rfl⟩ := List.mem_map.1 hc
    rfl
  have hf (j : Nat) (hj : j < 2) : (acs.map actV).flatten[i * 2 + j]? = (actV z)[j]? := by
    rw [flat_at 2 _ i j hcs hj, List.getElem?_map, hz]; rfl
  have f0 := hf 0 (by decide)
  have f1 := hf 1 (by decide)
  obtain ⟨b, off, rfl, hc⟩ := h4.at (by
    have := (List.getElem?_eq_some_iff.1 (f0.trans (show (actV z)[0]? = some _ from rfl))).1
    omega)
  exact ⟨b, off, z, hz, rfl, hc _ _ f0, hc _ _ f1⟩
/-- The state of the law's loop. -/
def PipeI (w : World) (p c cap : Nat) (xs : List Int) (closed : Bool) (v : Value) (wi : World) : Prop :=
  PipeAt wi w.heap.size 68 p c cap (ints xs) closed ∧ Buf wi w.heap.size 3 v (ints xs) ∧ (∀ j ∈ own v, j ≠ p ∧ j ≠ c) ∧ Ext w wi
theorem PipeI.call {w wi w' : World} {p c cap : Nat} {xs xs' : List Int} {closed closed' : Bool} {v : Value} (h : PipeI w p c cap xs closed v wi) (h1 : PipeAt w' w.heap.size 68 p c cap (ints xs') closed') (k : Touch [p, c] wi w') :
    PipeAt w' w.heap.size 68 p c cap (ints xs') closed' ∧ Buf w' w.heap.size 3 v (ints xs) ∧ (∀ j ∈ own v, j ≠ p ∧ j ≠ c) ∧ Ext w w' :=
  ⟨h1, h.2.1.touch k (fun j hj => by have := h.2.2.1 j hj; simp; omega), h.2.2.1, Touch.below h.2.2.2 k (by have := h.1.bp; have := h.1.bc; simp; omega) h.2.2.2.size⟩
theorem PipeI.ext {w wi w' : World} {p c cap : Nat} {xs : List Int} {closed : Bool} {v : Value} (h : PipeI w p c cap xs closed v wi) (k : Ext wi w') : PipeI w p c cap xs closed v w' :=
  ⟨h.1.ext k, h.2.1.ext k, h.2.2.1, h.2.2.2.trans k⟩
set_option maxRecDepth 100000 in
set_option maxHeartbeats 4000000 in
theorem pipes_law (w : World) (room : Int) (hroom : (Lit.int .i64 room).wf = true) (a1 : Option Addr) (len1 cap1 : Nat) (acs : List Act) (h1 : InActs w a1 len1 cap1 acs) :
    Calls Try.prog 6 #[.int .i64 room, .slice a1 len1 cap1] w (TrueIs w) := by
  obtain ⟨iI, hiI, hzI, hsI, hbI⟩ := infoI
  have hl1 : acs.length = len1 := by simpa using h1.1.1
  have K1 := Kept.mk h1
  have KA := Kept.mk (awake_any w)
  clear h1
  go_enter Try.func6, Try.ntmps6
  go_wp2_with fail
  refine KA.out.mono ?_
  rintro e wN ⟨rfl, hE2⟩
  have KEN := Kept.mk hE2
  clear hE2
  by_cases g1 : 1000 < len1
  · have g1I : (1000 : Int) < (len1 : Int) := by omega
    go_wp2_with fail
    go_ret
    exact ⟨rfl, KEN.out⟩
  · have g1I : ¬ (1000 : Int) < (len1 : Int) := by omega
    have KP := Kept.mk (newPipeI room wN)
    go_wp2_with fail
    refine KP.out.mono ?_
    rintro e w3 ⟨p, c, hP, rfl, hE3⟩
    have KI3 : Kept (PipeI w p c (roomP room) [] false (.slice none 0 0) w3) := Kept.mk ⟨⟨hP.blk, hP.ch, Nat.le_trans KEN.out.size hP.bp, Nat.le_trans KEN.out.size hP.bc, hP.ne⟩, Buf.nil _ _ _, by simp [own], KEN.out.trans hE3⟩
    clear hP hE3
    by_cases q1 : 65536 < room
    · have hcap : ((roomP room : Nat) : Int) = 65536 := by unfold roomP; omega
      generalize roomP room = cap at *
      go_wp2_with fail
      go_loopg [7, 8, 9] len1 (fun r cv lv iv wi => ∃ (i : Nat) (closed : Bool) (xs : List Int), i + r = len1 ∧ cv = .bool closed ∧ iv = .int .i64 (i : Int) ∧ xs.length ≤ i ∧ xs.length ≤ cap ∧ PipeI w p c cap xs closed lv wi)
      case atStart => exact ⟨0, false, [], by omega, rfl, rfl, by simp, by simp, KI3.out⟩
      case round =>
        obtain ⟨i, closed, xs, hr, rfl, rfl, hxi, hxc, hI⟩ := hrel
        have Kr := Kept.mk hr
        have KI := Kept.mk hI
        have hil : i ≤ len1 := by omega
        clear hr hI
        by_cases hlt : i < len1
        · have hltI : (i : Int) < (len1 : Int) := by omega
          obtain ⟨b, off, e, he, rfl, e0, e1⟩ := K1.out.at hlt
          have f0 := KI.out.2.2.2.cell e0
          have f1 := KI.out.2.2.2.cell e1
          obtain ⟨k, x⟩ := e
          simp only [] at f0 f1
          clear he e0 e1
          obtain ⟨lA, lc, hlv⟩ := KI.out.2.1.form
          rw [ints_length] at hlv
          subst hlv
          obtain ⟨W1, hW1⟩ : ∃ W1, W1 = wr.alloc (.cells #[.int .i64 k, .int .i64 x] 44) := ⟨_, rfl⟩
          have KI1 : Kept (PipeI w p c cap xs closed (.slice lA xs.length lc) W1) := Kept.mk (by rw [hW1]; exact KI.out.ext (Ext.alloc _ _))
          have Kc1 : Kept (W1.cell? ⟨wr.heap.size, 1, none⟩ = some (.int .i64 x)) := Kept.mk (by rw [hW1, World.cell?_alloc_at _ _ _ _ rfl]; rfl)
          have Kpc : Kept (wr.heap.size ≠ p ∧ wr.heap.size ≠ c) := Kept.mk (by
            have h1 := KI.out.1.blk.lt
            obtain ⟨s, r, h2⟩ := KI.out.1.ch
            have h3 := (Array.getElem?_eq_some_iff.1 h2).1
            omega)
          have KLe := Kept.mk (fun (ys : List Int) (cl : Bool) (W : World) (h : PipeAt W w.heap.size 68 p c cap (ints ys) cl) => by
            have := leftI w.heap.size p c cap (ints ys) cl W h
            rw [ints_length] at this
            exact this)
          by_cases k0 : k = 0
          · subst k0
            cases closed with
            | true =>
              have KS := Kept.mk (sendShutI w.heap.size p c cap (ints xs) x W1 KI1.out.1)
              have KL := Kept.mk (KLe.out xs true W1 KI1.out.1)
              go_wp2_with fail
              rw [← hW1]
              clear hW1
              refine KS.out.mono ?_
              rintro e w6 ⟨rfl, rfl⟩
              go_wp2_with fail
              refine KL.out.mono ?_
              rintro e w7 ⟨rfl, rfl⟩
              go_wp2_with fail
              go_roundg (gk - 1)
              case measure => have := Kr.out; omega
              case rel => exact ⟨i + 1, true, xs, by have := Kr.out; omega, rfl, by first | rfl | simp, by omega, hxc, KI1.out⟩
            | false =>
              by_cases hlt2 : xs.length < cap
              · have hlt2I : (xs.length : Int) < 65536 := by omega
                have KS := Kept.mk (sendRoomI w.heap.size p c cap (ints xs) (by rw [ints_length]; exact hlt2) x W1 KI1.out.1)
                go_wp2_with fail
                rw [← hW1]
                clear hW1
                refine KS.out.mono ?_
                rintro e w6 ⟨rfl, hP6, hT6⟩
                rw [show ints xs ++ [.int .i64 x] = ints (xs ++ [x]) by simp [numsV]] at hP6
                have KC := Kept.mk (KI1.out.call hP6 hT6)
                have c6 := hT6.cell Kc1.out (by have := Kpc.out; simp; omega)
                have hB6 : w.heap.size ≤ w6.heap.size := KC.out.2.2.2.size
                clear hP6 hT6
                go_wp2_with (refine wpList_append_lit (P := Try.prog) w6 rfl (.tmp 53) (.tmp 56) 22 rfl 3 iI (.int .i64 0) Try.underlying22 hiI hzI hsI rfl w.heap.size (.slice lA xs.length lc) (ints xs) rfl KC.out.2.1 [.int .i64 x] 1 rfl rfl (by simp [Value.oneCell']) hB6 (by rw [ints_length]; simp only [maxLen]; omega) (by rw [ints_length, hbI]; omega) ?_)
                intro v7 w7 hV7 hT7 ho7
                rw [show ints xs ++ [.int .i64 x] = ints (xs ++ [x]) by simp [numsV]] at hV7
                have hpl := KC.out.1.blk.lt
                have hcl : c < w6.heap.size := by obtain ⟨s, r, h2⟩ := KC.out.1.ch; exact (Array.getElem?_eq_some_iff.1 h2).1
                have hsp : ∀ j ∈ own (.slice lA xs.length lc), j ≠ p ∧ j ≠ c := KC.out.2.2.1
                have K7 : Kept (PipeI w p c cap (xs ++ [x]) false v7 w7) := Kept.mk ⟨KC.out.1.touch hT7 (fun h => (hsp _ h).1 rfl) (fun h => (hsp _ h).2 rfl), hV7, fun j hj => by
                  rcases ho7 j hj with h | h
                  · exact hsp j h
                  · omega, Touch.below KC.out.2.2.2 hT7 (fun j hj => (KC.out.2.1.owns j hj).1) hB6⟩
                have hfo : ∃ A c, v7 = .slice A (xs ++ [x]).length c := by
                  obtain ⟨A5, c5, h5⟩ := hV7.form
                  rw [ints_length] at h5
                  exact ⟨A5, c5, h5⟩
                obtain ⟨A7, c7, rfl⟩ := hfo
                have KL := Kept.mk (KLe.out (xs ++ [x]) false w7 K7.out.1)
                have hll := Kept.mk (show (xs ++ [x]).length = xs.length + 1 from by simp)
                clear hV7 hT7 ho7 hsp
                generalize xs ++ [x] = xs2 at *
                go_wp2_with fail
                refine KL.out.mono ?_
                rintro e w8 ⟨rfl, rfl⟩
                go_wp2_with fail
                go_roundg (gk - 1)
                case measure => have := Kr.out; omega
                case rel => exact ⟨i + 1, false, xs2, by have := Kr.out; omega, rfl, by first | rfl | simp, by have := hll.out; omega, by have := hll.out; omega, K7.out⟩
              · have hlt2I : ¬ (xs.length : Int) < 65536 := by omega
                exact absurd hlt2I (by omega)
          · have k0b : (k == 0) = false := by simpa using k0
            by_cases k1 : k = 1
            · subst k1
              cases xs with
              | nil =>
                have KS : Kept (Calls Try.prog 20 #[.pointer (some ⟨p, 0, none⟩)] W1 (PipeE W1 w.heap.size 68 p c cap [] closed (.tuple #[.int .i64 0, .bool false]))) := Kept.mk (by
                  cases closed with
                  | true => exact nextShutI w.heap.size p c cap W1 KI1.out.1
                  | false => exact nextNoneI w.heap.size p c cap W1 KI1.out.1)
                simp only [List.length_nil] at *
                go_wp2_with fail
                rw [← hW1]
                clear hW1
                refine KS.out.mono ?_
                rintro e w6 ⟨rfl, hP6, hT6⟩
                have KC := Kept.mk (show PipeI w p c cap [] closed (.slice lA 0 lc) w6 from KI1.out.call (xs' := []) hP6 hT6)
                have KL := Kept.mk (KLe.out [] closed w6 hP6)
                clear hP6 hT6
                go_wp2_with fail
                refine KL.out.mono ?_
                rintro e w7 ⟨rfl, rfl⟩
                go_wp2_with fail
                go_roundg (gk - 1)
                case measure => have := Kr.out; omega
                case rel => exact ⟨i + 1, closed, [], by have := Kr.out; omega, rfl, by first | rfl | simp, by simp, by simp, KC.out⟩
              | cons x0 xs =>
                have KS := Kept.mk (nextSomeI w.heap.size p c cap x0 (ints xs) closed W1 KI1.out.1)
                simp only [List.length_cons] at *
                go_wp2_with fail
                rw [← hW1]
                clear hW1
                refine KS.out.mono ?_
                rintro e w6 ⟨rfl, hP6, hT6⟩
                have KC := Kept.mk (KI1.out.call (xs' := xs) hP6 hT6)
                have KL := Kept.mk (KLe.out xs closed w6 hP6)
                obtain ⟨b2, off2, rfl, hc0⟩ := KC.out.2.1.cell (j := 0) (u := .int .i64 x0) rfl
                rw [Nat.add_zero] at hc0
                obtain ⟨hca, hcb⟩ := buf_len KC.out.2.1
                have hca1 : xs.length + 1 ≤ lc := by simpa [numsV] using hca
                have hcut := KC.out.2.1.cut 1 (by simp [numsV])
                have hpos : (0 : Int) < ((xs.length + 1 : Nat) : Int) := by omega
                have hown : ∀ j ∈ own (.slice (some ⟨b2, off2, none⟩) (xs.length + 1) lc), j ≠ p ∧ j ≠ c := KC.out.2.2.1
                clear hP6 hT6 hca
                by_cases hlc : lc = 1
                · subst hlc
                  rw [if_pos rfl] at hcut
                  have K7 : Kept (PipeI w p c cap xs closed (.slice (some ⟨b2, off2, none⟩) xs.length 0) w6) := Kept.mk ⟨KC.out.1, by simpa [numsV] using hcut, by simpa [own] using hown, KC.out.2.2.2⟩
                  clear hcut hown
                  go_wp2_with fail
                  refine KL.out.mono ?_
                  rintro e w7 ⟨rfl, rfl⟩
                  go_wp2_with fail
                  go_roundg (gk - 1)
                  case measure => have := Kr.out; omega
                  case rel => exact ⟨i + 1, closed, xs, by have := Kr.out; omega, rfl, by first | rfl | simp, by omega, by omega, by have h := K7.out; rw [show xs.length = 0 from by omega] at h; exact h⟩
                · rw [if_neg hlc] at hcut
                  have K7 : Kept (PipeI w p c cap xs closed (.slice (some ⟨b2, off2 + 1, none⟩) xs.length (lc - 1)) w6) := Kept.mk ⟨KC.out.1, by simpa [numsV, Addr.add_lit] using hcut, by simpa [own] using hown, KC.out.2.2.2⟩
                  clear hcut hown
                  go_wp2_with fail
                  refine KL.out.mono ?_
                  rintro e w7 ⟨rfl, rfl⟩
                  go_wp2_with fail
                  go_roundg (gk - 1)
                  case measure => have := Kr.out; omega
                  case rel => exact ⟨i + 1, closed, xs, by have := Kr.out; omega, rfl, by first | rfl | simp, by omega, by omega, K7.out⟩
            · have k1b : (k == 1) = false := by simpa using k1
              by_cases k2 : k = 2
              · subst k2
                have KS := Kept.mk (closePI w.heap.size p c cap (ints xs) closed W1 KI1.out.1)
                go_wp2_with fail
                rw [← hW1]
                clear hW1
                refine KS.out.mono ?_
                rintro e w6 ⟨rfl, hP6, hT6⟩
                have KC := Kept.mk (show PipeI w p c cap xs true (.slice lA xs.length lc) w6 from KI1.out.call hP6 hT6)
                have KL := Kept.mk (KLe.out xs true w6 hP6)
                clear hP6 hT6
                go_wp2_with fail
                refine KL.out.mono ?_
                rintro e w7 ⟨rfl, rfl⟩
                go_wp2_with fail
                go_roundg (gk - 1)
                case measure => have := Kr.out; omega
                case rel => exact ⟨i + 1, true, xs, by have := Kr.out; omega, rfl, by first | rfl | simp, by omega, hxc, KC.out⟩
              · have k2b : (k == 2) = false := by simpa using k2
                have KL := Kept.mk (KLe.out xs closed W1 KI1.out.1)
                go_wp2_with fail
                rw [← hW1]
                clear hW1
                refine KL.out.mono ?_
                rintro e w7 ⟨rfl, rfl⟩
                go_wp2_with fail
                go_roundg (gk - 1)
                case measure => have := Kr.out; omega
                case rel => exact ⟨i + 1, closed, xs, by have := Kr.out; omega, rfl, by first | rfl | simp, by omega, hxc, KI1.out⟩
        · have hltI : ¬ (i : Int) < (len1 : Int) := by omega
          go_wp2_with fail
          go_ret
          exact ⟨rfl, KI.out.2.2.2⟩
    · have q1' : room ≤ 65536 := by omega
      by_cases q2 : 1 < room
      · have hcap : ((roomP room : Nat) : Int) = room := by unfold roomP; omega
        generalize roomP room = cap at *
        go_wp2_with fail
        go_loopg [7, 8, 9] len1 (fun r cv lv iv wi => ∃ (i : Nat) (closed : Bool) (xs : List Int), i + r = len1 ∧ cv = .bool closed ∧ iv = .int .i64 (i : Int) ∧ xs.length ≤ i ∧ xs.length ≤ cap ∧ PipeI w p c cap xs closed lv wi)
        case atStart => exact ⟨0, false, [], by omega, rfl, rfl, by simp, by simp, KI3.out⟩
        case round =>
          obtain ⟨i, closed, xs, hr, rfl, rfl, hxi, hxc, hI⟩ := hrel
          have Kr := Kept.mk hr
          have KI := Kept.mk hI
          have hil : i ≤ len1 := by omega
          clear hr hI
          by_cases hlt : i < len1
          · have hltI : (i : Int) < (len1 : Int) := by omega
            obtain ⟨b, off, e, he, rfl, e0, e1⟩ := K1.out.at hlt
            have f0 := KI.out.2.2.2.cell e0
            have f1 := KI.out.2.2.2.cell e1
            obtain ⟨k, x⟩ := e
            simp only [] at f0 f1
            clear he e0 e1
            obtain ⟨lA, lc, hlv⟩ := KI.out.2.1.form
            rw [ints_length] at hlv
            subst hlv
            obtain ⟨W1, hW1⟩ : ∃ W1, W1 = wr.alloc (.cells #[.int .i64 k, .int .i64 x] 44) := ⟨_, rfl⟩
            have KI1 : Kept (PipeI w p c cap xs closed (.slice lA xs.length lc) W1) := Kept.mk (by rw [hW1]; exact KI.out.ext (Ext.alloc _ _))
            have Kc1 : Kept (W1.cell? ⟨wr.heap.size, 1, none⟩ = some (.int .i64 x)) := Kept.mk (by rw [hW1, World.cell?_alloc_at _ _ _ _ rfl]; rfl)
            have Kpc : Kept (wr.heap.size ≠ p ∧ wr.heap.size ≠ c) := Kept.mk (by
              have h1 := KI.out.1.blk.lt
              obtain ⟨s, r, h2⟩ := KI.out.1.ch
              have h3 := (Array.getElem?_eq_some_iff.1 h2).1
              omega)
            have KLe := Kept.mk (fun (ys : List Int) (cl : Bool) (W : World) (h : PipeAt W w.heap.size 68 p c cap (ints ys) cl) => by
              have := leftI w.heap.size p c cap (ints ys) cl W h
              rw [ints_length] at this
              exact this)
            by_cases k0 : k = 0
            · subst k0
              cases closed with
              | true =>
                have KS := Kept.mk (sendShutI w.heap.size p c cap (ints xs) x W1 KI1.out.1)
                have KL := Kept.mk (KLe.out xs true W1 KI1.out.1)
                go_wp2_with fail
                rw [← hW1]
                clear hW1
                refine KS.out.mono ?_
                rintro e w6 ⟨rfl, rfl⟩
                go_wp2_with fail
                refine KL.out.mono ?_
                rintro e w7 ⟨rfl, rfl⟩
                go_wp2_with fail
                go_roundg (gk - 1)
                case measure => have := Kr.out; omega
                case rel => exact ⟨i + 1, true, xs, by have := Kr.out; omega, rfl, by first | rfl | simp, by omega, hxc, KI1.out⟩
              | false =>
                by_cases hlt2 : xs.length < cap
                · have hlt2I : (xs.length : Int) < room := by omega
                  have KS := Kept.mk (sendRoomI w.heap.size p c cap (ints xs) (by rw [ints_length]; exact hlt2) x W1 KI1.out.1)
                  go_wp2_with fail
                  rw [← hW1]
                  clear hW1
                  refine KS.out.mono ?_
                  rintro e w6 ⟨rfl, hP6, hT6⟩
                  rw [show ints xs ++ [.int .i64 x] = ints (xs ++ [x]) by simp [numsV]] at hP6
                  have KC := Kept.mk (KI1.out.call hP6 hT6)
                  have c6 := hT6.cell Kc1.out (by have := Kpc.out; simp; omega)
                  have hB6 : w.heap.size ≤ w6.heap.size := KC.out.2.2.2.size
                  clear hP6 hT6
                  go_wp2_with (refine wpList_append_lit (P := Try.prog) w6 rfl (.tmp 53) (.tmp 56) 22 rfl 3 iI (.int .i64 0) Try.underlying22 hiI hzI hsI rfl w.heap.size (.slice lA xs.length lc) (ints xs) rfl KC.out.2.1 [.int .i64 x] 1 rfl rfl (by simp [Value.oneCell']) hB6 (by rw [ints_length]; simp only [maxLen]; omega) (by rw [ints_length, hbI]; omega) ?_)
                  intro v7 w7 hV7 hT7 ho7
                  rw [show ints xs ++ [.int .i64 x] = ints (xs ++ [x]) by simp [numsV]] at hV7
                  have hpl := KC.out.1.blk.lt
                  have hcl : c < w6.heap.size := by obtain ⟨s, r, h2⟩ := KC.out.1.ch; exact (Array.getElem?_eq_some_iff.1 h2).1
                  have hsp : ∀ j ∈ own (.slice lA xs.length lc), j ≠ p ∧ j ≠ c := KC.out.2.2.1
                  have K7 : Kept (PipeI w p c cap (xs ++ [x]) false v7 w7) := Kept.mk ⟨KC.out.1.touch hT7 (fun h => (hsp _ h).1 rfl) (fun h => (hsp _ h).2 rfl), hV7, fun j hj => by
                    rcases ho7 j hj with h | h
                    · exact hsp j h
                    · omega, Touch.below KC.out.2.2.2 hT7 (fun j hj => (KC.out.2.1.owns j hj).1) hB6⟩
                  have hfo : ∃ A c, v7 = .slice A (xs ++ [x]).length c := by
                    obtain ⟨A5, c5, h5⟩ := hV7.form
                    rw [ints_length] at h5
                    exact ⟨A5, c5, h5⟩
                  obtain ⟨A7, c7, rfl⟩ := hfo
                  have KL := Kept.mk (KLe.out (xs ++ [x]) false w7 K7.out.1)
                  have hll := Kept.mk (show (xs ++ [x]).length = xs.length + 1 from by simp)
                  clear hV7 hT7 ho7 hsp
                  generalize xs ++ [x] = xs2 at *
                  go_wp2_with fail
                  refine KL.out.mono ?_
                  rintro e w8 ⟨rfl, rfl⟩
                  go_wp2_with fail
                  go_roundg (gk - 1)
                  case measure => have := Kr.out; omega
                  case rel => exact ⟨i + 1, false, xs2, by have := Kr.out; omega, rfl, by first | rfl | simp, by have := hll.out; omega, by have := hll.out; omega, K7.out⟩
                · have hlt2I : ¬ (xs.length : Int) < room := by omega
                  have KS := Kept.mk (sendFullI w.heap.size p c cap (ints xs) (by rw [ints_length]; omega) x W1 KI1.out.1)
                  go_wp2_with fail
                  rw [← hW1]
                  clear hW1
                  refine KS.out.mono ?_
                  rintro e w6 ⟨rfl, hP6, hT6⟩
                  have KC := Kept.mk (show PipeI w p c cap xs false (.slice lA xs.length lc) w6 from KI1.out.call hP6 hT6)
                  have KL := Kept.mk (KLe.out xs false w6 hP6)
                  clear hP6 hT6
                  go_wp2_with fail
                  refine KL.out.mono ?_
                  rintro e w7 ⟨rfl, rfl⟩
                  go_wp2_with fail
                  go_roundg (gk - 1)
                  case measure => have := Kr.out; omega
                  case rel => exact ⟨i + 1, false, xs, by have := Kr.out; omega, rfl, by first | rfl | simp, by omega, hxc, KC.out⟩
            · have k0b : (k == 0) = false := by simpa using k0
              by_cases k1 : k = 1
              · subst k1
                cases xs with
                | nil =>
                  have KS : Kept (Calls Try.prog 20 #[.pointer (some ⟨p, 0, none⟩)] W1 (PipeE W1 w.heap.size 68 p c cap [] closed (.tuple #[.int .i64 0, .bool false]))) := Kept.mk (by
                    cases closed with
                    | true => exact nextShutI w.heap.size p c cap W1 KI1.out.1
                    | false => exact nextNoneI w.heap.size p c cap W1 KI1.out.1)
                  simp only [List.length_nil] at *
                  go_wp2_with fail
                  rw [← hW1]
                  clear hW1
                  refine KS.out.mono ?_
                  rintro e w6 ⟨rfl, hP6, hT6⟩
                  have KC := Kept.mk (show PipeI w p c cap [] closed (.slice lA 0 lc) w6 from KI1.out.call (xs' := []) hP6 hT6)
                  have KL := Kept.mk (KLe.out [] closed w6 hP6)
                  clear hP6 hT6
                  go_wp2_with fail
                  refine KL.out.mono ?_
                  rintro e w7 ⟨rfl, rfl⟩
                  go_wp2_with fail
                  go_roundg (gk - 1)
                  case measure => have := Kr.out; omega
                  case rel => exact ⟨i + 1, closed, [], by have := Kr.out; omega, rfl, by first | rfl | simp, by simp, by simp, KC.out⟩
                | cons x0 xs =>
                  have KS := Kept.mk (nextSomeI w.heap.size p c cap x0 (ints xs) closed W1 KI1.out.1)
                  simp only [List.length_cons] at *
                  go_wp2_with fail
                  rw [← hW1]
                  clear hW1
                  refine KS.out.mono ?_
                  rintro e w6 ⟨rfl, hP6, hT6⟩
                  have KC := Kept.mk (KI1.out.call (xs' := xs) hP6 hT6)
                  have KL := Kept.mk (KLe.out xs closed w6 hP6)
                  obtain ⟨b2, off2, rfl, hc0⟩ := KC.out.2.1.cell (j := 0) (u := .int .i64 x0) rfl
                  rw [Nat.add_zero] at hc0
                  obtain ⟨hca, hcb⟩ := buf_len KC.out.2.1
                  have hca1 : xs.length + 1 ≤ lc := by simpa [numsV] using hca
                  have hcut := KC.out.2.1.cut 1 (by simp [numsV])
                  have hpos : (0 : Int) < ((xs.length + 1 : Nat) : Int) := by omega
                  have hown : ∀ j ∈ own (.slice (some ⟨b2, off2, none⟩) (xs.length + 1) lc), j ≠ p ∧ j ≠ c := KC.out.2.2.1
                  clear hP6 hT6 hca
                  by_cases hlc : lc = 1
                  · subst hlc
                    rw [if_pos rfl] at hcut
                    have K7 : Kept (PipeI w p c cap xs closed (.slice (some ⟨b2, off2, none⟩) xs.length 0) w6) := Kept.mk ⟨KC.out.1, by simpa [numsV] using hcut, by simpa [own] using hown, KC.out.2.2.2⟩
                    clear hcut hown
                    go_wp2_with fail
                    refine KL.out.mono ?_
                    rintro e w7 ⟨rfl, rfl⟩
                    go_wp2_with fail
                    go_roundg (gk - 1)
                    case measure => have := Kr.out; omega
                    case rel => exact ⟨i + 1, closed, xs, by have := Kr.out; omega, rfl, by first | rfl | simp, by omega, by omega, by have h := K7.out; rw [show xs.length = 0 from by omega] at h; exact h⟩
                  · rw [if_neg hlc] at hcut
                    have K7 : Kept (PipeI w p c cap xs closed (.slice (some ⟨b2, off2 + 1, none⟩) xs.length (lc - 1)) w6) := Kept.mk ⟨KC.out.1, by simpa [numsV, Addr.add_lit] using hcut, by simpa [own] using hown, KC.out.2.2.2⟩
                    clear hcut hown
                    go_wp2_with fail
                    refine KL.out.mono ?_
                    rintro e w7 ⟨rfl, rfl⟩
                    go_wp2_with fail
                    go_roundg (gk - 1)
                    case measure => have := Kr.out; omega
                    case rel => exact ⟨i + 1, closed, xs, by have := Kr.out; omega, rfl, by first | rfl | simp, by omega, by omega, K7.out⟩
              · have k1b : (k == 1) = false := by simpa using k1
                by_cases k2 : k = 2
                · subst k2
                  have KS := Kept.mk (closePI w.heap.size p c cap (ints xs) closed W1 KI1.out.1)
                  go_wp2_with fail
                  rw [← hW1]
                  clear hW1
                  refine KS.out.mono ?_
                  rintro e w6 ⟨rfl, hP6, hT6⟩
                  have KC := Kept.mk (show PipeI w p c cap xs true (.slice lA xs.length lc) w6 from KI1.out.call hP6 hT6)
                  have KL := Kept.mk (KLe.out xs true w6 hP6)
                  clear hP6 hT6
                  go_wp2_with fail
                  refine KL.out.mono ?_
                  rintro e w7 ⟨rfl, rfl⟩
                  go_wp2_with fail
                  go_roundg (gk - 1)
                  case measure => have := Kr.out; omega
                  case rel => exact ⟨i + 1, true, xs, by have := Kr.out; omega, rfl, by first | rfl | simp, by omega, hxc, KC.out⟩
                · have k2b : (k == 2) = false := by simpa using k2
                  have KL := Kept.mk (KLe.out xs closed W1 KI1.out.1)
                  go_wp2_with fail
                  rw [← hW1]
                  clear hW1
                  refine KL.out.mono ?_
                  rintro e w7 ⟨rfl, rfl⟩
                  go_wp2_with fail
                  go_roundg (gk - 1)
                  case measure => have := Kr.out; omega
                  case rel => exact ⟨i + 1, closed, xs, by have := Kr.out; omega, rfl, by first | rfl | simp, by omega, hxc, KI1.out⟩
          · have hltI : ¬ (i : Int) < (len1 : Int) := by omega
            go_wp2_with fail
            go_ret
            exact ⟨rfl, KI.out.2.2.2⟩
      · have q2' : room ≤ 1 := by omega
        have hcap : ((roomP room : Nat) : Int) = 1 := by unfold roomP; omega
        generalize roomP room = cap at *
        go_wp2_with fail
        go_loopg [7, 8, 9] len1 (fun r cv lv iv wi => ∃ (i : Nat) (closed : Bool) (xs : List Int), i + r = len1 ∧ cv = .bool closed ∧ iv = .int .i64 (i : Int) ∧ xs.length ≤ i ∧ xs.length ≤ cap ∧ PipeI w p c cap xs closed lv wi)
        case atStart => exact ⟨0, false, [], by omega, rfl, rfl, by simp, by simp, KI3.out⟩
        case round =>
          obtain ⟨i, closed, xs, hr, rfl, rfl, hxi, hxc, hI⟩ := hrel
          have Kr := Kept.mk hr
          have KI := Kept.mk hI
          have hil : i ≤ len1 := by omega
          clear hr hI
          by_cases hlt : i < len1
          · have hltI : (i : Int) < (len1 : Int) := by omega
            obtain ⟨b, off, e, he, rfl, e0, e1⟩ := K1.out.at hlt
            have f0 := KI.out.2.2.2.cell e0
            have f1 := KI.out.2.2.2.cell e1
            obtain ⟨k, x⟩ := e
            simp only [] at f0 f1
            clear he e0 e1
            obtain ⟨lA, lc, hlv⟩ := KI.out.2.1.form
            rw [ints_length] at hlv
            subst hlv
            obtain ⟨W1, hW1⟩ : ∃ W1, W1 = wr.alloc (.cells #[.int .i64 k, .int .i64 x] 44) := ⟨_, rfl⟩
            have KI1 : Kept (PipeI w p c cap xs closed (.slice lA xs.length lc) W1) := Kept.mk (by rw [hW1]; exact KI.out.ext (Ext.alloc _ _))
            have Kc1 : Kept (W1.cell? ⟨wr.heap.size, 1, none⟩ = some (.int .i64 x)) := Kept.mk (by rw [hW1, World.cell?_alloc_at _ _ _ _ rfl]; rfl)
            have Kpc : Kept (wr.heap.size ≠ p ∧ wr.heap.size ≠ c) := Kept.mk (by
              have h1 := KI.out.1.blk.lt
              obtain ⟨s, r, h2⟩ := KI.out.1.ch
              have h3 := (Array.getElem?_eq_some_iff.1 h2).1
              omega)
            have KLe := Kept.mk (fun (ys : List Int) (cl : Bool) (W : World) (h : PipeAt W w.heap.size 68 p c cap (ints ys) cl) => by
              have := leftI w.heap.size p c cap (ints ys) cl W h
              rw [ints_length] at this
              exact this)
            by_cases k0 : k = 0
            · subst k0
              cases closed with
              | true =>
                have KS := Kept.mk (sendShutI w.heap.size p c cap (ints xs) x W1 KI1.out.1)
                have KL := Kept.mk (KLe.out xs true W1 KI1.out.1)
                go_wp2_with fail
                rw [← hW1]
                clear hW1
                refine KS.out.mono ?_
                rintro e w6 ⟨rfl, rfl⟩
                go_wp2_with fail
                refine KL.out.mono ?_
                rintro e w7 ⟨rfl, rfl⟩
                go_wp2_with fail
                go_roundg (gk - 1)
                case measure => have := Kr.out; omega
                case rel => exact ⟨i + 1, true, xs, by have := Kr.out; omega, rfl, by first | rfl | simp, by omega, hxc, KI1.out⟩
              | false =>
                by_cases hlt2 : xs.length < cap
                · have hlt2I : (xs.length : Int) < 1 := by omega
                  have KS := Kept.mk (sendRoomI w.heap.size p c cap (ints xs) (by rw [ints_length]; exact hlt2) x W1 KI1.out.1)
                  go_wp2_with fail
                  rw [← hW1]
                  clear hW1
                  refine KS.out.mono ?_
                  rintro e w6 ⟨rfl, hP6, hT6⟩
                  rw [show ints xs ++ [.int .i64 x] = ints (xs ++ [x]) by simp [numsV]] at hP6
                  have KC := Kept.mk (KI1.out.call hP6 hT6)
                  have c6 := hT6.cell Kc1.out (by have := Kpc.out; simp; omega)
                  have hB6 : w.heap.size ≤ w6.heap.size := KC.out.2.2.2.size
                  clear hP6 hT6
                  go_wp2_with (refine wpList_append_lit (P := Try.prog) w6 rfl (.tmp 53) (.tmp 56) 22 rfl 3 iI (.int .i64 0) Try.underlying22 hiI hzI hsI rfl w.heap.size (.slice lA xs.length lc) (ints xs) rfl KC.out.2.1 [.int .i64 x] 1 rfl rfl (by simp [Value.oneCell']) hB6 (by rw [ints_length]; simp only [maxLen]; omega) (by rw [ints_length, hbI]; omega) ?_)
                  intro v7 w7 hV7 hT7 ho7
                  rw [show ints xs ++ [.int .i64 x] = ints (xs ++ [x]) by simp [numsV]] at hV7
                  have hpl := KC.out.1.blk.lt
                  have hcl : c < w6.heap.size := by obtain ⟨s, r, h2⟩ := KC.out.1.ch; exact (Array.getElem?_eq_some_iff.1 h2).1
                  have hsp : ∀ j ∈ own (.slice lA xs.length lc), j ≠ p ∧ j ≠ c := KC.out.2.2.1
                  have K7 : Kept (PipeI w p c cap (xs ++ [x]) false v7 w7) := Kept.mk ⟨KC.out.1.touch hT7 (fun h => (hsp _ h).1 rfl) (fun h => (hsp _ h).2 rfl), hV7, fun j hj => by
                    rcases ho7 j hj with h | h
                    · exact hsp j h
                    · omega, Touch.below KC.out.2.2.2 hT7 (fun j hj => (KC.out.2.1.owns j hj).1) hB6⟩
                  have hfo : ∃ A c, v7 = .slice A (xs ++ [x]).length c := by
                    obtain ⟨A5, c5, h5⟩ := hV7.form
                    rw [ints_length] at h5
                    exact ⟨A5, c5, h5⟩
                  obtain ⟨A7, c7, rfl⟩ := hfo
                  have KL := Kept.mk (KLe.out (xs ++ [x]) false w7 K7.out.1)
                  have hll := Kept.mk (show (xs ++ [x]).length = xs.length + 1 from by simp)
                  clear hV7 hT7 ho7 hsp
                  generalize xs ++ [x] = xs2 at *
                  go_wp2_with fail
                  refine KL.out.mono ?_
                  rintro e w8 ⟨rfl, rfl⟩
                  go_wp2_with fail
                  go_roundg (gk - 1)
                  case measure => have := Kr.out; omega
                  case rel => exact ⟨i + 1, false, xs2, by have := Kr.out; omega, rfl, by first | rfl | simp, by have := hll.out; omega, by have := hll.out; omega, K7.out⟩
                · have hlt2I : ¬ (xs.length : Int) < 1 := by omega
                  have KS := Kept.mk (sendFullI w.heap.size p c cap (ints xs) (by rw [ints_length]; omega) x W1 KI1.out.1)
                  go_wp2_with fail
                  rw [← hW1]
                  clear hW1
                  refine KS.out.mono ?_
                  rintro e w6 ⟨rfl, hP6, hT6⟩
                  have KC := Kept.mk (show PipeI w p c cap xs false (.slice lA xs.length lc) w6 from KI1.out.call hP6 hT6)
                  have KL := Kept.mk (KLe.out xs false w6 hP6)
                  clear hP6 hT6
                  go_wp2_with fail
                  refine KL.out.mono ?_
                  rintro e w7 ⟨rfl, rfl⟩
                  go_wp2_with fail
                  go_roundg (gk - 1)
                  case measure => have := Kr.out; omega
                  case rel => exact ⟨i + 1, false, xs, by have := Kr.out; omega, rfl, by first | rfl | simp, by omega, hxc, KC.out⟩
            · have k0b : (k == 0) = false := by simpa using k0
              by_cases k1 : k = 1
              · subst k1
                cases xs with
                | nil =>
                  have KS : Kept (Calls Try.prog 20 #[.pointer (some ⟨p, 0, none⟩)] W1 (PipeE W1 w.heap.size 68 p c cap [] closed (.tuple #[.int .i64 0, .bool false]))) := Kept.mk (by
                    cases closed with
                    | true => exact nextShutI w.heap.size p c cap W1 KI1.out.1
                    | false => exact nextNoneI w.heap.size p c cap W1 KI1.out.1)
                  simp only [List.length_nil] at *
                  go_wp2_with fail
                  rw [← hW1]
                  clear hW1
                  refine KS.out.mono ?_
                  rintro e w6 ⟨rfl, hP6, hT6⟩
                  have KC := Kept.mk (show PipeI w p c cap [] closed (.slice lA 0 lc) w6 from KI1.out.call (xs' := []) hP6 hT6)
                  have KL := Kept.mk (KLe.out [] closed w6 hP6)
                  clear hP6 hT6
                  go_wp2_with fail
                  refine KL.out.mono ?_
                  rintro e w7 ⟨rfl, rfl⟩
                  go_wp2_with fail
                  go_roundg (gk - 1)
                  case measure => have := Kr.out; omega
                  case rel => exact ⟨i + 1, closed, [], by have := Kr.out; omega, rfl, by first | rfl | simp, by simp, by simp, KC.out⟩
                | cons x0 xs =>
                  have KS := Kept.mk (nextSomeI w.heap.size p c cap x0 (ints xs) closed W1 KI1.out.1)
                  simp only [List.length_cons] at *
                  go_wp2_with fail
                  rw [← hW1]
                  clear hW1
                  refine KS.out.mono ?_
                  rintro e w6 ⟨rfl, hP6, hT6⟩
                  have KC := Kept.mk (KI1.out.call (xs' := xs) hP6 hT6)
                  have KL := Kept.mk (KLe.out xs closed w6 hP6)
                  obtain ⟨b2, off2, rfl, hc0⟩ := KC.out.2.1.cell (j := 0) (u := .int .i64 x0) rfl
                  rw [Nat.add_zero] at hc0
                  obtain ⟨hca, hcb⟩ := buf_len KC.out.2.1
                  have hca1 : xs.length + 1 ≤ lc := by simpa [numsV] using hca
                  have hcut := KC.out.2.1.cut 1 (by simp [numsV])
                  have hpos : (0 : Int) < ((xs.length + 1 : Nat) : Int) := by omega
                  have hown : ∀ j ∈ own (.slice (some ⟨b2, off2, none⟩) (xs.length + 1) lc), j ≠ p ∧ j ≠ c := KC.out.2.2.1
                  clear hP6 hT6 hca
                  by_cases hlc : lc = 1
                  · subst hlc
                    rw [if_pos rfl] at hcut
                    have K7 : Kept (PipeI w p c cap xs closed (.slice (some ⟨b2, off2, none⟩) xs.length 0) w6) := Kept.mk ⟨KC.out.1, by simpa [numsV] using hcut, by simpa [own] using hown, KC.out.2.2.2⟩
                    clear hcut hown
                    go_wp2_with fail
                    refine KL.out.mono ?_
                    rintro e w7 ⟨rfl, rfl⟩
                    go_wp2_with fail
                    go_roundg (gk - 1)
                    case measure => have := Kr.out; omega
                    case rel => exact ⟨i + 1, closed, xs, by have := Kr.out; omega, rfl, by first | rfl | simp, by omega, by omega, by have h := K7.out; rw [show xs.length = 0 from by omega] at h; exact h⟩
                  · rw [if_neg hlc] at hcut
                    have K7 : Kept (PipeI w p c cap xs closed (.slice (some ⟨b2, off2 + 1, none⟩) xs.length (lc - 1)) w6) := Kept.mk ⟨KC.out.1, by simpa [numsV, Addr.add_lit] using hcut, by simpa [own] using hown, KC.out.2.2.2⟩
                    clear hcut hown
                    go_wp2_with fail
                    refine KL.out.mono ?_
                    rintro e w7 ⟨rfl, rfl⟩
                    go_wp2_with fail
                    go_roundg (gk - 1)
                    case measure => have := Kr.out; omega
                    case rel => exact ⟨i + 1, closed, xs, by have := Kr.out; omega, rfl, by first | rfl | simp, by omega, by omega, K7.out⟩
              · have k1b : (k == 1) = false := by simpa using k1
                by_cases k2 : k = 2
                · subst k2
                  have KS := Kept.mk (closePI w.heap.size p c cap (ints xs) closed W1 KI1.out.1)
                  go_wp2_with fail
                  rw [← hW1]
                  clear hW1
                  refine KS.out.mono ?_
                  rintro e w6 ⟨rfl, hP6, hT6⟩
                  have KC := Kept.mk (show PipeI w p c cap xs true (.slice lA xs.length lc) w6 from KI1.out.call hP6 hT6)
                  have KL := Kept.mk (KLe.out xs true w6 hP6)
                  clear hP6 hT6
                  go_wp2_with fail
                  refine KL.out.mono ?_
                  rintro e w7 ⟨rfl, rfl⟩
                  go_wp2_with fail
                  go_roundg (gk - 1)
                  case measure => have := Kr.out; omega
                  case rel => exact ⟨i + 1, true, xs, by have := Kr.out; omega, rfl, by first | rfl | simp, by omega, hxc, KC.out⟩
                · have k2b : (k == 2) = false := by simpa using k2
                  have KL := Kept.mk (KLe.out xs closed W1 KI1.out.1)
                  go_wp2_with fail
                  rw [← hW1]
                  clear hW1
                  refine KL.out.mono ?_
                  rintro e w7 ⟨rfl, rfl⟩
                  go_wp2_with fail
                  go_roundg (gk - 1)
                  case measure => have := Kr.out; omega
                  case rel => exact ⟨i + 1, closed, xs, by have := Kr.out; omega, rfl, by first | rfl | simp, by omega, hxc, KI1.out⟩
          · have hltI : ¬ (i : Int) < (len1 : Int) := by omega
            go_wp2_with fail
            go_ret
            exact ⟨rfl, KI.out.2.2.2⟩
end Work
end Go.Proofs.Ytnbgdphnoopdpaa
