/- The walks of the pipes' NewPipe, Send, Next, Close, Left. No condition. -/
import Derived.Test.YtnbgdphnoopdpaaWorkB
import Derived.Conc.LoneCalls
import Derived.Conc.LoneSelect
import Derived.Conc.LoneSelectN
namespace Go.Proofs.Ytnbgdphnoopdpaa
open Go.RowKit Go.Conc
namespace Work
set_option linter.unusedSimpArgs false
set_option linter.unusedVariables false
/-- The room of a pipe. -/
def roomP (n : Int) : Nat := (max 1 (min n 65536)).toNat
/-- A pipe in memory: its block, its channel's block. -/
structure PipeAt (w : World) (B : Nat) (T : TypeId) (p c cap : Nat) (xs : List Value) (closed : Bool) : Prop where
  blk : Blk w p T [.chan (some c), .bool closed]
  ch : ∃ s r, w.heap[c]? = some (.chan cap xs.toArray closed s r false)
  bp : B ≤ p
  bc : B ≤ c
  ne : p ≠ c
theorem PipeAt.touch {w w' : World} {B : Nat} {T : TypeId} {p c cap : Nat} {xs : List Value} {closed : Bool} {S : List Nat} (h : PipeAt w B T p c cap xs closed) (k : Touch S w w') (hp : p ∉ S) (hc : c ∉ S) : PipeAt w' B T p c cap xs closed := by
  obtain ⟨s, r, h1⟩ := h.ch
  exact ⟨h.blk.touch k hp, ⟨s, r, (k.block c (Array.getElem?_eq_some_iff.1 h1).1 hc).trans h1⟩, h.bp, h.bc, h.ne⟩
theorem PipeAt.ext {w w' : World} {B : Nat} {T : TypeId} {p c cap : Nat} {xs : List Value} {closed : Bool} (h : PipeAt w B T p c cap xs closed) (k : Ext w w') : PipeAt w' B T p c cap xs closed := h.touch (Touch.of_ext (S := []) k) (by simp) (by simp)
theorem PipeAt.c0 {w : World} {B : Nat} {T : TypeId} {p c cap : Nat} {xs : List Value} {closed : Bool} (h : PipeAt w B T p c cap xs closed) : w.cell? ⟨p, 0, none⟩ = some (.chan (some c)) := by rw [h.blk.cell]; rfl
theorem PipeAt.c1 {w : World} {B : Nat} {T : TypeId} {p c cap : Nat} {xs : List Value} {closed : Bool} (h : PipeAt w B T p c cap xs closed) : w.cell? ⟨p, 1, none⟩ = some (.bool closed) := by rw [h.blk.cell]; rfl
theorem touch_setChan (w : World) (c cap : Nat) (buf : Array Value) (cl : Bool) (s r : Nat) (tm : Bool) : Touch [c] w (w.setChan c cap buf cl s r tm) :=
  ⟨rfl, rfl, rfl, by simp [World.setChan], fun k _ hn => by simp only [World.setChan]; rw [Array.getElem?_setIfInBounds_ne (by simpa using fun e => hn (by simp [e]))]⟩
theorem PipeAt.set {w : World} {B : Nat} {T : TypeId} {p c cap : Nat} {xs ys : List Value} {closed : Bool} (h : PipeAt w B T p c cap xs closed) (s r : Nat) : PipeAt (w.setChan c cap ys.toArray closed s r false) B T p c cap ys closed := by
  obtain ⟨s0, r0, h1⟩ := h.ch
  exact ⟨h.blk.touch (touch_setChan _ _ _ _ _ _ _ _) (by simpa using h.ne), ⟨s, r, heap_setChan _ _ _ _ _ _ _ _ (Array.getElem?_eq_some_iff.1 h1).1⟩, h.bp, h.bc, h.ne⟩
/-- What a call of a pipe leaves. -/
def PipeE (w : World) (B : Nat) (T : TypeId) (p c cap : Nat) (xs : List Value) (closed : Bool) (v : Value) (e : Ending) (w' : World) : Prop :=
  e = .returned v ∧ PipeAt w' B T p c cap xs closed ∧ Touch [p, c] w w'
/-- What NewPipe leaves. -/
def NewPipeE (w : World) (T : TypeId) (n : Int) (e : Ending) (w' : World) : Prop :=
  ∃ p c, PipeAt w' w.heap.size T p c (roomP n) [] false ∧ e = .returned (.pointer (some ⟨p, 0, none⟩)) ∧ Ext w w'

theorem bytesI0 : (Try.prog.info? 3).map (·.bytes) = some 8 := by kernel_rfl
theorem bytesI : ∃ i, Try.prog.info? 3 = some i ∧ i.bytes = 8 := by
  obtain ⟨i, hi, hb⟩ := Option.map_eq_some_iff.1 bytesI0
  exact ⟨i, hi, hb⟩
theorem mkI (w : World) (n : Nat) (h : n ≤ 65536) : (Instr.makeChan 66 (.int .i64 (n : Int))).run Try.prog w = .ok (.chan (some w.heap.size)) (w.alloc (.chan n #[] false 0 0 false)) := by
  obtain ⟨i, hi, hb⟩ := bytesI
  exact run_makeChan (P := Try.prog) (w := w) Try.underlying66 hi .i64 n (by omega) (by rw [hb]; omega)
theorem zeroI (w : World) : (zeroValue 3).run Try.prog w = .ok (.int .i64 0) w := by kernel_rfl
set_option maxRecDepth 100000 in
set_option maxHeartbeats 2000000 in
theorem newPipeI (n : Int) (w : World) :
    Calls Try.prog 18 #[.int .i64 n] w (NewPipeE w 68 n) := by
  have hfin : ∀ m : Nat, roomP n = m → PipeAt ((w.alloc (.chan m #[] false 0 0 false)).alloc (.cells #[.chan (some w.heap.size), .bool false] 68)) w.heap.size 68 (w.heap.size + 1) w.heap.size (roomP n) [] false := by
    intro m hm
    rw [hm]
    refine ⟨?_, ⟨0, 0, (heap_alloc_old _ _ (by simp)).trans (heap_alloc_last w _)⟩, by omega, by omega, by omega⟩
    have := Blk.new (w.alloc (.chan m #[] false 0 0 false)) 68 [.chan (some w.heap.size), .bool false]
    rwa [World.size_alloc] at this
  have hE : ∀ m : Nat, Ext w ((w.alloc (.chan m #[] false 0 0 false)).alloc (.cells #[.chan (some w.heap.size), .bool false] 68)) := fun m => (Ext.alloc _ _).trans (Ext.alloc _ _)
  by_cases h1 : 65536 < n
  · have hmk : (Instr.makeChan 66 (.int .i64 65536)).run Try.prog w = .ok (.chan (some w.heap.size)) (w.alloc (.chan 65536 #[] false 0 0 false)) := mkI w 65536 (by omega)
    have Kf := Kept.mk (hfin 65536 (by unfold roomP; omega))
    have Ke := Kept.mk (hE 65536)
    clear hfin hE
    go_enter Try.func18, Try.ntmps18
    go_wp2_with fail
    go_ret
    exact ⟨_, _, Kf.out, rfl, Ke.out⟩
  · have h1' : n ≤ 65536 := by omega
    by_cases h2 : 1 < n
    · have hmk := mkI w n.toNat (by omega)
      have Kf := Kept.mk (hfin n.toNat (by unfold roomP; omega))
      have Ke := Kept.mk (hE n.toNat)
      rw [show ((n.toNat : Nat) : Int) = n from by omega] at hmk
      clear hfin hE
      go_enter Try.func18, Try.ntmps18
      go_wp2_with fail
      go_ret
      exact ⟨_, _, Kf.out, rfl, Ke.out⟩
    · have h2' : n ≤ 1 := by omega
      have hmk : (Instr.makeChan 66 (.int .i64 1)).run Try.prog w = .ok (.chan (some w.heap.size)) (w.alloc (.chan 1 #[] false 0 0 false)) := mkI w 1 (by omega)
      have Kf := Kept.mk (hfin 1 (by unfold roomP; omega))
      have Ke := Kept.mk (hE 1)
      clear hfin hE
      go_enter Try.func18, Try.ntmps18
      go_wp2_with fail
      go_ret
      exact ⟨_, _, Kf.out, rfl, Ke.out⟩
set_option maxRecDepth 100000 in
set_option maxHeartbeats 2000000 in
theorem closePI (B p c cap : Nat) (xs : List Value) (closed : Bool) (w : World) (h : PipeAt w B 68 p c cap xs closed) :
    Calls Try.prog 21 #[.pointer (some ⟨p, 0, none⟩)] w (PipeE w B 68 p c cap xs true (.tuple #[])) := by
  have c0 := h.c0
  have c1 := h.c1
  have hf := h.blk.free 1
  have KH := Kept.mk h
  cases closed with
  | true =>
    clear h
    go_enter Try.func21, Try.ntmps21
    go_wp2_with fail
    go_end0
    exact ⟨rfl, KH.out, Touch.refl _ _⟩
  | false =>
    obtain ⟨s, r, hc⟩ := h.ch
    have hc2 : (w.setCell ⟨p, 1, none⟩ (.bool true)).heap[c]? = some (.chan cap xs.toArray false s r false) := (heap_setCell_other w _ c _ (fun e => h.ne e.symm)).trans hc
    have hcl := fun ats ty => run_close_open (P := Try.prog) ats ty hc2
    have KB := Kept.mk (h.blk.set 1 (.bool true))
    have hlt := (Array.getElem?_eq_some_iff.1 hc2).1
    clear h hc2
    go_enter Try.func21, Try.ntmps21
    go_wp2_with fail
    go_end0
    have hT := touch_setChan (w.setCell ⟨p, 1, none⟩ (.bool true)) c cap xs.toArray true s r false
    refine ⟨rfl, ⟨KB.out.touch hT (by simpa using KH.out.ne), ⟨s, r, heap_setChan _ _ _ _ _ _ _ _ hlt⟩, KH.out.bp, KH.out.bc, KH.out.ne⟩, ((Touch.set w ⟨p, 1, none⟩ _).more (by simp)).trans hT (by simp)⟩
set_option maxRecDepth 100000 in
set_option maxHeartbeats 2000000 in
theorem sendShutI (B p c cap : Nat) (xs : List Value) (x : Int) (w : World) (h : PipeAt w B 68 p c cap xs true) :
    Calls Try.prog 19 #[.pointer (some ⟨p, 0, none⟩), .int .i64 x] w (fun e w' => e = .returned (.bool false) ∧ w = w') := by
  have c1 := h.c1
  clear h
  go_enter Try.func19, Try.ntmps19
  go_wp2_with fail
  go_ret
  exact ⟨rfl, rfl⟩
set_option maxRecDepth 100000 in
set_option maxHeartbeats 2000000 in
theorem sendRoomI (B p c cap : Nat) (xs : List Value) (hroom : xs.length < cap) (x : Int) (w : World) (h : PipeAt w B 68 p c cap xs false) :
    Calls Try.prog 19 #[.pointer (some ⟨p, 0, none⟩), .int .i64 x] w (PipeE w B 68 p c cap (xs ++ [.int .i64 x]) false (.bool true)) := by
  have c0 := h.c0
  have c1 := h.c1
  have hzv := zeroI w
  obtain ⟨s, r, hc⟩ := h.ch
  refine calls_of_loneTo (fun cs => ?_) ?_
  rotate_left
  · intro w' hw; cases hw.1
  have e : Frame.enter Try.prog 19 #[.pointer (some ⟨p, 0, none⟩), .int .i64 x] .normal = (base 19).at ⟨#[.pointer (some ⟨p, 0, none⟩), .int .i64 x, undef, undef, undef, undef, undef, undef, undef, undef, undef, undef, undef, undef, undef, undef, undef], []⟩ [.code (Try.f19.body.getD .skip)] := by
    simp [Frame.enter, Frame.at, Try.func19, base, Try.f19]
  rw [e]
  refine LoneTo.goes (n := 30) ?_
  simp only [Try.f19, Option.getD_some]
  s_c stepG_seq
  s_reg
  s_op
  s_c stepG_region_end
  s_c stepG_seq
  s_c stepG_seq
  s_reg
  s_op
  s_op
  s_op
  s_op
  s_c stepG_region_end
  s_cond false
  s_c stepG_skip
  s_c stepG_seq
  s_c stepG_seq
  s_reg
  s_op
  s_op
  s_op
  s_op
  s_c stepG_region_end
  s_reg
  s_op
  s_c stepG_region_end
  s_c stepG_seq
  s_reg
  s_stop
  refine LoneTo.step (step_lone_select_send_room (c := c) (v := .int .i64 x) (z' := .int .i64 0) (cap := cap) (buf := xs.toArray) (s := s) (r := r) (tm := false) (stepG_comm (cases := #[scase c (.int .i64 x) (.int .i64 0)]) (blocking := false) (shape := .select) (w' := w) rfl rfl (by decide) (by simp [go_sem, execOp, scase, Act.eval, hzv])) hc (by simpa using hroom)) ?_
  rw [Frame.finish_at]
  walk_nrm
  refine LoneTo.goes (n := 20) ?_
  s_op
  s_op
  s_c stepG_region_end
  s_c stepG_block
  s_cond true
  s_c stepG_seq
  s_reg
  s_op
  s_c stepG_region_end
  s_c stepG_ret'
  s_stop
  refine LoneTo.done ⟨.returned (.bool true), _, rfl, ⟨rfl, ?_, ?_⟩, rfl, rfl, rfl, rfl, _, Try.func19, by simp [results, Try.f19, Frame.at]⟩
  · have := h.set (ys := xs ++ [.int .i64 x]) (s + 1) r
    simpa using this
  · exact (touch_setChan _ _ _ _ _ _ _ _).more (by simp)
set_option maxRecDepth 100000 in
set_option maxHeartbeats 2000000 in
theorem sendFullI (B p c cap : Nat) (xs : List Value) (hfull : cap ≤ xs.length) (x : Int) (w : World) (h : PipeAt w B 68 p c cap xs false) :
    Calls Try.prog 19 #[.pointer (some ⟨p, 0, none⟩), .int .i64 x] w (PipeE w B 68 p c cap xs false (.bool false)) := by
  have c0 := h.c0
  have c1 := h.c1
  have hzv := zeroI w
  obtain ⟨s, r, hc⟩ := h.ch
  refine calls_of_loneTo (fun cs => ?_) ?_
  rotate_left
  · intro w' hw; cases hw.1
  have e : Frame.enter Try.prog 19 #[.pointer (some ⟨p, 0, none⟩), .int .i64 x] .normal = (base 19).at ⟨#[.pointer (some ⟨p, 0, none⟩), .int .i64 x, undef, undef, undef, undef, undef, undef, undef, undef, undef, undef, undef, undef, undef, undef, undef], []⟩ [.code (Try.f19.body.getD .skip)] := by
    simp [Frame.enter, Frame.at, Try.func19, base, Try.f19]
  rw [e]
  refine LoneTo.goes (n := 30) ?_
  simp only [Try.f19, Option.getD_some]
  s_c stepG_seq
  s_reg
  s_op
  s_c stepG_region_end
  s_c stepG_seq
  s_c stepG_seq
  s_reg
  s_op
  s_op
  s_op
  s_op
  s_c stepG_region_end
  s_cond false
  s_c stepG_skip
  s_c stepG_seq
  s_c stepG_seq
  s_reg
  s_op
  s_op
  s_op
  s_op
  s_c stepG_region_end
  s_reg
  s_op
  s_c stepG_region_end
  s_c stepG_seq
  s_reg
  s_stop
  refine LoneTo.step (step_lone_select_send_full (c := c) (v := .int .i64 x) (z' := .int .i64 0) (cap := cap) (buf := xs.toArray) (s := s) (r := r) (tm := false) (stepG_comm (cases := #[scase c (.int .i64 x) (.int .i64 0)]) (blocking := false) (shape := .select) (w' := w) rfl rfl (by decide) (by simp [go_sem, execOp, scase, Act.eval, hzv])) hc (by simpa using hfull)) ?_
  rw [Frame.finish_at]
  walk_nrm
  refine LoneTo.goes (n := 20) ?_
  s_op
  s_op
  s_c stepG_region_end
  s_c stepG_block
  s_cond false
  s_c stepG_seq
  s_reg
  s_op
  s_c stepG_region_end
  s_c stepG_ret'
  s_stop
  exact LoneTo.done ⟨.returned (.bool false), _, rfl, ⟨rfl, h, Touch.refl _ _⟩, rfl, rfl, rfl, rfl, _, Try.func19, by simp [results, Try.f19, Frame.at]⟩
set_option maxRecDepth 100000 in
set_option maxHeartbeats 2000000 in
theorem nextSomeI (B p c cap : Nat) (x : Int) (xs : List Value) (closed : Bool) (w : World) (h : PipeAt w B 68 p c cap (.int .i64 x :: xs) closed) :
    Calls Try.prog 20 #[.pointer (some ⟨p, 0, none⟩)] w (PipeE w B 68 p c cap xs closed (.tuple #[.int .i64 x, .bool true])) := by
  have c0 := h.c0
  have hzv := zeroI w
  obtain ⟨s, r, hc⟩ := h.ch
  refine calls_of_loneTo (fun cs => ?_) ?_
  rotate_left
  · intro w' hw; cases hw.1
  have e : Frame.enter Try.prog 20 #[.pointer (some ⟨p, 0, none⟩)] .normal = (base 20).at ⟨#[.pointer (some ⟨p, 0, none⟩), undef, undef, undef, undef, undef, undef, undef, undef, undef, undef, undef, undef, undef, undef, undef, undef, undef, undef], []⟩ [.code (Try.f20.body.getD .skip)] := by
    simp [Frame.enter, Frame.at, Try.func20, base, Try.f20]
  rw [e]
  refine LoneTo.goes (n := 30) ?_
  simp only [Try.f20, Option.getD_some]
  s_c stepG_seq
  s_reg
  s_op
  s_op
  s_c stepG_region_end
  s_c stepG_seq
  s_reg
  s_op
  s_op
  s_op
  s_op
  s_c stepG_region_end
  s_c stepG_seq
  s_reg
  s_stop
  refine LoneTo.step (step_lone_select_recv_buf (c := c) (z := .int .i64 0) (cap := cap) (buf := (.int .i64 x :: xs).toArray) (closed := closed) (s := s) (r := r) (tm := false) (stepG_comm (cases := #[rcase c (.int .i64 0)]) (blocking := false) (shape := .select) (w' := w) rfl rfl (by decide) (by simp [go_sem, execOp, rcase, Act.eval, hzv])) hc (by simp)) ?_
  rw [Frame.finish_at]
  walk_nrm
  refine LoneTo.goes (n := 30) ?_
  s_op
  s_op
  s_c stepG_region_end
  s_c stepG_block
  s_cond true
  s_c stepG_seq
  s_reg
  s_op
  s_op
  s_op
  s_op
  s_c stepG_region_end
  s_c stepG_seq
  s_reg
  s_op
  s_op
  s_op
  s_op
  s_c stepG_region_end
  s_c stepG_ret'
  s_stop
  refine LoneTo.done ⟨.returned (.tuple #[.int .i64 x, .bool true]), _, rfl, ⟨rfl, ?_, ?_⟩, rfl, rfl, rfl, rfl, _, Try.func20, by simp [results, Try.f20, Frame.at]⟩
  · have := h.set (ys := xs) s (r + 1)
    simpa using this
  · exact (touch_setChan _ _ _ _ _ _ _ _).more (by simp)
set_option maxRecDepth 100000 in
set_option maxHeartbeats 2000000 in
theorem nextNoneI (B p c cap : Nat) (w : World) (h : PipeAt w B 68 p c cap [] false) :
    Calls Try.prog 20 #[.pointer (some ⟨p, 0, none⟩)] w (PipeE w B 68 p c cap [] false (.tuple #[.int .i64 0, .bool false])) := by
  have c0 := h.c0
  have hzv := zeroI w
  obtain ⟨s, r, hc⟩ := h.ch
  refine calls_of_loneTo (fun cs => ?_) ?_
  rotate_left
  · intro w' hw; cases hw.1
  have e : Frame.enter Try.prog 20 #[.pointer (some ⟨p, 0, none⟩)] .normal = (base 20).at ⟨#[.pointer (some ⟨p, 0, none⟩), undef, undef, undef, undef, undef, undef, undef, undef, undef, undef, undef, undef, undef, undef, undef, undef, undef, undef], []⟩ [.code (Try.f20.body.getD .skip)] := by
    simp [Frame.enter, Frame.at, Try.func20, base, Try.f20]
  rw [e]
  refine LoneTo.goes (n := 30) ?_
  simp only [Try.f20, Option.getD_some]
  s_c stepG_seq
  s_reg
  s_op
  s_op
  s_c stepG_region_end
  s_c stepG_seq
  s_reg
  s_op
  s_op
  s_op
  s_op
  s_c stepG_region_end
  s_c stepG_seq
  s_reg
  s_stop
  refine LoneTo.step (step_lone_select_default (c := c) (z := .int .i64 0) (cap := cap) (s := s) (r := r) (tm := false) (stepG_comm (cases := #[rcase c (.int .i64 0)]) (blocking := false) (shape := .select) (w' := w) rfl rfl (by decide) (by simp [go_sem, execOp, rcase, Act.eval, hzv])) hc) ?_
  rw [Frame.finish_at]
  walk_nrm
  refine LoneTo.goes (n := 30) ?_
  s_op
  s_op
  s_c stepG_region_end
  s_c stepG_block
  s_cond false
  s_c stepG_seq
  s_reg
  s_op
  s_c stepG_region_end
  s_c stepG_seq
  s_reg
  s_op
  s_op
  s_op
  s_c stepG_region_end
  s_c stepG_ret'
  s_stop
  refine LoneTo.done ⟨.returned (.tuple #[.int .i64 0, .bool false]), _, rfl, ⟨rfl, ?_, ?_⟩, rfl, rfl, rfl, rfl, _, Try.func20, by simp [results, Try.f20, Frame.at]⟩
  · exact h
  · exact Touch.refl _ _
set_option maxRecDepth 100000 in
set_option maxHeartbeats 2000000 in
theorem nextShutI (B p c cap : Nat) (w : World) (h : PipeAt w B 68 p c cap [] true) :
    Calls Try.prog 20 #[.pointer (some ⟨p, 0, none⟩)] w (PipeE w B 68 p c cap [] true (.tuple #[.int .i64 0, .bool false])) := by
  have c0 := h.c0
  have hzv := zeroI w
  obtain ⟨s, r, hc⟩ := h.ch
  refine calls_of_loneTo (fun cs => ?_) ?_
  rotate_left
  · intro w' hw; cases hw.1
  have e : Frame.enter Try.prog 20 #[.pointer (some ⟨p, 0, none⟩)] .normal = (base 20).at ⟨#[.pointer (some ⟨p, 0, none⟩), undef, undef, undef, undef, undef, undef, undef, undef, undef, undef, undef, undef, undef, undef, undef, undef, undef, undef], []⟩ [.code (Try.f20.body.getD .skip)] := by
    simp [Frame.enter, Frame.at, Try.func20, base, Try.f20]
  rw [e]
  refine LoneTo.goes (n := 30) ?_
  simp only [Try.f20, Option.getD_some]
  s_c stepG_seq
  s_reg
  s_op
  s_op
  s_c stepG_region_end
  s_c stepG_seq
  s_reg
  s_op
  s_op
  s_op
  s_op
  s_c stepG_region_end
  s_c stepG_seq
  s_reg
  s_stop
  refine LoneTo.step (step_lone_select_recv_shut (c := c) (z := .int .i64 0) (cap := cap) (s := s) (r := r) (tm := false) (stepG_comm (cases := #[rcase c (.int .i64 0)]) (blocking := false) (shape := .select) (w' := w) rfl rfl (by decide) (by simp [go_sem, execOp, rcase, Act.eval, hzv])) hc) ?_
  rw [Frame.finish_at]
  walk_nrm
  refine LoneTo.goes (n := 30) ?_
  s_op
  s_op
  s_c stepG_region_end
  s_c stepG_block
  s_cond true
  s_c stepG_seq
  s_reg
  s_op
  s_op
  s_op
  s_op
  s_c stepG_region_end
  s_c stepG_seq
  s_reg
  s_op
  s_op
  s_op
  s_op
  s_c stepG_region_end
  s_c stepG_ret'
  s_stop
  refine LoneTo.done ⟨.returned (.tuple #[.int .i64 0, .bool false]), _, rfl, ⟨rfl, ?_, ?_⟩, rfl, rfl, rfl, rfl, _, Try.func20, by simp [results, Try.f20, Frame.at]⟩
  · exact h
  · exact Touch.refl _ _
set_option maxRecDepth 100000 in
set_option maxHeartbeats 2000000 in
theorem leftI (B p c cap : Nat) (xs : List Value) (closed : Bool) (w : World) (h : PipeAt w B 68 p c cap xs closed) :
    Calls Try.prog 22 #[.pointer (some ⟨p, 0, none⟩)] w fun e w' => e = .returned (.int .i64 (xs.length : Int)) ∧ w = w' := by
  have c0 := h.c0
  obtain ⟨s, r, hc⟩ := h.ch
  have hlen := fun t ty ht => run_len_chan (P := Try.prog) (dir := .both) (e := 3) t ty ht hc
  have hl := hlen 66 3 Try.underlying66
  clear h hlen
  go_enter Try.func22, Try.ntmps22
  go_wp2_with fail
  go_ret
  exact ⟨by simp, rfl⟩

theorem bytesS0 : (Try.prog.info? 9).map (·.bytes) = some 16 := by kernel_rfl
theorem bytesS : ∃ i, Try.prog.info? 9 = some i ∧ i.bytes = 16 := by
  obtain ⟨i, hi, hb⟩ := Option.map_eq_some_iff.1 bytesS0
  exact ⟨i, hi, hb⟩
theorem mkS (w : World) (n : Nat) (h : n ≤ 65536) : (Instr.makeChan 75 (.int .i64 (n : Int))).run Try.prog w = .ok (.chan (some w.heap.size)) (w.alloc (.chan n #[] false 0 0 false)) := by
  obtain ⟨i, hi, hb⟩ := bytesS
  exact run_makeChan (P := Try.prog) (w := w) Try.underlying75 hi .i64 n (by omega) (by rw [hb]; omega)
theorem zeroS (w : World) : (zeroValue 9).run Try.prog w = .ok (.string ⟨#[]⟩) w := by kernel_rfl
set_option maxRecDepth 100000 in
set_option maxHeartbeats 2000000 in
theorem newPipeS (n : Int) (w : World) :
    Calls Try.prog 29 #[.int .i64 n] w (NewPipeE w 77 n) := by
  have hfin : ∀ m : Nat, roomP n = m → PipeAt ((w.alloc (.chan m #[] false 0 0 false)).alloc (.cells #[.chan (some w.heap.size), .bool false] 77)) w.heap.size 77 (w.heap.size + 1) w.heap.size (roomP n) [] false := by
    intro m hm
    rw [hm]
    refine ⟨?_, ⟨0, 0, (heap_alloc_old _ _ (by simp)).trans (heap_alloc_last w _)⟩, by omega, by omega, by omega⟩
    have := Blk.new (w.alloc (.chan m #[] false 0 0 false)) 77 [.chan (some w.heap.size), .bool false]
    rwa [World.size_alloc] at this
  have hE : ∀ m : Nat, Ext w ((w.alloc (.chan m #[] false 0 0 false)).alloc (.cells #[.chan (some w.heap.size), .bool false] 77)) := fun m => (Ext.alloc _ _).trans (Ext.alloc _ _)
  by_cases h1 : 65536 < n
  · have hmk : (Instr.makeChan 75 (.int .i64 65536)).run Try.prog w = .ok (.chan (some w.heap.size)) (w.alloc (.chan 65536 #[] false 0 0 false)) := mkS w 65536 (by omega)
    have Kf := Kept.mk (hfin 65536 (by unfold roomP; omega))
    have Ke := Kept.mk (hE 65536)
    clear hfin hE
    go_enter Try.func29, Try.ntmps29
    go_wp2_with fail
    go_ret
    exact ⟨_, _, Kf.out, rfl, Ke.out⟩
  · have h1' : n ≤ 65536 := by omega
    by_cases h2 : 1 < n
    · have hmk := mkS w n.toNat (by omega)
      have Kf := Kept.mk (hfin n.toNat (by unfold roomP; omega))
      have Ke := Kept.mk (hE n.toNat)
      rw [show ((n.toNat : Nat) : Int) = n from by omega] at hmk
      clear hfin hE
      go_enter Try.func29, Try.ntmps29
      go_wp2_with fail
      go_ret
      exact ⟨_, _, Kf.out, rfl, Ke.out⟩
    · have h2' : n ≤ 1 := by omega
      have hmk : (Instr.makeChan 75 (.int .i64 1)).run Try.prog w = .ok (.chan (some w.heap.size)) (w.alloc (.chan 1 #[] false 0 0 false)) := mkS w 1 (by omega)
      have Kf := Kept.mk (hfin 1 (by unfold roomP; omega))
      have Ke := Kept.mk (hE 1)
      clear hfin hE
      go_enter Try.func29, Try.ntmps29
      go_wp2_with fail
      go_ret
      exact ⟨_, _, Kf.out, rfl, Ke.out⟩
set_option maxRecDepth 100000 in
set_option maxHeartbeats 2000000 in
theorem closePS (B p c cap : Nat) (xs : List Value) (closed : Bool) (w : World) (h : PipeAt w B 77 p c cap xs closed) :
    Calls Try.prog 32 #[.pointer (some ⟨p, 0, none⟩)] w (PipeE w B 77 p c cap xs true (.tuple #[])) := by
  have c0 := h.c0
  have c1 := h.c1
  have hf := h.blk.free 1
  have KH := Kept.mk h
  cases closed with
  | true =>
    clear h
    go_enter Try.func32, Try.ntmps32
    go_wp2_with fail
    go_end0
    exact ⟨rfl, KH.out, Touch.refl _ _⟩
  | false =>
    obtain ⟨s, r, hc⟩ := h.ch
    have hc2 : (w.setCell ⟨p, 1, none⟩ (.bool true)).heap[c]? = some (.chan cap xs.toArray false s r false) := (heap_setCell_other w _ c _ (fun e => h.ne e.symm)).trans hc
    have hcl := fun ats ty => run_close_open (P := Try.prog) ats ty hc2
    have KB := Kept.mk (h.blk.set 1 (.bool true))
    have hlt := (Array.getElem?_eq_some_iff.1 hc2).1
    clear h hc2
    go_enter Try.func32, Try.ntmps32
    go_wp2_with fail
    go_end0
    have hT := touch_setChan (w.setCell ⟨p, 1, none⟩ (.bool true)) c cap xs.toArray true s r false
    refine ⟨rfl, ⟨KB.out.touch hT (by simpa using KH.out.ne), ⟨s, r, heap_setChan _ _ _ _ _ _ _ _ hlt⟩, KH.out.bp, KH.out.bc, KH.out.ne⟩, ((Touch.set w ⟨p, 1, none⟩ _).more (by simp)).trans hT (by simp)⟩
set_option maxRecDepth 100000 in
set_option maxHeartbeats 2000000 in
theorem sendShutS (B p c cap : Nat) (xs : List Value) (x : ByteArray) (w : World) (h : PipeAt w B 77 p c cap xs true) :
    Calls Try.prog 30 #[.pointer (some ⟨p, 0, none⟩), .string x] w (fun e w' => e = .returned (.bool false) ∧ w = w') := by
  have c1 := h.c1
  clear h
  go_enter Try.func30, Try.ntmps30
  go_wp2_with fail
  go_ret
  exact ⟨rfl, rfl⟩
set_option maxRecDepth 100000 in
set_option maxHeartbeats 2000000 in
theorem sendRoomS (B p c cap : Nat) (xs : List Value) (hroom : xs.length < cap) (x : ByteArray) (w : World) (h : PipeAt w B 77 p c cap xs false) :
    Calls Try.prog 30 #[.pointer (some ⟨p, 0, none⟩), .string x] w (PipeE w B 77 p c cap (xs ++ [.string x]) false (.bool true)) := by
  have c0 := h.c0
  have c1 := h.c1
  have hzv := zeroS w
  obtain ⟨s, r, hc⟩ := h.ch
  refine calls_of_loneTo (fun cs => ?_) ?_
  rotate_left
  · intro w' hw; cases hw.1
  have e : Frame.enter Try.prog 30 #[.pointer (some ⟨p, 0, none⟩), .string x] .normal = (base 30).at ⟨#[.pointer (some ⟨p, 0, none⟩), .string x, undef, undef, undef, undef, undef, undef, undef, undef, undef, undef, undef, undef, undef, undef, undef], []⟩ [.code (Try.f30.body.getD .skip)] := by
    simp [Frame.enter, Frame.at, Try.func30, base, Try.f30]
  rw [e]
  refine LoneTo.goes (n := 30) ?_
  simp only [Try.f30, Option.getD_some]
  s_c stepG_seq
  s_reg
  s_op
  s_c stepG_region_end
  s_c stepG_seq
  s_c stepG_seq
  s_reg
  s_op
  s_op
  s_op
  s_op
  s_c stepG_region_end
  s_cond false
  s_c stepG_skip
  s_c stepG_seq
  s_c stepG_seq
  s_reg
  s_op
  s_op
  s_op
  s_op
  s_c stepG_region_end
  s_reg
  s_op
  s_c stepG_region_end
  s_c stepG_seq
  s_reg
  s_stop
  refine LoneTo.step (step_lone_select_send_room (c := c) (v := .string x) (z' := .string ⟨#[]⟩) (cap := cap) (buf := xs.toArray) (s := s) (r := r) (tm := false) (stepG_comm (cases := #[scase c (.string x) (.string ⟨#[]⟩)]) (blocking := false) (shape := .select) (w' := w) rfl rfl (by decide) (by simp [go_sem, execOp, scase, Act.eval, hzv])) hc (by simpa using hroom)) ?_
  rw [Frame.finish_at]
  walk_nrm
  refine LoneTo.goes (n := 20) ?_
  s_op
  s_op
  s_c stepG_region_end
  s_c stepG_block
  s_cond true
  s_c stepG_seq
  s_reg
  s_op
  s_c stepG_region_end
  s_c stepG_ret'
  s_stop
  refine LoneTo.done ⟨.returned (.bool true), _, rfl, ⟨rfl, ?_, ?_⟩, rfl, rfl, rfl, rfl, _, Try.func30, by simp [results, Try.f30, Frame.at]⟩
  · have := h.set (ys := xs ++ [.string x]) (s + 1) r
    simpa using this
  · exact (touch_setChan _ _ _ _ _ _ _ _).more (by simp)
set_option maxRecDepth 100000 in
set_option maxHeartbeats 2000000 in
theorem sendFullS (B p c cap : Nat) (xs : List Value) (hfull : cap ≤ xs.length) (x : ByteArray) (w : World) (h : PipeAt w B 77 p c cap xs false) :
    Calls Try.prog 30 #[.pointer (some ⟨p, 0, none⟩), .string x] w (PipeE w B 77 p c cap xs false (.bool false)) := by
  have c0 := h.c0
  have c1 := h.c1
  have hzv := zeroS w
  obtain ⟨s, r, hc⟩ := h.ch
  refine calls_of_loneTo (fun cs => ?_) ?_
  rotate_left
  · intro w' hw; cases hw.1
  have e : Frame.enter Try.prog 30 #[.pointer (some ⟨p, 0, none⟩), .string x] .normal = (base 30).at ⟨#[.pointer (some ⟨p, 0, none⟩), .string x, undef, undef, undef, undef, undef, undef, undef, undef, undef, undef, undef, undef, undef, undef, undef], []⟩ [.code (Try.f30.body.getD .skip)] := by
    simp [Frame.enter, Frame.at, Try.func30, base, Try.f30]
  rw [e]
  refine LoneTo.goes (n := 30) ?_
  simp only [Try.f30, Option.getD_some]
  s_c stepG_seq
  s_reg
  s_op
  s_c stepG_region_end
  s_c stepG_seq
  s_c stepG_seq
  s_reg
  s_op
  s_op
  s_op
  s_op
  s_c stepG_region_end
  s_cond false
  s_c stepG_skip
  s_c stepG_seq
  s_c stepG_seq
  s_reg
  s_op
  s_op
  s_op
  s_op
  s_c stepG_region_end
  s_reg
  s_op
  s_c stepG_region_end
  s_c stepG_seq
  s_reg
  s_stop
  refine LoneTo.step (step_lone_select_send_full (c := c) (v := .string x) (z' := .string ⟨#[]⟩) (cap := cap) (buf := xs.toArray) (s := s) (r := r) (tm := false) (stepG_comm (cases := #[scase c (.string x) (.string ⟨#[]⟩)]) (blocking := false) (shape := .select) (w' := w) rfl rfl (by decide) (by simp [go_sem, execOp, scase, Act.eval, hzv])) hc (by simpa using hfull)) ?_
  rw [Frame.finish_at]
  walk_nrm
  refine LoneTo.goes (n := 20) ?_
  s_op
  s_op
  s_c stepG_region_end
  s_c stepG_block
  s_cond false
  s_c stepG_seq
  s_reg
  s_op
  s_c stepG_region_end
  s_c stepG_ret'
  s_stop
  exact LoneTo.done ⟨.returned (.bool false), _, rfl, ⟨rfl, h, Touch.refl _ _⟩, rfl, rfl, rfl, rfl, _, Try.func30, by simp [results, Try.f30, Frame.at]⟩
set_option maxRecDepth 100000 in
set_option maxHeartbeats 2000000 in
theorem nextSomeS (B p c cap : Nat) (x : ByteArray) (xs : List Value) (closed : Bool) (w : World) (h : PipeAt w B 77 p c cap (.string x :: xs) closed) :
    Calls Try.prog 31 #[.pointer (some ⟨p, 0, none⟩)] w (PipeE w B 77 p c cap xs closed (.tuple #[.string x, .bool true])) := by
  have c0 := h.c0
  have hzv := zeroS w
  obtain ⟨s, r, hc⟩ := h.ch
  refine calls_of_loneTo (fun cs => ?_) ?_
  rotate_left
  · intro w' hw; cases hw.1
  have e : Frame.enter Try.prog 31 #[.pointer (some ⟨p, 0, none⟩)] .normal = (base 31).at ⟨#[.pointer (some ⟨p, 0, none⟩), undef, undef, undef, undef, undef, undef, undef, undef, undef, undef, undef, undef, undef, undef, undef, undef, undef, undef], []⟩ [.code (Try.f31.body.getD .skip)] := by
    simp [Frame.enter, Frame.at, Try.func31, base, Try.f31]
  rw [e]
  refine LoneTo.goes (n := 30) ?_
  simp only [Try.f31, Option.getD_some]
  s_c stepG_seq
  s_reg
  s_op
  s_op
  s_c stepG_region_end
  s_c stepG_seq
  s_reg
  s_op
  s_op
  s_op
  s_op
  s_c stepG_region_end
  s_c stepG_seq
  s_reg
  s_stop
  refine LoneTo.step (step_lone_select_recv_buf (c := c) (z := .string ⟨#[]⟩) (cap := cap) (buf := (.string x :: xs).toArray) (closed := closed) (s := s) (r := r) (tm := false) (stepG_comm (cases := #[rcase c (.string ⟨#[]⟩)]) (blocking := false) (shape := .select) (w' := w) rfl rfl (by decide) (by simp [go_sem, execOp, rcase, Act.eval, hzv])) hc (by simp)) ?_
  rw [Frame.finish_at]
  walk_nrm
  refine LoneTo.goes (n := 30) ?_
  s_op
  s_op
  s_c stepG_region_end
  s_c stepG_block
  s_cond true
  s_c stepG_seq
  s_reg
  s_op
  s_op
  s_op
  s_op
  s_c stepG_region_end
  s_c stepG_seq
  s_reg
  s_op
  s_op
  s_op
  s_op
  s_c stepG_region_end
  s_c stepG_ret'
  s_stop
  refine LoneTo.done ⟨.returned (.tuple #[.string x, .bool true]), _, rfl, ⟨rfl, ?_, ?_⟩, rfl, rfl, rfl, rfl, _, Try.func31, by simp [results, Try.f31, Frame.at]⟩
  · have := h.set (ys := xs) s (r + 1)
    simpa using this
  · exact (touch_setChan _ _ _ _ _ _ _ _).more (by simp)
set_option maxRecDepth 100000 in
set_option maxHeartbeats 2000000 in
theorem nextNoneS (B p c cap : Nat) (w : World) (h : PipeAt w B 77 p c cap [] false) :
    Calls Try.prog 31 #[.pointer (some ⟨p, 0, none⟩)] w (PipeE w B 77 p c cap [] false (.tuple #[.string ⟨#[]⟩, .bool false])) := by
  have c0 := h.c0
  have hzv := zeroS w
  obtain ⟨s, r, hc⟩ := h.ch
  refine calls_of_loneTo (fun cs => ?_) ?_
  rotate_left
  · intro w' hw; cases hw.1
  have e : Frame.enter Try.prog 31 #[.pointer (some ⟨p, 0, none⟩)] .normal = (base 31).at ⟨#[.pointer (some ⟨p, 0, none⟩), undef, undef, undef, undef, undef, undef, undef, undef, undef, undef, undef, undef, undef, undef, undef, undef, undef, undef], []⟩ [.code (Try.f31.body.getD .skip)] := by
    simp [Frame.enter, Frame.at, Try.func31, base, Try.f31]
  rw [e]
  refine LoneTo.goes (n := 30) ?_
  simp only [Try.f31, Option.getD_some]
  s_c stepG_seq
  s_reg
  s_op
  s_op
  s_c stepG_region_end
  s_c stepG_seq
  s_reg
  s_op
  s_op
  s_op
  s_op
  s_c stepG_region_end
  s_c stepG_seq
  s_reg
  s_stop
  refine LoneTo.step (step_lone_select_default (c := c) (z := .string ⟨#[]⟩) (cap := cap) (s := s) (r := r) (tm := false) (stepG_comm (cases := #[rcase c (.string ⟨#[]⟩)]) (blocking := false) (shape := .select) (w' := w) rfl rfl (by decide) (by simp [go_sem, execOp, rcase, Act.eval, hzv])) hc) ?_
  rw [Frame.finish_at]
  walk_nrm
  refine LoneTo.goes (n := 30) ?_
  s_op
  s_op
  s_c stepG_region_end
  s_c stepG_block
  s_cond false
  s_c stepG_seq
  s_reg
  s_op
  s_c stepG_region_end
  s_c stepG_seq
  s_reg
  s_op
  s_op
  s_op
  s_c stepG_region_end
  s_c stepG_ret'
  s_stop
  refine LoneTo.done ⟨.returned (.tuple #[.string ⟨#[]⟩, .bool false]), _, rfl, ⟨rfl, ?_, ?_⟩, rfl, rfl, rfl, rfl, _, Try.func31, by simp [results, Try.f31, Frame.at]⟩
  · exact h
  · exact Touch.refl _ _
set_option maxRecDepth 100000 in
set_option maxHeartbeats 2000000 in
theorem nextShutS (B p c cap : Nat) (w : World) (h : PipeAt w B 77 p c cap [] true) :
    Calls Try.prog 31 #[.pointer (some ⟨p, 0, none⟩)] w (PipeE w B 77 p c cap [] true (.tuple #[.string ⟨#[]⟩, .bool false])) := by
  have c0 := h.c0
  have hzv := zeroS w
  obtain ⟨s, r, hc⟩ := h.ch
  refine calls_of_loneTo (fun cs => ?_) ?_
  rotate_left
  · intro w' hw; cases hw.1
  have e : Frame.enter Try.prog 31 #[.pointer (some ⟨p, 0, none⟩)] .normal = (base 31).at ⟨#[.pointer (some ⟨p, 0, none⟩), undef, undef, undef, undef, undef, undef, undef, undef, undef, undef, undef, undef, undef, undef, undef, undef, undef, undef], []⟩ [.code (Try.f31.body.getD .skip)] := by
    simp [Frame.enter, Frame.at, Try.func31, base, Try.f31]
  rw [e]
  refine LoneTo.goes (n := 30) ?_
  simp only [Try.f31, Option.getD_some]
  s_c stepG_seq
  s_reg
  s_op
  s_op
  s_c stepG_region_end
  s_c stepG_seq
  s_reg
  s_op
  s_op
  s_op
  s_op
  s_c stepG_region_end
  s_c stepG_seq
  s_reg
  s_stop
  refine LoneTo.step (step_lone_select_recv_shut (c := c) (z := .string ⟨#[]⟩) (cap := cap) (s := s) (r := r) (tm := false) (stepG_comm (cases := #[rcase c (.string ⟨#[]⟩)]) (blocking := false) (shape := .select) (w' := w) rfl rfl (by decide) (by simp [go_sem, execOp, rcase, Act.eval, hzv])) hc) ?_
  rw [Frame.finish_at]
  walk_nrm
  refine LoneTo.goes (n := 30) ?_
  s_op
  s_op
  s_c stepG_region_end
  s_c stepG_block
  s_cond true
  s_c stepG_seq
  s_reg
  s_op
  s_op
  s_op
  s_op
  s_c stepG_region_end
  s_c stepG_seq
  s_reg
  s_op
  s_op
  s_op
  s_op
  s_c stepG_region_end
  s_c stepG_ret'
  s_stop
  refine LoneTo.done ⟨.returned (.tuple #[.string ⟨#[]⟩, .bool false]), _, rfl, ⟨rfl, ?_, ?_⟩, rfl, rfl, rfl, rfl, _, Try.func31, by simp [results, Try.f31, Frame.at]⟩
  · exact h
  · exact Touch.refl _ _
end Work
end Go.Proofs.Ytnbgdphnoopdpaa
