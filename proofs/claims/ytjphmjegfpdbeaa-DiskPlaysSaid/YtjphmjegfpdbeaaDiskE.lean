/- Clone of files; the power's failing. No condition. -/
import Derived.Test.YtjphmjegfpdbeaaDiskD
import Derived.Test.YtjphmjegfpdbeaaLayA
import Derived.Test.YtjphmjegfpdbeaaCalm
namespace Go.Proofs.Ytjphmjegfpdbeaa
open Go.RowKit Go.Shelf
namespace Disk
open Str
set_option linter.unusedSimpArgs false
set_option linter.unusedVariables false
theorem clone_any (w : World) (b : Nat) (L : List F) (h : FMap w b L) : Calls Try.prog 43 #[.map (some b)] w fun e w' => e = .returned (.map (some w.heap.size)) ∧ FMap w' w.heap.size L ∧ Ext w w' ∧ w'.heap.size = w.heap.size + 1 := by
  obtain ⟨h1, l, ⟨es, clock, hb, hl, hs⟩, h3⟩ := h
  refine (AnyW.maps_Clone Try.cloneM b es clock w hb).mono ?_
  rintro e w' ⟨rfl, rfl⟩
  exact ⟨rfl, ⟨h1, l, ⟨es, clock, heap_alloc_last w _, hl, hs⟩, h3⟩, Ext.alloc _ _, by simp⟩
theorem keepP_snoc (b : Nat → Bool) (e : Eff) : ∀ (rs : List Eff) (i : Nat) (l : List F), keepP b i (rs ++ [e]) l = if b (i + rs.length) then doneP (keepP b i rs l) e else keepP b i rs l
  | [], i, l => by simp [keepP]
  | x :: r, i, l => by
    simp only [List.cons_append, keepP]
    rw [keepP_snoc b e r (i + 1), List.length_cons, show i + 1 + r.length = i + (r.length + 1) by omega]
theorem map_apart {s : Nat} {w w' : World} {B b : Nat} {e : TypeId} {v : Value} {css : List (List Value)} {L : List F} (h : BufS s w B e v css) (k : FMap w b L) (ht : Touch [b] w w') : BufS s w' B e v css := by
  obtain ⟨A, cap, rfl, h1, h2, h3, h4, h5⟩ := h
  refine ⟨A, cap, rfl, h1, h2, h3, fun j hj => ⟨(h4 j hj).1, Nat.lt_of_lt_of_le (h4 j hj).2 ht.size⟩, ?_⟩
  rcases h5 with h5 | ⟨b', off, cs, rfl, hb, h6, h7⟩
  · exact .inl h5
  · exact .inr ⟨b', off, cs, rfl, hb.touch ht (by simpa using Ne.symm (k.ne hb)), h6, h7⟩
/-- Behind so many rounds of fail. -/
structure FailAt (w wi : World) (B : Nat) (D : List Nat) (g bl bs : Nat) (v : Value) (d : Dk) (i : Nat) : Prop where
  blk : Blk wi g 73 (dkV d bl bs v)
  parts : Parts wi B D bl bs v (keepP (bitP d.keep) 0 ((d.rows.take 64).take i) d.lies) (seenP d) d.rows
  touch : Touch D w wi
theorem FailAt.ext {w wi wj : World} {B : Nat} {D : List Nat} {g bl bs : Nat} {v : Value} {d : Dk} {i : Nat} (h : FailAt w wi B D g bl bs v d i) (k : Ext wi wj) : FailAt w wj B D g bl bs v d i :=
  ⟨h.blk.ext k, h.parts.touch (Touch.of_ext (S := []) k) (by simp) (by simp) (by simp), h.touch.trans (Touch.of_ext (S := []) k) (by simp)⟩
def FailE (w : World) (B : Nat) (D : List Nat) (g : Nat) (d : Dk) (e : Ending) (w' : World) : Prop := e = .returned (.int .i64 8) ∧ After w B D g (failP d) w'
set_option maxRecDepth 100000 in
set_option maxHeartbeats 8000000 in
theorem fail_any (w : World) (B : Nat) (D : List Nat) (g : Nat) (d : Dk) (n : Nat) (h : DkAt w B D g d) (hb : DkB n d) (hn : n ≤ 1048576) : Calls Try.prog 42 #[.pointer (some ⟨g, 0, none⟩)] w (FailE w B D g d) := by
  have hm : Try.prog.follows .mixedOrders = true := by kernel_rfl
  have Kg := Kept.mk h.1
  obtain ⟨hg, bl, bs, v, hb1, hp⟩ := h
  obtain ⟨A, c, hv⟩ := hp.wb.form
  rw [List.length_map] at hv
  subst hv
  have hlen : d.rows.length ≤ 1048576 := Nat.le_trans hb.rows hn
  have hcap : d.rows.length ≤ c := by have := hp.wb.len.2.1; simpa using this
  have hcap2 : c ≤ 9223372036854775807 := by have := hp.wb.len.2.2; simp only [maxLen] at this; omega
  obtain ⟨r, hr⟩ : ∃ r, r = d.rows.length := ⟨_, rfl⟩
  have KR := Kept.mk hr
  have Kst : Kept (FailAt w w B D g bl bs (.slice A d.rows.length c) d 0) := Kept.mk ⟨hb1, hp, Touch.refl _ _⟩
  have c3 := hb1.cell 3
  simp only [dkV, List.getElem?_cons_zero, List.getElem?_cons_succ] at c3
  rw [← hr] at c3 Kst hlen hcap
  have KE := Kept.mk hb.each
  have KL := Kept.mk (hb.keep)
  clear hb1 hp hb hg hr
  obtain ⟨m, hmr⟩ : ∃ m : Nat, m = min r 64 := ⟨_, rfl⟩
  have Km := Kept.mk hmr
  have hmn : min (r : Int) 64 = (m : Int) := by omega
  have hmx : max (m : Int) 0 = (m : Int) := by omega
  have hmc : m ≤ c := by omega
  have hm64 : m ≤ 64 := by omega
  have hmcI : (m : Int) ≤ (c : Int) := by omega
  clear hmr
  go_enter Try.func42, Try.ntmps42
  go_wp2_with fail
  go_quiet (fail)
  have Kst2 : Kept (FailAt w (w.drewN nq) B D g bl bs (.slice A r c) d 0) := Kept.mk (by
    have hE := Ext.drewN w nq
    obtain ⟨a, b, t⟩ := Kst.out
    exact ⟨a.ext hE, b.touch (Touch.of_ext (S := []) hE) (by simp) (by simp) (by simp), t.trans (Touch.of_ext (S := []) hE) (by simp)⟩)
  generalize w.drewN nq = w1 at *
  clear c3 Kst hmn hmx
  go_wp2_with fail
  go_loopg [17] m (fun q iv wi => ∃ i : Nat, i + q = m ∧ iv = .int .i64 (i : Int) ∧ Kept (FailAt w wi B D g bl bs (.slice A r c) d i))
  case atStart => exact ⟨0, by omega, rfl, Kst2⟩
  case round =>
    obtain ⟨i, hq, rfl, KK⟩ := hrel
    have Kq := Kept.mk hq
    have him : i ≤ m := by omega
    clear hq Kst2
    by_cases hlt : i < m
    · have hltI : (i : Int) < (m : Int) := by omega
      have hir : i < d.rows.length := by rw [← KR.out]; have := Km.out; omega
      have hwb := KK.out.parts.wb
      obtain ⟨b0, o0, rfl, hbl, hc⟩ := hwb.rd.get (by decide) (i := i) hir
      have s0 := hc 0 (.int .i64 d.rows[i].k) rfl
      have s1 := hc 1 (.string (strOf d.rows[i].p)) rfl
      have s2 := hc 2 (.string (strOf d.rows[i].t)) rfl
      rw [Nat.add_zero] at s0
      have Kst := Kept.mk (show (d.rows.take 64).take (i + 1) = (d.rows.take 64).take i ++ [d.rows[i]] from by
        have h6 : i < (d.rows.take 64).length := by rw [List.length_take]; omega
        rw [List.take_succ_eq_append_getElem h6]
        congr 2
        rw [List.getElem_take])
      have Kk := Kept.mk ((KE.out d.rows[i] (List.getElem_mem hir)).2.2)
      generalize d.rows[i] = x at *
      clear hc hwb
      go_upto_region 4 with (fail)
      have hE := Ext.alloc wr (.cells #[.int .i64 x.k, .string (strOf x.p), .string (strOf x.t)] 79)
      have hX := Blk.new wr 79 (effV x)
      have KK2 := Kept.mk (KK.out.ext hE)
      have Kx := Kept.mk (show Blk (wr.alloc (.cells #[.int .i64 x.k, .string (strOf x.p), .string (strOf x.t)] 79)) wr.heap.size 79 [.int .i64 x.k, .string (strOf x.p), .string (strOf x.t)] from hX)
      clear s0 s1 s2 KK hE hX
      generalize wr.heap.size = xg at *
      generalize wr.alloc (.cells #[.int .i64 x.k, .string (strOf x.p), .string (strOf x.t)] 79) = wx at *
      have k1 := KK2.out.blk.cell 1
      have k6 := KK2.out.blk.cell 6
      have x0 := Kx.out.cell 0
      have x1 := Kx.out.cell 1
      have x2 := Kx.out.cell 2
      simp only [dkV, List.getElem?_cons_zero, List.getElem?_cons_succ] at k1 k6 x0 x1 x2
      have hk0 : 0 ≤ d.keep := KL.out.1
      have hk1 : d.keep ≤ 18446744073709551615 := KL.out.2
      have Kbit : Kept (bitP d.keep i = (bits BinOp.and IntKind.u64 (d.keep / 2 ^ i) 1 == 1)) := Kept.mk rfl
      have Kl64 : Kept (((d.rows.take 64).take i).length = i) := Kept.mk (by rw [List.length_take, List.length_take]; omega)
      cases hbt : (bits BinOp.and IntKind.u64 (d.keep / 2 ^ i) 1 == 1) with
      | false =>
        rw [hbt] at Kbit
        have Kn : Kept (FailAt w wx B D g bl bs (.slice (some ⟨b0, o0, none⟩) r c) d (i + 1)) := Kept.mk ⟨KK2.out.blk, by
          rw [Kst.out, keepP_snoc, Kl64.out, Nat.zero_add, if_neg (by rw [Kbit.out]; decide)]; exact KK2.out.parts, KK2.out.touch⟩
        clear Kbit KK2
        generalize d.keep = kp at *
        go_wp2_with fail
        go_roundg (gk - 1)
        case measure => have := Kq.out; omega
        case rel => exact ⟨i + 1, by have := Kq.out; omega, by first | rfl | simp, Kn⟩
      | true =>
        rw [hbt] at Kbit
        have Kn := Kept.mk (fun (w6 w7 : World) (hE : Ext wx w6) (hf : FMap w7 bl (doneP (keepP (bitP d.keep) 0 ((d.rows.take 64).take i) d.lies) x)) (hT : Touch [bl] w6 w7) => (show FailAt w w7 B D g bl bs (.slice (some ⟨b0, o0, none⟩) r c) d (i + 1) from by
          have h6 := KK2.out.ext hE
          have h7 := h6.parts
          have hne := h7.fl.ne h6.blk.z
          refine ⟨h6.blk.touch hT (by simpa using Ne.symm hne), ⟨?_, h7.fs.touch hT (by simpa using Ne.symm h7.ne), ?_, h7.dl, h7.ds, h7.dv, h7.ne, fun j hj => ⟨(h7.lo j hj).1, Nat.lt_of_lt_of_le (h7.lo j hj).2 hT.size⟩⟩, h6.touch.trans hT (fun j hj => by rw [List.mem_singleton] at hj; subst hj; exact .inl h7.dl)⟩
          · rw [Kst.out, keepP_snoc, Kl64.out, Nat.zero_add, if_pos Kbit.out]; exact hf
          · exact map_apart h7.wb h7.fl hT))
        have KF := Kept.mk (fun (w6 : World) (hE : Ext wx w6) => (KK2.out.ext hE).parts.fl)
        clear Kbit KK2
        generalize keepP (bitP d.keep) 0 ((d.rows.take 64).take i) d.lies = Li at *
        generalize d.keep = kp at *
        go_wp2_with fail
        refine wp_region_calm Ext 5 ([] :: [(31, 0)] :: [(32, 1)] :: [(33, 2)] :: [] :: [])
          ((31, 0) :: (32, 1) :: (33, 2) :: (34, 3) :: (35, 4) :: [])
          (EqV ?sce0 :: EqV ?sce1 :: EqV ?sce2 :: EqV ?sce3 :: EqV ?sce4 :: []) hm (by kernel_rfl) Ext.refl (fun _ _ _ => Ext.trans) Ext.drew
          (MonoL.at (MonoL.eq _ (MonoL.eq _ (MonoL.eq _ (MonoL.eq _ (MonoL.eq _ (MonoL.nil))))))) ?scalmOps ?scalmDone
        case scalmOps =>
          intro vs
          refine (CalmOps.cons ?_ (CalmOps.cons ?_ (CalmOps.cons ?_ (CalmOps.cons ?_ (CalmOps.cons ?_ trivial)))))
          · intro w6 hR hL; simp [Look, VAt, EqV] at hL; simp [Guarded, setAll, bare, hL]; go_wp2_with fail; exact CalmPost.mk (by first | (simp; done) | (simp; rfl) | rfl) rfl (Ext.refl _)
          · intro w6 hR hL; simp [Look, VAt, EqV] at hL; simp [Guarded, setAll, bare, hL]; go_wp2_with fail; exact CalmPost.mk (by first | (simp; done) | (simp; rfl) | rfl) rfl (Ext.refl _)
          · intro w6 hR hL; simp [Look, VAt, EqV] at hL; simp [Guarded, setAll, bare, hL]; go_wp2_with fail; exact CalmPost.mk (by first | (simp; done) | (simp; rfl) | rfl) rfl (Ext.refl _)
          · intro w6 hR hL; simp [Look, VAt, EqV] at hL; have q0 := hR.cell k1; simp [Guarded, setAll, bare, hL]; go_wp2_with fail; exact CalmPost.mk (by first | (simp; done) | (simp; rfl) | rfl) rfl (Ext.refl _)
          · intro w6 hR hL; simp [Look, VAt, EqV] at hL; have q0 := hR.cell x0; have q1 := hR.cell x1; have q2 := hR.cell x2; simp [Guarded, setAll, bare, hL]; go_wp2_with fail; exact CalmPost.mk (by first | (simp; done) | (simp; rfl) | rfl) rfl (Ext.refl _)
        case scalmDone =>
          intro vs w6 hR hL
          simp [Look, VAt, EqV] at hL
          obtain ⟨L0, L1, L2, L3, L4⟩ := hL
          simp [setAll, L0, L1, L2, L3, L4]
          clear L0 L1 L2 L3 L4 x0 x1 x2 k1 k6
          have KD := Kept.mk (do_any w6 bl Li x Kk.out (KF.out w6 hR))
          have KR6 := Kept.mk hR
          clear hR
          go_wp2_with fail
          refine KD.out.mono ?_
          rintro e w7 ⟨rfl, hf, hT⟩
          have Kn7 := Kept.mk (Kn.out w6 w7 KR6.out hf hT)
          clear hf hT Kn KD KF
          go_wp2_with fail
          go_roundg (gk - 1)
          case measure => have := Kq.out; omega
          case rel => exact ⟨i + 1, by have := Kq.out; omega, by first | rfl | simp, Kn7⟩
    · have hltI : ¬ (i : Int) < (m : Int) := by omega
      have KF : Kept (FailAt w wr B D g bl bs (.slice A r c) d m) := Kept.mk (by rw [show m = i by omega]; exact KK.out)
      have Kall := Kept.mk (show (d.rows.take 64).take m = d.rows.take 64 from List.take_of_length_le (by rw [List.length_take]; have := Km.out; have := KR.out; omega))
      have k1 := KF.out.blk.cell 1
      simp only [dkV, List.getElem?_cons_zero, List.getElem?_cons_succ] at k1
      have KC := Kept.mk (clone_any wr bl _ KF.out.parts.fl)
      clear KK
      go_wp2_with fail
      refine KC.out.mono ?_
      rintro e w2 ⟨rfl, hf2, hE2, hs2⟩
      have KF2 := Kept.mk (KF.out.ext hE2)
      have Kf2 := Kept.mk hf2
      have Ks2 := Kept.mk (show w.heap.size ≤ wr.heap.size ∧ wr.heap.size < w2.heap.size from ⟨KF.out.touch.size, by omega⟩)
      have Kw := Kept.mk (show ∀ j ∈ D, j < wr.heap.size from fun j hj => (KF.out.parts.lo j hj).2)
      generalize wr.heap.size = cb at *
      clear KC hf2 hE2 hs2 k1 KF
      have c2 := KF2.out.blk.cell 2
      have c3 := KF2.out.blk.cell 3
      have c4 := KF2.out.blk.cell 4
      have c5 := KF2.out.blk.cell 5
      have c6 := KF2.out.blk.cell 6
      have f2 := KF2.out.blk.free 2
      have f3 := KF2.out.blk.free 3
      have f4 := KF2.out.blk.free 4
      have f5 := KF2.out.blk.free 5
      have f6 := KF2.out.blk.free 6
      simp only [dkV, List.getElem?_cons_zero, List.getElem?_cons_succ] at c2 c3 c4 c5 c6
      go_wp2_with fail
      go_ret
      exact ⟨rfl, by
        have hb := KF2.out.blk
        have hb5 := ((((hb.set 2 (.map (some cb))).set 3 (.slice none 0 0)).set 4 (.bool true)).set 5 (.int .i64 0)).set 6 (.int .u64 0)
        have t1 := Touch.set w2 ⟨g, 2, none⟩ (.map (some cb))
        have t2 := Touch.set (w2.setCell ⟨g, 2, none⟩ (.map (some cb))) ⟨g, 3, none⟩ (.slice none 0 0)
        have t3 := Touch.set ((w2.setCell ⟨g, 2, none⟩ (.map (some cb))).setCell ⟨g, 3, none⟩ (.slice none 0 0)) ⟨g, 4, none⟩ (.bool true)
        have t4 := Touch.set (((w2.setCell ⟨g, 2, none⟩ (.map (some cb))).setCell ⟨g, 3, none⟩ (.slice none 0 0)).setCell ⟨g, 4, none⟩ (.bool true)) ⟨g, 5, none⟩ (.int .i64 0)
        have t5 := Touch.set ((((w2.setCell ⟨g, 2, none⟩ (.map (some cb))).setCell ⟨g, 3, none⟩ (.slice none 0 0)).setCell ⟨g, 4, none⟩ (.bool true)).setCell ⟨g, 5, none⟩ (.int .i64 0)) ⟨g, 6, none⟩ (.int .u64 0)
        have ht := (((t1.trans t2 (fun j hj => .inl hj)).trans t3 (fun j hj => .inl hj)).trans t4 (fun j hj => .inl hj)).trans t5 (fun j hj => .inl hj)
        have hp := KF2.out.parts
        rw [Kall.out] at hp
        have hf := Kf2.out
        rw [Kall.out] at hf
        have hgc : cb ≠ g := fun e => by have := Kw.out g Kg.out; omega
        refine ⟨cb :: D, ⟨List.mem_cons_of_mem _ Kg.out, bl, cb, .slice none 0 0, hb5, ?_⟩, ?_, ?_⟩
        · refine ⟨hp.fl.touch ht (by simpa using hp.fl.ne hb.z), hf.touch ht (by simpa using hgc), BufS.nil 3 _ _ _, List.mem_cons_of_mem _ hp.dl, List.mem_cons_self, by simp [own], fun e => by have := Kw.out bl hp.dl; omega, ?_⟩
          intro j hj
          have hz : (w2.heap.size : Nat) ≤ _ := ht.size
          rcases List.mem_cons.1 hj with rfl | hj
          · refine ⟨?_, Nat.lt_of_lt_of_le Ks2.out.2 hz⟩
            have h1 := (hp.lo g Kg.out).1
            have h2 := Kw.out g Kg.out
            omega
          · exact ⟨(hp.lo j hj).1, Nat.lt_of_lt_of_le (hp.lo j hj).2 hz⟩
        · exact KF2.out.touch.trans (ht.more (fun j hj => by rw [List.mem_singleton] at hj; subst hj; exact Kg.out)) (fun j hj => .inl hj)
        · intro j hj
          rcases List.mem_cons.1 hj with rfl | hj
          · exact .inr Ks2.out.1
          · exact .inl hj⟩
end Disk
end Go.Proofs.Ytjphmjegfpdbeaa
