/- The document's call: does the power fail? No condition. -/
import Derived.Test.YtjphmjegfpdbeaaDiskRD
namespace Go.Proofs.Ytjphmjegfpdbeaa
open Go.RowKit
namespace Disk
open Str
set_option linter.unusedSimpArgs false
set_option linter.unusedVariables false
theorem infoRd : (Try.prog.info? 49).map (·.size) = some 7 := by kernel_rfl
theorem results_blk_slot {P : Program} {fn : Func} {p s : Tmp} {ty : TypeId} (h : fn.results = #[.cell p ty, .tmp s]) (tmps : Array Value) (w : World) (g : Nat) (T : TypeId) (xs : List Value) (d : TypeDesc) (v : Value)
    (hp : tmps.getD p undef = .pointer (some ⟨g, 0, none⟩)) (hv : tmps.getD s undef = v) (hg : Blk w g T xs) (hu : P.underlying ty = some d) (hd : (match d with | .struct _ | .array _ _ => true | _ => false) = true) (hi : (P.info? ty).map (·.size) = some xs.length) :
    (results fn tmps).run P w = .ok (.tuple #[.agg xs.toArray, v]) w := by
  have hp' : tmps[p]?.getD undef = .pointer (some ⟨g, 0, none⟩) := by simpa using hp
  have hv' : tmps[s]?.getD undef = v := by simpa using hv
  simp [results, h, hp', hv', asAddr, run_loadVar_row w g T ty xs.toArray (0, 0) d hg hu hd (by simpa using hi)]
theorem files_apart {G : Nat → Prop} {L : List F} {w w' : World} {u : Value} {g : Nat} {T : TypeId} {xs : List Value} (h : FilesR G L w u) (k : Blk w g T xs) (hx : ∀ x ∈ xs, ∀ s, x ≠ .string s) (ht : Touch [g] w w') : FilesR G L w' u := by
  obtain ⟨⟨A, cap, h1, h2, h3, h4, h5⟩, hg⟩ := h
  refine ⟨⟨A, cap, h1, h2, h3, h4, ?_⟩, hg⟩
  cases L with
  | nil => exact .inl rfl
  | cons f r =>
    have hpos : 0 < ((f :: r).map fV).flatten.length := by simp [fV]
    obtain ⟨b, off, rfl, hc⟩ := h5.at hpos
    have hne : b ≠ g := by
      rintro rfl
      have h0 := hc 0 (.string (strOf f.1)) (by simp [fV])
      rw [k.cell] at h0
      exact hx _ (List.mem_of_getElem? h0) _ rfl
    exact .inr ⟨b, off, rfl, fun j v hv => ht.cell (hc j v hv) (by simpa using hne)⟩
structure CallAt (G : Nat → Prop) (w wi : World) (xg : Nat) (d : Dk) (lv rv : Value) (an ak : Int) (i : Nat) : Prop where
  blk : Blk wi xg 49 [.int .i64 d.room, lv, rv, .bool d.down, .int .i64 an, .int .u64 ak, .int .i64 0]
  res : Blk wi (xg + 1) 49 [.int .i64 0, .slice none 0 0, .slice none 0 0, .bool false, .int .i64 0, .int .u64 0, .int .i64 0]
  l : FilesR G (keepP (bitP ak) 0 ((d.rows.take 64).take i) d.lies) wi lv
  r : RowsR G d.rows wi rv
  ext : Ext w wi
  lo : w.heap.size ≤ xg
theorem rows_apart {G : Nat → Prop} {L : List Eff} {w w' : World} {u : Value} {g : Nat} {T : TypeId} {xs : List Value} (h : RowsR G L w u) (k : Blk w g T xs) (hx : ∀ x ∈ xs, ∀ s, x ≠ .string s) (ht : Touch [g] w w') : RowsR G L w' u := by
  obtain ⟨⟨A, cap, h1, h2, h3, h4, h5⟩, hg⟩ := h
  refine ⟨⟨A, cap, h1, h2, h3, h4, ?_⟩, hg⟩
  cases L with
  | nil => exact .inl rfl
  | cons f r =>
    have hpos : 0 < ((f :: r).map effR).flatten.length := by simp [effR]
    obtain ⟨b, off, rfl, hc⟩ := h5.at hpos
    have hne : b ≠ g := by
      rintro rfl
      have h0 := hc 1 (.string (strOf f.p)) (by simp [effR])
      rw [k.cell] at h0
      exact hx _ (List.mem_of_getElem? h0) _ rfl
    exact .inr ⟨b, off, rfl, fun j v hv => ht.cell (hc j v hv) (by simpa using hne)⟩
theorem CallAt.skip {G : Nat → Prop} {w wi : World} {xg : Nat} {d : Dk} {lv rv : Value} {an ak : Int} {i : Nat} {x : Eff} (h : CallAt G w wi xg d lv rv an ak i) (h1 : (d.rows.take 64).take (i + 1) = (d.rows.take 64).take i ++ [x]) (h2 : ((d.rows.take 64).take i).length = i) (h3 : bitP ak i = false) : CallAt G w wi xg d lv rv an ak (i + 1) :=
  ⟨h.blk, h.res, by rw [h1, keepP_snoc, h2, Nat.zero_add, if_neg (by rw [h3]; decide)]; exact h.l, h.r, h.ext, h.lo⟩
theorem CallAt.dry {G : Nat → Prop} {w wi : World} {xg : Nat} {d : Dk} {lv rv : Value} {an ak : Int} {i : Nat} (h : CallAt G w wi xg d lv rv an ak i) : ∀ x ∈ [.int .i64 d.room, lv, rv, .bool d.down, .int .i64 an, .int .u64 ak, .int .i64 0], ∀ s, x ≠ Value.string s := by
  obtain ⟨A, n, c, rfl⟩ := h.l.form
  obtain ⟨B, m, rfl⟩ := h.r.form
  intro x hx s
  simp only [List.mem_cons, List.not_mem_nil, or_false] at hx
  rcases hx with rfl | rfl | rfl | rfl | rfl | rfl | rfl <;> simp
theorem CallAt.step {G : Nat → Prop} {w wi w6 : World} {xg : Nat} {d : Dk} {lv rv : Value} {an ak : Int} {i : Nat} {x : Eff} (h : CallAt G w wi xg d lv rv an ak i) (h1 : (d.rows.take 64).take (i + 1) = (d.rows.take 64).take i ++ [x]) (h2 : ((d.rows.take 64).take i).length = i) (h3 : bitP ak i = true) (hE : Ext wi w6) {v : Value} (hf : FilesR G (doneP (keepP (bitP ak) 0 ((d.rows.take 64).take i) d.lies) x) w6 v) : CallAt G w (w6.setCell ⟨xg, 1, none⟩ v) xg d v rv an ak (i + 1) := by
  have k := h.blk.ext hE
  have ht := Touch.set w6 ⟨xg, 1, none⟩ v
  refine ⟨k.set 1 v, (h.res.ext hE).set_other _ _ (by simp), ?_, rows_apart (h.r.ext hE) k h.dry ht, Touch.below (h.ext.trans hE) ht (fun j hj => by rw [List.mem_singleton] at hj; have := h.lo; simp at hj; omega) (h.ext.trans hE).size, h.lo⟩
  rw [h1, keepP_snoc, h2, Nat.zero_add, if_pos h3]
  exact files_apart hf k h.dry ht
theorem CallAt.down {G : Nat → Prop} {w wi : World} {xg : Nat} {d : Dk} {lv rv : Value} {an ak : Int} {i : Nat} (h : CallAt G w wi xg d lv rv an ak i) :
    Blk ((wi.setCell ⟨xg, 2, none⟩ (.slice none 0 0)).setCell ⟨xg, 3, none⟩ (.bool true)) xg 49 [.int .i64 d.room, lv, .slice none 0 0, .bool true, .int .i64 an, .int .u64 ak, .int .i64 0] ∧
    Blk ((wi.setCell ⟨xg, 2, none⟩ (.slice none 0 0)).setCell ⟨xg, 3, none⟩ (.bool true)) (xg + 1) 49 [.int .i64 0, .slice none 0 0, .slice none 0 0, .bool false, .int .i64 0, .int .u64 0, .int .i64 0] ∧
    FilesR G (keepP (bitP ak) 0 ((d.rows.take 64).take i) d.lies) ((wi.setCell ⟨xg, 2, none⟩ (.slice none 0 0)).setCell ⟨xg, 3, none⟩ (.bool true)) lv ∧
    Ext w ((wi.setCell ⟨xg, 2, none⟩ (.slice none 0 0)).setCell ⟨xg, 3, none⟩ (.bool true)) := by
  have t1 := Touch.set wi ⟨xg, 2, none⟩ (.slice none 0 0)
  have t2 := Touch.set (wi.setCell ⟨xg, 2, none⟩ (.slice none 0 0)) ⟨xg, 3, none⟩ (.bool true)
  have t := t1.trans t2 (fun j hj => .inl hj)
  refine ⟨(h.blk.set 2 _).set 3 _, (h.res.set_other _ _ (by simp)).set_other _ _ (by simp), files_apart h.l h.blk h.dry t, Touch.below h.ext t (fun j hj => by rw [List.mem_singleton] at hj; have := h.lo; simp at hj; omega) h.ext.size⟩
def CallRE (G : Nat → Prop) (w : World) (d : Dk) (an ak : Int) (e : Ending) (w' : World) : Prop := ∃ lv rv, e = .returned (.tuple #[.agg (rdV (callP d).1 lv rv an ak).toArray, .bool (callP d).2]) ∧ RdIn G w' (callP d).1 lv rv ∧ Ext w w'
set_option maxRecDepth 100000 in
set_option maxHeartbeats 16000000 in
theorem callR_any {G : Nat → Prop} (d : Dk) (n : Nat) (hb : DkB n d) (hn : n ≤ 1048575) (lv rv : Value) (an ak : Int) (hak : d.cnt ≠ 0 → ak = d.keep) (w : World) (hG : ∀ j, w.heap.size ≤ j → G j) (h : RdIn G w d lv rv) : Calls Try.prog 40 #[.agg (rdV d lv rv an ak).toArray] w (CallRE G w d an ak) := by
  have KG := Kept.mk hG
  clear hG
  have hm : Try.prog.follows .mixedOrders = true := by kernel_rfl
  have hE1 := Ext.alloc w (.cells (rdV d lv rv an ak).toArray 49)
  have hE2 := Ext.alloc (w.alloc (.cells (rdV d lv rv an ak).toArray 49)) (.cells #[.int .i64 0, .slice none 0 0, .slice none 0 0, .bool false, .int .i64 0, .int .u64 0, .int .i64 0] 49)
  have hbx := Blk.new w 49 (rdV d lv rv an ak)
  have hbr := Blk.new (w.alloc (.cells (rdV d lv rv an ak).toArray 49)) 49 [.int .i64 0, .slice none 0 0, .slice none 0 0, .bool false, .int .i64 0, .int .u64 0, .int .i64 0]
  rw [World.size_alloc] at hbr
  have KE := Kept.mk (hE1.trans hE2)
  have Kx := Kept.mk (hbx.ext hE2)
  have Kr := Kept.mk hbr
  have KR := Kept.mk h
  have Kb := Kept.mk hb
  have Kak := Kept.mk hak
  obtain ⟨A, nn, c, rfl⟩ := h.l.form
  obtain ⟨B, cb, hrv⟩ := h.r.form
  rw [List.length_map] at hrv
  subst hrv
  obtain ⟨m, hmm⟩ : ∃ m, m = d.rows.length := ⟨_, rfl⟩
  have Km := Kept.mk hmm
  have hmb : m ≤ 1048575 := by rw [hmm]; exact Nat.le_trans hb.rows hn
  have hcn := hb.cnt
  rw [← hmm] at KE Kx Kr KR ⊢
  unfold rdV at KE Kx Kr ⊢
  clear h hE1 hE2 hbx hbr hb hak hmm
  have KC : Kept (callP d = if d.cnt = 0 then (d, false) else if d.cnt - 1 = 0 then (failP d, true) else ({ d with cnt := d.cnt - 1 }, false)) := Kept.mk rfl
  unfold CallRE
  go_enter Try.func40, Try.ntmps40
  go_upto_region 1 with (fail)
  have Kg := Kept.mk (show w.heap.size ≤ w.heap.size from Nat.le_refl _)
  generalize hxg : w.heap.size = xg at Kx Kr Kg ⊢
  have Kxg := Kept.mk hxg
  clear hxg Kg
  generalize (w.alloc (.cells #[.int .i64 d.room, .slice A nn c, .slice B m cb, .bool d.down, .int .i64 an, .int .u64 ak, .int .i64 d.cnt] 49)).alloc (.cells #[.int .i64 0, .slice none 0 0, .slice none 0 0, .bool false, .int .i64 0, .int .u64 0, .int .i64 0] 49) = w1 at *
  have x6 := Kx.out.cell 6
  simp only [List.getElem?_cons_zero, List.getElem?_cons_succ] at x6
  by_cases h0 : d.cnt = 0
  · have h0b : (d.cnt == 0) = true := by simpa using h0
    have KC0 := Kept.mk (show callP d = (d, false) from by rw [KC.out, if_pos h0])
    have hrow := Kr.out.row [.int .i64 d.room, .slice A nn c, .slice B m cb, .bool d.down, .int .i64 an, .int .u64 ak, .int .i64 d.cnt]
    have Krow := Kept.mk hrow
    have KEf := Kept.mk (show Ext w (w1.setRow (xg + 1) [.int .i64 d.room, .slice A nn c, .slice B m cb, .bool d.down, .int .i64 an, .int .u64 ak, .int .i64 d.cnt].toArray) from Touch.below KE.out (Touch.row w1 (xg + 1) _) (fun j hj => by rw [List.mem_singleton] at hj; have := Kxg.out; omega) KE.out.size)
    clear h0 hrow KC
    go_wp2_with (first | (refine wpList_load_blk (P := Try.prog) rfl 49 (.tmp 1) rfl xg rfl 49 _ Kx.out _ Try.underlying49 rfl infoRd ?_) | (refine wpList_store_blk (P := Try.prog) rfl 49 (.tmp 2) (.tmp 8) rfl rfl (xg + 1) rfl 49 _ [.int .i64 d.room, .slice A nn c, .slice B m cb, .bool d.down, .int .i64 an, .int .u64 ak, .int .i64 d.cnt] rfl Kr.out rfl infoRd rfl ?_))
    exact bodyPost_ret (v := _) (results_blk_slot rfl _ _ (xg + 1) 49 _ _ _ rfl rfl Krow.out Try.underlying49 rfl infoRd) rfl ⟨_, _, by rw [KC0.out]; rfl, by rw [KC0.out]; exact KR.out.ext KEf.out, KEf.out⟩
  · have h0b : (d.cnt == 0) = false := by simpa using h0
    have Kk := Kept.mk (Kak.out h0)
    have Kset := Kept.mk (Kx.out.set 6 (.int .i64 (d.cnt - 1)))
    simp only [List.set_cons_zero, List.set_cons_succ] at Kset
    have Kr2 := Kept.mk (Kr.out.set_other ⟨xg, 6, none⟩ (.int .i64 (d.cnt - 1)) (by simp))
    have KE2 := Kept.mk (show Ext w (w1.setCell ⟨xg, 6, none⟩ (.int .i64 (d.cnt - 1))) from Touch.below KE.out (Touch.set w1 ⟨xg, 6, none⟩ _) (fun j hj => by rw [List.mem_singleton] at hj; have := Kxg.out; simp at hj; omega) KE.out.size)
    have f6 := Kx.out.free 6
    have hc1 : 1 ≤ d.cnt := by omega
    have hc2 : d.cnt ≤ 9223372036854775807 := by omega
    go_upto_region 4 with (fail)
    clear x6 f6 KE
    generalize w1.setCell ⟨xg, 6, none⟩ (.int .i64 (d.cnt - 1)) = w2 at *
    have y6 := Kset.out.cell 6
    simp only [List.getElem?_cons_zero, List.getElem?_cons_succ] at y6
    by_cases h1 : d.cnt - 1 = 0
    · have KC0 := Kept.mk (show callP d = (failP d, true) from by rw [KC.out, if_neg h0, if_pos h1])
      have Kst := Kept.mk (show CallAt G w w2 xg d (.slice A nn c) (.slice B m cb) an ak 0 from ⟨by rw [← h1]; exact Kset.out, Kr2.out, by simpa [keepP] using KR.out.l.ext KE2.out, KR.out.r.ext KE2.out, KE2.out, by rw [Kxg.out]; exact Nat.le_refl _⟩)
      rw [h1] at y6
      clear KC h0 h1 h0b hc1 hc2 Kset Kr2 KE2 Kr Kx
      obtain ⟨M, hM⟩ : ∃ M, M = min m 64 := ⟨_, rfl⟩
      have KM := Kept.mk hM
      have hM1 : M ≤ 64 := by omega
      have hM2 : M ≤ m := by omega
      clear hM
      go_wp2_with fail
      go_loopg [4] M (fun q iv wi => ∃ (i : Nat) (lA : Option Addr) (ln lc : Nat), i + q = M ∧ iv = .int .i64 (i : Int) ∧ Kept (CallAt G w wi xg d (.slice lA ln lc) (.slice B m cb) an ak i))
      case atStart => exact ⟨0, A, nn, c, by omega, rfl, Kst⟩
      case round =>
        obtain ⟨i, lA, ln, lc, hq, rfl, KK⟩ := hrel
        have Kq := Kept.mk hq
        have hil : i ≤ M := by omega
        clear hq Kst y6
        have x1 := KK.out.blk.cell 1
        have x2 := KK.out.blk.cell 2
        have x5 := KK.out.blk.cell 5
        simp only [List.getElem?_cons_zero, List.getElem?_cons_succ] at x1 x2 x5
        by_cases hlt : i < M
        · have hltI : (i : Int) < (m : Int) := by omega
          have hlt6 : (i : Int) < 64 := by omega
          have hi2 : i < d.rows.length := by rw [← Km.out]; omega
          obtain ⟨b, off, rfl, -, hc⟩ := KK.out.r.1.get (by decide) (i := i) hi2
          have s0 := hc 0 (.int .i64 (d.rows[i].k + 1)) rfl
          have s1 := hc 1 (.string (strOf d.rows[i].p)) rfl
          have s2 := hc 2 (.string (strOf d.rows[i].t)) rfl
          rw [Nat.add_zero] at s0
          have Kst := Kept.mk (show (d.rows.take 64).take (i + 1) = (d.rows.take 64).take i ++ [d.rows[i]] from by
            have h6 : i < (d.rows.take 64).length := by rw [List.length_take]; omega
            rw [List.take_succ_eq_append_getElem h6]
            congr 2
            rw [List.getElem_take])
          have Klen := Kept.mk (show (keepP (bitP ak) 0 ((d.rows.take 64).take i) d.lies).length ≤ 1048575 from by
            obtain ⟨k, h1, h2⟩ := Kb.out.lies
            have h3 := (Bd.keep (bitP ak) ((d.rows.take 64).take i) 0 h1 (fun e he => Kb.out.each e (List.mem_of_mem_take (List.mem_of_mem_take he)))).len
            rw [List.length_take, List.length_take] at h3
            omega)
          have Kek := Kept.mk ((Kb.out.each d.rows[i] (List.getElem_mem hi2)).2.2)
          have Kbit : Kept (bitP ak i = (bits BinOp.and IntKind.u64 (ak / 2 ^ i) 1 == 1)) := Kept.mk rfl
          have Kl64 : Kept (((d.rows.take 64).take i).length = i) := Kept.mk (by rw [List.length_take, List.length_take]; omega)
          have hk0 : 0 ≤ ak := by rw [Kk.out]; exact Kb.out.keep.1
          have hk1 : ak ≤ 18446744073709551615 := by rw [Kk.out]; exact Kb.out.keep.2
          generalize d.rows[i] = x at *
          clear hc hi2
          cases hbt : (bits BinOp.and IntKind.u64 (ak / 2 ^ i) 1 == 1) with
          | false =>
            rw [hbt] at Kbit
            have Kn := Kept.mk (KK.out.skip Kst.out Kl64.out Kbit.out)
            clear Kbit KK
            clear Kk Kak
            go_wp2_with fail
            go_roundg (gk - 1)
            case measure => have := Kq.out; omega
            case rel => exact ⟨i + 1, lA, ln, lc, by have := Kq.out; omega, by first | rfl | simp, Kn⟩
          | true =>
            rw [hbt] at Kbit
            have Kn := Kept.mk (fun (w6 : World) (hE : Ext wr w6) (v : Value) (hf : FilesR G (doneP (keepP (bitP ak) 0 ((d.rows.take 64).take i) d.lies) x) w6 v) => KK.out.step Kst.out Kl64.out Kbit.out hE hf)
            have KEr := Kept.mk KK.out.ext
            have KL := Kept.mk (fun (w6 : World) (hE : Ext wr w6) => KK.out.l.ext hE)
            have Kf1 := Kept.mk (fun (w6 : World) (hE : Ext wr w6) => (KK.out.blk.ext hE).free 1)
            have Kc1 := Kept.mk (fun (w6 : World) (hE : Ext wr w6) => (KK.out.blk.ext hE).cell 1)
            simp only [List.getElem?_cons_zero, List.getElem?_cons_succ] at Kc1
            clear Kbit KK Kk Kak
            generalize keepP (bitP ak) 0 ((d.rows.take 64).take i) d.lies = Li at *
            obtain ⟨xk, hxk⟩ : ∃ xk, xk = x.k + 1 := ⟨_, rfl⟩
            have Kxk := Kept.mk hxk
            rw [← hxk] at s0
            clear hxk
            go_wp2_with fail
            refine wp_region_calm Ext 9 ([] :: [(35, 0)] :: [] :: [(37, 2)] :: [] :: [(38, 3), (39, 4)] :: [(40, 5)] :: [(36, 1), (41, 6)] :: [] :: [])
              ((35, 0) :: (36, 1) :: (37, 2) :: (38, 3) :: (39, 4) :: (40, 5) :: (41, 6) :: (42, 7) :: (43, 8) :: [])
              (EqV ?sce0 :: EqV ?sce1 :: EqV ?sce2 :: EqV ?sce3 :: EqV ?sce4 :: EqV ?sce5 :: EqV ?sce6 :: (fun W u => FilesR G (doneP Li x) W u) :: EqV ?sce8 :: []) hm (by kernel_rfl) Ext.refl (fun _ _ _ => Ext.trans) Ext.drew
              (MonoL.at (MonoL.eq _ (MonoL.eq _ (MonoL.eq _ (MonoL.eq _ (MonoL.eq _ (MonoL.eq _ (MonoL.eq _ (MonoL.cons (fun W W' u hR h => FilesR.ext h hR) (MonoL.eq _ (MonoL.nil))))))))))) ?scalmOps ?scalmDone
            case scalmOps =>
              intro vs
              refine (CalmOps.cons ?_ (CalmOps.cons ?_ (CalmOps.cons ?_ (CalmOps.cons ?_ (CalmOps.cons ?_ (CalmOps.cons ?_ (CalmOps.cons ?_ (CalmOps.cons ?_ (CalmOps.cons ?_ trivial)))))))))
              · intro w6 hR hL; simp [Look, VAt, EqV] at hL; simp [Guarded, setAll, bare, hL]; go_wp2_with fail; exact CalmPost.mk (by first | (simp; done) | (simp; rfl) | rfl) rfl (Ext.refl _)
              · intro w6 hR hL; simp [Look, VAt, EqV] at hL; have q0 := hR.cell x1; simp [Guarded, setAll, bare, hL]; go_wp2_with fail; exact CalmPost.mk (by first | (simp; done) | (simp; rfl) | rfl) rfl (Ext.refl _)
              · intro w6 hR hL; simp [Look, VAt, EqV] at hL; simp [Guarded, setAll, bare, hL]; go_wp2_with fail; exact CalmPost.mk (by first | (simp; done) | (simp; rfl) | rfl) rfl (Ext.refl _)
              · intro w6 hR hL; simp [Look, VAt, EqV] at hL; have q0 := hR.cell x2; simp [Guarded, setAll, bare, hL]; go_wp2_with fail; exact CalmPost.mk (by first | (simp; done) | (simp; rfl) | rfl) rfl (Ext.refl _)
              · intro w6 hR hL; simp [Look, VAt, EqV] at hL; simp [Guarded, setAll, bare, hL]; go_wp2_with fail; exact CalmPost.mk (by first | (simp; done) | (simp; rfl) | rfl) rfl (Ext.refl _)
              · intro w6 hR hL; simp [Look, VAt, EqV] at hL; simp [Guarded, setAll, bare, hL]; go_wp2_with fail; exact CalmPost.mk (by first | (simp; done) | (simp; rfl) | rfl) rfl (Ext.refl _)
              · intro w6 hR hL; simp [Look, VAt, EqV] at hL; have q0 := hR.cell s0; have q1 := hR.cell s1; have q2 := hR.cell s2; simp [Guarded, setAll, bare, hL]; go_wp2_with fail; exact CalmPost.mk (by first | (simp; done) | (simp; rfl) | rfl) rfl (Ext.refl _)
              · intro w6 hR hL; simp [Look, VAt, EqV] at hL; have KD := Kept.mk (done_any Li Klen.out _ x Kek.out _ Kxk.out w6 (good_ext KG.out (KEr.out.trans hR)) (KL.out w6 hR)); unfold DoneE at KD; simp [Guarded, setAll, bare, hL]; go_wp2_with fail; refine KD.out.mono ?_; rintro ee ww ⟨v7, rfl, hb, hE⟩; go_wp2_with fail; exact CalmPost.mk (by first | (simp; done) | (simp; rfl) | rfl) hb hE
              · intro w6 hR hL; simp [Look, VAt, EqV] at hL; simp [Guarded, setAll, bare, hL]; go_wp2_with fail; exact CalmPost.mk (by first | (simp; done) | (simp; rfl) | rfl) rfl (Ext.refl _)
            case scalmDone =>
              intro vs w6 hR hL2
              simp [Look, VAt, EqV] at hL2
              obtain ⟨L0, L1, L2, L3, L4, L5, L6, L7, L8⟩ := hL2
              obtain ⟨vA, vn, vc, hv7⟩ := L7.form
              have Kn7 := Kept.mk (Kn.out w6 hR _ L7)
              rw [hv7] at Kn7
              have f1 := Kf1.out w6 hR
              have c1 := Kc1.out w6 hR
              simp [setAll, L0, L1, L2, L3, L4, L5, L6, hv7, L8]
              clear L0 L1 L2 L3 L4 L5 L6 L7 L8 hv7 hR Kn Kf1 Kc1 KL x1 x2 x5 s0 s1 s2
              go_wp2_with fail
              go_roundg (gk - 1)
              case measure => have := Kq.out; omega
              case rel => exact ⟨i + 1, vA, vn, vc, by have := Kq.out; omega, by first | rfl | simp, Kn7⟩
        · have hiM : i = M := by omega
          have Kall := Kept.mk (show (d.rows.take 64).take i = d.rows.take 64 from List.take_of_length_le (by rw [List.length_take]; have := Km.out; have := KM.out; omega))
          have KF := KK
          by_cases hmm : m ≤ i
          · have hltI : ¬ (i : Int) < (m : Int) := by omega
            have KD := Kept.mk (KF.out.down)
            have g2 := KF.out.blk.free 2
            have g3 := KF.out.blk.free 3
            have x3 := KF.out.blk.cell 3
            simp only [List.getElem?_cons_zero, List.getElem?_cons_succ] at x3
            clear KF KK
            go_upto_region 13 with (fail)
            generalize (wr.setCell ⟨xg, 2, none⟩ (.slice none 0 0)).setCell ⟨xg, 3, none⟩ (.bool true) = wf at *
            obtain ⟨kx, kr, kl, ke⟩ := KD.out
            have Kx := Kept.mk kx
            have Kr := Kept.mk kr
            have Kl := Kept.mk kl
            have Ke := Kept.mk (show Ext w (wf.setRow (xg + 1) [.int .i64 d.room, .slice lA ln lc, .slice none 0 0, .bool true, .int .i64 an, .int .u64 ak, .int .i64 0].toArray) from Touch.below ke (Touch.row wf (xg + 1) _) (fun j hj => by rw [List.mem_singleton] at hj; have := Kxg.out; omega) ke.size)
            have Ks := Kept.mk (show Ext wf (wf.setRow (xg + 1) [.int .i64 d.room, .slice lA ln lc, .slice none 0 0, .bool true, .int .i64 an, .int .u64 ak, .int .i64 0].toArray) ∨ True from .inr trivial)
            have Krow := Kept.mk (Kr.out.row [.int .i64 d.room, .slice lA ln lc, .slice none 0 0, .bool true, .int .i64 an, .int .u64 ak, .int .i64 0])
            have Kl2 := Kept.mk (files_apart Kl.out Kr.out (by intro x hx s; simp only [List.mem_cons, List.not_mem_nil, or_false] at hx; rcases hx with rfl | rfl | rfl | rfl | rfl | rfl | rfl <;> simp) (Touch.row wf (xg + 1) [.int .i64 d.room, .slice lA ln lc, .slice none 0 0, .bool true, .int .i64 an, .int .u64 ak, .int .i64 0].toArray))
            clear kx kr kl ke KD Kl g2 g3 x3
            go_wp2_with (first | (refine wpList_load_blk (P := Try.prog) rfl 49 (.tmp 1) rfl xg rfl 49 _ Kx.out _ Try.underlying49 rfl infoRd ?_) | (refine wpList_store_blk (P := Try.prog) rfl 49 (.tmp 2) (.tmp 46) rfl rfl (xg + 1) rfl 49 _ [.int .i64 d.room, .slice lA ln lc, .slice none 0 0, .bool true, .int .i64 an, .int .u64 ak, .int .i64 0] rfl Kr.out rfl infoRd rfl ?_))
            exact bodyPost_ret (v := _) (results_blk_slot rfl _ _ (xg + 1) 49 _ _ _ rfl rfl Krow.out Try.underlying49 rfl infoRd) rfl ⟨.slice lA ln lc, .slice none 0 0, by rw [KC0.out]; rfl, by rw [KC0.out]; exact ⟨by show FilesR _ (keepP (bitP d.keep) 0 (d.rows.take 64) d.lies) _ _; rw [← Kk.out, ← Kall.out]; exact Kl2.out, RowsR.nil _ _⟩, Ke.out⟩
          · have hltI : (i : Int) < (m : Int) := by omega
            have hlt6 : ¬ (i : Int) < 64 := by have := KM.out; omega
            have KD := Kept.mk (KF.out.down)
            have g2 := KF.out.blk.free 2
            have g3 := KF.out.blk.free 3
            have x3 := KF.out.blk.cell 3
            simp only [List.getElem?_cons_zero, List.getElem?_cons_succ] at x3
            clear KF KK
            go_upto_region 13 with (fail)
            generalize (wr.setCell ⟨xg, 2, none⟩ (.slice none 0 0)).setCell ⟨xg, 3, none⟩ (.bool true) = wf at *
            obtain ⟨kx, kr, kl, ke⟩ := KD.out
            have Kx := Kept.mk kx
            have Kr := Kept.mk kr
            have Kl := Kept.mk kl
            have Ke := Kept.mk (show Ext w (wf.setRow (xg + 1) [.int .i64 d.room, .slice lA ln lc, .slice none 0 0, .bool true, .int .i64 an, .int .u64 ak, .int .i64 0].toArray) from Touch.below ke (Touch.row wf (xg + 1) _) (fun j hj => by rw [List.mem_singleton] at hj; have := Kxg.out; omega) ke.size)
            have Ks := Kept.mk (show Ext wf (wf.setRow (xg + 1) [.int .i64 d.room, .slice lA ln lc, .slice none 0 0, .bool true, .int .i64 an, .int .u64 ak, .int .i64 0].toArray) ∨ True from .inr trivial)
            have Krow := Kept.mk (Kr.out.row [.int .i64 d.room, .slice lA ln lc, .slice none 0 0, .bool true, .int .i64 an, .int .u64 ak, .int .i64 0])
            have Kl2 := Kept.mk (files_apart Kl.out Kr.out (by intro x hx s; simp only [List.mem_cons, List.not_mem_nil, or_false] at hx; rcases hx with rfl | rfl | rfl | rfl | rfl | rfl | rfl <;> simp) (Touch.row wf (xg + 1) [.int .i64 d.room, .slice lA ln lc, .slice none 0 0, .bool true, .int .i64 an, .int .u64 ak, .int .i64 0].toArray))
            clear kx kr kl ke KD Kl g2 g3 x3
            go_wp2_with (first | (refine wpList_load_blk (P := Try.prog) rfl 49 (.tmp 1) rfl xg rfl 49 _ Kx.out _ Try.underlying49 rfl infoRd ?_) | (refine wpList_store_blk (P := Try.prog) rfl 49 (.tmp 2) (.tmp 46) rfl rfl (xg + 1) rfl 49 _ [.int .i64 d.room, .slice lA ln lc, .slice none 0 0, .bool true, .int .i64 an, .int .u64 ak, .int .i64 0] rfl Kr.out rfl infoRd rfl ?_))
            exact bodyPost_ret (v := _) (results_blk_slot rfl _ _ (xg + 1) 49 _ _ _ rfl rfl Krow.out Try.underlying49 rfl infoRd) rfl ⟨.slice lA ln lc, .slice none 0 0, by rw [KC0.out]; rfl, by rw [KC0.out]; exact ⟨by show FilesR _ (keepP (bitP d.keep) 0 (d.rows.take 64) d.lies) _ _; rw [← Kk.out, ← Kall.out]; exact Kl2.out, RowsR.nil _ _⟩, Ke.out⟩
    · have h1p : 0 < d.cnt - 1 := by omega
      have KC0 := Kept.mk (show callP d = ({ d with cnt := d.cnt - 1 }, false) from by rw [KC.out, if_neg h0, if_neg h1])
      have Krow := Kept.mk (Kr2.out.row [.int .i64 d.room, .slice A nn c, .slice B m cb, .bool d.down, .int .i64 an, .int .u64 ak, .int .i64 (d.cnt - 1)])
      have KEf := Kept.mk (show Ext w (w2.setRow (xg + 1) [.int .i64 d.room, .slice A nn c, .slice B m cb, .bool d.down, .int .i64 an, .int .u64 ak, .int .i64 (d.cnt - 1)].toArray) from Touch.below KE2.out (Touch.row w2 (xg + 1) _) (fun j hj => by rw [List.mem_singleton] at hj; have := Kxg.out; omega) KE2.out.size)
      clear KC h0 h1 h0b hc1 hc2
      go_wp2_with (first | (refine wpList_load_blk (P := Try.prog) rfl 49 (.tmp 1) rfl xg rfl 49 _ Kset.out _ Try.underlying49 rfl infoRd ?_) | (refine wpList_store_blk (P := Try.prog) rfl 49 (.tmp 2) (.tmp 16) rfl rfl (xg + 1) rfl 49 _ [.int .i64 d.room, .slice A nn c, .slice B m cb, .bool d.down, .int .i64 an, .int .u64 ak, .int .i64 (d.cnt - 1)] rfl Kr2.out rfl infoRd rfl ?_))
      exact bodyPost_ret (v := _) (results_blk_slot rfl _ _ (xg + 1) 49 _ _ _ rfl rfl Krow.out Try.underlying49 rfl infoRd) rfl ⟨_, _, by rw [KC0.out]; rfl, by rw [KC0.out]; exact ⟨KR.out.l.ext KEf.out, KR.out.r.ext KEf.out⟩, KEf.out⟩
end Disk
end Go.Proofs.Ytjphmjegfpdbeaa
