/- The walk of SHA-256's press of a block into a chain. No condition. -/
import Derived.Test.YtgnbbklnobladaaSha2WalkA
import Derived.Test.YtgnbbklnobladaaPart
import Derived.Test.YtgnbbklnobladaaCalm
import Derived.Laws.CopyOwn
namespace Go.Proofs.Ytgnbbklnobladaa
open Go.RowKit
namespace Sha2

/-- A state in memory: the chain, the block, how full it is, what was told. -/
def stC (c : Ch) (b : List UInt8) (fill told : Nat) : List Value := chW c ++ (bytesV b ++ [Value.int .i64 (fill : Int), Value.int .u64 (told : Int)])
def stZ : List Value := zW ++ (bytesV (List.replicate 64 0) ++ [Value.int .i64 0, Value.int .u64 0])
theorem infoS : (Try.prog.info? 87).map (fun i => (i.zero, i.size, i.bytes)) = some (some (.agg stZ.toArray), 74, 112) := by kernel_rfl
theorem infoA64 : (Try.prog.info? 85).map (fun i => (i.zero, i.size, i.bytes)) = some (some (.agg (bytesV (List.replicate 64 0)).toArray), 64, 64) := by kernel_rfl
theorem infoB0 : (Try.prog.info? 5).map (fun i => (i.zero, i.size, i.bytes)) = some (some (.int .u8 0), 1, 1) := by kernel_rfl
theorem infoB : ∃ i, Try.prog.info? 5 = some i ∧ i.zero = some (.int .u8 0) ∧ i.size = 1 ∧ i.bytes = 1 := by
  obtain ⟨i, h, e⟩ := Option.map_eq_some_iff.1 infoB0
  simp only [Prod.mk.injEq] at e
  exact ⟨i, h, e.1, e.2.1, e.2.2⟩
theorem bytesV_all (b : List UInt8) : (bytesV b).all (·.oneCell') = true := numsV_one _ _
theorem stC_block (c : Ch) (b : List UInt8) (f t : Nat) : ((stC c b f t).drop 8).take (bytesV b).length = bytesV b := by
  show ((bytesV b ++ [Value.int .i64 (f : Int), Value.int .u64 (t : Int)]).take (bytesV b).length) = _
  exact List.take_left' rfl
theorem stC_fill (c : Ch) (b : List UInt8) (hb : b.length = 64) (f t : Nat) : (stC c b f t)[72]? = some (.int .i64 (f : Int)) := by
  have : (chW c).length = 8 := rfl
  rw [stC, List.getElem?_append_right (by omega), List.getElem?_append_right (by rw [bytesV_length]; omega), bytesV_length, hb]
  rfl
theorem stC_told (c : Ch) (b : List UInt8) (hb : b.length = 64) (f t : Nat) : (stC c b f t)[73]? = some (.int .u64 (t : Int)) := by
  have : (chW c).length = 8 := rfl
  rw [stC, List.getElem?_append_right (by omega), List.getElem?_append_right (by rw [bytesV_length]; omega), bytesV_length, hb]
  rfl
theorem stC_set_fill (c : Ch) (b : List UInt8) (hb : b.length = 64) (f t f' : Nat) : (stC c b f t).set 72 (.int .i64 (f' : Int)) = stC c b f' t := by
  have : (chW c).length = 8 := rfl
  rw [stC, List.set_append_right _ _ (by omega), List.set_append_right _ _ (by rw [bytesV_length]; omega), bytesV_length, hb]
  rfl
theorem stC_set_told (c : Ch) (b : List UInt8) (hb : b.length = 64) (f t t' : Nat) : (stC c b f t).set 73 (.int .u64 (t' : Int)) = stC c b f t' := by
  have : (chW c).length = 8 := rfl
  rw [stC, List.set_append_right _ _ (by omega), List.set_append_right _ _ (by rw [bytesV_length]; omega), bytesV_length, hb]
  rfl
/-- A chain of which some words are added. -/
def stA (c y : Ch) (j : Nat) (b : List UInt8) (fill told : Nat) : List Value := numsV .u32 (addL c y j) ++ (bytesV b ++ [Value.int .i64 (fill : Int), Value.int .u64 (told : Int)])
theorem stA_at (c y : Ch) (j : Nat) (hj : j < 8) (b : List UInt8) (f t : Nat) : (stA c y j b f t)[j]? = some (.int .u32 ((chL c).getD j 0)) := by
  rw [stA, List.getElem?_append_left (by rw [numsV_length, addL_length]; exact hj), numsV_at _ _ _ (by rw [addL_length]; exact hj), addL_getD _ _ _ hj]
theorem stA_set (c y : Ch) (j : Nat) (hj : j < 8) (b : List UInt8) (f t : Nat) : (stA c y j b f t).set j (.int .u32 (((chL c).getD j 0 + (chL y).getD j 0) % 4294967296)) = stA c y (j + 1) b f t := by
  rw [stA, List.set_append_left _ _ (by rw [numsV_length, addL_length]; exact hj), numsV_set, addL_set _ _ _ hj]; rfl
theorem nb_byt (b : List UInt8) (j : Nat) (h : j < b.length) : (nb b).getD j 0 = byt b j := by
  simp [nb, byt, List.getD_eq_getElem?_getD, h]
/-- In the midst of a press. -/
structure PrI (w : World) (p g2 g3 : Nat) (st : List Value) (ws : List Int) (wi : World) : Prop where
  tt : Touch [p] w wi
  pp : Blk wi p 87 st
  kk : Blk wi g2 63 (numsV .u32 keysL)
  ww : Blk wi g3 63 (numsV .u32 ws)
  hh : p ≠ g2 ∧ p ≠ g3 ∧ g2 ≠ g3 ∧ w.heap.size ≤ g2 ∧ w.heap.size ≤ g3
theorem PrI.drewN {w : World} {p g2 g3 : Nat} {st : List Value} {ws : List Int} {wi : World} (h : PrI w p g2 g3 st ws wi) (n : Nat) : PrI w p g2 g3 st ws (wi.drewN n) :=
  ⟨h.tt.trans (Touch.of_ext (S := []) (Ext.drewN _ _)) (by simp), h.pp, h.kk, h.ww, h.hh⟩
theorem PrI.word {w : World} {p g2 g3 : Nat} {st : List Value} {ws : List Int} {wi : World} (h : PrI w p g2 g3 st ws wi) (i : Nat) (x : Int) : PrI w p g2 g3 st (ws.set i x) (wi.setCell ⟨g3, i, none⟩ (.int .u32 x)) :=
  ⟨h.tt.trans (Touch.set _ _ _) (by intro j hj; simp at hj; subst hj; exact .inr h.hh.2.2.2.2), h.pp.set_other _ _ h.hh.2.1, h.kk.set_other _ _ h.hh.2.2.1, by have := h.ww.set i (.int .u32 x); rwa [numsV_set] at this, h.hh⟩
theorem PrI.touch {w : World} {p g2 g3 g : Nat} {st : List Value} {ws : List Int} {wi wj : World} (h : PrI w p g2 g3 st ws wi) (ht : Touch [g] wi wj) (h1 : p ≠ g) (h2 : g2 ≠ g) (h3 : g3 ≠ g) (h4 : w.heap.size ≤ g) : PrI w p g2 g3 st ws wj :=
  ⟨h.tt.trans ht (by intro j hj; simp at hj; subst hj; exact .inr h4), h.pp.touch ht (by simpa using h1), h.kk.touch ht (by simpa using h2), h.ww.touch ht (by simpa using h3), h.hh⟩
theorem PrI.alloc {w : World} {p g2 g3 : Nat} {st : List Value} {ws : List Int} {wi : World} (h : PrI w p g2 g3 st ws wi) (o : Obj) : PrI w p g2 g3 st ws (wi.alloc o) :=
  ⟨h.tt.trans (Touch.of_ext (S := []) (Ext.alloc _ _)) (by simp), h.pp.old _, h.kk.old _, h.ww.old _, h.hh⟩
theorem PrI.state {w : World} {p g2 g3 : Nat} {st : List Value} {ws : List Int} {wi : World} (h : PrI w p g2 g3 st ws wi) (i : Nat) (x : Value) : PrI w p g2 g3 (st.set i x) ws (wi.setCell ⟨p, i, none⟩ x) :=
  ⟨h.tt.trans (Touch.set _ _ _) (by intro j hj; simp at hj; subst hj; exact .inl (by simp)), h.pp.set i x, h.kk.set_other _ _ (Ne.symm h.hh.1), h.ww.set_other _ _ (Ne.symm h.hh.2.1), h.hh⟩
theorem wpList_copy_blk {P : Program} {w : World} {ops : Array Oper} {rest : List Oper} {o : Oper} {a : Act} {Q : Exit → Act → World → Prop} (hgd : o.guard = none) (d s : Operand) (dT sT : TypeId)
    (ho : o.op = .call { callee := .builtin .copy, args := #[d, s], argTypes := #[dT, sT] }) (elem : TypeId) (hu : P.underlying dT = some (.slice elem)) (hsz : (P.info? elem).map (·.size) = some 1)
    (g off dLen dCap : Nat) (ad : Addr) (sLen sCap : Nat) (hd : a.eval d = .slice (some ⟨g, off, none⟩) dLen dCap) (hs : a.eval s = .slice (some ad) sLen sCap)
    (cur : List Value) (t : TypeId) (hg : Blk w g t cur) (cs : List Value) (hn : cs.length = Nat.min sLen dLen)
    (hsrc : ∀ j v, cs[j]? = some v → w.cell? (ad.add j) = some v) (hfit : off + cs.length ≤ cur.length) (h1 : ∀ v ∈ cs, v.oneCell' = true)
    (h : ∀ w', Blk w' g t (cur.take off ++ (cs ++ cur.drop (off + cs.length))) → Touch [g] w w' → wpList P ops Q rest (a.put o.dst (goInt cs.length)) w') : wpList P ops Q (o :: rest) a w :=
  wpList_copy_own hgd d s dT sT ho elem hu hsz g off dLen dCap ad sLen sCap hd hs cur.toArray t hg cs hn hsrc (by simpa using hfit) h1 (h _ (hg.row _) (Touch.row _ _ _))
theorem copySrc {w : World} {g : Nat} {T : TypeId} {xa xb xc xd xe xf xg xh : Int} (h : Blk w g T (chW ⟨xa, xb, xc, xd, xe, xf, xg, xh⟩)) {j : Nat} {v : Value} (hv : (numsV .u32 [xa, xb, xc, xd, xe, xf, xg])[j]? = some v) : w.cell? ⟨g, 0 + j, none⟩ = some v := by
  rw [h.cell, Nat.zero_add]
  have hj : j < 7 := (List.getElem?_eq_some_iff.1 hv).1
  rw [← hv]
  show (numsV .u32 [xa, xb, xc, xd, xe, xf, xg, xh])[j]? = _
  rcases (show j = 0 ∨ j = 1 ∨ j = 2 ∨ j = 3 ∨ j = 4 ∨ j = 5 ∨ j = 6 by omega) with h | h | h | h | h | h | h <;> subst h <;> rfl
/-- A press. -/
def PressIs (w : World) (p : Nat) (c : Ch) (b : List UInt8) (told : Nat) (e : Ending) (w' : World) : Prop := e = .returned (.tuple #[]) ∧ Touch [p] w w' ∧ Blk w' p 87 (stC c b 0 told)
set_option linter.unusedSimpArgs false
set_option linter.unusedVariables false
set_option maxRecDepth 100000 in
set_option maxHeartbeats 4000000 in
theorem press_any (p : Nat) (c : Ch) (b : List UInt8) (hbl : b.length = 64) (fill told : Nat) (w : World) (hb : Blk w p 87 (stC c b fill told)) :
    Calls Try.prog 41 #[.pointer (some ⟨p, 0, none⟩)] w (PressIs w p (pressC c b) b told) := by
  have hm : Try.prog.follows .mixedOrders = true := by kernel_rfl
  have hz64 := zero_run (P := Try.prog) info64
  have hz8 := zero_run (P := Try.prog) info8
  have hpw := hb.lt
  have HP := Kept.mk (show pressC c b = addC c (runC c 0 (expand b)) from rfl)
  generalize pressC c b = out at HP
  have KB0 := Kept.mk hb
  clear hb
  go_enter Try.func41, Try.ntmps41
  go_wp2_with fail
  refine (keys_any _).mono ?_
  rintro e w1 ⟨rfl, h1⟩
  have hb1 := KB0.out.ext h1
  have hs1 := h1.size
  go_wp2_with (first
    | (refine wpList_store_new rfl 63 (.tmp 2) (.tmp 14) rfl rfl rfl 63 (numsV .u32 z64) (numsV .u32 keysL) rfl rfl (info_size info64) (numsV_one _ _) ?_)
    | (refine wpList_load_part rfl 85 (.tmp 17) rfl p 8 rfl 87 (stC c b fill told) (bytesV b) ((hb1.old _).old _) (stC_block c b fill told) _ Try.underlying85 rfl (by rw [bytesV_length, hbl]; exact info_size infoA64) ?_))
  have hI : PrI w p w1.heap.size (w1.heap.size + 1) (stC c b fill told) (uws b 0 0) ((w1.alloc (.cells (numsV .u32 keysL).toArray 63)).alloc (.cells (numsV .u32 z64).toArray 63)) := by
    refine ⟨?_, (hb1.old _).old _, (Blk.new w1 _ _).old _, ?_, by omega, by omega, by omega, hs1, by omega⟩
    · exact Touch.of_ext (h1.trans ((Ext.alloc _ _).trans (Ext.alloc _ _)))
    · have := Blk.new (w1.alloc (.cells (numsV .u32 keysL).toArray 63)) 63 (numsV .u32 z64)
      rw [World.size_alloc] at this
      rwa [uws_zero]
  generalize ((w1.alloc (.cells (numsV .u32 keysL).toArray 63)).alloc (.cells (numsV .u32 z64).toArray 63)) = w2 at hI ⊢
  have hg23 : w1.heap.size + 1 ≠ w1.heap.size := by omega
  generalize w1.heap.size + 1 = g3 at hI hg23 ⊢
  have hI : PrI w p w1.heap.size g3 (stC c b fill told) (bws b 0) w2 := hI
  generalize w1.heap.size = g2 at hI hg23 ⊢
  have KI := Kept.mk hI
  clear hI hb1 hs1 h1 KB0
  go_loopg [4, 5, 19] 64 (fun r _ _ i wi => ∃ j : Nat, j + r = 64 ∧ i = .int .i64 (j : Int) ∧ PrI w p g2 g3 (stC c b fill told) (bws b j) wi)
  case atStart => exact ⟨0, rfl, rfl, KI.out⟩
  case round =>
    clear KI
    obtain ⟨j, hj, rfl, hI⟩ := hrel
    by_cases hlt : j < 64
    · have hjI : (j : Int) < 64 := by omega
      have hix := run_index_nums (P := Try.prog) 85 5 64 1 .u8 Try.underlying85 infoB0 Try.underlying5 (nb b) (by simp [nb, hbl]) j hlt
      rw [nb_byt b j (by omega)] at hix
      change ∀ W, (Instr.index 85 (.agg (bytesV b).toArray) (.int .i64 (j : Int))).run Try.prog W = _ at hix
      have hc : wr.cell? ⟨g3, j / 4, none⟩ = some (.int .u32 (iw b (j / 4) (j % 4))) := by
        rw [hI.ww.cell, numsV_at _ _ _ (by rw [bws_length]; omega), bws_getD _ _ hlt]
      have hf := hI.ww.free (j / 4)
      have hbr := byt_range b j
      have hmo : byt b j % 4294967296 = byt b j := by omega
      have hset := hI.word (j / 4) (bits .or .u32 (iw b (j / 4) (j % 4) * 256 % 4294967296) (byt b j))
      rw [bws_set] at hset
      have hbr1 := hbr.1
      have hbr2 := hbr.2
      generalize byt b j = y at hix hmo hset hbr1 hbr2
      generalize iw b (j / 4) (j % 4) = x at hc hset
      have KS := Kept.mk hset
      clear hset hI hbr
      go_wp2_with fail
      go_roundg (gk - 1)
      case measure => omega
      case rel => exact ⟨j + 1, by omega, by go_num, KS.out⟩
    · obtain rfl : j = 64 := by omega
      have hg0 : grow 48 (w16 b) = expand b := rfl
      have hw0 : (w16 b).length = 16 := by simp [w16]
      have hend : bws b 64 = w16 b ++ List.replicate 48 0 := uws_end b
      rw [hend] at hI
      generalize hO : expand b = outw at hg0 HP
      have hol : outw.length = 64 := by rw [← hO]; exact expand_length b
      have KOL := Kept.mk hol
      clear hO hend hol
      generalize w16 b = ws0 at hg0 hw0 hI
      have HG := Kept.mk hg0
      have HW := Kept.mk hw0
      have KI := Kept.mk hI
      clear hI hg0 hw0 hlt hj
      go_wp2_with fail
      go_loopg [6] 48 (fun r i wi => ∃ (m : Nat) (ws : List Int), m + r = 48 ∧ i = .int .i64 ((m : Int) + 16) ∧ ws.length = m + 16 ∧ grow r ws = outw ∧ PrI w p g2 g3 (stC c b fill told) (ws ++ List.replicate r 0) wi)
      case atStart => exact ⟨0, ws0, rfl, rfl, HW.out, HG.out, KI.out⟩
      case round =>
        clear KI HG HW
        obtain ⟨m, ws, hm1, rfl, hwl, hgr, hI⟩ := hrel
        by_cases hlt2 : m < 48
        · obtain ⟨r, rfl⟩ : ∃ r, gk = r + 1 := ⟨gk - 1, by omega⟩
          have hmI : (m : Int) < 48 := by omega
          have at_ : ∀ j, j < m + 16 → wr.cell? ⟨g3, j, none⟩ = some (.int .u32 (ws.getD j 0)) := fun j hj => by
            rw [hI.ww.cell, numsV_app_at _ _ _ _ (by rw [hwl]; exact hj)]
          have c2 := at_ (m + 14) (by omega)
          have c7 := at_ (m + 9) (by omega)
          have c15 := at_ (m + 1) (by omega)
          have c16 := at_ m (by omega)
          have hf := hI.ww.free (m + 16)
          have hs0 := hI.ww.cell (m + 16)
          rw [numsV_at _ _ _ (by simp; omega)] at hs0
          have hnx : nextW ws = (ws.getD m 0 + sig0 (ws.getD (m + 1) 0) + ws.getD (m + 9) 0 + sig1 (ws.getD (m + 14) 0)) % 4294967296 := by
            unfold nextW
            rw [hwl, show m + 16 - 16 = m by omega, show m + 16 - 15 = m + 1 by omega, show m + 16 - 7 = m + 9 by omega, show m + 16 - 2 = m + 14 by omega]
          have hset := hI.word (m + 16) (nextW ws)
          rw [← hwl, List.set_append_right _ _ (Nat.le_refl _), Nat.sub_self, List.replicate_succ, List.set_cons_zero, hwl] at hset
          have hsplit : ws ++ nextW ws :: List.replicate r 0 = (ws ++ [nextW ws]) ++ List.replicate r 0 := by simp
          rw [hsplit] at hset
          have hgr' : grow r (ws ++ [nextW ws]) = outw := hgr
          have hwl' : (ws ++ [nextW ws]).length = m + 1 + 16 := by simp [hwl]
          generalize (ws ++ List.replicate (r + 1) 0).getD (m + 16) 0 = z0 at hs0
          generalize ws.getD (m + 14) 0 = x2 at c2 hnx
          generalize ws.getD (m + 9) 0 = x7 at c7 hnx
          generalize ws.getD (m + 1) 0 = x15 at c15 hnx
          generalize ws.getD m 0 = x16 at c16 hnx
          generalize nextW ws = nx at hnx hset hgr' hwl'
          generalize ws ++ [nx] = ws' at hset hgr' hwl'
          unfold sig0 sig1 at hnx
          have HNX := Kept.mk hnx
          have HG := Kept.mk hgr'
          have HW := Kept.mk hwl'
          have KI := Kept.mk hI
          have KS := Kept.mk hset
          clear at_ hgr hwl hI hset hsplit hgr' hwl' hnx
          go_wp2_with fail
          refine wp_region_calm DrewR 10 ([] :: [(39, 0)] :: [(40, 1)] :: [(41, 2)] :: [] :: [(43, 4)] :: [(44, 5)] :: [(45, 6)] :: [(42, 3)] :: [(46, 7)] :: [])
            ((39, 0) :: (40, 1) :: (41, 2) :: (42, 3) :: (43, 4) :: (44, 5) :: (45, 6) :: (46, 7) :: (7, 8) :: (8, 9) :: [])
            (EqV ?pce0 :: EqV ?pce1 :: EqV ?pce2 :: EqV ?pce3 :: EqV ?pce4 :: EqV ?pce5 :: EqV ?pce6 :: EqV ?pce7 :: EqV ?pce8 :: EqV ?pce9 :: []) hm (by kernel_rfl) DrewR.refl DrewR.trans DrewR.drew
            (MonoL.at (MonoL.eq _ (MonoL.eq _ (MonoL.eq _ (MonoL.eq _ (MonoL.eq _ (MonoL.eq _ (MonoL.eq _ (MonoL.eq _ (MonoL.eq _ (MonoL.eq _ (MonoL.nil)))))))))))) ?pcalmOps ?pcalmDone
          case pcalmOps =>
            intro vs
            refine (CalmOps.cons ?_ (CalmOps.cons ?_ (CalmOps.cons ?_ (CalmOps.cons ?_ (CalmOps.cons ?_ (CalmOps.cons ?_ (CalmOps.cons ?_ (CalmOps.cons ?_ (CalmOps.cons ?_ (CalmOps.cons ?_ trivial))))))))))
            · intro w hR hL; obtain ⟨nd, rfl⟩ := hR; simp [Look, VAt, EqV] at hL; simp [Guarded, setAll, bare, hL]; go_wp2_with fail; exact CalmPost.mk (by simp; rfl) rfl (DrewR.refl _)
            · intro w hR hL; obtain ⟨nd, rfl⟩ := hR; simp [Look, VAt, EqV] at hL; simp [Guarded, setAll, bare, hL]; go_wp2_with fail; exact CalmPost.mk (by simp; rfl) rfl (DrewR.refl _)
            · intro w hR hL; obtain ⟨nd, rfl⟩ := hR; simp [Look, VAt, EqV] at hL; simp [Guarded, setAll, bare, hL]; go_wp2_with fail; exact CalmPost.mk (by simp; rfl) rfl (DrewR.refl _)
            · intro w hR hL; obtain ⟨nd, rfl⟩ := hR; simp [Look, VAt, EqV] at hL; simp [Guarded, setAll, bare, hL]; go_wp2_with fail; exact CalmPost.mk (by simp; rfl) rfl (DrewR.refl _)
            · intro w hR hL; obtain ⟨nd, rfl⟩ := hR; simp [Look, VAt, EqV] at hL; simp [Guarded, setAll, bare, hL]; go_wp2_with fail; exact CalmPost.mk (by simp; rfl) rfl (DrewR.refl _)
            · intro w hR hL; obtain ⟨nd, rfl⟩ := hR; simp [Look, VAt, EqV] at hL; simp [Guarded, setAll, bare, hL]; go_wp2_with fail; exact CalmPost.mk (by simp; rfl) rfl (DrewR.refl _)
            · intro w hR hL; obtain ⟨nd, rfl⟩ := hR; simp [Look, VAt, EqV] at hL; simp [Guarded, setAll, bare, hL]; go_wp2_with fail; exact CalmPost.mk (by simp; rfl) rfl (DrewR.refl _)
            · intro w hR hL; obtain ⟨nd, rfl⟩ := hR; simp [Look, VAt, EqV] at hL; simp [Guarded, setAll, bare, hL]; go_wp2_with fail; exact CalmPost.mk (by simp; rfl) rfl (DrewR.refl _)
            · intro w hR hL; obtain ⟨nd, rfl⟩ := hR; simp [Look, VAt, EqV] at hL; simp [Guarded, setAll, bare, hL]; go_wp2_with fail; exact CalmPost.mk (by simp; rfl) rfl (DrewR.refl _)
            · intro w hR hL; obtain ⟨nd, rfl⟩ := hR; simp [Look, VAt, EqV] at hL; simp [Guarded, setAll, bare, hL]; go_wp2_with fail; exact CalmPost.mk (by simp; rfl) rfl (DrewR.refl _)
          case pcalmDone =>
            intro vs w6 hR hL; obtain ⟨nd, rfl⟩ := hR; simp [Look, VAt, EqV] at hL; simp [setAll, hL]; clear hL
            have d2 : (wr.drewN nd).cell? ⟨g3, m + 14, none⟩ = some (.int .u32 x2) := c2
            have d7 : (wr.drewN nd).cell? ⟨g3, m + 9, none⟩ = some (.int .u32 x7) := c7
            have d15 : (wr.drewN nd).cell? ⟨g3, m + 1, none⟩ = some (.int .u32 x15) := c15
            have d16 : (wr.drewN nd).cell? ⟨g3, m, none⟩ = some (.int .u32 x16) := c16
            have d0 : (wr.drewN nd).cell? ⟨g3, m + 16, none⟩ = some (.int .u32 z0) := hs0
            have df : (wr.drewN nd).frozen? ⟨g3, m + 16, none⟩ = false := hf
            have KS := Kept.mk (show ∀ n, PrI w p g2 g3 (stC c b fill told) (ws' ++ List.replicate r 0) (((wr.drewN nd).drewN n).setCell ⟨g3, m + 16, none⟩ (.int .u32 nx)) by
              intro n
              rw [World.drewN_drewN]
              exact KS.out.drewN _)
            clear c2 c7 c15 c16 hs0 hf KI
            generalize wr.drewN nd = wp at d2 d7 d15 d16 d0 df KS ⊢
            go_wp2_with fail
            refine wp_region_calm DrewR 29 ([] :: [] :: [(48, 1)] :: [(49, 2)] :: [(50, 3)] :: [] :: [(52, 5)] :: [] :: [(54, 7)] :: [(53, 6), (55, 8)] :: [] :: [(57, 10)] :: [(56, 9), (58, 11)] :: [(51, 4), (59, 12)] :: [] :: [(61, 14)] :: [(62, 15)] :: [(63, 16)] :: [(60, 13), (64, 17)] :: [] :: [(66, 19)] :: [] :: [(68, 21)] :: [(67, 20), (69, 22)] :: [] :: [(71, 24)] :: [(70, 23), (72, 25)] :: [(65, 18), (73, 26)] :: [(47, 0)] :: [])
              ((47, 0) :: (48, 1) :: (49, 2) :: (50, 3) :: (51, 4) :: (52, 5) :: (53, 6) :: (54, 7) :: (55, 8) :: (56, 9) :: (57, 10) :: (58, 11) :: (59, 12) :: (60, 13) :: (61, 14) :: (62, 15) :: (63, 16) :: (64, 17) :: (65, 18) :: (66, 19) :: (67, 20) :: (68, 21) :: (69, 22) :: (70, 23) :: (71, 24) :: (72, 25) :: (73, 26) :: (74, 27) :: (75, 28) :: [])
              (EqV ?qce0 :: EqV ?qce1 :: EqV ?qce2 :: EqV ?qce3 :: EqV ?qce4 :: EqV ?qce5 :: EqV ?qce6 :: EqV ?qce7 :: EqV ?qce8 :: EqV ?qce9 :: EqV ?qce10 :: EqV ?qce11 :: EqV ?qce12 :: EqV ?qce13 :: EqV ?qce14 :: EqV ?qce15 :: EqV ?qce16 :: EqV ?qce17 :: EqV ?qce18 :: EqV ?qce19 :: EqV ?qce20 :: EqV ?qce21 :: EqV ?qce22 :: EqV ?qce23 :: EqV ?qce24 :: EqV ?qce25 :: EqV ?qce26 :: EqV ?qce27 :: EqV ?qce28 :: []) hm (by kernel_rfl) DrewR.refl DrewR.trans DrewR.drew
              (MonoL.at (MonoL.eq _ (MonoL.eq _ (MonoL.eq _ (MonoL.eq _ (MonoL.eq _ (MonoL.eq _ (MonoL.eq _ (MonoL.eq _ (MonoL.eq _ (MonoL.eq _ (MonoL.eq _ (MonoL.eq _ (MonoL.eq _ (MonoL.eq _ (MonoL.eq _ (MonoL.eq _ (MonoL.eq _ (MonoL.eq _ (MonoL.eq _ (MonoL.eq _ (MonoL.eq _ (MonoL.eq _ (MonoL.eq _ (MonoL.eq _ (MonoL.eq _ (MonoL.eq _ (MonoL.eq _ (MonoL.eq _ (MonoL.eq _ (MonoL.nil))))))))))))))))))))))))))))))) ?qcalmOps ?qcalmDone
            case qcalmOps =>
              intro vs
              refine (CalmOps.cons ?_ (CalmOps.cons ?_ (CalmOps.cons ?_ (CalmOps.cons ?_ (CalmOps.cons ?_ (CalmOps.cons ?_ (CalmOps.cons ?_ (CalmOps.cons ?_ (CalmOps.cons ?_ (CalmOps.cons ?_ (CalmOps.cons ?_ (CalmOps.cons ?_ (CalmOps.cons ?_ (CalmOps.cons ?_ (CalmOps.cons ?_ (CalmOps.cons ?_ (CalmOps.cons ?_ (CalmOps.cons ?_ (CalmOps.cons ?_ (CalmOps.cons ?_ (CalmOps.cons ?_ (CalmOps.cons ?_ (CalmOps.cons ?_ (CalmOps.cons ?_ (CalmOps.cons ?_ (CalmOps.cons ?_ (CalmOps.cons ?_ (CalmOps.cons ?_ (CalmOps.cons ?_ trivial)))))))))))))))))))))))))))))
              · intro w hR hL; obtain ⟨nd, rfl⟩ := hR; simp [Look, VAt, EqV] at hL; simp [Guarded, setAll, bare, hL]; go_wp2_with fail; exact CalmPost.mk (by simp; rfl) rfl (DrewR.refl _)
              · intro w hR hL; obtain ⟨nd, rfl⟩ := hR; simp [Look, VAt, EqV] at hL; simp [Guarded, setAll, bare, hL]; go_wp2_with fail; exact CalmPost.mk (by simp; rfl) rfl (DrewR.refl _)
              · intro w hR hL; obtain ⟨nd, rfl⟩ := hR; simp [Look, VAt, EqV] at hL; simp [Guarded, setAll, bare, hL]; go_wp2_with fail; exact CalmPost.mk (by simp; rfl) rfl (DrewR.refl _)
              · intro w hR hL; obtain ⟨nd, rfl⟩ := hR; simp [Look, VAt, EqV] at hL; simp [Guarded, setAll, bare, hL]; go_wp2_with fail; exact CalmPost.mk (by simp; rfl) rfl (DrewR.refl _)
              · intro w hR hL; obtain ⟨nd, rfl⟩ := hR; simp [Look, VAt, EqV] at hL; simp [Guarded, setAll, bare, hL]; go_wp2_with fail; exact CalmPost.mk (by simp; rfl) rfl (DrewR.refl _)
              · intro w hR hL; obtain ⟨nd, rfl⟩ := hR; simp [Look, VAt, EqV] at hL; simp [Guarded, setAll, bare, hL]; go_wp2_with fail; exact CalmPost.mk (by simp; rfl) rfl (DrewR.refl _)
              · intro w hR hL; obtain ⟨nd, rfl⟩ := hR; simp [Look, VAt, EqV] at hL; simp [Guarded, setAll, bare, hL]; go_wp2_with fail; refine (turn_any x15 7 (by decide) (by decide) _).mono ?_; rintro ee ww ⟨rfl, rfl⟩; go_wp2_with fail; exact CalmPost.mk (by simp; rfl) rfl (DrewR.refl _)
              · intro w hR hL; obtain ⟨nd, rfl⟩ := hR; simp [Look, VAt, EqV] at hL; simp [Guarded, setAll, bare, hL]; go_wp2_with fail; exact CalmPost.mk (by simp; rfl) rfl (DrewR.refl _)
              · intro w hR hL; obtain ⟨nd, rfl⟩ := hR; simp [Look, VAt, EqV] at hL; simp [Guarded, setAll, bare, hL]; go_wp2_with fail; refine (turn_any x15 18 (by decide) (by decide) _).mono ?_; rintro ee ww ⟨rfl, rfl⟩; go_wp2_with fail; exact CalmPost.mk (by simp; rfl) rfl (DrewR.refl _)
              · intro w hR hL; obtain ⟨nd, rfl⟩ := hR; simp [Look, VAt, EqV] at hL; simp [Guarded, setAll, bare, hL]; go_wp2_with fail; exact CalmPost.mk (by simp; rfl) rfl (DrewR.refl _)
              · intro w hR hL; obtain ⟨nd, rfl⟩ := hR; simp [Look, VAt, EqV] at hL; simp [Guarded, setAll, bare, hL]; go_wp2_with fail; exact CalmPost.mk (by simp; rfl) rfl (DrewR.refl _)
              · intro w hR hL; obtain ⟨nd, rfl⟩ := hR; simp [Look, VAt, EqV] at hL; simp [Guarded, setAll, bare, hL]; go_wp2_with fail; exact CalmPost.mk (by simp; rfl) rfl (DrewR.refl _)
              · intro w hR hL; obtain ⟨nd, rfl⟩ := hR; simp [Look, VAt, EqV] at hL; simp [Guarded, setAll, bare, hL]; go_wp2_with fail; exact CalmPost.mk (by simp; rfl) rfl (DrewR.refl _)
              · intro w hR hL; obtain ⟨nd, rfl⟩ := hR; simp [Look, VAt, EqV] at hL; simp [Guarded, setAll, bare, hL]; go_wp2_with fail; exact CalmPost.mk (by simp; rfl) rfl (DrewR.refl _)
              · intro w hR hL; obtain ⟨nd, rfl⟩ := hR; simp [Look, VAt, EqV] at hL; simp [Guarded, setAll, bare, hL]; go_wp2_with fail; exact CalmPost.mk (by simp; rfl) rfl (DrewR.refl _)
              · intro w hR hL; obtain ⟨nd, rfl⟩ := hR; simp [Look, VAt, EqV] at hL; simp [Guarded, setAll, bare, hL]; go_wp2_with fail; exact CalmPost.mk (by simp; rfl) rfl (DrewR.refl _)
              · intro w hR hL; obtain ⟨nd, rfl⟩ := hR; simp [Look, VAt, EqV] at hL; simp [Guarded, setAll, bare, hL]; go_wp2_with fail; exact CalmPost.mk (by simp; rfl) rfl (DrewR.refl _)
              · intro w hR hL; obtain ⟨nd, rfl⟩ := hR; simp [Look, VAt, EqV] at hL; simp [Guarded, setAll, bare, hL]; go_wp2_with fail; exact CalmPost.mk (by simp; rfl) rfl (DrewR.refl _)
              · intro w hR hL; obtain ⟨nd, rfl⟩ := hR; simp [Look, VAt, EqV] at hL; simp [Guarded, setAll, bare, hL]; go_wp2_with fail; exact CalmPost.mk (by simp; rfl) rfl (DrewR.refl _)
              · intro w hR hL; obtain ⟨nd, rfl⟩ := hR; simp [Look, VAt, EqV] at hL; simp [Guarded, setAll, bare, hL]; go_wp2_with fail; exact CalmPost.mk (by simp; rfl) rfl (DrewR.refl _)
              · intro w hR hL; obtain ⟨nd, rfl⟩ := hR; simp [Look, VAt, EqV] at hL; simp [Guarded, setAll, bare, hL]; go_wp2_with fail; refine (turn_any x2 17 (by decide) (by decide) _).mono ?_; rintro ee ww ⟨rfl, rfl⟩; go_wp2_with fail; exact CalmPost.mk (by simp; rfl) rfl (DrewR.refl _)
              · intro w hR hL; obtain ⟨nd, rfl⟩ := hR; simp [Look, VAt, EqV] at hL; simp [Guarded, setAll, bare, hL]; go_wp2_with fail; exact CalmPost.mk (by simp; rfl) rfl (DrewR.refl _)
              · intro w hR hL; obtain ⟨nd, rfl⟩ := hR; simp [Look, VAt, EqV] at hL; simp [Guarded, setAll, bare, hL]; go_wp2_with fail; refine (turn_any x2 19 (by decide) (by decide) _).mono ?_; rintro ee ww ⟨rfl, rfl⟩; go_wp2_with fail; exact CalmPost.mk (by simp; rfl) rfl (DrewR.refl _)
              · intro w hR hL; obtain ⟨nd, rfl⟩ := hR; simp [Look, VAt, EqV] at hL; simp [Guarded, setAll, bare, hL]; go_wp2_with fail; exact CalmPost.mk (by simp; rfl) rfl (DrewR.refl _)
              · intro w hR hL; obtain ⟨nd, rfl⟩ := hR; simp [Look, VAt, EqV] at hL; simp [Guarded, setAll, bare, hL]; go_wp2_with fail; exact CalmPost.mk (by simp; rfl) rfl (DrewR.refl _)
              · intro w hR hL; obtain ⟨nd, rfl⟩ := hR; simp [Look, VAt, EqV] at hL; simp [Guarded, setAll, bare, hL]; go_wp2_with fail; exact CalmPost.mk (by simp; rfl) rfl (DrewR.refl _)
              · intro w hR hL; obtain ⟨nd, rfl⟩ := hR; simp [Look, VAt, EqV] at hL; simp [Guarded, setAll, bare, hL]; go_wp2_with fail; exact CalmPost.mk (by simp; rfl) rfl (DrewR.refl _)
              · intro w hR hL; obtain ⟨nd, rfl⟩ := hR; simp [Look, VAt, EqV] at hL; simp [Guarded, setAll, bare, hL]; go_wp2_with fail; exact CalmPost.mk (by simp; rfl) rfl (DrewR.refl _)
              · intro w hR hL; obtain ⟨nd, rfl⟩ := hR; simp [Look, VAt, EqV] at hL; simp [Guarded, setAll, bare, hL]; go_wp2_with fail; exact CalmPost.mk (by simp; rfl) rfl (DrewR.refl _)
            case qcalmDone =>
              intro vs w6 hR hL; obtain ⟨nd2, rfl⟩ := hR; simp [Look, VAt, EqV] at hL; simp [setAll, hL]; clear hL
              rw [← HNX.out]
              go_wp2_with fail
              go_roundg r
              case measure => omega
              case rel => exact ⟨m + 1, ws', by omega, by go_num, HW.out, HG.out, KS.out nd2⟩
        · obtain rfl : m = 48 := by omega
          obtain rfl : gk = 0 := by omega
          have hout : ws = outw := hgr
          rw [hout, List.replicate_zero, List.append_nil] at hI
          have hp8 := hI.pp
          obtain ⟨y, hy⟩ : ∃ y, y = runC c 0 outw := ⟨_, rfl⟩
          rw [← hy] at HP
          have KI := Kept.mk hI
          have hgs := hI.hh
          have hw23 := hI.kk.lt
          have hw33 := hI.ww.lt
          have hpl := hI.pp.lt
          clear hI hgr hwl hout hlt2 hm1
          go_wp2_with (first
            | (refine wpList_load_part rfl 65 (.tmp 78) rfl p 0 rfl 87 (stC c b fill told) (chW c) hp8 rfl _ Try.underlying65 rfl (info_size info8) ?_)
            | (refine wpList_store_new rfl 65 (.tmp 9) (.tmp 79) rfl rfl rfl 65 zW (chW c) rfl rfl (info_size info8) (chW_one _) ?_))
          have hI := KI.out.alloc (.cells (chW c).toArray 65)
          have hX := Blk.new wr 65 (chW c)
          have hn9 : p ≠ wr.heap.size ∧ g2 ≠ wr.heap.size ∧ g3 ≠ wr.heap.size ∧ w.heap.size ≤ wr.heap.size := by have := KI.out.tt.size; omega
          generalize wr.alloc (.cells (chW c).toArray 65) = w3 at hI hX ⊢
          generalize wr.heap.size = g9 at hX hn9 ⊢
          clear hp8 KI
          go_loopg [80] 64 (fun r i wi => ∃ (k : Nat) (x : Ch), k + r = 64 ∧ i = .int .i64 (k : Int) ∧ runC x k (outw.drop k) = y ∧ PrI w p g2 g3 (stC c b fill told) outw wi ∧ Blk wi g9 65 (chW x))
          case atStart => exact ⟨0, c, rfl, rfl, by rw [hy]; rfl, hI, hX⟩
          case round =>
            clear hI hX hy
            obtain ⟨k, x, hk, rfl, hrun, hI, hX⟩ := hrel
            by_cases hlt3 : k < 64
            · have hkI : (k : Int) < 64 := by omega
              rw [runC_drop x k outw (by rw [KOL.out]; exact hlt3)] at hrun
              have ck : wr.cell? ⟨g2, k, none⟩ = some (.int .u32 (keysL.getD k 0)) := by
                rw [hI.kk.cell, numsV_at _ _ _ (show k < keysL.length from hlt3)]
              have cw : wr.cell? ⟨g3, k, none⟩ = some (.int .u32 (outw.getD k 0)) := by
                rw [hI.ww.cell, numsV_at _ _ _ (by rw [KOL.out]; exact hlt3)]
              generalize keysL.getD k 0 = kv at ck hrun
              generalize outw.getD k 0 = wv at cw hrun
              have hst : stepC x kv wv = ⟨(oneI x kv wv + twoI x) % 4294967296, x.a, x.b, x.c, (x.d + oneI x kv wv) % 4294967296, x.e, x.f, x.g⟩ := rfl
              have hone : oneI x kv wv = (x.h + big1 x.e + chI x.e x.f x.g + kv + wv) % 4294967296 := rfl
              have htwo : twoI x = (big0 x.a + majI x.a x.b x.c) % 4294967296 := rfl
              generalize oneI x kv wv = one at hst hone
              generalize twoI x = two at hst htwo
              obtain ⟨xa, xb, xc, xd, xe, xf, xg, xh⟩ := x
              simp only [] at hst hone htwo
              unfold big1 chI at hone
              unfold big0 majI at htwo
              generalize hnew : stepC ⟨xa, xb, xc, xd, xe, xf, xg, xh⟩ kv wv = nw at hrun hst
              clear hnew
              have c0 : wr.cell? ⟨g9, 0, none⟩ = some (.int .u32 xa) := hX.cell 0
              have c1 : wr.cell? ⟨g9, 1, none⟩ = some (.int .u32 xb) := hX.cell 1
              have c2 : wr.cell? ⟨g9, 2, none⟩ = some (.int .u32 xc) := hX.cell 2
              have c4 : wr.cell? ⟨g9, 4, none⟩ = some (.int .u32 xe) := hX.cell 4
              have c5 : wr.cell? ⟨g9, 5, none⟩ = some (.int .u32 xf) := hX.cell 5
              have c6 : wr.cell? ⟨g9, 6, none⟩ = some (.int .u32 xg) := hX.cell 6
              have c7 : wr.cell? ⟨g9, 7, none⟩ = some (.int .u32 xh) := hX.cell 7
              have KR := Kept.mk hrun
              have K1 := Kept.mk hone
              have K2 := Kept.mk htwo
              have KS := Kept.mk hst
              have KI := Kept.mk hI
              have KX := Kept.mk hX
              clear hrun hone htwo hst hI hX
              go_wp2_with fail
              refine wp_region_calm DrewR 35 ([] :: [(83, 0)] :: [] :: [(85, 2)] :: [(86, 3)] :: [] :: [(88, 5)] :: [(89, 6)] :: [(87, 4), (90, 7)] :: [] :: [(92, 9)] :: [(93, 10)] :: [(91, 8), (94, 11)] :: [(84, 1), (95, 12)] :: [] :: [(97, 14)] :: [] :: [(99, 16)] :: [] :: [(101, 18)] :: [] :: [(103, 20)] :: [(102, 19), (104, 21)] :: [(100, 17), (105, 22)] :: [(98, 15), (106, 23)] :: [(96, 13), (107, 24)] :: [] :: [(109, 26)] :: [(110, 27)] :: [(108, 25), (111, 28)] :: [] :: [(113, 30)] :: [(114, 31)] :: [(112, 29), (115, 32)] :: [(116, 33)] :: [])
                ((83, 0) :: (84, 1) :: (85, 2) :: (86, 3) :: (87, 4) :: (88, 5) :: (89, 6) :: (90, 7) :: (91, 8) :: (92, 9) :: (93, 10) :: (94, 11) :: (95, 12) :: (96, 13) :: (97, 14) :: (98, 15) :: (99, 16) :: (100, 17) :: (101, 18) :: (102, 19) :: (103, 20) :: (104, 21) :: (105, 22) :: (106, 23) :: (107, 24) :: (108, 25) :: (109, 26) :: (110, 27) :: (111, 28) :: (112, 29) :: (113, 30) :: (114, 31) :: (115, 32) :: (116, 33) :: (11, 34) :: [])
                (EqV ?rce0 :: EqV ?rce1 :: EqV ?rce2 :: EqV ?rce3 :: EqV ?rce4 :: EqV ?rce5 :: EqV ?rce6 :: EqV ?rce7 :: EqV ?rce8 :: EqV ?rce9 :: EqV ?rce10 :: EqV ?rce11 :: EqV ?rce12 :: EqV ?rce13 :: EqV ?rce14 :: EqV ?rce15 :: EqV ?rce16 :: EqV ?rce17 :: EqV ?rce18 :: EqV ?rce19 :: EqV ?rce20 :: EqV ?rce21 :: EqV ?rce22 :: EqV ?rce23 :: EqV ?rce24 :: EqV ?rce25 :: EqV ?rce26 :: EqV ?rce27 :: EqV ?rce28 :: EqV ?rce29 :: EqV ?rce30 :: EqV ?rce31 :: EqV ?rce32 :: EqV ?rce33 :: EqV ?rce34 :: []) hm (by kernel_rfl) DrewR.refl DrewR.trans DrewR.drew
                (MonoL.at (MonoL.eq _ (MonoL.eq _ (MonoL.eq _ (MonoL.eq _ (MonoL.eq _ (MonoL.eq _ (MonoL.eq _ (MonoL.eq _ (MonoL.eq _ (MonoL.eq _ (MonoL.eq _ (MonoL.eq _ (MonoL.eq _ (MonoL.eq _ (MonoL.eq _ (MonoL.eq _ (MonoL.eq _ (MonoL.eq _ (MonoL.eq _ (MonoL.eq _ (MonoL.eq _ (MonoL.eq _ (MonoL.eq _ (MonoL.eq _ (MonoL.eq _ (MonoL.eq _ (MonoL.eq _ (MonoL.eq _ (MonoL.eq _ (MonoL.eq _ (MonoL.eq _ (MonoL.eq _ (MonoL.eq _ (MonoL.eq _ (MonoL.eq _ (MonoL.nil))))))))))))))))))))))))))))))))))))) ?rcalmOps ?rcalmDone
              case rcalmOps =>
                intro vs
                refine (CalmOps.cons ?_ (CalmOps.cons ?_ (CalmOps.cons ?_ (CalmOps.cons ?_ (CalmOps.cons ?_ (CalmOps.cons ?_ (CalmOps.cons ?_ (CalmOps.cons ?_ (CalmOps.cons ?_ (CalmOps.cons ?_ (CalmOps.cons ?_ (CalmOps.cons ?_ (CalmOps.cons ?_ (CalmOps.cons ?_ (CalmOps.cons ?_ (CalmOps.cons ?_ (CalmOps.cons ?_ (CalmOps.cons ?_ (CalmOps.cons ?_ (CalmOps.cons ?_ (CalmOps.cons ?_ (CalmOps.cons ?_ (CalmOps.cons ?_ (CalmOps.cons ?_ (CalmOps.cons ?_ (CalmOps.cons ?_ (CalmOps.cons ?_ (CalmOps.cons ?_ (CalmOps.cons ?_ (CalmOps.cons ?_ (CalmOps.cons ?_ (CalmOps.cons ?_ (CalmOps.cons ?_ (CalmOps.cons ?_ (CalmOps.cons ?_ trivial)))))))))))))))))))))))))))))))))))
                · intro w hR hL; obtain ⟨nd, rfl⟩ := hR; simp [Look, VAt, EqV] at hL; simp [Guarded, setAll, bare, hL]; go_wp2_with fail; exact CalmPost.mk (by simp; rfl) rfl (DrewR.refl _)
                · intro w hR hL; obtain ⟨nd, rfl⟩ := hR; simp [Look, VAt, EqV] at hL; simp [Guarded, setAll, bare, hL]; go_wp2_with fail; exact CalmPost.mk (by simp; rfl) rfl (DrewR.refl _)
                · intro w hR hL; obtain ⟨nd, rfl⟩ := hR; simp [Look, VAt, EqV] at hL; simp [Guarded, setAll, bare, hL]; go_wp2_with fail; exact CalmPost.mk (by simp; rfl) rfl (DrewR.refl _)
                · intro w hR hL; obtain ⟨nd, rfl⟩ := hR; simp [Look, VAt, EqV] at hL; simp [Guarded, setAll, bare, hL]; go_wp2_with fail; exact CalmPost.mk (by simp; rfl) rfl (DrewR.refl _)
                · intro w hR hL; obtain ⟨nd, rfl⟩ := hR; simp [Look, VAt, EqV] at hL; simp [Guarded, setAll, bare, hL]; go_wp2_with fail; refine (turn_any xe 6 (by decide) (by decide) _).mono ?_; rintro ee ww ⟨rfl, rfl⟩; go_wp2_with fail; exact CalmPost.mk (by simp; rfl) rfl (DrewR.refl _)
                · intro w hR hL; obtain ⟨nd, rfl⟩ := hR; simp [Look, VAt, EqV] at hL; simp [Guarded, setAll, bare, hL]; go_wp2_with fail; exact CalmPost.mk (by simp; rfl) rfl (DrewR.refl _)
                · intro w hR hL; obtain ⟨nd, rfl⟩ := hR; simp [Look, VAt, EqV] at hL; simp [Guarded, setAll, bare, hL]; go_wp2_with fail; exact CalmPost.mk (by simp; rfl) rfl (DrewR.refl _)
                · intro w hR hL; obtain ⟨nd, rfl⟩ := hR; simp [Look, VAt, EqV] at hL; simp [Guarded, setAll, bare, hL]; go_wp2_with fail; refine (turn_any xe 11 (by decide) (by decide) _).mono ?_; rintro ee ww ⟨rfl, rfl⟩; go_wp2_with fail; exact CalmPost.mk (by simp; rfl) rfl (DrewR.refl _)
                · intro w hR hL; obtain ⟨nd, rfl⟩ := hR; simp [Look, VAt, EqV] at hL; simp [Guarded, setAll, bare, hL]; go_wp2_with fail; exact CalmPost.mk (by simp; rfl) rfl (DrewR.refl _)
                · intro w hR hL; obtain ⟨nd, rfl⟩ := hR; simp [Look, VAt, EqV] at hL; simp [Guarded, setAll, bare, hL]; go_wp2_with fail; exact CalmPost.mk (by simp; rfl) rfl (DrewR.refl _)
                · intro w hR hL; obtain ⟨nd, rfl⟩ := hR; simp [Look, VAt, EqV] at hL; simp [Guarded, setAll, bare, hL]; go_wp2_with fail; exact CalmPost.mk (by simp; rfl) rfl (DrewR.refl _)
                · intro w hR hL; obtain ⟨nd, rfl⟩ := hR; simp [Look, VAt, EqV] at hL; simp [Guarded, setAll, bare, hL]; go_wp2_with fail; refine (turn_any xe 25 (by decide) (by decide) _).mono ?_; rintro ee ww ⟨rfl, rfl⟩; go_wp2_with fail; exact CalmPost.mk (by simp; rfl) rfl (DrewR.refl _)
                · intro w hR hL; obtain ⟨nd, rfl⟩ := hR; simp [Look, VAt, EqV] at hL; simp [Guarded, setAll, bare, hL]; go_wp2_with fail; exact CalmPost.mk (by simp; rfl) rfl (DrewR.refl _)
                · intro w hR hL; obtain ⟨nd, rfl⟩ := hR; simp [Look, VAt, EqV] at hL; simp [Guarded, setAll, bare, hL]; go_wp2_with fail; exact CalmPost.mk (by simp; rfl) rfl (DrewR.refl _)
                · intro w hR hL; obtain ⟨nd, rfl⟩ := hR; simp [Look, VAt, EqV] at hL; simp [Guarded, setAll, bare, hL]; go_wp2_with fail; exact CalmPost.mk (by simp; rfl) rfl (DrewR.refl _)
                · intro w hR hL; obtain ⟨nd, rfl⟩ := hR; simp [Look, VAt, EqV] at hL; simp [Guarded, setAll, bare, hL]; go_wp2_with fail; exact CalmPost.mk (by simp; rfl) rfl (DrewR.refl _)
                · intro w hR hL; obtain ⟨nd, rfl⟩ := hR; simp [Look, VAt, EqV] at hL; simp [Guarded, setAll, bare, hL]; go_wp2_with fail; exact CalmPost.mk (by simp; rfl) rfl (DrewR.refl _)
                · intro w hR hL; obtain ⟨nd, rfl⟩ := hR; simp [Look, VAt, EqV] at hL; simp [Guarded, setAll, bare, hL]; go_wp2_with fail; exact CalmPost.mk (by simp; rfl) rfl (DrewR.refl _)
                · intro w hR hL; obtain ⟨nd, rfl⟩ := hR; simp [Look, VAt, EqV] at hL; simp [Guarded, setAll, bare, hL]; go_wp2_with fail; exact CalmPost.mk (by simp; rfl) rfl (DrewR.refl _)
                · intro w hR hL; obtain ⟨nd, rfl⟩ := hR; simp [Look, VAt, EqV] at hL; simp [Guarded, setAll, bare, hL]; go_wp2_with fail; exact CalmPost.mk (by simp; rfl) rfl (DrewR.refl _)
                · intro w hR hL; obtain ⟨nd, rfl⟩ := hR; simp [Look, VAt, EqV] at hL; simp [Guarded, setAll, bare, hL]; go_wp2_with fail; exact CalmPost.mk (by simp; rfl) rfl (DrewR.refl _)
                · intro w hR hL; obtain ⟨nd, rfl⟩ := hR; simp [Look, VAt, EqV] at hL; simp [Guarded, setAll, bare, hL]; go_wp2_with fail; exact CalmPost.mk (by simp; rfl) rfl (DrewR.refl _)
                · intro w hR hL; obtain ⟨nd, rfl⟩ := hR; simp [Look, VAt, EqV] at hL; simp [Guarded, setAll, bare, hL]; go_wp2_with fail; exact CalmPost.mk (by simp; rfl) rfl (DrewR.refl _)
                · intro w hR hL; obtain ⟨nd, rfl⟩ := hR; simp [Look, VAt, EqV] at hL; simp [Guarded, setAll, bare, hL]; go_wp2_with fail; exact CalmPost.mk (by simp; rfl) rfl (DrewR.refl _)
                · intro w hR hL; obtain ⟨nd, rfl⟩ := hR; simp [Look, VAt, EqV] at hL; simp [Guarded, setAll, bare, hL]; go_wp2_with fail; exact CalmPost.mk (by simp; rfl) rfl (DrewR.refl _)
                · intro w hR hL; obtain ⟨nd, rfl⟩ := hR; simp [Look, VAt, EqV] at hL; simp [Guarded, setAll, bare, hL]; go_wp2_with fail; exact CalmPost.mk (by simp; rfl) rfl (DrewR.refl _)
                · intro w hR hL; obtain ⟨nd, rfl⟩ := hR; simp [Look, VAt, EqV] at hL; simp [Guarded, setAll, bare, hL]; go_wp2_with fail; exact CalmPost.mk (by simp; rfl) rfl (DrewR.refl _)
                · intro w hR hL; obtain ⟨nd, rfl⟩ := hR; simp [Look, VAt, EqV] at hL; simp [Guarded, setAll, bare, hL]; go_wp2_with fail; exact CalmPost.mk (by simp; rfl) rfl (DrewR.refl _)
                · intro w hR hL; obtain ⟨nd, rfl⟩ := hR; simp [Look, VAt, EqV] at hL; simp [Guarded, setAll, bare, hL]; go_wp2_with fail; exact CalmPost.mk (by simp; rfl) rfl (DrewR.refl _)
                · intro w hR hL; obtain ⟨nd, rfl⟩ := hR; simp [Look, VAt, EqV] at hL; simp [Guarded, setAll, bare, hL]; go_wp2_with fail; exact CalmPost.mk (by simp; rfl) rfl (DrewR.refl _)
                · intro w hR hL; obtain ⟨nd, rfl⟩ := hR; simp [Look, VAt, EqV] at hL; simp [Guarded, setAll, bare, hL]; go_wp2_with fail; exact CalmPost.mk (by simp; rfl) rfl (DrewR.refl _)
                · intro w hR hL; obtain ⟨nd, rfl⟩ := hR; simp [Look, VAt, EqV] at hL; simp [Guarded, setAll, bare, hL]; go_wp2_with fail; exact CalmPost.mk (by simp; rfl) rfl (DrewR.refl _)
                · intro w hR hL; obtain ⟨nd, rfl⟩ := hR; simp [Look, VAt, EqV] at hL; simp [Guarded, setAll, bare, hL]; go_wp2_with fail; exact CalmPost.mk (by simp; rfl) rfl (DrewR.refl _)
                · intro w hR hL; obtain ⟨nd, rfl⟩ := hR; simp [Look, VAt, EqV] at hL; simp [Guarded, setAll, bare, hL]; go_wp2_with fail; exact CalmPost.mk (by simp; rfl) rfl (DrewR.refl _)
                · intro w hR hL; obtain ⟨nd, rfl⟩ := hR; simp [Look, VAt, EqV] at hL; simp [Guarded, setAll, bare, hL]; go_wp2_with fail; exact CalmPost.mk (by simp; rfl) rfl (DrewR.refl _)
              case rcalmDone =>
                intro vs w6 hR hL; obtain ⟨nd, rfl⟩ := hR; simp [Look, VAt, EqV] at hL; simp [setAll, hL]; clear hL
                rw [← K1.out]
                have d0 : (wr.drewN nd).cell? ⟨g9, 0, none⟩ = some (.int .u32 xa) := c0
                have d1 : (wr.drewN nd).cell? ⟨g9, 1, none⟩ = some (.int .u32 xb) := c1
                have d2 : (wr.drewN nd).cell? ⟨g9, 2, none⟩ = some (.int .u32 xc) := c2
                have hI := KI.out.drewN nd
                have hX : Blk (wr.drewN nd) g9 65 _ := KX.out
                clear c0 c1 c2 c4 c5 c6 c7 ck cw KI KX
                generalize wr.drewN nd = wp at d0 d1 d2 hI hX ⊢
                have KI := Kept.mk hI
                have KX := Kept.mk hX
                clear hI hX
                go_wp2_with fail
                refine wp_region_calm DrewR 27 ([] :: [(117, 0)] :: [(118, 1)] :: [] :: [(120, 3)] :: [(121, 4)] :: [(119, 2), (122, 5)] :: [] :: [(124, 7)] :: [(125, 8)] :: [(123, 6), (126, 9)] :: [] :: [(128, 11)] :: [] :: [(130, 13)] :: [(129, 12), (131, 14)] :: [] :: [(133, 16)] :: [] :: [(135, 18)] :: [] :: [(137, 20)] :: [(136, 19), (138, 21)] :: [(134, 17), (139, 22)] :: [(132, 15), (140, 23)] :: [(127, 10), (141, 24)] :: [(142, 25)] :: [])
                  ((117, 0) :: (118, 1) :: (119, 2) :: (120, 3) :: (121, 4) :: (122, 5) :: (123, 6) :: (124, 7) :: (125, 8) :: (126, 9) :: (127, 10) :: (128, 11) :: (129, 12) :: (130, 13) :: (131, 14) :: (132, 15) :: (133, 16) :: (134, 17) :: (135, 18) :: (136, 19) :: (137, 20) :: (138, 21) :: (139, 22) :: (140, 23) :: (141, 24) :: (142, 25) :: (12, 26) :: [])
                  (EqV ?sce0 :: EqV ?sce1 :: EqV ?sce2 :: EqV ?sce3 :: EqV ?sce4 :: EqV ?sce5 :: EqV ?sce6 :: EqV ?sce7 :: EqV ?sce8 :: EqV ?sce9 :: EqV ?sce10 :: EqV ?sce11 :: EqV ?sce12 :: EqV ?sce13 :: EqV ?sce14 :: EqV ?sce15 :: EqV ?sce16 :: EqV ?sce17 :: EqV ?sce18 :: EqV ?sce19 :: EqV ?sce20 :: EqV ?sce21 :: EqV ?sce22 :: EqV ?sce23 :: EqV ?sce24 :: EqV ?sce25 :: EqV ?sce26 :: []) hm (by kernel_rfl) DrewR.refl DrewR.trans DrewR.drew
                  (MonoL.at (MonoL.eq _ (MonoL.eq _ (MonoL.eq _ (MonoL.eq _ (MonoL.eq _ (MonoL.eq _ (MonoL.eq _ (MonoL.eq _ (MonoL.eq _ (MonoL.eq _ (MonoL.eq _ (MonoL.eq _ (MonoL.eq _ (MonoL.eq _ (MonoL.eq _ (MonoL.eq _ (MonoL.eq _ (MonoL.eq _ (MonoL.eq _ (MonoL.eq _ (MonoL.eq _ (MonoL.eq _ (MonoL.eq _ (MonoL.eq _ (MonoL.eq _ (MonoL.eq _ (MonoL.eq _ (MonoL.nil))))))))))))))))))))))))))))) ?scalmOps ?scalmDone
                case scalmOps =>
                  intro vs
                  refine (CalmOps.cons ?_ (CalmOps.cons ?_ (CalmOps.cons ?_ (CalmOps.cons ?_ (CalmOps.cons ?_ (CalmOps.cons ?_ (CalmOps.cons ?_ (CalmOps.cons ?_ (CalmOps.cons ?_ (CalmOps.cons ?_ (CalmOps.cons ?_ (CalmOps.cons ?_ (CalmOps.cons ?_ (CalmOps.cons ?_ (CalmOps.cons ?_ (CalmOps.cons ?_ (CalmOps.cons ?_ (CalmOps.cons ?_ (CalmOps.cons ?_ (CalmOps.cons ?_ (CalmOps.cons ?_ (CalmOps.cons ?_ (CalmOps.cons ?_ (CalmOps.cons ?_ (CalmOps.cons ?_ (CalmOps.cons ?_ (CalmOps.cons ?_ trivial)))))))))))))))))))))))))))
                  · intro w hR hL; obtain ⟨nd, rfl⟩ := hR; simp [Look, VAt, EqV] at hL; simp [Guarded, setAll, bare, hL]; go_wp2_with fail; exact CalmPost.mk (by simp; rfl) rfl (DrewR.refl _)
                  · intro w hR hL; obtain ⟨nd, rfl⟩ := hR; simp [Look, VAt, EqV] at hL; simp [Guarded, setAll, bare, hL]; go_wp2_with fail; exact CalmPost.mk (by simp; rfl) rfl (DrewR.refl _)
                  · intro w hR hL; obtain ⟨nd, rfl⟩ := hR; simp [Look, VAt, EqV] at hL; simp [Guarded, setAll, bare, hL]; go_wp2_with fail; refine (turn_any xa 2 (by decide) (by decide) _).mono ?_; rintro ee ww ⟨rfl, rfl⟩; go_wp2_with fail; exact CalmPost.mk (by simp; rfl) rfl (DrewR.refl _)
                  · intro w hR hL; obtain ⟨nd, rfl⟩ := hR; simp [Look, VAt, EqV] at hL; simp [Guarded, setAll, bare, hL]; go_wp2_with fail; exact CalmPost.mk (by simp; rfl) rfl (DrewR.refl _)
                  · intro w hR hL; obtain ⟨nd, rfl⟩ := hR; simp [Look, VAt, EqV] at hL; simp [Guarded, setAll, bare, hL]; go_wp2_with fail; exact CalmPost.mk (by simp; rfl) rfl (DrewR.refl _)
                  · intro w hR hL; obtain ⟨nd, rfl⟩ := hR; simp [Look, VAt, EqV] at hL; simp [Guarded, setAll, bare, hL]; go_wp2_with fail; refine (turn_any xa 13 (by decide) (by decide) _).mono ?_; rintro ee ww ⟨rfl, rfl⟩; go_wp2_with fail; exact CalmPost.mk (by simp; rfl) rfl (DrewR.refl _)
                  · intro w hR hL; obtain ⟨nd, rfl⟩ := hR; simp [Look, VAt, EqV] at hL; simp [Guarded, setAll, bare, hL]; go_wp2_with fail; exact CalmPost.mk (by simp; rfl) rfl (DrewR.refl _)
                  · intro w hR hL; obtain ⟨nd, rfl⟩ := hR; simp [Look, VAt, EqV] at hL; simp [Guarded, setAll, bare, hL]; go_wp2_with fail; exact CalmPost.mk (by simp; rfl) rfl (DrewR.refl _)
                  · intro w hR hL; obtain ⟨nd, rfl⟩ := hR; simp [Look, VAt, EqV] at hL; simp [Guarded, setAll, bare, hL]; go_wp2_with fail; exact CalmPost.mk (by simp; rfl) rfl (DrewR.refl _)
                  · intro w hR hL; obtain ⟨nd, rfl⟩ := hR; simp [Look, VAt, EqV] at hL; simp [Guarded, setAll, bare, hL]; go_wp2_with fail; refine (turn_any xa 22 (by decide) (by decide) _).mono ?_; rintro ee ww ⟨rfl, rfl⟩; go_wp2_with fail; exact CalmPost.mk (by simp; rfl) rfl (DrewR.refl _)
                  · intro w hR hL; obtain ⟨nd, rfl⟩ := hR; simp [Look, VAt, EqV] at hL; simp [Guarded, setAll, bare, hL]; go_wp2_with fail; exact CalmPost.mk (by simp; rfl) rfl (DrewR.refl _)
                  · intro w hR hL; obtain ⟨nd, rfl⟩ := hR; simp [Look, VAt, EqV] at hL; simp [Guarded, setAll, bare, hL]; go_wp2_with fail; exact CalmPost.mk (by simp; rfl) rfl (DrewR.refl _)
                  · intro w hR hL; obtain ⟨nd, rfl⟩ := hR; simp [Look, VAt, EqV] at hL; simp [Guarded, setAll, bare, hL]; go_wp2_with fail; exact CalmPost.mk (by simp; rfl) rfl (DrewR.refl _)
                  · intro w hR hL; obtain ⟨nd, rfl⟩ := hR; simp [Look, VAt, EqV] at hL; simp [Guarded, setAll, bare, hL]; go_wp2_with fail; exact CalmPost.mk (by simp; rfl) rfl (DrewR.refl _)
                  · intro w hR hL; obtain ⟨nd, rfl⟩ := hR; simp [Look, VAt, EqV] at hL; simp [Guarded, setAll, bare, hL]; go_wp2_with fail; exact CalmPost.mk (by simp; rfl) rfl (DrewR.refl _)
                  · intro w hR hL; obtain ⟨nd, rfl⟩ := hR; simp [Look, VAt, EqV] at hL; simp [Guarded, setAll, bare, hL]; go_wp2_with fail; exact CalmPost.mk (by simp; rfl) rfl (DrewR.refl _)
                  · intro w hR hL; obtain ⟨nd, rfl⟩ := hR; simp [Look, VAt, EqV] at hL; simp [Guarded, setAll, bare, hL]; go_wp2_with fail; exact CalmPost.mk (by simp; rfl) rfl (DrewR.refl _)
                  · intro w hR hL; obtain ⟨nd, rfl⟩ := hR; simp [Look, VAt, EqV] at hL; simp [Guarded, setAll, bare, hL]; go_wp2_with fail; exact CalmPost.mk (by simp; rfl) rfl (DrewR.refl _)
                  · intro w hR hL; obtain ⟨nd, rfl⟩ := hR; simp [Look, VAt, EqV] at hL; simp [Guarded, setAll, bare, hL]; go_wp2_with fail; exact CalmPost.mk (by simp; rfl) rfl (DrewR.refl _)
                  · intro w hR hL; obtain ⟨nd, rfl⟩ := hR; simp [Look, VAt, EqV] at hL; simp [Guarded, setAll, bare, hL]; go_wp2_with fail; exact CalmPost.mk (by simp; rfl) rfl (DrewR.refl _)
                  · intro w hR hL; obtain ⟨nd, rfl⟩ := hR; simp [Look, VAt, EqV] at hL; simp [Guarded, setAll, bare, hL]; go_wp2_with fail; exact CalmPost.mk (by simp; rfl) rfl (DrewR.refl _)
                  · intro w hR hL; obtain ⟨nd, rfl⟩ := hR; simp [Look, VAt, EqV] at hL; simp [Guarded, setAll, bare, hL]; go_wp2_with fail; exact CalmPost.mk (by simp; rfl) rfl (DrewR.refl _)
                  · intro w hR hL; obtain ⟨nd, rfl⟩ := hR; simp [Look, VAt, EqV] at hL; simp [Guarded, setAll, bare, hL]; go_wp2_with fail; exact CalmPost.mk (by simp; rfl) rfl (DrewR.refl _)
                  · intro w hR hL; obtain ⟨nd, rfl⟩ := hR; simp [Look, VAt, EqV] at hL; simp [Guarded, setAll, bare, hL]; go_wp2_with fail; exact CalmPost.mk (by simp; rfl) rfl (DrewR.refl _)
                  · intro w hR hL; obtain ⟨nd, rfl⟩ := hR; simp [Look, VAt, EqV] at hL; simp [Guarded, setAll, bare, hL]; go_wp2_with fail; exact CalmPost.mk (by simp; rfl) rfl (DrewR.refl _)
                  · intro w hR hL; obtain ⟨nd, rfl⟩ := hR; simp [Look, VAt, EqV] at hL; simp [Guarded, setAll, bare, hL]; go_wp2_with fail; exact CalmPost.mk (by simp; rfl) rfl (DrewR.refl _)
                  · intro w hR hL; obtain ⟨nd, rfl⟩ := hR; simp [Look, VAt, EqV] at hL; simp [Guarded, setAll, bare, hL]; go_wp2_with fail; exact CalmPost.mk (by simp; rfl) rfl (DrewR.refl _)
                case scalmDone =>
                  intro vs w6 hR hL; obtain ⟨nd2, rfl⟩ := hR; simp [Look, VAt, EqV] at hL; simp [setAll, hL]; clear hL
                  rw [← K2.out]
                  have hI := KI.out.drewN nd2
                  have hX : Blk (wp.drewN nd2) g9 65 _ := KX.out
                  clear d0 d1 d2 KI KX
                  generalize wp.drewN nd2 = wq at hI hX ⊢
                  have KI := Kept.mk hI
                  have KX := Kept.mk hX
                  clear hI hX
                  go_wp2_with fail
                  refine wp_region_calm DrewR 2 ([] :: [] :: [])
                    ((143, 0) :: (144, 1) :: [])
                    (EqV ?tce0 :: EqV ?tce1 :: []) hm (by kernel_rfl) DrewR.refl DrewR.trans DrewR.drew
                    (MonoL.at (MonoL.eq _ (MonoL.eq _ (MonoL.nil)))) ?tcalmOps ?tcalmDone
                  case tcalmOps =>
                    intro vs
                    refine (CalmOps.cons ?_ (CalmOps.cons ?_ trivial))
                    · intro w hR hL; obtain ⟨nd, rfl⟩ := hR; simp [Look, VAt, EqV] at hL; simp [Guarded, setAll, bare, hL]; go_wp2_with fail; exact CalmPost.mk (by simp; rfl) rfl (DrewR.refl _)
                    · intro w hR hL; obtain ⟨nd, rfl⟩ := hR; simp [Look, VAt, EqV] at hL; simp [Guarded, setAll, bare, hL]; go_wp2_with fail; exact CalmPost.mk (by simp; rfl) rfl (DrewR.refl _)
                  case tcalmDone =>
                    intro vs w6 hR hL; obtain ⟨nd3, rfl⟩ := hR; simp [Look, VAt, EqV] at hL; simp [setAll, hL]; clear hL
                    have hI := KI.out.drewN nd3
                    have hX : Blk (wq.drewN nd3) g9 65 _ := KX.out
                    clear KI KX
                    generalize wq.drewN nd3 = wt at hI hX ⊢
                    have KI := Kept.mk hI
                    have KX := Kept.mk hX
                    clear hI hX
                    go_wp2_with (refine wpList_copy_blk rfl (.tmp 143) (.tmp 144) 94 94 rfl 62 Try.underlying94 (info_size infoU32) g9 1 7 7 ⟨g9, 0, none⟩ 7 8 rfl rfl (chW ⟨xa, xb, xc, xd, xe, xf, xg, xh⟩) 65 KX.out (numsV .u32 [xa, xb, xc, xd, xe, xf, xg]) rfl (fun j v hv => by rw [Addr.add_lit]; exact copySrc KX.out hv) (show 1 + 7 ≤ 8 by decide) (by simp [numsV, Value.oneCell']) ?_)
                    intro w5 hX5 ht5
                    have hX5 : Blk w5 g9 65 (numsV .u32 [xa, xa, xb, xc, xd, xe, xf, xg]) := hX5
                    have hI5 := KI.out.touch ht5 hn9.1 hn9.2.1 hn9.2.2.1 hn9.2.2.2
                    have e4 : w5.cell? ⟨g9, 4, none⟩ = some (.int .u32 xd) := hX5.cell 4
                    have e0 : w5.cell? ⟨g9, 0, none⟩ = some (.int .u32 xa) := hX5.cell 0
                    have f4 := hX5.free 4
                    have f0 := hX5.free 0
                    have hX6 := (hX5.set 4 (.int .u32 ((xd + one) % 4294967296))).set 0 (.int .u32 ((one + two) % 4294967296))
                    have hI6 := (hI5.touch (Touch.set w5 ⟨g9, 4, none⟩ (.int .u32 ((xd + one) % 4294967296))) hn9.1 hn9.2.1 hn9.2.2.1 hn9.2.2.2).touch (Touch.set _ ⟨g9, 0, none⟩ (.int .u32 ((one + two) % 4294967296))) hn9.1 hn9.2.1 hn9.2.2.1 hn9.2.2.2
                    have hX6 : Blk ((w5.setCell ⟨g9, 4, none⟩ (.int .u32 ((xd + one) % 4294967296))).setCell ⟨g9, 0, none⟩ (.int .u32 ((one + two) % 4294967296))) g9 65 (chW nw) := by rw [KS.out]; exact hX6
                    have KI6 := Kept.mk hI6
                    have KX6 := Kept.mk hX6
                    clear hX5 hI5 ht5 hX6 hI6 KI KX
                    go_wp2_with fail
                    go_roundg (gk - 1)
                    case measure => omega
                    case rel => exact ⟨k + 1, nw, by omega, by go_num, KR.out, KI6.out, KX6.out⟩
            · obtain rfl : k = 64 := by omega
              have hxy : x = y := by rw [← hrun, List.drop_eq_nil_of_le (by rw [KOL.out]; omega)]; rfl
              subst hxy
              have hI : PrI w p g2 g3 (stA c x 0 b fill told) outw wr := hI
              have KI := Kept.mk hI
              have KX := Kept.mk hX
              clear hI hX hrun
              go_wp2_with fail
              go_loopg [156] 8 (fun r i wi => ∃ j : Nat, j + r = 8 ∧ i = .int .i64 (j : Int) ∧ PrI w p g2 g3 (stA c x j b fill told) outw wi ∧ Blk wi g9 65 (chW x))
              case atStart => exact ⟨0, rfl, rfl, KI.out, KX.out⟩
              case round =>
                clear KI KX
                obtain ⟨j, hj, rfl, hI, hX⟩ := hrel
                by_cases hlt4 : j < 8
                · have hjI : (j : Int) < 8 := by omega
                  have cp : wr.cell? ⟨p, j, none⟩ = some (.int .u32 ((chL c).getD j 0)) := by rw [hI.pp.cell]; exact stA_at c x j hlt4 b fill told
                  have cx : wr.cell? ⟨g9, j, none⟩ = some (.int .u32 ((chL x).getD j 0)) := by
                    rw [hX.cell, chW, numsV_at _ _ _ (show j < (chL x).length from hlt4)]
                  have fp := hI.pp.free j
                  have hset := fun n => (hI.drewN n).state j (.int .u32 (((chL c).getD j 0 + (chL x).getD j 0) % 4294967296))
                  rw [stA_set c x j hlt4] at hset
                  have hsx := fun n => (show Blk (wr.drewN n) g9 65 (chW x) from hX).set_other ⟨p, j, none⟩ (.int .u32 (((chL c).getD j 0 + (chL x).getD j 0) % 4294967296)) (Ne.symm hn9.1)
                  generalize (chL c).getD j 0 = cv at cp hset hsx
                  generalize (chL x).getD j 0 = xv at cx hset hsx
                  have KS := Kept.mk hset
                  have KX := Kept.mk hsx
                  clear hset hsx hI hX
                  go_wp2_with fail
                  refine wp_region_calm DrewR 13 ([] :: [] :: [(159, 0)] :: [(161, 2)] :: [(162, 3), (160, 1)] :: [(163, 4)] :: [] :: [(165, 6)] :: [(166, 7)] :: [(164, 5), (167, 8)] :: [(159, 0)] :: [(169, 10)] :: [(170, 11), (160, 1)] :: [])
                    ((159, 0) :: (160, 1) :: (161, 2) :: (162, 3) :: (163, 4) :: (164, 5) :: (165, 6) :: (166, 7) :: (167, 8) :: (168, 9) :: (169, 10) :: (170, 11) :: (171, 12) :: [])
                    (EqV ?vce0 :: EqV ?vce1 :: EqV ?vce2 :: EqV ?vce3 :: EqV ?vce4 :: EqV ?vce5 :: EqV ?vce6 :: EqV ?vce7 :: EqV ?vce8 :: EqV ?vce9 :: EqV ?vce10 :: EqV ?vce11 :: EqV ?vce12 :: []) hm (by kernel_rfl) DrewR.refl DrewR.trans DrewR.drew
                    (MonoL.at (MonoL.eq _ (MonoL.eq _ (MonoL.eq _ (MonoL.eq _ (MonoL.eq _ (MonoL.eq _ (MonoL.eq _ (MonoL.eq _ (MonoL.eq _ (MonoL.eq _ (MonoL.eq _ (MonoL.eq _ (MonoL.eq _ (MonoL.nil))))))))))))))) ?vcalmOps ?vcalmDone
                  case vcalmOps =>
                    intro vs
                    refine (CalmOps.cons ?_ (CalmOps.cons ?_ (CalmOps.cons ?_ (CalmOps.cons ?_ (CalmOps.cons ?_ (CalmOps.cons ?_ (CalmOps.cons ?_ (CalmOps.cons ?_ (CalmOps.cons ?_ (CalmOps.cons ?_ (CalmOps.cons ?_ (CalmOps.cons ?_ (CalmOps.cons ?_ trivial)))))))))))))
                    · intro w hR hL; obtain ⟨nd, rfl⟩ := hR; simp [Look, VAt, EqV] at hL; simp [Guarded, setAll, bare, hL]; go_wp2_with fail; exact CalmPost.mk (by simp; rfl) rfl (DrewR.refl _)
                    · intro w hR hL; obtain ⟨nd, rfl⟩ := hR; simp [Look, VAt, EqV] at hL; simp [Guarded, setAll, bare, hL]; go_wp2_with fail; exact CalmPost.mk (by simp; rfl) rfl (DrewR.refl _)
                    · intro w hR hL; obtain ⟨nd, rfl⟩ := hR; simp [Look, VAt, EqV] at hL; simp [Guarded, setAll, bare, hL]; go_wp2_with fail; exact CalmPost.mk (by simp; rfl) rfl (DrewR.refl _)
                    · intro w hR hL; obtain ⟨nd, rfl⟩ := hR; simp [Look, VAt, EqV] at hL; simp [Guarded, setAll, bare, hL]; go_wp2_with fail; exact CalmPost.mk (by simp; rfl) rfl (DrewR.refl _)
                    · intro w hR hL; obtain ⟨nd, rfl⟩ := hR; simp [Look, VAt, EqV] at hL; simp [Guarded, setAll, bare, hL]; go_wp2_with fail; exact CalmPost.mk (by simp; rfl) rfl (DrewR.refl _)
                    · intro w hR hL; obtain ⟨nd, rfl⟩ := hR; simp [Look, VAt, EqV] at hL; simp [Guarded, setAll, bare, hL]; go_wp2_with fail; exact CalmPost.mk (by simp; rfl) rfl (DrewR.refl _)
                    · intro w hR hL; obtain ⟨nd, rfl⟩ := hR; simp [Look, VAt, EqV] at hL; simp [Guarded, setAll, bare, hL]; go_wp2_with fail; exact CalmPost.mk (by simp; rfl) rfl (DrewR.refl _)
                    · intro w hR hL; obtain ⟨nd, rfl⟩ := hR; simp [Look, VAt, EqV] at hL; simp [Guarded, setAll, bare, hL]; go_wp2_with fail; exact CalmPost.mk (by simp; rfl) rfl (DrewR.refl _)
                    · intro w hR hL; obtain ⟨nd, rfl⟩ := hR; simp [Look, VAt, EqV] at hL; simp [Guarded, setAll, bare, hL]; go_wp2_with fail; exact CalmPost.mk (by simp; rfl) rfl (DrewR.refl _)
                    · intro w hR hL; obtain ⟨nd, rfl⟩ := hR; simp [Look, VAt, EqV] at hL; simp [Guarded, setAll, bare, hL]; go_wp2_with fail; exact CalmPost.mk (by simp; rfl) rfl (DrewR.refl _)
                    · intro w hR hL; obtain ⟨nd, rfl⟩ := hR; simp [Look, VAt, EqV] at hL; simp [Guarded, setAll, bare, hL]; go_wp2_with fail; exact CalmPost.mk (by simp; rfl) rfl (DrewR.refl _)
                    · intro w hR hL; obtain ⟨nd, rfl⟩ := hR; simp [Look, VAt, EqV] at hL; simp [Guarded, setAll, bare, hL]; go_wp2_with fail; exact CalmPost.mk (by simp; rfl) rfl (DrewR.refl _)
                    · intro w hR hL; obtain ⟨nd, rfl⟩ := hR; simp [Look, VAt, EqV] at hL; simp [Guarded, setAll, bare, hL]; go_wp2_with fail; exact CalmPost.mk (by simp; rfl) rfl (DrewR.refl _)
                  case vcalmDone =>
                    intro vs w6 hR hL; obtain ⟨nd, rfl⟩ := hR; simp [Look, VAt, EqV] at hL; simp [setAll, hL]; clear hL
                    go_wp2_with fail
                    go_roundg (gk - 1)
                    case measure => omega
                    case rel => exact ⟨j + 1, by omega, by go_num, KS.out nd, KX.out nd⟩
                · obtain rfl : j = 8 := by omega
                  have hI : PrI w p g2 g3 (stC (addC c x) b fill told) outw wr := hI
                  rw [← HP.out] at hI
                  have cf := hI.pp.cell 72
                  rw [stC_fill out b hbl] at cf
                  have ff := hI.pp.free 72
                  have hset := hI.state 72 (.int .i64 ((0 : Nat) : Int))
                  rw [stC_set_fill out b hbl] at hset
                  have hset : PrI w p g2 g3 (stC out b 0 told) outw (wr.setCell ⟨p, 72, none⟩ (.int .i64 0)) := hset
                  have KS := Kept.mk hset
                  clear hset hI hX
                  go_wp2_with fail
                  refine bodyPost_ret (v := .tuple #[]) ?_ rfl ⟨rfl, KS.out.tt, KS.out.pp⟩
                  simp [results, Try.results41, go_sem]
end Sha2
end Go.Proofs.Ytgnbbklnobladaa
