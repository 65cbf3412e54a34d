/- The walks of SHA-256's state: New, Copy, Write. No condition. -/
import Derived.Test.YtgnbbklnobladaaSha2WalkB
namespace Go.Proofs.Ytgnbbklnobladaa
open Go.RowKit
/-- copy(d, s) from a string into a block. -/
theorem wpList_copy_str {P : Program} {w : World} {ops : Array Oper} {rest : List Oper} {o : Oper} {a : Act} {Q : Exit → Act → World → Prop} (hgd : o.guard = none) (d s : Operand) (dT sT : TypeId)
    (ho : o.op = .call { callee := .builtin .copy, args := #[d, s], argTypes := #[dT, sT] }) (elem : TypeId) (hu : P.underlying dT = some (.slice elem)) (hsz : (P.info? elem).map (·.size) = some 1)
    (g off dLen dCap : Nat) (x : ByteArray) (hd : a.eval d = .slice (some ⟨g, off, none⟩) dLen dCap) (hs : a.eval s = .string x)
    (cur : List Value) (t : TypeId) (hg : Blk w g t cur) (n : Nat) (hn : n = Nat.min x.size dLen) (hfit : off + n ≤ cur.length)
    (h : ∀ w', Blk w' g t (cur.take off ++ (bytesV (x.data.toList.take n) ++ cur.drop (off + n))) → Touch [g] w w' → wpList P ops Q rest (a.put o.dst (goInt n)) w') : wpList P ops Q (o :: rest) a w := by
  refine wpList_plain hgd fun K hK => ?_
  have hxl : x.data.toList.length = x.size := by simp
  have hle : n ≤ x.size := by rw [hn]; exact Nat.min_le_left _ _
  have hlen : (bytesV (x.data.toList.take n)).length = n := by rw [bytesV_length, List.length_take]; omega
  have hst := run_storeCells_at P g off t (bytesV (x.data.toList.take n)) 0 cur.toArray w hg (by rw [hlen]; simpa using hfit) (bytesV_one _)
  have htk : List.take n (List.map (fun b : UInt8 => Value.int IntKind.u8 (b.toNat : Int)) x.data.toList) = bytesV (x.data.toList.take n) := by
    rw [← List.map_take]
    simp [bytesV, numsV, nb]
    rfl
  rw [hlen] at hst
  simp only [Nat.add_zero] at hst
  have hrun : (Builtin.copy_ #[dT, sT] o.type #[.slice (some ⟨g, off, none⟩) dLen dCap, .string x]).run P w = .ok (goInt n) (w.setRow g (cur.take off ++ (bytesV (x.data.toList.take n) ++ cur.drop (off + n))).toArray) := by
    cases hq : P.info? elem with
    | none => simp [hq] at hsz
    | some i =>
      simp [Builtin.copy_, run_underlying hu, Builtin.lenOf, Builtin.firstCells, sizeOf, typeInfo, hq, ← hn]
      rw [htk, hst]
      simp [Result.andThen]
  unfold Oper.wp
  simp [execOp, ho, resolve, invoke, builtin, hd, hs, hrun, Result.andThen]
  exact hK _ _ (h _ (hg.row _) (Touch.row _ _ _))
theorem extract_drop (s : ByteArray) (n : Nat) : (s.extract n s.size).data.toList = s.data.toList.drop n := by
  rw [ByteArray.data_extract]
  simp only [Array.toList_extract, List.extract]
  rw [List.take_of_length_le]
  simp
namespace Sha2

/-- The state behind p: of m bytes, t of them told of. -/
def StT (w : World) (p : Nat) (m : List UInt8) (t : Nat) : Prop := ∃ b : List UInt8, b.length = 64 ∧ b.take (m.length % 64) = restB m ∧ Blk w p 87 (stC (midC m) b (m.length % 64) t)
def St (w : World) (p : Nat) (m : List UInt8) : Prop := StT w p m m.length
theorem StT.touch {w w' : World} {p : Nat} {m : List UInt8} {t : Nat} {S : List Nat} (h : StT w p m t) (k : Touch S w w') (hp : p ∉ S) : StT w' p m t := by
  obtain ⟨b, h1, h2, h3⟩ := h
  exact ⟨b, h1, h2, h3.touch k hp⟩
theorem St.touch {w w' : World} {p : Nat} {m : List UInt8} {S : List Nat} (h : St w p m) (k : Touch S w w') (hp : p ∉ S) : St w' p m := StT.touch h k hp
theorem St.ext {w w' : World} {p : Nat} {m : List UInt8} (h : St w p m) (k : Ext w w') : St w' p m := h.touch (Touch.of_ext (S := []) k) (by simp)
theorem StT.lt {w : World} {p : Nat} {m : List UInt8} {t : Nat} (h : StT w p m t) : p < w.heap.size := by
  obtain ⟨b, _, _, h3⟩ := h
  exact h3.lt
theorem St.lt {w : World} {p : Nat} {m : List UInt8} (h : St w p m) : p < w.heap.size := StT.lt h
theorem stC_length (c : Ch) (b : List UInt8) (hb : b.length = 64) (f t : Nat) : (stC c b f t).length = 74 := by
  have : (chW c).length = 8 := rfl
  rw [stC, List.length_append, List.length_append, bytesV_length, hb]; rfl
theorem stC_one (c : Ch) (b : List UInt8) (f t : Nat) : (stC c b f t).all (·.oneCell') = true := by
  have h1 : (chW c).all (·.oneCell') = true := rfl
  have h2 := bytesV_all b
  rw [stC, List.all_append, List.all_append, h1, h2]; rfl
/-- Bytes laid into the block. -/
theorem stC_put (c : Ch) (b x : List UInt8) (hb : b.length = 64) (f t : Nat) (hx : f + x.length ≤ 64) :
    (stC c b f t).take (8 + f) ++ (bytesV x ++ (stC c b f t).drop (8 + f + x.length)) = stC c (b.take f ++ (x ++ b.drop (f + x.length))) f t := by
  have h8 : (chW c).length = 8 := rfl
  have hbl := bytesV_length b
  rw [stC, stC, bytesV_append, bytesV_append, bytesV_take, bytesV_drop]
  rw [List.take_append, List.drop_append, List.take_of_length_le (show (chW c).length ≤ 8 + f by omega), List.drop_eq_nil_of_le (show (chW c).length ≤ 8 + f + x.length by omega), h8,
    show 8 + f - 8 = f by omega, show 8 + f + x.length - 8 = f + x.length by omega, List.take_append_of_le_length (by omega), List.drop_append_of_le_length (by omega)]
  simp [List.append_assoc]
def NewIs (w : World) (e : Ending) (w' : World) : Prop := ∃ p, e = .returned (.pointer (some ⟨p, 0, none⟩)) ∧ w.heap.size ≤ p ∧ Ext w w' ∧ St w' p []
set_option linter.unusedSimpArgs false
set_option linter.unusedVariables false
set_option maxRecDepth 100000 in
set_option maxHeartbeats 2000000 in
theorem new_any (w : World) : Calls Try.prog 33 #[] w (NewIs w) := by
  have hz := zero_run (P := Try.prog) infoS
  go_enter Try.func33, Try.ntmps33
  go_wp2_with (first
    | (refine wpList_build_run rfl 65 _ rfl (.agg (chW firstC).toArray) (fun W => by kernel_rfl) ?_)
    | (refine wpList_build_run rfl 87 _ rfl (.agg (stC firstC (List.replicate 64 0) 0 0).toArray) (fun W => by kernel_rfl) ?_))
  go_ret
  exact ⟨w.heap.size, rfl, Nat.le_refl _, Ext.alloc _ _, List.replicate 64 0, rfl, rfl, Blk.new w _ (stC firstC (List.replicate 64 0) 0 0)⟩
/-- A new state like it. -/
def CopyIs (w : World) (m : List UInt8) (e : Ending) (w' : World) : Prop := ∃ q, e = .returned (.pointer (some ⟨q, 0, none⟩)) ∧ w.heap.size ≤ q ∧ Ext w w' ∧ St w' q m
set_option maxRecDepth 100000 in
set_option maxHeartbeats 2000000 in
theorem copy_any (p : Nat) (m : List UInt8) (w : World) (hs : St w p m) : Calls Try.prog 42 #[.pointer (some ⟨p, 0, none⟩)] w (CopyIs w m) := by
  have hz := zero_run (P := Try.prog) infoS
  obtain ⟨b, hb1, hb2, hb⟩ := hs
  have hlen := stC_length (midC m) b hb1 (m.length % 64) m.length
  have hone := stC_one (midC m) b (m.length % 64) m.length
  generalize hst : stC (midC m) b (m.length % 64) m.length = st at hb hlen hone
  have KS := Kept.mk hst
  have KB := Kept.mk hb
  have KL := Kept.mk hlen
  have KO := Kept.mk hone
  clear hst hb hlen hone
  go_enter Try.func42, Try.ntmps42
  go_wp2_with (first
    | (refine wpList_load_blk rfl 87 (.tmp 5) rfl p rfl 87 st KB.out _ Try.underlying87 rfl (by rw [KL.out]; exact info_size infoS) ?_)
    | (refine wpList_store_new rfl 87 (.tmp 3) (.tmp 6) rfl rfl rfl 87 stZ st rfl (by rw [KL.out]; rfl) (by rw [KL.out]; exact info_size infoS) KO.out ?_))
  go_ret
  exact ⟨w.heap.size, rfl, Nat.le_refl _, Ext.alloc _ _, b, hb1, hb2, by rw [KS.out]; exact Blk.new w _ st⟩
/-- What Write leaves. -/
def WroteIs (w : World) (p : Nat) (m : List UInt8) (e : Ending) (w' : World) : Prop := e = .returned (.tuple #[]) ∧ St w' p m ∧ Touch [p] w w'
set_option maxRecDepth 100000 in
set_option maxHeartbeats 2000000 in
theorem write_any (p : Nat) (m : List UInt8) (A : Option Addr) (c : Nat) (l : List ByteArray) (w : World) (hs : St w p m) (hA : Row w A (l.map strV)) (hAp : l ≠ [] → p ∉ own (.slice A 0 0)) (hlen : m.length + (flat l).length ≤ 1000000000) (hl : l.length ≤ 1000000000) :
    Calls Try.prog 34 #[.pointer (some ⟨p, 0, none⟩), .slice A l.length c] w (WroteIs w p (m ++ flat l)) := by
  have hm : Try.prog.follows .mixedOrders = true := by kernel_rfl
  go_enter Try.func34, Try.ntmps34
  go_wp2_with fail
  go_loopg [9] l.length (fun r i wi => ∃ (k : Nat), k + r = l.length ∧ i = .int .i64 (k : Int) ∧ St wi p (m ++ flat (l.take k)) ∧ Touch [p] w wi)
  case atStart => exact ⟨0, by omega, rfl, by simpa [flat] using hs, Touch.refl _ _⟩
  case round =>
    clear hs
    obtain ⟨k, hk, rfl, hs, ht⟩ := hrel
    obtain ⟨go, rfl⟩ : ∃ n : Nat, n = gk := ⟨_, rfl⟩
    by_cases hlt : k < l.length
    · have hkI : (k : Int) < l.length := by omega
      obtain ⟨rb, ro, rfl, hcr⟩ := (hA.touch ht (by intro j hj hm; rw [List.mem_singleton] at hm; subst hm; exact hAp (by intro e; subst e; simp at hlt) hj)).at (by simp; omega)
      have hcx := hcr k _ (strV_at hlt)
      have hfn := flat_next l k hlt
      have hf1 := flat_len l (k + 1)
      have hsz : (l[k].data.toList).length = l[k].size := by simp
      rw [hfn, List.length_append, hsz] at hf1
      have KF := Kept.mk (show m ++ flat (l.take (k + 1)) = (m ++ flat (l.take k)) ++ l[k].data.toList by rw [hfn, List.append_assoc])
      have hml : (m ++ flat (l.take k)).length + l[k].size ≤ 1000000000 := by rw [List.length_append]; omega
      generalize m ++ flat (l.take k) = m1 at hs hml KF
      generalize hMe : m ++ flat (l.take (k + 1)) = M at KF
      have KMe := Kept.mk hMe
      generalize l[k] = s at hcx hml KF hsz
      clear hfn hf1 hcr hMe
      obtain ⟨b, hb1, hb2, hb⟩ := hs
      have c73 := hb.cell 73
      rw [stC_told _ b hb1] at c73
      have f73 := hb.free 73
      have hw1 : (s.size : Int) % 18446744073709551616 = s.size := by omega
      have hw2 : ((m1.length : Int) + s.size) % 18446744073709551616 = (m1.length : Int) + s.size := by omega
      have hML : M.length = m1.length + s.size := by rw [KF.out, List.length_append, hsz]
      have hbs := hb.set 73 (.int .u64 ((m1.length : Int) + s.size))
      rw [show ((m1.length : Int) + s.size) = ((M.length : Nat) : Int) by omega, stC_set_told _ b hb1] at hbs
      have hts := Touch.set wr ⟨p, 73, none⟩ (.int .u64 ((m1.length : Int) + s.size))
      have KS := Kept.mk (show StT (wr.setCell ⟨p, 73, none⟩ (.int .u64 ((m1.length : Int) + s.size))) p m1 M.length from ⟨b, hb1, hb2, by rw [show ((m1.length : Int) + s.size) = ((M.length : Nat) : Int) by omega]; exact hbs⟩)
      have KT := Kept.mk (ht.trans hts (by intro j hj; simp at hj; subst hj; exact .inl (by simp)))
      have hMb : M.length ≤ 1000000000 := by omega
      clear hb hbs hts hML ht
      go_wp2_with fail
      clear c73 f73 hcx
      go_loopg [5] s.size (fun q x wi => ∃ (y : ByteArray) (m2 : List UInt8), x = .string y ∧ y.size = q ∧ m2 ++ y.data.toList = M ∧ StT wi p m2 M.length ∧ Touch [p] w wi)
      case atStart => exact ⟨s, m1, rfl, rfl, KF.out.symm, KS.out, KT.out⟩
      case round =>
        clear KS KT
        obtain ⟨y, m2, rfl, hq, hM, ⟨b, hb1, hb2, hb⟩, ht⟩ := hrel
        by_cases hpos : 0 < y.size
        · have hposI : (0 : Int) < y.size := by omega
          have hb72 := hb.cell 72
          rw [stC_fill _ b hb1] at hb72
          have hmid := restB_length m2
          have hfeed1 := feed_some m2 (y.data.toList.take (min y.size (64 - m2.length % 64)))
          have hfeed2 := feed_full m2 (y.data.toList.take (min y.size (64 - m2.length % 64)))
          have hF : m2.length % 64 < 64 := by omega
          obtain ⟨F, hFe⟩ : ∃ F, F = m2.length % 64 := ⟨_, rfl⟩
          rw [← hFe] at hb72 hb2 hb hF hfeed1 hfeed2 hmid
          obtain ⟨n, hn⟩ : ∃ n, n = min y.size (64 - F) := ⟨_, rfl⟩
          rw [← hn] at hfeed1 hfeed2
          have hFI : (F : Int) < 64 := by omega
          have hFI2 : (F : Int) ≤ 64 := by omega
          have KFe := Kept.mk hFe
          have Kq := Kept.mk hq
          have KB := Kept.mk hb
          have K2 := Kept.mk hb2
          have KT := Kept.mk ht
          have Kf1 := Kept.mk hfeed1
          have Kf2 := Kept.mk hfeed2
          have Kn := Kept.mk hn
          have KM := Kept.mk hM
          have Kmid := Kept.mk hmid
          clear hFe hq hb hb2 ht hfeed1 hfeed2 hn hM hmid
          go_wp2_with fail
          refine wp_region_calm DrewR 9 ([] :: [(26, 0)] :: [(27, 1)] :: [] :: [(29, 3)] :: [(30, 4)] :: [(31, 5)] :: [(28, 2), (32, 6)] :: [] :: [])
            ((26, 0) :: (27, 1) :: (28, 2) :: (29, 3) :: (30, 4) :: (31, 5) :: (32, 6) :: (33, 7) :: (34, 8) :: [])
            (EqV ?pce0 :: EqV ?pce1 :: EqV ?pce2 :: EqV ?pce3 :: EqV ?pce4 :: EqV ?pce5 :: EqV ?pce6 :: EqV ?pce7 :: EqV ?pce8 :: []) hm (by kernel_rfl) DrewR.refl DrewR.trans DrewR.drew
            (MonoL.at (MonoL.eq _ (MonoL.eq _ (MonoL.eq _ (MonoL.eq _ (MonoL.eq _ (MonoL.eq _ (MonoL.eq _ (MonoL.eq _ (MonoL.eq _ (MonoL.nil))))))))))) ?pcalmOps ?pcalmDone
          case pcalmOps =>
            intro vs
            refine (CalmOps.cons ?_ (CalmOps.cons ?_ (CalmOps.cons ?_ (CalmOps.cons ?_ (CalmOps.cons ?_ (CalmOps.cons ?_ (CalmOps.cons ?_ (CalmOps.cons ?_ (CalmOps.cons ?_ trivial)))))))))
            · intro w hR hL; obtain ⟨nd, rfl⟩ := hR; simp [Look, VAt, EqV] at hL; simp [Guarded, setAll, bare, hL]; go_wp2_with fail; exact CalmPost.mk (by simp; rfl) rfl (DrewR.refl _)
            · intro w hR hL; obtain ⟨nd, rfl⟩ := hR; simp [Look, VAt, EqV] at hL; simp [Guarded, setAll, bare, hL]; go_wp2_with fail; exact CalmPost.mk (by simp; rfl) rfl (DrewR.refl _)
            · intro w hR hL; obtain ⟨nd, rfl⟩ := hR; simp [Look, VAt, EqV] at hL; simp [Guarded, setAll, bare, hL]; go_wp2_with fail; exact CalmPost.mk (by simp; rfl) rfl (DrewR.refl _)
            · intro w hR hL; obtain ⟨nd, rfl⟩ := hR; simp [Look, VAt, EqV] at hL; simp [Guarded, setAll, bare, hL]; go_wp2_with fail; exact CalmPost.mk (by simp; rfl) rfl (DrewR.refl _)
            · intro w hR hL; obtain ⟨nd, rfl⟩ := hR; simp [Look, VAt, EqV] at hL; simp [Guarded, setAll, bare, hL]; go_wp2_with fail; exact CalmPost.mk (by simp; rfl) rfl (DrewR.refl _)
            · intro w hR hL; obtain ⟨nd, rfl⟩ := hR; simp [Look, VAt, EqV] at hL; simp [Guarded, setAll, bare, hL]; go_wp2_with fail; exact CalmPost.mk (by simp; rfl) rfl (DrewR.refl _)
            · intro w hR hL; obtain ⟨nd, rfl⟩ := hR; simp [Look, VAt, EqV] at hL; simp [Guarded, setAll, bare, hL]; go_wp2_with fail; exact CalmPost.mk (by simp; rfl) rfl (DrewR.refl _)
            · intro w hR hL; obtain ⟨nd, rfl⟩ := hR; simp [Look, VAt, EqV] at hL; simp [Guarded, setAll, bare, hL]; go_wp2_with fail; exact CalmPost.mk (by simp; rfl) rfl (DrewR.refl _)
            · intro w hR hL; obtain ⟨nd, rfl⟩ := hR; simp [Look, VAt, EqV] at hL; simp [Guarded, setAll, bare, hL]; go_wp2_with fail; exact CalmPost.mk (by simp; rfl) rfl (DrewR.refl _)
          case pcalmDone =>
            intro vs w6 hR hL; obtain ⟨nd, rfl⟩ := hR; simp [Look, VAt, EqV] at hL; simp [setAll, hL]; clear hL
            go_wp2_with (refine wpList_copy_str rfl (.tmp 33) (.tmp 34) 54 9 rfl 5 Try.underlying54 (info_size infoB0) p (8 + F) (64 - F) (64 - F) y rfl rfl (stC (midC m2) b F M.length) 87 KB.out n Kn.out (by rw [stC_length _ _ hb1, Kn.out]; omega) ?_)
            intro w5 hb5 ht5
            have hyl : y.data.toList.length = y.size := by simp
            have hxl : (y.data.toList.take n).length = n := by rw [List.length_take, hyl, Kn.out]; omega
            have hn1 : n ≤ y.size := by rw [Kn.out]; omega
            have hn2 : F + n ≤ 64 := by rw [Kn.out]; omega
            have hn3 : 0 < n := by rw [Kn.out]; omega
            have hput := stC_put (midC m2) b (y.data.toList.take n) hb1 F M.length (by rw [hxl]; omega)
            rw [hxl] at hput
            rw [hput] at hb5
            have hb1' : (b.take F ++ (y.data.toList.take n ++ b.drop (F + n))).length = 64 := by
              rw [List.length_append, List.length_append, List.length_take, List.length_drop, hxl, hb1]; omega
            have hbF : (b.take F ++ (y.data.toList.take n ++ b.drop (F + n))).take (F + n) = restB m2 ++ y.data.toList.take n := by
              rw [← List.append_assoc, List.take_left' (by rw [List.length_append, List.length_take, hxl, hb1]; omega), K2.out]
            generalize b.take F ++ (y.data.toList.take n ++ b.drop (F + n)) = b5 at hb5 hb1' hbF
            have e72 := hb5.cell 72
            rw [stC_fill _ b5 hb1'] at e72
            have f72 := hb5.free 72
            have hs6 := hb5.set 72 (.int .i64 ((F + n : Nat) : Int))
            rw [stC_set_fill _ b5 hb1', Int.natCast_add] at hs6
            have ht6 : Touch [p] w (w5.setCell ⟨p, 72, none⟩ (.int .i64 ((F : Int) + n))) :=
              ((KT.out.trans (Touch.of_ext (S := []) (Ext.drewN _ nd)) (by simp)).trans ht5 (fun j hj => .inl hj)).trans (Touch.set _ _ _) (by intro j hj; simp at hj; subst hj; exact .inl (by simp))
            have g72 : (w5.setCell ⟨p, 72, none⟩ (.int .i64 ((F : Int) + n))).cell? ⟨p, 72, none⟩ = some (.int .i64 ((F : Int) + n)) := by
              rw [hs6.cell, stC_fill _ b5 hb1', Int.natCast_add]
            have hM2 : (m2 ++ y.data.toList.take n) ++ (y.extract n y.size).data.toList = M := by
              rw [← KM.out, List.append_assoc, extract_drop, List.take_append_drop]
            have hex : (y.extract n y.size).size = y.size - n := by rw [ByteArray.size_extract]; omega
            have hnI : (n : Int) ≤ y.size := by omega
            have hnI2 : (F : Int) + n ≤ 64 := by omega
            have hsum : (F : Int) + n ≤ 9223372036854775807 := by omega
            have K6 := Kept.mk hs6
            have KT6 := Kept.mk ht6
            have KM2 := Kept.mk hM2
            have Kex := Kept.mk hex
            have Kxl := Kept.mk hxl
            have KbF := Kept.mk hbF
            clear hput hb5 hs6 ht6 hM2 hex hxl hbF hyl ht5 KB K2 KT
            by_cases hfull : F + n = 64
            · have hfb : (((F : Int) + n) == 64) = true := by rw [beq_iff_eq]; omega
              have Kfull := Kept.mk hfull
              clear hfull
              go_wp2_with fail
              refine (press_any p (midC m2) b5 hb1' (F + n) M.length _ (by rw [← Int.natCast_add]; exact K6.out)).mono ?_
              rintro e w7 ⟨rfl, ht7, hb7⟩
              have hN : StT w7 p (m2 ++ y.data.toList.take n) M.length := by
                have h2 := Kf2.out (by rw [Kxl.out]; exact Kfull.out)
                have h3 := KbF.out
                rw [Kfull.out, List.take_of_length_le (by omega)] at h3
                have h4 : (m2 ++ y.data.toList.take n).length % 64 = 0 := by
                  have h5 := KFe.out
                  have h6 := Kfull.out
                  rw [List.length_append, Kxl.out]; omega
                refine ⟨b5, hb1', ?_, ?_⟩
                · rw [h4, h2.2]; rfl
                · rw [h4, h2.1, ← h3]; exact hb7
              have KN := Kept.mk hN
              have KT7 := Kept.mk (KT6.out.trans ht7 (fun j hj => .inl hj))
              clear hN ht7 hb7
              go_wp2_with fail
              go_roundg (y.size - n)
              case measure => have := Kq.out; omega
              case rel => exact ⟨_, m2 ++ y.data.toList.take n, rfl, Kex.out, KM2.out, KN.out, KT7.out⟩
            · have hfb : (((F : Int) + n) == 64) = false := by rw [beq_eq_false_iff_ne]; omega
              have hlt64 : F + n < 64 := by omega
              have hN : StT (w5.setCell ⟨p, 72, none⟩ (.int .i64 ((F : Int) + n))) p (m2 ++ y.data.toList.take n) M.length := by
                have h2 := Kf1.out (by rw [Kxl.out]; exact hlt64)
                have h4 : (m2 ++ y.data.toList.take n).length % 64 = F + n := by
                  have h5 := KFe.out
                  rw [List.length_append, Kxl.out]; omega
                refine ⟨b5, hb1', ?_, ?_⟩
                · rw [h4, h2.2, KbF.out]
                · rw [h4, h2.1, ← Int.natCast_add]; exact K6.out
              have KN := Kept.mk hN
              clear hN hfull
              go_wp2_with fail
              go_roundg (y.size - n)
              case measure => have := Kq.out; omega
              case rel => exact ⟨_, m2 ++ y.data.toList.take n, rfl, Kex.out, KM2.out, KN.out, KT6.out⟩
        · have hy0 : y.data.toList = [] := List.eq_nil_of_length_eq_zero (by
            have : y.data.toList.length = y.size := by simp
            omega)
          rw [hy0, List.append_nil] at hM
          subst hM
          have KN := Kept.mk (show St wr p m2 from ⟨b, hb1, hb2, hb⟩)
          have KT := Kept.mk ht
          have hposI : ¬ (0 : Int) < y.size := by omega
          clear hb hb2 ht hq hy0
          go_wp2_with fail
          go_roundg (go - 1)
          case measure => omega
          case rel => exact ⟨k + 1, by omega, by go_num, by rw [KMe.out]; exact KN.out, KT.out⟩
    · obtain rfl : k = l.length := by omega
      rw [List.take_length] at hs
      have KS := Kept.mk hs
      have KT := Kept.mk ht
      clear hs ht
      go_wp2_with fail
      refine bodyPost_ret (v := .tuple #[]) ?_ rfl ⟨rfl, KS.out, KT.out⟩
      simp [results, Try.results34, go_sem]
end Sha2
end Go.Proofs.Ytgnbbklnobladaa
