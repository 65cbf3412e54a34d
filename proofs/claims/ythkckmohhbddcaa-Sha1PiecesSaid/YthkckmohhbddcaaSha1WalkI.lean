/- The walk of SHA-1's state: Write. No condition. -/
import Derived.Test.YthkckmohhbddcaaSha1WalkH
namespace Go.Proofs.Ythkckmohhbddcaa
open Go.RowKit
section
variable {P : Program} {ops : Array Oper} {Q : Exit → Act → World → Prop} {rest : List Oper} {o : Oper} {a : Act} {w : World}
/-- A whole array into a part of a block; the world behind is any that is as told. -/
theorem wpList_store_part_any (hgd : o.guard = none) (ty : TypeId) (x y : Operand) (ho : o.op = .store ty x y) (hd : o.dst = none) (g off : Nat) (hx : a.eval x = .pointer (some ⟨g, off, none⟩)) (T : TypeId) (xs ys : List Value)
    (hy : a.eval y = .agg ys.toArray) (hg : Blk w g T xs) (hl : off + ys.length ≤ xs.length) (hi : (P.info? ty).map (·.size) = some ys.length) (h1 : ys.all (·.oneCell') = true)
    (h : ∀ w', Blk w' g T (xs.take off ++ ys ++ xs.drop (off + ys.length)) → Touch [g] w w' → wpList P ops Q rest a w') : wpList P ops Q (o :: rest) a w :=
  wpList_store_part hgd ty x y ho hd g off hx T xs ys hy hg hl hi h1 (h _ (hg.row _) (Touch.row _ _ _))
end
namespace Sha1

/-- What Write leaves. -/
def WroteIs (w : World) (B p : Nat) (v0 : Value) (m : List UInt8) (e : Ending) (w' : World) : Prop :=
  e = .returned (.tuple #[]) ∧ ∃ v, Blk w' p 50 (stC (midC m) v m.length) ∧ Buf w' B 5 v (bytesV (restB m)) ∧ Touch (p :: own v0) w w' ∧ ∀ j ∈ own v, j ∈ own v0 ∨ w.heap.size ≤ j
set_option linter.unusedSimpArgs false
set_option linter.unusedVariables false
set_option maxRecDepth 100000 in
set_option maxHeartbeats 2000000 in
theorem write_any (B p : Nat) (v0 : Value) (m : List UInt8) (A : Option Addr) (c : Nat) (l : List ByteArray) (w : World) (hb : Blk w p 50 (stC (midC m) v0 m.length)) (hv : Buf w B 5 v0 (bytesV (restB m)))
    (hBw : B ≤ w.heap.size) (hp : p ∉ own v0) (hA : Row w A (l.map strV)) (hAp : ∀ j ∈ own (.slice A 0 0), j ≠ p ∧ j ∉ own v0) (hlen : m.length + (flat l).length ≤ 1000000000) (hl : l.length ≤ 1000000000) :
    Calls Try.prog 12 #[.pointer (some ⟨p, 0, none⟩), .slice A l.length c] w (WroteIs w B p v0 (m ++ flat l)) := by
  have hm : Try.prog.follows .mixedOrders = true := by kernel_rfl
  obtain ⟨iB, hiB, hzB, hsB, hbB⟩ := infoB
  have hpw := hb.lt
  go_enter Try.func12, Try.ntmps12
  go_wp2_with fail
  go_loopg [8] l.length (fun r i wi => ∃ (k : Nat) (v : Value), k + r = l.length ∧ i = .int .i64 (k : Int) ∧ Blk wi p 50 (stC (midC (m ++ flat (l.take k))) v (m ++ flat (l.take k)).length) ∧ Buf wi B 5 v (bytesV (restB (m ++ flat (l.take k)))) ∧ Touch (p :: own v0) w wi ∧ ∀ j ∈ own v, j ∈ own v0 ∨ w.heap.size ≤ j)
  case atStart => exact ⟨0, v0, by omega, rfl, by simpa [flat] using hb, by simpa [flat] using hv, Touch.refl _ _, fun j hj => .inl hj⟩
  case round =>
    clear hb hv
    obtain ⟨k, v, hk, rfl, hb, hv, ht, ho⟩ := hrel
    obtain ⟨go, rfl⟩ : ∃ n : Nat, n = gk := ⟨_, rfl⟩
    by_cases hlt : k < l.length
    · have hkI : (k : Int) < l.length := by omega
      obtain ⟨rb, ro, rfl, hcr⟩ := (hA.touch ht (fun j hj hm => by
        have := hAp j hj
        rcases List.mem_cons.1 hm with h | h
        · exact this.1 h
        · exact this.2 h)).at (by simp; omega)
      have hcx := hcr k _ (strV_at hlt)
      have hfn := flat_next l k hlt
      have hf1 := flat_len l (k + 1)
      have hsz : (l[k].data.toList).length = l[k].size := by simp
      rw [hfn, List.length_append, hsz] at hf1
      have KF := Kept.mk (show m ++ flat (l.take (k + 1)) = (m ++ flat (l.take k)) ++ l[k].data.toList by rw [hfn, List.append_assoc])
      have hml : (m ++ flat (l.take k)).length + l[k].size ≤ 1000000000 := by rw [List.length_append]; omega
      generalize m ++ flat (l.take k) = m1 at hb hv hml KF
      generalize l[k] = s at hcx hml KF hsz
      clear hfn hf1 hcr
      have hpv : p ∉ own v := fun h => by rcases ho p h with h1 | h1; exact hp h1; omega
      have hc5 : wr.cell? ⟨p, 5, none⟩ = some v := hb.cell 5
      have hc6 : wr.cell? ⟨p, 6, none⟩ = some (.int .u64 (m1.length : Int)) := hb.cell 6
      have hf5 := hb.free 5
      have hf6 := hb.free 6
      have hw1 : (s.size : Int) % 18446744073709551616 = s.size := by omega
      have hw2 : ((m1.length : Int) + s.size) % 18446744073709551616 = (m1.length : Int) + s.size := by omega
      have hr1 := restB_length m1
      have hbs := hb.set 6 (.int .u64 ((m1.length : Int) + s.size))
      have hts := Touch.set wr ⟨p, 6, none⟩ (.int .u64 ((m1.length : Int) + s.size))
      have hvs := hv.touch hts (by intro j hj h; simp at h; subst h; exact hpv hj)
      have hszw := size_setCell wr ⟨p, 6, none⟩ (.int .u64 ((m1.length : Int) + s.size))
      have hBr : B ≤ wr.heap.size := Nat.le_trans hBw ht.size
      have KB := Kept.mk hbs
      have KT := Kept.mk (ht.trans hts (by intro j hj; simp at hj; subst hj; exact .inl (by simp)))
      have KV := Kept.mk hvs
      clear hb hv hts hbs hvs
      have hfit : (bytesV (restB m1)).length + s.size ≤ 1000000000 := by rw [bytesV_length, hr1]; omega
      go_wp2_with (refine wpList_append_buf (P := Try.prog) _ rfl (.tmp 26) (.tmp 27) 34 9 rfl 5 iB _ Try.underlying34 hiB hzB hsB rfl B v (bytesV (restB m1)) rfl KV.out (.string s) s.size (byteCells s) rfl (Src.ofString _ Try.underlying9 s) (by rw [size_setCell]; exact hBr) (by simp only [maxLen]; omega) (by rw [hbB]; omega) ?_)
      intro v1 w1 hv1 ht1 ho1
      rw [byteCells_eq, ← bytesV_append] at hv1
      obtain ⟨A9, cap9, h9⟩ := hv1.form
      have hr0l : (restB m1 ++ s.data.toList).length ≤ 1000000000 := by rw [List.length_append, hr1, hsz]; omega
      generalize (bytesV (restB m1 ++ s.data.toList)).length = n9 at h9
      subst h9
      have hcast : (m1.length : Int) + s.size = (((m1 ++ s.data.toList).length : Nat) : Int) := by rw [List.length_append, hsz]; omega
      have hb2 := KB.out.touch ht1 hpv
      rw [hcast] at hb2
      have ht2 := KT.out.trans ht1 (fun j hj => by rcases ho j hj with h | h; exact .inl (by simp [h]); exact .inr h)
      have ho2 : ∀ j ∈ own (.slice A9 n9 cap9), j ∈ own v0 ∨ w.heap.size ≤ j := fun j hj => by
        rcases ho1 with h | h
        · rw [h] at hj; exact ho j hj
        · rw [h, List.mem_singleton] at hj; subst hj; exact .inr ht.size
      have hpv1 : p ∉ own (.slice A9 n9 cap9) := fun h => by rcases ho2 p h with h1 | h1; exact hp h1; omega
      have hc5 : w1.cell? ⟨p, 5, none⟩ = some v := hb2.cell 5
      have hf5 := hb2.free 5
      have hts := Touch.set w1 ⟨p, 5, none⟩ (.slice A9 n9 cap9)
      have hb3 : Blk (w1.setCell ⟨p, 5, none⟩ (.slice A9 n9 cap9)) p 50 (stC (midC m1) (.slice A9 n9 cap9) (m1 ++ s.data.toList).length) := hb2.set 5 _
      have hv3 := hv1.touch hts (by intro j hj h; simp at h; subst h; exact hpv1 hj)
      have ht3 := ht2.trans hts (by intro j hj; simp at hj; subst hj; exact .inl (by simp))
      have hmf := midC_feed m1 s.data.toList
      have hrf := restB_feed m1 s.data.toList
      rw [← KF.out] at hmf hrf hb3
      have KN := Kept.mk (congrArg List.length KF.out)
      generalize restB m1 ++ s.data.toList = r0 at hv3 hmf hrf hr0l
      generalize midC m1 = c0 at hb3 hmf
      obtain ⟨m2, hm2⟩ : ∃ m2, m2 = m ++ flat (l.take (k + 1)) := ⟨_, rfl⟩
      rw [← hm2] at hb3 hmf hrf KN
      have KM := Kept.mk hm2
      clear hm2
      have KB3 := Kept.mk hb3
      have KV3 := Kept.mk hv3
      have KT3 := Kept.mk ht3
      have KO3 := Kept.mk ho2
      have KT1 := Kept.mk ht1
      have KMF := Kept.mk hmf
      have KRF := Kept.mk hrf
      clear hb2 hb3 hv3 ht3 ho2 hts ht2 ht1 ho1 hv1 KB KV KT hc6 hf6 hw1 hw2 hr1 hfit hcast hmf hrf
      go_wp2_with fail
      go_loopg [] (r0.length / 64) (fun q wi => ∃ (c1 : Ch) (r1 : List UInt8) (v2 : Value), r1.length / 64 = q ∧ chain (r1.length / 64) c1 r1 = midC m2 ∧ r1.drop (64 * (r1.length / 64)) = restB m2 ∧ r1.length ≤ 1000000000 ∧ Blk wi p 50 (stC c1 v2 m2.length) ∧ Buf wi B 5 v2 (bytesV r1) ∧ Touch (p :: own v0) w wi ∧ ∀ j ∈ own v2, j ∈ own v0 ∨ w.heap.size ≤ j)
      case atStart => exact ⟨c0, r0, _, rfl, KMF.out.symm, KRF.out.symm, hr0l, KB3.out, KV3.out, KT3.out, KO3.out⟩
      case round =>
        clear hc5 hf5 hpv1 KB3 KV3 KT3 KO3 KT1 KMF KRF hpv hBr hszw hcx ho ht
        obtain ⟨c1, r1, v2, hq, hC, hR, hl1, hb, hv, ht, ho⟩ := hrel
        have hpv : p ∉ own v2 := fun h => by rcases ho p h with h1 | h1; exact hp h1; omega
        have hc5 : wr.cell? ⟨p, 5, none⟩ = some v2 := hb.cell 5
        have hf5 := hb.free 5
        obtain ⟨A1, cap1, rfl, hcap, hmax, -, hst⟩ := id hv
        rw [bytesV_length] at hcap hc5 hb hv hpv ho
        simp only [maxLen] at hmax
        by_cases hge : 64 ≤ r1.length
        · obtain ⟨b1, off1, rfl⟩ : ∃ b off, A1 = some ⟨b, off, none⟩ := by
            rcases hst with h0 | ⟨b1, off1, cs1, h0, -⟩
            · omega
            · exact ⟨b1, off1, h0⟩
          have hgeI : ((64 : Int) ≤ r1.length) := by omega
          have kc : ∀ W, Ext wr W → (convert 34 9 (.slice (some ⟨b1, off1, none⟩) 64 cap1)).run Try.prog W = .ok (.string (strOf (r1.take 64))) W := fun W hW => by
            have := (hv.front 64 (by rw [bytesV_length]; exact hge)).ext hW
            rw [← bytesV_take] at this
            exact conv_buf W _ _ _ Try.underlying34 Try.underlying5 Try.underlying9 _ this
          have hcut := hv.cut 64 (by rw [bytesV_length]; exact hge)
          rw [← bytesV_drop] at hcut
          have K1 := Kept.mk hb
          have KV := Kept.mk hcut
          have KT := Kept.mk ht
          have KO := Kept.mk ho
          have KC := Kept.mk hC
          have KR := Kept.mk hR
          clear hb hv ht ho hC hR hcut hst
          obtain ⟨c2, hc2⟩ : ∃ c2, c2 = pressC c1 (r1.take 64) := ⟨_, rfl⟩
          have KC2 := Kept.mk hc2
          clear hc2
          go_wp2_with fail
          refine wp_region_calm Ext 14 ([] :: [] :: [(38, 1)] :: [(39, 2)] :: [(40, 3)] :: [] :: [(42, 5)] :: [(43, 6)] :: [(44, 7)] :: [(45, 8)] :: [(46, 9)] :: [(41, 4), (47, 10)] :: [(37, 0)] :: [(49, 12)] :: [])
            ((37, 0) :: (38, 1) :: (39, 2) :: (40, 3) :: (41, 4) :: (42, 5) :: (43, 6) :: (44, 7) :: (45, 8) :: (46, 9) :: (47, 10) :: (48, 11) :: (49, 12) :: (50, 13) :: [])
            (EqV ?pce0 :: EqV ?pce1 :: EqV ?pce2 :: EqV ?pce3 :: EqV (.agg (chW c1).toArray) :: EqV ?pce5 :: EqV ?pce6 :: EqV ?pce7 :: EqV (.slice (some ⟨b1, off1, none⟩) r1.length cap1) :: EqV (.slice (some ⟨b1, off1, none⟩) 64 cap1) :: EqV (.string (strOf (r1.take 64))) :: EqV (.agg (chW c2).toArray) :: EqV ?pce12 :: EqV ?pce13 :: []) hm (by kernel_rfl) Ext.refl (fun _ _ _ => Ext.trans) Ext.drew
            (MonoL.at (MonoL.eq _ (MonoL.eq _ (MonoL.eq _ (MonoL.eq _ (MonoL.eq _ (MonoL.eq _ (MonoL.eq _ (MonoL.eq _ (MonoL.eq _ (MonoL.eq _ (MonoL.eq _ (MonoL.eq _ (MonoL.eq _ (MonoL.eq _ (MonoL.nil)))))))))))))))) ?pcalmOps ?pcalmDone
          case pcalmOps =>
            intro vs
            refine (CalmOps.cons ?_ (CalmOps.cons ?_ (CalmOps.cons ?_ (CalmOps.cons ?_ (CalmOps.cons ?_ (CalmOps.cons ?_ (CalmOps.cons ?_ (CalmOps.cons ?_ (CalmOps.cons ?_ (CalmOps.cons ?_ (CalmOps.cons ?_ (CalmOps.cons ?_ (CalmOps.cons ?_ (CalmOps.cons ?_ trivial))))))))))))))
            · intro w6 hR hL; simp [Look, VAt, EqV] at hL; simp [Guarded, setAll, bare, hL]; go_wp2_with fail; exact CalmPost.mk (by simp; rfl) rfl (Ext.refl _)
            · intro w6 hR hL; simp [Look, VAt, EqV] at hL; simp [Guarded, setAll, bare, hL]; go_wp2_with fail; exact CalmPost.mk (by simp; rfl) rfl (Ext.refl _)
            · intro w6 hR hL; simp [Look, VAt, EqV] at hL; simp [Guarded, setAll, bare, hL]; go_wp2_with fail; exact CalmPost.mk (by simp; rfl) rfl (Ext.refl _)
            · intro w6 hR hL; simp [Look, VAt, EqV] at hL; simp [Guarded, setAll, bare, hL]; go_wp2_with fail; exact CalmPost.mk (by simp; rfl) rfl (Ext.refl _)
            · intro w6 hR hL; simp [Look, VAt, EqV] at hL; simp [Guarded, setAll, bare, hL]; go_wp2_with (refine wpList_load_part rfl 37 (.tmp 40) rfl p 0 rfl 50 _ (chW c1) (K1.out.ext hR) rfl _ Try.underlying37 rfl (info_size info5) ?_); exact CalmPost.mk (by simp) rfl (Ext.refl _)
            · intro w6 hR hL; simp [Look, VAt, EqV] at hL; simp [Guarded, setAll, bare, hL]; go_wp2_with fail; exact CalmPost.mk (by simp; rfl) rfl (Ext.refl _)
            · intro w6 hR hL; simp [Look, VAt, EqV] at hL; simp [Guarded, setAll, bare, hL]; go_wp2_with fail; exact CalmPost.mk (by simp; rfl) rfl (Ext.refl _)
            · intro w6 hR hL; simp [Look, VAt, EqV] at hL; simp [Guarded, setAll, bare, hL]; go_wp2_with fail; exact CalmPost.mk (by simp; rfl) rfl (Ext.refl _)
            · intro w6 hR hL; have hc6 := hR.cell hc5; simp [Look, VAt, EqV] at hL; simp [Guarded, setAll, bare, hL]; go_wp2_with fail; exact CalmPost.mk (by simp) rfl (Ext.refl _)
            · intro w6 hR hL; simp [Look, VAt, EqV] at hL; simp [Guarded, setAll, bare, hL]; go_wp2_with fail; exact CalmPost.mk (by simp) rfl (Ext.refl _)
            · intro w6 hR hL; have kc6 := kc _ hR; simp [Look, VAt, EqV] at hL; simp [Guarded, setAll, bare, hL]; go_wp2_with fail; exact CalmPost.mk (by simp) rfl (Ext.refl _)
            · intro w6 hR hL; simp [Look, VAt, EqV] at hL; simp [Guarded, setAll, bare, hL]; go_wp2_with fail; refine (press_any c1 (strOf (r1.take 64)) (by rw [strOf_size, List.length_take]; omega) _).mono ?_; rintro ee ww ⟨rfl, hbb⟩; rw [strOf_list, ← KC2.out, chV_eq]; go_wp2_with fail; exact CalmPost.mk (by simp) rfl hbb
            · intro w6 hR hL; simp [Look, VAt, EqV] at hL; simp [Guarded, setAll, bare, hL]; go_wp2_with fail; exact CalmPost.mk (by simp; rfl) rfl (Ext.refl _)
            · intro w6 hR hL; simp [Look, VAt, EqV] at hL; simp [Guarded, setAll, bare, hL]; go_wp2_with fail; exact CalmPost.mk (by simp; rfl) rfl (Ext.refl _)
          case pcalmDone =>
            intro vs w6 hR hL; simp [Look, VAt, EqV] at hL; simp [setAll, hL]; clear hL
            go_wp2_with (refine wpList_store_part_any rfl 37 (.tmp 50) (.tmp 48) rfl rfl p 0 rfl 50 _ (chW c2) rfl (K1.out.ext hR) (by simp [stC, chW, numsV, chL]) (info_size info5) (chW_one _) ?_)
            intro w7 hb7 ht7
            have hb7 : Blk w7 p 50 (stC c2 (.slice (some ⟨b1, off1, none⟩) r1.length cap1) m2.length) := hb7
            have hc5 : w7.cell? ⟨p, 5, none⟩ = some (.slice (some ⟨b1, off1, none⟩) r1.length cap1) := hb7.cell 5
            have hf5 := hb7.free 5
            have hv7 := (KV.out.ext hR).touch ht7 (by intro j hj h; simp at h; subst h; rw [own_cut _ _ _ _ _ r1.length cap1] at hj; exact hpv hj)
            have ht8 := (KT.out.trans (Touch.of_ext (S := []) hR) (by simp)).trans ht7 (by intro j hj; simp at hj; subst hj; exact .inl (by simp))
            have KB7 := Kept.mk hb7
            have KV7 := Kept.mk hv7
            have KT7 := Kept.mk ht8
            have hfin : ∀ (A9 : Option Addr), Buf w7 B 5 (.slice A9 (r1.length - 64) (cap1 - 64)) (bytesV (r1.drop 64)) → own (.slice A9 (r1.length - 64) (cap1 - 64)) = own (.slice (some ⟨b1, off1, none⟩) r1.length cap1) →
                ∃ (c1 : Ch) (r1' : List UInt8) (v2 : Value), r1'.length / 64 = gk - 1 ∧ chain (r1'.length / 64) c1 r1' = midC m2 ∧ r1'.drop (64 * (r1'.length / 64)) = restB m2 ∧ r1'.length ≤ 1000000000 ∧ Blk (w7.setCell ⟨p, 5, none⟩ (.slice A9 (r1.length - 64) (cap1 - 64))) p 50 (stC c1 v2 m2.length) ∧ Buf (w7.setCell ⟨p, 5, none⟩ (.slice A9 (r1.length - 64) (cap1 - 64))) B 5 v2 (bytesV r1') ∧ Touch (p :: own v0) w (w7.setCell ⟨p, 5, none⟩ (.slice A9 (r1.length - 64) (cap1 - 64))) ∧ ∀ j ∈ own v2, j ∈ own v0 ∨ w.heap.size ≤ j := by
              intro A9 hv9 how
              have hts := Touch.set w7 ⟨p, 5, none⟩ (.slice A9 (r1.length - 64) (cap1 - 64))
              have hq1 : r1.length / 64 = (r1.drop 64).length / 64 + 1 := by rw [List.length_drop]; omega
              refine ⟨c2, r1.drop 64, _, by omega, ?_, ?_, by rw [List.length_drop]; omega, hb7.set 5 _, hv9.touch hts (by intro j hj h; simp at h; subst h; rw [how] at hj; exact hpv hj), ht8.trans hts (by intro j hj; simp at hj; subst hj; exact .inl (by simp)), by rw [how]; exact KO.out⟩
              · rw [← KC.out, hq1, chain, KC2.out]
              · rw [← KR.out, hq1, Nat.mul_add, Nat.add_comm, ← List.drop_drop]
            have hcA : cap1 = 64 → Buf w7 B 5 (.slice (some ⟨b1, off1, none⟩) (r1.length - 64) (cap1 - 64)) (bytesV (r1.drop 64)) := fun h => by have := KV7.out; rwa [if_pos h] at this
            have hcB : ¬ cap1 = 64 → Buf w7 B 5 (.slice (some ⟨b1, off1 + 64, none⟩) (r1.length - 64) (cap1 - 64)) (bytesV (r1.drop 64)) := fun h => by have := KV7.out; rw [if_neg h] at this; simpa [Addr.add_lit] using this
            have KFA := Kept.mk (fun h => hfin _ (hcA h) (own_slice _ _ _ _ _))
            have KFB := Kept.mk (fun h => hfin _ (hcB h) rfl)
            clear hb7 hv7 ht8 ht7 hfin hcA hcB
            go_wp2_with fail
            · go_roundg (gk - 1)
              case measure => omega
              case rel =>
                have := KFA.out (by assumption)
                rw [show cap1 - 64 = 0 by omega] at this
                exact this
            · go_roundg (gk - 1)
              case measure => omega
              case rel => exact KFB.out (by assumption)
        · have hltI : (r1.length : Int) < 64 := by omega
          rw [show r1.length / 64 = 0 by omega] at hC hR
          rw [Nat.mul_zero, List.drop_zero] at hR
          have hC : c1 = midC m2 := hC
          subst hC hR
          rw [KM.out] at hb hv ho
          have KB := Kept.mk hb
          have KV := Kept.mk hv
          have KT := Kept.mk ht
          have KO := Kept.mk ho
          clear hb hv ht ho hst
          go_wp2_with fail
          go_roundg (go - 1)
          case measure => omega
          case rel => exact ⟨k + 1, _, by omega, by go_num, KB.out, KV.out, KT.out, KO.out⟩
    · obtain rfl : k = l.length := by omega
      rw [List.take_length] at hb hv
      have KB := Kept.mk hb
      have KV := Kept.mk hv
      have KT := Kept.mk ht
      have KO := Kept.mk ho
      clear hb hv ht ho
      go_wp2_with fail
      refine bodyPost_ret (v := .tuple #[]) ?_ rfl ⟨rfl, _, KB.out, KV.out, KT.out, KO.out⟩
      simp [results, Try.results12, go_sem]
end Sha1
end Go.Proofs.Ythkckmohhbddcaa
