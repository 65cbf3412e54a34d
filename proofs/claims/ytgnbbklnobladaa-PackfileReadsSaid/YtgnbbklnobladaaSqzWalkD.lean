/- The walks of squeeze's at, run, plain. No condition. -/
import Derived.Test.YtgnbbklnobladaaBufTwo
import Derived.Test.YtgnbbklnobladaaDeltaWalkE
import Derived.Test.YtgnbbklnobladaaSqzWalkC
namespace Go.Proofs.Ytgnbbklnobladaa
open Go.RowKit
namespace Sqz
open Delta (TextE infoB wraps_i64 AppE AppE.mk)
set_option linter.unusedSimpArgs false
set_option linter.unusedVariables false
def PlE (w : World) (B : Nat) (v : Value) (l s : List UInt8) (e : Ending) (w' : World) : Prop :=
  ∃ T, (∀ o, Leads o T (o ++ s)) ∧ T.length ≤ 2 * s.length ∧ AppE w B v (l ++ T) e w'
theorem leads_chunk {T p x : List UInt8} (h : ∀ o, Leads o T (o ++ p)) (h0 : 1 ≤ x.length) (h1 : x.length ≤ 128) : ∀ o, Leads o (T ++ UInt8.ofNat (x.length - 1) :: x) (o ++ (p ++ x)) := by
  intro o
  refine (h o).trans ?_
  have := Leads.lit (o ++ p) x [] (o ++ p ++ x) h0 h1 (.nil _)
  rw [List.append_nil] at this
  rwa [← List.append_assoc]
set_option maxRecDepth 100000 in
set_option maxHeartbeats 2000000 in
theorem plain_any (B : Nat) (A0 : Option Addr) (cap0 : Nat) (l s : List UInt8) (hl : l.length ≤ 1000000) (hs : s.length ≤ 1000000) (w : World) (hB : B ≤ w.heap.size) (hv : Buf w B 5 (.slice A0 l.length cap0) (bytesV l)) :
    Calls Try.prog 40 #[.slice A0 l.length cap0, .string (strOf s)] w (PlE w B (.slice A0 l.length cap0) l s) := by
  have hm : Try.prog.follows .mixedOrders = true := by kernel_rfl
  obtain ⟨iB, hiB, hzB, hsB, hbB⟩ := infoB
  have KV0 := Kept.mk hv
  clear hv
  go_enter Try.func40, Try.ntmps40
  go_wp2_with fail
  go_loopg [0, 1] s.length (fun r o sv wi => ∃ (T p rest : List UInt8) (A : Option Addr) (cap : Nat), rest.length = r ∧ p ++ rest = s ∧ (∀ q, Leads q T (q ++ p)) ∧ T.length ≤ 2 * p.length ∧ o = .slice A (l.length + T.length) cap ∧ sv = .string (strOf rest) ∧ Buf wi B 5 (.slice A (l.length + T.length) cap) (bytesV (l ++ T)) ∧ Touch (own (.slice A0 l.length cap0)) w wi ∧ ∀ j ∈ own (.slice A (l.length + T.length) cap), j ∈ own (.slice A0 l.length cap0) ∨ w.heap.size ≤ j)
  case atStart => exact ⟨[], [], s, A0, cap0, rfl, rfl, fun q => by rw [List.append_nil]; exact .nil q, Nat.zero_le _, rfl, rfl, by rw [List.append_nil]; exact KV0.out, Touch.refl _ _, fun j hj => .inl hj⟩
  case round =>
    obtain ⟨T, p, rest, A, cap, hr, hps, hLd, hTl, rfl, rfl, hV, hT, ho⟩ := hrel
    have hsz := strOf_size rest
    have hpl : p.length + rest.length = s.length := by rw [← hps, List.length_append]
    have hll : (bytesV (l ++ T)).length = l.length + T.length := by rw [bytesV_length, List.length_append]
    have hTb : T.length ≤ 2000000 := by omega
    have hww := hT.size
    have hBw : B ≤ wr.heap.size := Nat.le_trans hB hww
    have Kr := Kept.mk hr
    have Kps := Kept.mk hps
    have KLd := Kept.mk hLd
    have KV := Kept.mk hV
    have KT := Kept.mk hT
    have Ko := Kept.mk ho
    have KTl := Kept.mk hTl
    have Kpl := Kept.mk hpl
    have hrb : rest.length ≤ 1000000 := by omega
    clear hr hps hLd hV hT ho hTl hpl
    by_cases h0 : rest.length = 0
    · have hz : ((rest.length : Nat) : Int) = 0 := by omega
      have hnil : rest = [] := List.eq_nil_of_length_eq_zero h0
      have Kn := Kept.mk hnil
      have h0I : ¬ (rest.length : Int) > 0 := by omega
      clear hnil h0 hz
      go_wp2_with fail
      go_ret
      refine ⟨T, ?_, ?_, A, cap, by rw [List.length_append]; rfl, by rw [List.length_append]; exact KV.out, KT.out, by rw [List.length_append]; exact Ko.out⟩
      · have h1 := Kps.out; rw [Kn.out, List.append_nil] at h1; rw [← h1]; exact KLd.out
      · have h1 := KTl.out; have h2 := Kpl.out; omega
    · have h0I : (rest.length : Int) > 0 := by omega
      obtain ⟨n, hn⟩ : ∃ n : Nat, n = if 128 < rest.length then 128 else rest.length := ⟨_, rfl⟩
      have hnI : (if (128 : Int) < (rest.length : Int) then (128 : Int) else (rest.length : Int)) = (n : Int) := by split at hn <;> split <;> omega
      have hn0 : 1 ≤ n := by split at hn <;> omega
      have hn1 : n ≤ 128 := by split at hn <;> omega
      have hn2 : n ≤ rest.length := by split at hn <;> omega
      have hn2I : (n : Int) ≤ (rest.length : Int) := by omega
      have hx : (strOf rest).extract 0 n = strOf (rest.take n) := by rw [strOf_extract]; rfl
      have hy : (strOf rest).extract n rest.length = strOf (rest.drop n) := by
        have := strOf_tail rest n
        rwa [hsz] at this
      have hal : (rest.take n).length = n := by rw [List.length_take]; omega
      have hbl : (rest.drop n).length = rest.length - n := List.length_drop
      have hab : rest.take n ++ rest.drop n = rest := List.take_append_drop _ _
      generalize rest.take n = ra at hx hal hab
      generalize rest.drop n = rb at hy hbl hab
      have haz : (strOf ra).size = n := by rw [strOf_size]; exact hal
      obtain ⟨x, hxe⟩ : ∃ x : Int, x = (n : Int) - 1 := ⟨_, rfl⟩
      have hx0 : 0 ≤ x := by omega
      have hx1 : x ≤ 127 := by omega
      have hxx : (n : Int) - 1 = x := hxe.symm
      have hmod : x % 256 = x := by omega
      have Kal := Kept.mk hal
      have Kbl := Kept.mk hbl
      have Kab := Kept.mk hab
      have Kn := Kept.mk hn
      have Kxe := Kept.mk hxe
      clear hal hbl hab hn hxe h0
      go_wp2_with fail
      refine wp_region_calm (AppR B 5 (.slice A (l.length + T.length) cap) (bytesV (l ++ T)) (bytesV (l ++ T) ++ [.int .u8 x]) w.heap.size) 9 ([] :: [] :: [(13, 1)] :: [(14, 2)] :: [(15, 3)] :: [(12, 0), (16, 4)] :: [] :: [] :: [(18, 6), (19, 7)] :: [])
        ((12, 0) :: (13, 1) :: (14, 2) :: (15, 3) :: (16, 4) :: (17, 5) :: (18, 6) :: (19, 7) :: (20, 8) :: [])
        (EqV ?pce0 :: EqV ?pce1 :: EqV ?pce2 :: EqV ?pce3 :: (fun W u => Buf W wr.heap.size 5 u [.int .u8 x]) :: (fun W u => Near W B 5 (.slice A (l.length + T.length) cap) (bytesV (l ++ T) ++ [.int .u8 x]) w.heap.size u) :: EqV ?pce6 :: EqV ?pce7 :: EqV ?pce8 :: []) hm (by kernel_rfl) AppR.refl AppR.trans AppR.drew
        (MonoL.at (MonoL.eq _ (MonoL.eq _ (MonoL.eq _ (MonoL.eq _ (MonoL.cons (fun W W' u hR hb => hb.touch hR.touch (fun j hj hj2 => by have h1 := (hb.owns j hj).1; have h2 := (KV.out.owns j hj2).2; omega)) (MonoL.cons (fun W W' u hR h => hR.near u h) (MonoL.eq _ (MonoL.eq _ (MonoL.eq _ (MonoL.nil))))))))))) ?pcalmOps ?pcalmDone
      case pcalmOps =>
        intro vs
        refine (CalmOps.cons ?_ (CalmOps.cons ?_ (CalmOps.cons ?_ (CalmOps.cons ?_ (CalmOps.cons ?_ (CalmOps.cons ?_ (CalmOps.cons ?_ (CalmOps.cons ?_ (CalmOps.cons ?_ trivial)))))))))
        · intro w6 hR hL; simp [Look, VAt, EqV] at hL; simp [Guarded, setAll, bare, hL]; go_wp2_with fail; exact CalmPost.mk (by simp; rfl) rfl (AppR.refl _)
        · intro w6 hR hL; simp [Look, VAt, EqV] at hL; simp [Guarded, setAll, bare, hL]; go_wp2_with fail; exact CalmPost.mk (by simp; rfl) rfl (AppR.refl _)
        · intro w6 hR hL; simp [Look, VAt, EqV] at hL; simp [Guarded, setAll, bare, hL]; go_wp2_with fail; exact CalmPost.mk (by simp; rfl) rfl (AppR.refl _)
        · intro w6 hR hL; simp [Look, VAt, EqV] at hL; simp [Guarded, setAll, bare, hL]; go_wp2_with fail; exact CalmPost.mk (by simp; rfl) rfl (AppR.refl _)
        · intro w6 hR hL; simp [Look, VAt, EqV] at hL; simp [Guarded, setAll, bare, hL]; go_wp2_with fail; exact CalmPost.mk (by first | (simp; done) | (simp; rfl) | rfl) (Buf.lit w6 5 wr.heap.size hR.touch.size [.int .u8 x] (by simp [maxLen])) (AppR.ext (Ext.alloc _ _))
        · intro w6 hR hL; simp [Look, VAt, EqV] at hL; obtain ⟨hL0, hB4⟩ := hL; obtain ⟨A4, c4, hL4⟩ := hB4.form; rw [hL4] at hB4; simp only [Guarded, bare, setAll, List.foldl, hL0, hL4]; refine wpList_append_two (P := Try.prog) w6 rfl (.tmp 12) (.tmp 16) 54 54 rfl 5 iB _ Try.underlying54 hiB hzB hsB rfl B (.slice A (l.length + T.length) cap) (bytesV (l ++ T)) (by first | (simp [Act.eval]; done) | (simp [Act.eval]; rfl) | rfl) (hR.kept KV.out) (.slice A4 1 c4) 1 [.int .u8 x] (by first | (simp [Act.eval]; done) | (simp [Act.eval]; rfl) | rfl) (hB4.src _ Try.underlying54 (by simp [Value.oneCell'])) (Nat.le_trans hBw hR.touch.size) (by rw [hll]; simp only [maxLen]; omega) (by rw [hll, hbB]; omega) ?_; intro v' w' h1 h2 h3 h5; have hap := AppR.app (b0 := w.heap.size) (show [Value.int .u8 x].length = 1 from rfl) (hR.kept KV.out) (Nat.le_trans hww hR.touch.size) h1 h2 h5; go_wp2_with fail; exact CalmPost.mk (by first | (simp; done) | (simp; rfl) | rfl) hap.2 hap.1
        · intro w6 hR hL; simp [Look, VAt, EqV] at hL; simp [Guarded, setAll, bare, hL]; go_wp2_with fail; exact CalmPost.mk (by simp; rfl) rfl (AppR.refl _)
        · intro w6 hR hL; simp [Look, VAt, EqV] at hL; simp [Guarded, setAll, bare, hL]; go_wp2_with fail; exact CalmPost.mk (by simp; rfl) rfl (AppR.refl _)
        · intro w6 hR hL; simp [Look, VAt, EqV] at hL; simp [Guarded, setAll, bare, hL]; go_wp2_with fail; exact CalmPost.mk (by simp; rfl) rfl (AppR.refl _)
      case pcalmDone =>
        intro vs w6 hR hL
        simp [Look, VAt, EqV] at hL
        obtain ⟨e0, e1, e2, e3, hB4, hN, e6, e7, e8⟩ := hL
        obtain ⟨hN1, hN2, hN3⟩ := hN
        obtain ⟨A4, c4, e4⟩ := hB4.form
        obtain ⟨b, hb⟩ : ∃ b : UInt8, b = UInt8.ofNat (n - 1) := ⟨_, rfl⟩
        have hbx : ((b.toNat : Nat) : Int) = x := by rw [hb, ofNat_toNat _ (by omega)]; have := Kxe.out; omega
        have hN4 := hN1.byte hbx
        obtain ⟨M1, hM1⟩ : ∃ M1, M1 = l ++ T ++ [b] := ⟨_, rfl⟩
        rw [← hM1] at hN4
        obtain ⟨A5, c5, e5⟩ := hN4.form
        have hl5 : (bytesV M1).length = l.length + T.length + 1 := by rw [hM1, bytesV_length, List.length_append, List.length_append]; rfl
        have KM1 := Kept.mk hM1
        clear hM1
        rw [hl5] at e5
        simp [setAll, e0, e1, e2, e3, e4, e5, e6, e7, e8]
        rw [e5] at hN2 hN4
        have KN2 := Kept.mk hN2
        have KN4 := Kept.mk hN4
        have KT6 := Kept.mk (KT.out.trans hR.touch Ko.out)
        have hBw6 : B ≤ w6.heap.size := Nat.le_trans hBw hR.touch.size
        have hww6 : w.heap.size ≤ w6.heap.size := Nat.le_trans hww hR.touch.size
        have Kb := Kept.mk hb
        clear hN1 hN2 hN3 hN4 hB4 hR e0 e1 e2 e3 e4 e5 e6 e7 e8 hb hbx KV KT
        go_wp2_with (refine wpList_append_buf (P := Try.prog) _ rfl (.tmp 17) (.tmp 20) 54 9 rfl 5 iB _ Try.underlying54 hiB hzB hsB rfl B (.slice A5 (l.length + T.length + 1) c5) (bytesV M1) rfl KN4.out (.string (strOf ra)) n (byteCells (strOf ra)) rfl (by have := Src.ofString w6 Try.underlying9 (strOf ra); rw [haz] at this; exact this) hBw6 (by rw [hl5]; simp only [maxLen]; omega) (by rw [hl5, hbB]; omega) ?_)
        intro v' w' hv' ht' ho'
        rw [byteCells_eq, strOf_list, ← bytesV_append] at hv'
        obtain ⟨A', cap', rfl⟩ := hv'.form
        have hl6 : (bytesV (M1 ++ ra)).length = l.length + (T ++ b :: ra).length := by
          rw [bytesV_length, KM1.out]; simp only [List.length_append, List.length_cons, List.length_nil]; omega
        have hcat : M1 ++ ra = l ++ (T ++ b :: ra) := by rw [KM1.out]; simp
        rw [hl6] at hv' ho' ⊢
        rw [hcat] at hv'
        have KV' := Kept.mk hv'
        have hon : ∀ j ∈ own (Value.slice A5 (l.length + T.length + 1) c5), j ∈ own (Value.slice A0 l.length cap0) ∨ w.heap.size ≤ j := by
          intro j hj
          rcases KN2.out j hj with h | h
          · exact Ko.out j h
          · exact .inr h
        have KT' := Kept.mk (KT6.out.trans ht' hon)
        have Ko' := Kept.mk (show ∀ j ∈ own (Value.slice A' (l.length + (T ++ b :: ra).length) cap'), j ∈ own (Value.slice A0 l.length cap0) ∨ w.heap.size ≤ j by
          intro j hj
          rcases ho' with h | h
          · rw [h] at hj; exact hon j hj
          · rw [h, List.mem_singleton] at hj; exact .inr (by omega))
        have KLd' := Kept.mk (show ∀ q, Leads q (T ++ b :: ra) (q ++ (p ++ ra)) by
          rw [Kb.out]
          have h1 := leads_chunk KLd.out (x := ra) (by rw [Kal.out]; omega) (by rw [Kal.out]; omega)
          rw [Kal.out] at h1
          exact h1)
        have KTl' := Kept.mk (show (T ++ b :: ra).length ≤ 2 * (p ++ ra).length by
          rw [List.length_append, List.length_append, List.length_cons, Kal.out]; have := KTl.out; omega)
        generalize T ++ b :: ra = T' at KV' KT' Ko' KLd' KTl' ⊢
        clear hv' ht' ho' hon hl6 hcat hl5 KN2 KN4 KT6
        go_wp2_with fail
        go_roundg rb.length
        case measure => have := Kbl.out; have := Kr.out; omega
        case rel => exact ⟨T', p ++ ra, rb, A', cap', rfl, by rw [List.append_assoc, Kab.out]; exact Kps.out, KLd'.out, KTl'.out, rfl, by first | rfl | rw [hy], KV'.out, KT'.out, Ko'.out⟩
end Sqz
end Go.Proofs.Ytgnbbklnobladaa
