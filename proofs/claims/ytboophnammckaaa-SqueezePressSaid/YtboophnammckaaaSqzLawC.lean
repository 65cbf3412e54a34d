/- The law SqueezePress: a text of pieces, pressed and opened. No condition. -/
import Derived.Test.YtboophnammckaaaSqzLawA
import Derived.Test.YtboophnammckaaaFlat
namespace Go.Proofs.Ytboophnammckaaa
open Go.RowKit Go.Maps
namespace Sqz
open Delta (TextE infoB wraps_i64)
set_option linter.unusedSimpArgs false
set_option linter.unusedVariables false
def pc (z : ByteArray × Int) : List Value := [.string z.1, .int .i64 z.2]
def InPieces (W : World) (a : Option Addr) (len cap : Nat) (zs : List (ByteArray × Int)) : Prop :=
  InFlat W a len cap (zs.map pc) ∧ ∀ z ∈ zs, z.1.size ≤ reachBytes ∧ (Lit.int .i64 z.2).wf = true
theorem in_pieces {H : Type} {enc : TypeId × Value → H} {W : World} {base : Nat} {spare : Nat → Bool} {held : Bool} {a : Option Addr} {len cap : Nat} {d : DataW H} {p : List MemPlace}
    (h : DataW.Trod enc Try.prog W base spare held 29 (.slice a len cap) d p) (hw : ∀ n ∈ d.weights Try.prog 29, n ≤ reachBytes) : ∃ zs, InPieces W a len cap zs := by
  obtain ⟨css, h1, h2⟩ := in_flat 2 Try.underlying29 (by kernel_rfl) (by decide) h
  obtain ⟨zs, rfl, h3⟩ := list_of (f := pc) (p := fun z => z.1.size ≤ reachBytes ∧ (Lit.int .i64 z.2).wf = true) css (fun c hc => by
    obtain ⟨hl, n, x, hx, hxw⟩ := h2 c hc
    obtain ⟨s, e0, hs⟩ := leaf_string_sized (n := 2) (off := 0) (t' := 9) (by kernel_rfl) Try.underlying9 hx (fun k hk => hw k (hxw k hk))
    obtain ⟨y, e1, hy⟩ := leaf_int (n := 2) (off := 1) (t' := 3) (k := .i64) (by kernel_rfl) Try.underlying3 hx
    refine ⟨(s, y), ?_, hs, hy⟩
    match c, hl with
    | [c0, c1], _ => simp at e0 e1; simp [pc, e0, e1])
  exact ⟨zs, h1, h3⟩
theorem InPieces.at {W : World} {a : Option Addr} {len cap : Nat} {zs : List (ByteArray × Int)} (h : InPieces W a len cap zs) {i : Nat} (hi : i < len) :
    ∃ (b off : Nat) (z : ByteArray × Int), a = some ⟨b, off, none⟩ ∧ b < W.heap.size ∧ z.1.size ≤ reachBytes ∧ (Lit.int .i64 z.2).wf = true ∧ W.cell? ⟨b, off + i * 2, none⟩ = some (.string z.1) ∧ W.cell? ⟨b, off + i * 2 + 1, none⟩ = some (.int .i64 z.2) := by
  obtain ⟨⟨h1, h2, h3, h4, h5⟩, h6⟩ := h
  have hl : zs.length = len := by simpa using h1
  have hz : zs[i]? = some (zs[i]'(by omega)) := List.getElem?_eq_getElem (by omega)
  generalize zs[i]'(by omega) = z at hz
  have hm : z ∈ zs := List.mem_of_getElem? hz
  have hcs : ∀ c ∈ zs.map pc, c.length = 2 := by
    intro c hc
    obtain ⟨z, _, rfl⟩ := List.mem_map.1 hc
    rfl
  have f0 := flat_at 2 (zs.map pc) i 0 hcs (by decide)
  have f1 := flat_at 2 (zs.map pc) i 1 hcs (by decide)
  simp only [List.getElem?_map, hz] at f0 f1
  have f0' : (zs.map pc).flatten[i * 2]? = some (.string z.1) := f0
  have f1' : (zs.map pc).flatten[i * 2 + 1]? = some (.int .i64 z.2) := f1
  obtain ⟨b, off, rfl, hc⟩ := h4.at (by
    have := (List.getElem?_eq_some_iff.1 f0').1
    omega)
  have c0 := hc _ _ f0'
  have c1 := hc _ _ f1'
  exact ⟨b, off, z, rfl, World.block_lt_of_cell? _ _ c0, (h6 z hm).1, (h6 z hm).2, c0, c1⟩
def SomeText (w : World) (e : Ending) (w1 : World) : Prop := ∃ t : List UInt8, t.length ≤ 30000 ∧ e = .returned (.string (strOf t)) ∧ Ext w w1
set_option maxRecDepth 100000 in
set_option maxHeartbeats 2000000 in
theorem text_any (w0 w : World) (a : Option Addr) (len cap : Nat) (zs : List (ByteArray × Int)) (h : InPieces w0 a len cap zs) (h0 : Ext w0 w) : Calls Try.prog 10 #[.slice a len cap] w (SomeText w) := by
  obtain ⟨iB, hiB, hzB, hsB, hbB⟩ := infoB
  have hlm : len ≤ 9223372036854775807 := Nat.le_trans h.1.2.1 h.1.2.2.1
  have KP := Kept.mk h
  have K0 := Kept.mk h0
  clear h h0
  go_enter Try.func10, Try.ntmps10
  go_wp2_with fail
  go_loopg [3, 4] len (fun r o iv wi => ∃ (i : Nat) (T : List UInt8) (A : Option Addr) (c : Nat), i + r = len ∧ o = .slice A T.length c ∧ iv = .int .i64 (i : Int) ∧ T.length ≤ 30000 ∧ Buf wi w.heap.size 5 (.slice A T.length c) (bytesV T) ∧ Ext w wi)
  case atStart => exact ⟨0, [], none, 0, by omega, rfl, rfl, by simp, Buf.nil _ _ _, Ext.refl _⟩
  case round =>
    obtain ⟨i, T, A, c, hr, rfl, rfl, hT, hV, hE⟩ := hrel
    have KV := Kept.mk hV
    have KE := Kept.mk hE
    have Kr := Kept.mk hr
    have hil : i ≤ len := by omega
    clear hr hV hE
    by_cases hlt : i < len
    · have hltI : (i : Int) < (len : Int) := by omega
      obtain ⟨b, off, ⟨s, N⟩, rfl, hb, hsz, hN, c0, c1⟩ := KP.out.at hlt
      obtain ⟨l, rfl⟩ : ∃ l, s = strOf l := ⟨_, (strOf_self s).symm⟩
      simp only [] at hsz hN c0 c1
      have hlz := strOf_size l
      rw [hlz] at hsz
      have hN1 := (by simpa [Lit.wf, IntKind.min, IntKind.max, IntKind.signed, IntKind.bits] using hN : _ ∧ _)
      have Kc0 := Kept.mk c0
      have Kc1 := Kept.mk c1
      unfold reachBytes at hsz
      clear c0 c1 hN hb
      go_wp2_with fail
      obtain ⟨g1, hg1⟩ : ∃ g, g = gk := ⟨gk, rfl⟩
      subst hg1
      go_loopg [3, 5] N.toNat (fun r o kv wi => ∃ (k : Nat) (T : List UInt8) (A : Option Addr) (c : Nat), k + r = N.toNat ∧ o = .slice A T.length c ∧ kv = .int .i64 (k : Int) ∧ T.length ≤ 30000 ∧ Buf wi w.heap.size 5 (.slice A T.length c) (bytesV T) ∧ Ext w wi)
      case atStart => exact ⟨0, T, A, c, by omega, rfl, rfl, hT, KV.out, KE.out⟩
      case round =>
        clear KV KE hT
        obtain ⟨k, T, A, c, hr, rfl, rfl, hT, hV, hE⟩ := hrel
        have c0 := (K0.out.trans hE).cell Kc0.out
        have c1 := (K0.out.trans hE).cell Kc1.out
        have KV := Kept.mk hV
        have KE := Kept.mk hE
        have Kk := Kept.mk hr
        have hBw := hE.size
        have hTl : (bytesV T).length = T.length := bytesV_length _
        clear hr hV hE
        by_cases hk : (k : Int) < N
        · by_cases hl0 : 0 < l.length
          · have hl0I : (0 : Int) < (l.length : Int) := by omega
            by_cases hfit : T.length + l.length ≤ 30000
            · have hfitI : (T.length : Int) + (l.length : Int) ≤ 30000 := by omega
              go_wp2_with (refine wpList_append_buf (P := Try.prog) _ rfl (.tmp 42) (.tmp 47) 33 9 rfl 5 iB (.int .u8 0) Try.underlying33 hiB hzB hsB rfl w.heap.size (.slice A T.length c) (bytesV T) rfl KV.out (.string (strOf l)) l.length (byteCells (strOf l)) rfl (by have := Src.ofString wr Try.underlying9 (strOf l); rw [strOf_size] at this; exact this) hBw (by rw [hTl]; simp only [maxLen]; omega) (by rw [hTl, hbB]; omega) ?_)
              intro v' w' hv' ht' ho'
              rw [byteCells_eq, strOf_list, ← bytesV_append] at hv'
              obtain ⟨A', cap', rfl⟩ := hv'.form
              have hl6 : (bytesV (T ++ l)).length = (T ++ l).length := bytesV_length _
              have hT2 : (T ++ l).length ≤ 30000 := by rw [List.length_append]; omega
              rw [hl6] at hv' ⊢
              have hE' : Ext w w' := Touch.below KE.out ht' (fun j hj => (KV.out.owns j hj).1) hBw
              generalize T ++ l = T2 at hv' hT2 ⊢
              have KV2 := Kept.mk hv'
              have KE2 := Kept.mk hE'
              clear hv' ht' ho' hl6 hE'
              go_wp2_with fail
              go_roundg (gk - 1)
              case measure => have := Kk.out; omega
              case rel => exact ⟨k + 1, T2, A', cap', by have := Kk.out; omega, rfl, by first | rfl | simp, hT2, KV2.out, KE2.out⟩
            · have hfitI : ¬ (T.length : Int) + (l.length : Int) ≤ 30000 := by omega
              go_wp2_with fail
              go_roundg (g1 - 1)
              case measure => have := Kr.out; omega
              case rel => exact ⟨i + 1, T, A, c, by have := Kr.out; omega, rfl, by first | rfl | simp, hT, KV.out, KE.out⟩
          · have hl0I : ¬ (0 : Int) < (l.length : Int) := by omega
            go_wp2_with fail
            go_roundg (g1 - 1)
            case measure => have := Kr.out; omega
            case rel => exact ⟨i + 1, T, A, c, by have := Kr.out; omega, rfl, by first | rfl | simp, hT, KV.out, KE.out⟩
        · go_wp2_with fail
          go_roundg (g1 - 1)
          case measure => have := Kr.out; omega
          case rel => exact ⟨i + 1, T, A, c, by have := Kr.out; omega, rfl, by first | rfl | simp, hT, KV.out, KE.out⟩
    · obtain rfl : i = len := by omega
      have hltI : ¬ (i : Int) < (i : Int) := by omega
      have kc : (convert 33 9 (.slice A T.length c)).run Try.prog wr = .ok (.string (strOf T)) wr := conv_buf wr _ _ _ Try.underlying33 Try.underlying5 Try.underlying9 _ KV.out
      go_wp2_with fail
      go_ret
      exact ⟨T, hT, rfl, KE.out⟩
set_option maxRecDepth 100000 in
set_option maxHeartbeats 4000000 in
theorem press_law (w : World) (a : Option Addr) (len cap : Nat) (zs : List (ByteArray × Int)) (h : InPieces w a len cap zs) (s : ByteArray) (hs : s.size ≤ 9223372036854775807) : Calls Try.prog 4 #[.slice a len cap, .string s] w fun e w1 => e = .returned (.bool true) ∧ Below w.heap.size w w1 := by
  obtain ⟨l, rfl⟩ : ∃ l, s = strOf l := ⟨_, (strOf_self s).symm⟩
  have hlz := strOf_size l
  have KP := Kept.mk h
  clear hs h
  by_cases h1 : 50 < len
  · have h1I : (len : Int) > 50 := by omega
    go_enter Try.func4, Try.ntmps4
    go_wp2_with fail
    refine (awake_any _).mono ?_
    rintro e w1 ⟨rfl, h1⟩
    go_wp2_with fail
    go_ret
    exact ⟨rfl, h1⟩
  · have h1I : ¬ (len : Int) > 50 := by omega
    by_cases h2 : 5000 < l.length
    · have h2I : (l.length : Int) > 5000 := by omega
      go_enter Try.func4, Try.ntmps4
      go_wp2_with fail
      refine (awake_any _).mono ?_
      rintro e w1 ⟨rfl, h1⟩
      go_wp2_with fail
      go_ret
      exact ⟨rfl, h1⟩
    · have h2I : ¬ (l.length : Int) > 5000 := by omega
      go_enter Try.func4, Try.ntmps4
      go_wp2_with fail
      refine (awake_any _).mono ?_
      rintro e w1 ⟨rfl, h1⟩
      have K1 := Kept.mk h1
      clear h1
      go_wp2_with fail
      refine (text_any w _ a len cap zs KP.out K1.out).mono ?_
      rintro e w2 ⟨t, ht, rfl, h2⟩
      have hcc : strOf t ++ strOf l = strOf (t ++ l) := strOf_append _ _
      have hzz : (strOf t).size + (strOf l).size ≤ 9223372036854775807 := by rw [strOf_size, strOf_size]; omega
      have hTl : (t ++ l).length ≤ 35000 := by rw [List.length_append]; omega
      generalize t ++ l = T at hcc hTl
      have K2 := Kept.mk (K1.out.trans h2)
      clear h2
      go_wp2_with fail
      refine (press_any T (by omega) _).mono ?_
      rintro e w3 ⟨q, rfl, h3, hql, hq⟩
      have K3 := Kept.mk (Ext.trans K2.out h3)
      have Kq := Kept.mk (fun (M : Int) (hM : 0 ≤ M) => open_press hq M hM)
      have hTz := strOf_size T
      have hqz := strOf_size q
      clear h3 hq hcc hzz ht hlz
      have hqlI : (q.length : Int) ≤ (T.length : Int) + 1 := by omega
      go_wp2_with fail
      refine (open_any q (by omega) T.length _).mono ?_
      rintro e w4 ⟨rfl, h4⟩
      have K4 := Kept.mk (Ext.trans K3.out h4)
      have hop : openP q T.length = (T, 0) := by
        unfold openP
        rw [if_neg (by omega), Kq.out _ (by omega), if_neg (by omega)]
      rw [hop]
      have Kop := Kept.mk hop
      clear h4 hop
      go_wp2_with fail
      refine (refOpen_any q (by omega) T.length _).mono ?_
      rintro e w5 ⟨rfl, h5⟩
      have K5 := Kept.mk (Ext.trans K4.out h5)
      rw [Kop.out]
      clear h5
      by_cases h0 : 0 < T.length
      · have h0I : (0 : Int) < (T.length : Int) := by omega
        go_wp2_with fail
        refine (open_any q (by omega) ((T.length : Int) - 1) _).mono ?_
        rintro e w6 ⟨rfl, h6⟩
        have K6 := Kept.mk (Ext.trans K5.out h6)
        have hop : openP q ((T.length : Int) - 1) = ([], 9) := by
          unfold openP
          rw [if_neg (by omega), Kq.out _ (by omega), if_pos (by omega)]
        rw [hop]
        clear hop h6
        go_wp2_with fail
        go_ret
        exact ⟨by first | rfl | simp, K6.out⟩
      · have h0I : ¬ (0 : Int) < (T.length : Int) := by omega
        go_wp2_with fail
        go_ret
        exact ⟨by first | rfl | simp, K5.out⟩
end Sqz
end Go.Proofs.Ytboophnammckaaa
