/- The walks of packfile's Read and Chains. No condition. -/
import Derived.Test.YtgnbbklnobladaaPackWalkE
namespace Go.Proofs.Ytgnbbklnobladaa
open Go.RowKit
namespace Pack
open Work (ints ints_length)
set_option linter.unusedSimpArgs false
set_option linter.unusedVariables false
/-- What Read, Chains answer. -/
def ReadIE (w : World) (p : List UInt8) (e : Ending) (w' : World) : Prop :=
  ∃ v, e = .returned (.tuple #[v, .int .i64 (readP p).2.2]) ∧ Ext w w' ∧ BufS 2 w' w.heap.size 42 v ((readP p).1.map itV)
def ReadCE (w : World) (p : List UInt8) (e : Ending) (w' : World) : Prop :=
  ∃ v, e = .returned (.tuple #[v, .int .i64 (readP p).2.2]) ∧ Ext w w' ∧ Buf w' w.heap.size 3 v (ints (readP p).2.1)
theorem runP_bad : ∀ (n : Nat) (its : List It) (chs : List Int) (s : List UInt8), (runP n its chs s).2.2 ≠ 0 → (runP n its chs s).1 = [] ∧ (runP n its chs s).2.1 = []
  | 0, its, chs, s, h => by
    unfold runP at h ⊢
    split
    · rename_i h0; rw [if_pos h0] at h; exact absurd rfl h
    · exact ⟨rfl, rfl⟩
  | n + 1, its, chs, s, h => by
    unfold runP at h ⊢
    split
    · rename_i h0; rw [if_pos h0] at h; exact runP_bad n _ _ _ h
    · exact ⟨rfl, rfl⟩
theorem readP_bad (p : List UInt8) (h : (readP p).2.2 ≠ 0) : (readP p).1 = [] ∧ (readP p).2.1 = [] := by
  unfold readP at h ⊢
  repeat' split
  all_goals first
    | exact ⟨rfl, rfl⟩
    | (refine runP_bad _ _ _ _ ?_
       rename_i h1 h2 h3 h4 h5
       rwa [if_neg h1, if_neg h2, if_neg h3, if_neg h4, if_neg h5] at h)
set_option maxRecDepth 100000 in
set_option maxHeartbeats 1000000 in
theorem readI_any (p : List UInt8) (hp : p.length ≤ 900000) (w : World) : Calls Try.prog 6 #[.string (strOf p)] w (ReadIE w p) := by
  have KB := Kept.mk (readP_bad p)
  go_enter Try.func6, Try.ntmps6
  go_wp2_with fail
  refine (read_any p hp _).mono ?_
  rintro e w1 ⟨q, rfl, hE, hR⟩
  have KE := Kept.mk hE
  obtain ⟨RP, hRP⟩ : ∃ R, R = readP p := ⟨_, rfl⟩
  have KP := Kept.mk hRP.symm
  rw [← hRP] at hR KB ⊢
  clear hRP hE
  obtain ⟨ri, rc, re⟩ := RP
  simp only [] at hR KB ⊢
  by_cases h0 : re = 0
  · subst h0
    obtain ⟨g, iv, cv, rfl, hRd⟩ := hR rfl
    have KR := Kept.mk hRd
    clear hR KB
    have c1 : w1.cell? ⟨g, 1, none⟩ = some iv := by rw [hRd.blk.cell]; rfl
    clear hRd
    go_wp2_with fail
    go_ret2
    exact ⟨iv, by rw [KP.out]; rfl, KE.out, by rw [KP.out]; exact KR.out.items⟩
  · have hne : (re != 0) = true := by simpa using h0
    obtain ⟨rfl, rfl⟩ := KB.out h0
    clear h0 hR KB
    go_wp2_with fail
    go_ret2
    exact ⟨.slice none 0 0, by rw [KP.out]; rfl, KE.out, by rw [KP.out]; exact BufS.nil 2 _ _ _⟩
set_option maxRecDepth 100000 in
set_option maxHeartbeats 1000000 in
theorem readC_any (p : List UInt8) (hp : p.length ≤ 900000) (w : World) : Calls Try.prog 7 #[.string (strOf p)] w (ReadCE w p) := by
  have KB := Kept.mk (readP_bad p)
  go_enter Try.func7, Try.ntmps7
  go_wp2_with fail
  refine (read_any p hp _).mono ?_
  rintro e w1 ⟨q, rfl, hE, hR⟩
  have KE := Kept.mk hE
  obtain ⟨RP, hRP⟩ : ∃ R, R = readP p := ⟨_, rfl⟩
  have KP := Kept.mk hRP.symm
  rw [← hRP] at hR KB ⊢
  clear hRP hE
  obtain ⟨ri, rc, re⟩ := RP
  simp only [] at hR KB ⊢
  by_cases h0 : re = 0
  · subst h0
    obtain ⟨g, iv, cv, rfl, hRd⟩ := hR rfl
    have KR := Kept.mk hRd
    clear hR KB
    have c1 : w1.cell? ⟨g, 2, none⟩ = some cv := by rw [hRd.blk.cell]; rfl
    clear hRd
    go_wp2_with fail
    go_ret2
    exact ⟨cv, by rw [KP.out]; rfl, KE.out, by rw [KP.out]; exact KR.out.chains⟩
  · have hne : (re != 0) = true := by simpa using h0
    obtain ⟨rfl, rfl⟩ := KB.out h0
    clear h0 hR KB
    go_wp2_with fail
    go_ret2
    exact ⟨.slice none 0 0, by rw [KP.out]; rfl, KE.out, by rw [KP.out]; exact Buf.nil _ _ _⟩
end Pack
end Go.Proofs.Ytgnbbklnobladaa
