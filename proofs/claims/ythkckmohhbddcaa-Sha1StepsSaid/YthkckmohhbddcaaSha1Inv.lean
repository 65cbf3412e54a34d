/- SHA-1: a step is undone by Back, and Back by a step. Plain words. No condition. -/
import Derived.Test.YthkckmohhbddcaaSha1Plain
namespace Go.Proofs.Ythkckmohhbddcaa
open Go.RowKit
namespace Sha1
theorem rot30 (x : Int) (h0 : 0 ≤ x) (h1 : x < 4294967296) : rotI x 30 = x % 4 * 1073741824 + x / 4 := by
  unfold rotI
  rw [show x * 2 ^ 30 % 4294967296 = x % 4 * 1073741824 by omega, show x / 2 ^ (32 - 30) = x / 4 by rfl]
  exact bits_join .u32 32 (by decide) wraps_u32 30 (x % 4 * 1073741824) (x / 4) (by omega) (by omega) (by omega) (by omega) (by omega) (by omega)
theorem rot2 (x : Int) (h0 : 0 ≤ x) (h1 : x < 4294967296) : rotI x 2 = x % 1073741824 * 4 + x / 1073741824 := by
  unfold rotI
  rw [show x * 2 ^ 2 % 4294967296 = x % 1073741824 * 4 by omega, show x / 2 ^ (32 - 2) = x / 1073741824 by rfl]
  exact bits_join .u32 32 (by decide) wraps_u32 2 (x % 1073741824 * 4) (x / 1073741824) (by omega) (by omega) (by omega) (by omega) (by omega) (by omega)
theorem rot_30_2 (x : Int) (h0 : 0 ≤ x) (h1 : x < 4294967296) : rotI (rotI x 30) 2 = x := by
  rw [rot30 x h0 h1, rot2 _ (by omega) (by omega)]; omega
theorem rot_2_30 (x : Int) (h0 : 0 ≤ x) (h1 : x < 4294967296) : rotI (rotI x 2) 30 = x := by
  rw [rot2 x h0 h1, rot30 _ (by omega) (by omega)]; omega
theorem back_step (x : Ch) (t w : Int) (hb : 0 ≤ x.b ∧ x.b < 4294967296) (he : 0 ≤ x.e ∧ x.e < 4294967296) : backC (stepC x t w) t w = x := by
  obtain ⟨a, b, c, d, e⟩ := x
  simp only [backC, stepC] at *
  rw [rot_30_2 b hb.1 hb.2]
  congr 1
  generalize rotI a 5 = r
  generalize mixI t b c d = m
  omega
theorem step_back (x : Ch) (t w : Int) (ha : 0 ≤ x.a ∧ x.a < 4294967296) (hc : 0 ≤ x.c ∧ x.c < 4294967296) : stepC (backC x t w) t w = x := by
  obtain ⟨a, b, c, d, e⟩ := x
  simp only [backC, stepC] at *
  rw [rot_2_30 c hc.1 hc.2]
  congr 1
  generalize rotI b 5 = r
  generalize mixI t (rotI c 2) d e = m
  omega
theorem mix_clamp (t b c d : Int) : mixI (max 0 (min t 79)) b c d = mixI t b c d := by
  unfold mixI
  by_cases h1 : t < 20
  · rw [if_pos h1, if_pos (show max 0 (min t 79) < 20 by omega)]
  rw [if_neg h1, if_neg (show ¬ max 0 (min t 79) < 20 by omega)]
  by_cases h2 : t < 40
  · rw [if_pos h2, if_pos (show max 0 (min t 79) < 40 by omega)]
  rw [if_neg h2, if_neg (show ¬ max 0 (min t 79) < 40 by omega)]
  by_cases h3 : t < 60
  · rw [if_pos h3, if_pos (show max 0 (min t 79) < 60 by omega)]
  rw [if_neg h3, if_neg (show ¬ max 0 (min t 79) < 60 by omega)]
theorem step_clamp (x : Ch) (t w : Int) : stepC x (max 0 (min t 79)) w = stepC x t w := by unfold stepC; rw [mix_clamp]
theorem back_clamp (x : Ch) (t w : Int) : backC x (max 0 (min t 79)) w = backC x t w := by unfold backC; rw [mix_clamp]
end Sha1
end Go.Proofs.Ythkckmohhbddcaa
