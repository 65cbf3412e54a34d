/- Plain words on squeezed texts. No condition. -/
import Derived.Test.YtgnbbklnobladaaDeltaPlain
namespace Go.Proofs.Ytgnbbklnobladaa
open Go.RowKit
namespace Sqz
/-- Bytes copied from far back, one by one. -/
def rep (far : Nat) : Nat → List UInt8 → List UInt8
  | 0, out => out
  | n + 1, out => rep far n (out ++ [out.getD (out.length - far) 0])
theorem rep_length (far : Nat) : ∀ n out, (rep far n out).length = out.length + n
  | 0, _ => rfl
  | n + 1, out => by rw [rep, rep_length far n]; simp; omega
theorem rep_snoc (far : Nat) : ∀ n out, rep far (n + 1) out = rep far n out ++ [(rep far n out).getD ((rep far n out).length - far) 0]
  | 0, _ => rfl
  | n + 1, out => by
    rw [rep, rep_snoc far n]
    rfl
def tok (s : List UInt8) : Nat := (s.getD 0 0).toNat
def farP (s : List UInt8) : Nat := (s.getD 1 0).toNat * 256 + (s.getD 2 0).toNat
/-- What the first token does: the error, the text behind, how many bytes the token has. -/
def tokStep (most : Int) (out s : List UInt8) : Int × List UInt8 × Nat :=
  if tok s < 128 then
    if s.length < tok s + 2 then (2, [], 0)
    else if most < (out.length : Int) + tok s + 1 then (9, [], 0)
    else (0, out ++ (s.drop 1).take (tok s + 1), tok s + 2)
  else
    if s.length < 3 then (2, [], 0)
    else if farP s = 0 ∨ out.length < farP s then (3, [], 0)
    else if most < (out.length : Int) + (tok s - 124 : Nat) then (9, [], 0)
    else (0, rep (farP s) (tok s - 124) out, 3)
def tokRun (most : Int) : Nat → List UInt8 → List UInt8 → List UInt8 × Int
  | 0, _, _ => ([], 2)
  | k + 1, out, s =>
    if s = [] then (out, 0)
    else if (tokStep most out s).1 ≠ 0 then ([], (tokStep most out s).1)
    else tokRun most k (tokStep most out s).2.1 (s.drop (tokStep most out s).2.2)
theorem tokStep_pos (most : Int) (out s : List UInt8) (h : (tokStep most out s).1 = 0) : 2 ≤ (tokStep most out s).2.2 ∧ (tokStep most out s).2.2 ≤ s.length := by
  unfold tokStep at h ⊢
  split
  · rename_i h0; rw [if_pos h0] at h
    split
    · rename_i h1; rw [if_pos h1] at h; exact absurd h (by decide)
    · rename_i h1; rw [if_neg h1] at h
      split
      · rename_i h2; rw [if_pos h2] at h; exact absurd h (by decide)
      · simp only []; omega
  · rename_i h0; rw [if_neg h0] at h
    split
    · rename_i h1; rw [if_pos h1] at h; exact absurd h (by decide)
    · rename_i h1; rw [if_neg h1] at h
      split
      · rename_i h2; rw [if_pos h2] at h; exact absurd h (by decide)
      · rename_i h2; rw [if_neg h2] at h
        split
        · rename_i h3; rw [if_pos h3] at h; exact absurd h (by decide)
        · simp only []; omega
theorem tokRun_fuel (most : Int) : ∀ (n k : Nat) (out s : List UInt8), s.length ≤ n → n < k → tokRun most k out s = tokRun most (n + 1) out s
  | n, 0, _, _, _, h => by omega
  | 0, k + 1, out, s, hs, _ => by
    have : s = [] := List.eq_nil_of_length_eq_zero (by omega)
    subst this
    simp only [tokRun, if_true]
  | n + 1, k + 1, out, s, hs, hk => by
    unfold tokRun
    by_cases h0 : s = []
    · rw [if_pos h0, if_pos h0]
    · rw [if_neg h0, if_neg h0]
      by_cases h1 : (tokStep most out s).1 ≠ 0
      · rw [if_pos h1, if_pos h1]
      · rw [if_neg h1, if_neg h1]
        have h2 := tokStep_pos most out s (by simpa using h1)
        rw [tokRun_fuel most n k _ _ (by rw [List.length_drop]; omega) (by omega)]
/-- What tokens tell behind what was told. -/
def toks (most : Int) (out s : List UInt8) : List UInt8 × Int := tokRun most (s.length + 1) out s
theorem toks_nil (most : Int) (out : List UInt8) : toks most out [] = (out, 0) := by simp only [toks, tokRun, if_true]
theorem toks_bad (most : Int) (out s : List UInt8) (hs : s ≠ []) (e : Int) (x : List UInt8) (n : Nat) (h : tokStep most out s = (e, x, n)) (he : e ≠ 0) : toks most out s = ([], e) := by
  unfold toks
  rw [tokRun, if_neg hs, h, if_pos he]
theorem toks_good (most : Int) (out s : List UInt8) (hs : s ≠ []) (x : List UInt8) (n : Nat) (h : tokStep most out s = (0, x, n)) : toks most out s = toks most x (s.drop n) := by
  unfold toks
  rw [tokRun, if_neg hs, h, if_neg (by simp)]
  have h2 := tokStep_pos most out s (by rw [h])
  rw [h] at h2
  have hp : 0 < s.length := List.length_pos_iff.2 hs
  rw [tokRun_fuel most (s.drop n).length s.length _ _ (Nat.le_refl _) (by rw [List.length_drop]; simp only [] at h2; omega)]
def openM (most : Int) (s : List UInt8) : List UInt8 × Int :=
  if s = [] then ([], 2)
  else if byt s 0 = 0 then (if most < (s.length : Int) - 1 then ([], 9) else (s.drop 1, 0))
  else if byt s 0 = 1 then toks most [] (s.drop 1)
  else ([], 3)
def openP (s : List UInt8) (most : Int) : List UInt8 × Int := openM (if most < 0 then 0 else most) s
/-- Tokens that lead from one text to another. -/
inductive Leads : List UInt8 → List UInt8 → List UInt8 → Prop
  | nil (out : List UInt8) : Leads out [] out
  | lit (out x T o2 : List UInt8) (h0 : 1 ≤ x.length) (h1 : x.length ≤ 128) (h : Leads (out ++ x) T o2) : Leads out (UInt8.ofNat (x.length - 1) :: (x ++ T)) o2
  | far (out : List UInt8) (n f : Nat) (T o2 : List UInt8) (hn : 4 ≤ n) (hn2 : n ≤ 131) (hf : 1 ≤ f) (hf2 : f ≤ 65535) (hfo : f ≤ out.length) (h : Leads (rep f n out) T o2) :
    Leads out (UInt8.ofNat (n + 124) :: UInt8.ofNat (f / 256) :: UInt8.ofNat (f % 256) :: T) o2
theorem Leads.trans {a s b t c : List UInt8} (h : Leads a s b) (k : Leads b t c) : Leads a (s ++ t) c := by
  induction h with
  | nil out => exact k
  | lit out x T o2 h0 h1 h ih => rw [List.cons_append, List.append_assoc]; exact .lit out x _ _ h0 h1 (ih k)
  | far out n f T o2 hn hn2 hf hf2 hfo h ih => rw [List.cons_append, List.cons_append, List.cons_append]; exact .far out n f _ _ hn hn2 hf hf2 hfo (ih k)
theorem Leads.le {a s b : List UInt8} (h : Leads a s b) : a.length ≤ b.length := by
  induction h with
  | nil out => exact Nat.le_refl _
  | lit out x T o2 h0 h1 h ih => rw [List.length_append] at ih; omega
  | far out n f T o2 hn hn2 hf hf2 hfo h ih => rw [rep_length] at ih; omega
theorem tok_cons (b : UInt8) (r : List UInt8) : tok (b :: r) = b.toNat := rfl
theorem ofNat_toNat (n : Nat) (h : n < 256) : (UInt8.ofNat n).toNat = n := by simp; omega
theorem step_lit (most : Int) (out x T : List UInt8) (h0 : 1 ≤ x.length) (h1 : x.length ≤ 128) :
    tokStep most out (UInt8.ofNat (x.length - 1) :: (x ++ T)) = if most < (out.length : Int) + x.length then (9, [], 0) else (0, out ++ x, x.length + 1) := by
  have ht : tok (UInt8.ofNat (x.length - 1) :: (x ++ T)) = x.length - 1 := by rw [tok_cons, ofNat_toNat _ (by omega)]
  unfold tokStep
  rw [ht, if_pos (by omega), if_neg (by simp; omega)]
  have e1 : ((out.length : Int) + ((x.length - 1 : Nat) : Int) + 1) = (out.length : Int) + x.length := by omega
  rw [e1, show x.length - 1 + 1 = x.length by omega, show x.length - 1 + 2 = x.length + 1 by omega]
  simp
theorem step_far (most : Int) (out : List UInt8) (n f : Nat) (T : List UInt8) (hn : 4 ≤ n) (hn2 : n ≤ 131) (hf : 1 ≤ f) (hf2 : f ≤ 65535) (hfo : f ≤ out.length) :
    tokStep most out (UInt8.ofNat (n + 124) :: UInt8.ofNat (f / 256) :: UInt8.ofNat (f % 256) :: T) = if most < (out.length : Int) + n then (9, [], 0) else (0, rep f n out, 3) := by
  have ht : tok (UInt8.ofNat (n + 124) :: UInt8.ofNat (f / 256) :: UInt8.ofNat (f % 256) :: T) = n + 124 := by rw [tok_cons, ofNat_toNat _ (by omega)]
  have hfp : farP (UInt8.ofNat (n + 124) :: UInt8.ofNat (f / 256) :: UInt8.ofNat (f % 256) :: T) = f := by
    show (UInt8.ofNat (f / 256)).toNat * 256 + (UInt8.ofNat (f % 256)).toNat = f
    rw [ofNat_toNat _ (by omega), ofNat_toNat _ (by omega)]; omega
  unfold tokStep
  rw [ht, hfp, if_neg (by omega), if_neg (by simp), if_neg (by omega), show n + 124 - 124 = n by omega]
/-- Tokens are told to what they lead to, or there is no room. -/
theorem Leads.toks {a s b : List UInt8} (h : Leads a s b) (most : Int) : toks most a s = if most < (b.length : Int) ∧ s ≠ [] then ([], 9) else (b, 0) := by
  induction h with
  | nil out => rw [toks_nil, if_neg (by simp)]
  | lit out x T o2 h0 h1 h ih =>
    have hle := h.le
    have hst := step_lit most out x T h0 h1
    rw [List.length_append] at hle
    by_cases hm : most < (out.length : Int) + x.length
    · rw [if_pos hm] at hst
      rw [toks_bad most out _ (by simp) 9 [] 0 hst (by decide), if_pos ⟨by omega, by simp⟩]
    · rw [if_neg hm] at hst
      rw [toks_good most out _ (by simp) _ _ hst]
      have hd : (UInt8.ofNat (x.length - 1) :: (x ++ T)).drop (x.length + 1) = T := by simp
      rw [hd, ih]
      by_cases hT : T = []
      · subst hT
        cases h
        rw [if_neg (by simp), if_neg (by rw [List.length_append]; omega)]
      · by_cases h9 : most < (o2.length : Int)
        · rw [if_pos ⟨h9, hT⟩, if_pos ⟨h9, by simp⟩]
        · rw [if_neg (fun h => h9 h.1), if_neg (fun h => h9 h.1)]
  | far out n f T o2 hn hn2 hf hf2 hfo h ih =>
    have hle := h.le
    have hst := step_far most out n f T hn hn2 hf hf2 hfo
    rw [rep_length] at hle
    by_cases hm : most < (out.length : Int) + n
    · rw [if_pos hm] at hst
      rw [toks_bad most out _ (by simp) 9 [] 0 hst (by decide), if_pos ⟨by omega, by simp⟩]
    · rw [if_neg hm] at hst
      rw [toks_good most out _ (by simp) _ _ hst]
      have hd : (UInt8.ofNat (n + 124) :: UInt8.ofNat (f / 256) :: UInt8.ofNat (f % 256) :: T).drop 3 = T := rfl
      rw [hd, ih]
      by_cases hT : T = []
      · subst hT
        cases h
        rw [if_neg (by simp), if_neg (by rw [rep_length]; omega)]
      · by_cases h9 : most < (o2.length : Int)
        · rw [if_pos ⟨h9, hT⟩, if_pos ⟨h9, by simp⟩]
        · rw [if_neg (fun h => h9 h.1), if_neg (fun h => h9 h.1)]
end Sqz
end Go.Proofs.Ytgnbbklnobladaa
