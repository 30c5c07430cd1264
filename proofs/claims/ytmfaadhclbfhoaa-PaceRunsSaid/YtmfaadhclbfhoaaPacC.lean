/- The laws of chapter 19: nearest is monotone; no program in sight. -/
import Derived.Test.YtmfaadhclbfhoaaPacK
namespace Go.Proofs.Ytmfaadhclbfhoaa
open Go.RowKit

namespace Pac
/-- to the nearest, between two to the even one -/
def half (P n : Nat) : Nat := n / P + (if P < 2 * (n % P) ∨ (P = 2 * (n % P) ∧ n / P % 2 = 1) then 1 else 0)
theorem cut_half (neg : Bool) (n drop : Nat) : Ieee.Toward.cut .even neg n drop = half (2 ^ drop) n := by
  have shape : ∀ P : Nat, n / P + ((decide (P < 2 * (n % P)) || (P == 2 * (n % P) && n / P % 2 == 1)).toNat) = half P n := by
    intro P
    unfold half
    by_cases h1 : P < 2 * (n % P)
    · simp [h1]
    · by_cases h2 : P = 2 * (n % P) ∧ n / P % 2 = 1
      · rw [if_pos (.inr h2)]
        simp [h2.1.symm, h2.2]
      · rw [if_neg (by intro h; rcases h with h | h; exact h1 h; exact h2 h)]
        have : (decide (P < 2 * (n % P)) || (P == 2 * (n % P) && n / P % 2 == 1)) = false := by
          rw [Bool.or_eq_false_iff]
          refine ⟨decide_eq_false h1, ?_⟩
          rw [Bool.and_eq_false_iff]
          by_cases h3 : P = 2 * (n % P)
          · right; rw [beq_eq_false_iff_ne]; exact fun h4 => h2 ⟨h3, h4⟩
          · left; rw [beq_eq_false_iff_ne]; exact h3
        rw [this]; rfl
  unfold Ieee.Toward.cut
  simp only [Nat.one_shiftLeft]
  by_cases h : drop ≤ n.log2 + 2
  · rw [Nat.min_eq_left h]; exact shape _
  · rw [Nat.min_eq_right (by omega)]
    rw [shape]
    have h3 := @Nat.lt_log2_self n
    have h4 : 2 ^ (n.log2 + 2) = 2 * 2 ^ (n.log2 + 1) := by rw [Nat.pow_succ, Nat.mul_comm]
    have h5 : 2 ^ (n.log2 + 2) ≤ 2 ^ drop := Nat.pow_le_pow_right (by omega) (by omega)
    have low : ∀ P : Nat, 2 * n < P → half P n = 0 := by
      intro P hP
      unfold half
      rw [Nat.div_eq_of_lt (by omega), Nat.mod_eq_of_lt (by omega), if_neg (by omega)]
    rw [low _ (by omega), low _ (by omega)]
theorem half_mono {P n m : Nat} (h : n ≤ m) : half P n ≤ half P m := by
  have h1 := Nat.div_add_mod n P
  have h2 := Nat.div_add_mod m P
  have h3 : n / P ≤ m / P := Nat.div_le_div_right h
  unfold half
  rcases Nat.lt_or_ge (n / P) (m / P) with h4 | h4
  · split <;> split <;> omega
  · have h5 : n / P = m / P := by omega
    rw [← h5] at h2 ⊢
    have h6 : n % P ≤ m % P := by omega
    split
    · rename_i h7
      rw [if_pos (by rcases h7 with h7 | h7; exact .inl (by omega); rcases Nat.lt_or_ge P (2 * (m % P)) with h8 | h8; exact .inl h8; exact .inr ⟨by omega, h7.2⟩)]
      omega
    · split <;> omega
theorem half_le {P n : Nat} : half P n ≤ n / P + 1 := by unfold half; split <;> omega
theorem half_ge {P n : Nat} : n / P ≤ half P n := by unfold half; omega
theorem half_one (n : Nat) : half 1 n = n := by unfold half; rw [Nat.div_one, Nat.mod_one, if_neg (by omega)]; rfl
/-- the last place that is kept -/
def last (n : Nat) (p : Int) : Int := max (p + n.log2 - 52) (-1074)
def kept (n : Nat) (p : Int) : Nat := half (2 ^ (last n p - p).toNat) (n * 2 ^ (p - last n p).toNat)
theorem nearest_eq (s : Bool) (n : Nat) (p : Int) (hn : n ≠ 0) : F.nearest s n p = F.word s (min ((last n p + 1074).toNat * 4503599627370496 + kept n p) 9218868437227405312) := by
  have hfb : ((F.fractionBits : Nat) : Int) = 52 := by decide
  unfold Ieee.Format.nearest
  rw [if_neg hn]
  simp only [hfb, lp, bn, ir, cut_half, Nat.shiftLeft_eq]
  unfold kept last
  rw [show max (p + (n.log2 : Int) - 52) (-1074) - -1074 = max (p + (n.log2 : Int) - 52) (-1074) + 1074 by omega]
theorem nearest_sign (s : Bool) (n : Nat) (p : Int) : F.nearest s n p = F.word s (F.nearest false n p) := by
  by_cases hn : n = 0
  · subst hn; unfold Ieee.Format.nearest; rw [if_pos rfl, if_pos rfl]; cases s <;> rfl
  · rw [nearest_eq s n p hn, nearest_eq false n p hn]
    have : ∀ r, F.word false r = r := fun r => by rw [word_eq]; rfl
    rw [this]
theorem p53 : 2 ^ 53 = 9007199254740992 := by decide
theorem p52 : 2 ^ 52 = 4503599627370496 := by decide
theorem kept_le (n : Nat) (p : Int) : kept n p ≤ 9007199254740992 := by
  have hlt := @Nat.lt_log2_self n
  unfold kept
  rcases Int.le_total (last n p) p with h | h
  · have a1 : (last n p - p).toNat = 0 := by omega
    rw [a1, Nat.pow_zero, half_one]
    have a2 : n.log2 + 1 + (p - last n p).toNat ≤ 53 := by unfold last at h ⊢; omega
    have a3 : n * 2 ^ (p - last n p).toNat ≤ 2 ^ (n.log2 + 1) * 2 ^ (p - last n p).toNat := Nat.mul_le_mul_right _ (by omega)
    rw [← Nat.pow_add] at a3
    exact Nat.le_trans a3 (Nat.le_trans (Nat.pow_le_pow_right (by omega) a2) (Nat.le_of_eq p53))
  · have a1 : (p - last n p).toNat = 0 := by omega
    rw [a1, Nat.pow_zero, Nat.mul_one]
    have a2 : n.log2 + 1 ≤ 53 + (last n p - p).toNat := by unfold last at h ⊢; omega
    have a3 : n < 9007199254740992 * 2 ^ (last n p - p).toNat := by
      refine Nat.lt_of_lt_of_le hlt (Nat.le_trans (Nat.pow_le_pow_right (by omega) a2) ?_)
      rw [Nat.pow_add, p53]; exact Nat.le_refl _
    have a4 : n / 2 ^ (last n p - p).toNat < 9007199254740992 := Nat.div_lt_of_lt_mul (by rw [Nat.mul_comm]; exact a3)
    exact Nat.le_trans half_le (by omega)
theorem kept_low (n : Nat) (p : Int) (hn : n ≠ 0) (hl : -1074 < last n p) : 4503599627370496 ≤ kept n p := by
  have hle := Nat.log2_self_le hn
  unfold kept
  rcases Int.le_total (last n p) p with h | h
  · have a1 : (last n p - p).toNat = 0 := by omega
    rw [a1, Nat.pow_zero, half_one]
    have a2 : 52 ≤ n.log2 + (p - last n p).toNat := by unfold last at h hl ⊢; omega
    have a3 : 2 ^ n.log2 * 2 ^ (p - last n p).toNat ≤ n * 2 ^ (p - last n p).toNat := Nat.mul_le_mul_right _ hle
    rw [← Nat.pow_add] at a3
    exact Nat.le_trans (Nat.le_trans (Nat.le_of_eq p52.symm) (Nat.pow_le_pow_right (by omega) a2)) a3
  · have a1 : (p - last n p).toNat = 0 := by omega
    rw [a1, Nat.pow_zero, Nat.mul_one]
    have a2 : 52 + (last n p - p).toNat ≤ n.log2 := by unfold last at h hl ⊢; omega
    have a3 : 4503599627370496 * 2 ^ (last n p - p).toNat ≤ n := by
      refine Nat.le_trans ?_ (Nat.le_trans (Nat.pow_le_pow_right (by omega) a2) hle)
      rw [Nat.pow_add, p52]; exact Nat.le_refl _
    have a4 : 4503599627370496 ≤ n / 2 ^ (last n p - p).toNat := (Nat.le_div_iff_mul_le (Nat.two_pow_pos _)).2 a3
    exact Nat.le_trans a4 half_ge
theorem word_false (r : Nat) : F.word false r = r := by rw [word_eq]; rfl
theorem last_mono {n m : Nat} (hn : n ≠ 0) (h : n ≤ m) (p : Int) : last n p ≤ last m p := by
  have hlog : n.log2 ≤ m.log2 := by
    rcases Nat.lt_or_ge m.log2 n.log2 with h1 | h1
    · have h2 := Nat.log2_self_le hn
      have h3 := @Nat.lt_log2_self m
      have h4 : 2 ^ (m.log2 + 1) ≤ 2 ^ n.log2 := Nat.pow_le_pow_right (by omega) h1
      omega
    · exact h1
  unfold last; omega
theorem kept_mono {n m : Nat} (h : n ≤ m) (p : Int) (hl : last n p = last m p) : kept n p ≤ kept m p := by
  unfold kept
  rw [hl]
  exact half_mono (Nat.mul_le_mul_right _ h)
theorem rung_mono {n m : Nat} (hn : n ≠ 0) (h : n ≤ m) (p : Int) : (last n p + 1074).toNat * 4503599627370496 + kept n p ≤ (last m p + 1074).toNat * 4503599627370496 + kept m p := by
  have hlast := last_mono hn h p
  have hge : -1074 ≤ last n p := by unfold last; omega
  have h2 := kept_le n p
  have h3 := kept_low m p (by omega)
  have h4 := kept_mono h p
  generalize last n p = x at *
  generalize last m p = y at *
  generalize kept n p = u at *
  generalize kept m p = v at *
  rcases Int.lt_or_le x y with h1 | h1
  · have h5 := h3 (by omega)
    omega
  · have h5 := h4 (by omega)
    have h6 : x = y := by omega
    subst h6
    omega
/-- nearest is monotone -/
theorem nearest_mono {n m : Nat} (h : n ≤ m) (p : Int) : F.nearest false n p ≤ F.nearest false m p := by
  by_cases hn : n = 0
  · have : F.nearest false n p = 0 := by subst hn; unfold Ieee.Format.nearest; rw [if_pos rfl]; exact word_false 0
    rw [this]; exact Nat.zero_le _
  · rw [nearest_eq _ _ _ hn, nearest_eq _ _ _ (by omega : m ≠ 0), word_false, word_false]
    have key := rung_mono hn h p
    exact Nat.le_min.2 ⟨Nat.le_trans (Nat.min_le_left _ _) key, Nat.min_le_right _ _⟩
end Pac
end Go.Proofs.Ytmfaadhclbfhoaa
