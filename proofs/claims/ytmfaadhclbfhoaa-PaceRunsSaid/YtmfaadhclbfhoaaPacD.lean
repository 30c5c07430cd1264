/- The laws of chapter 19: what is heard lies between; no program in sight. -/
import Derived.Test.YtmfaadhclbfhoaaPacC
namespace Go.Proofs.Ytmfaadhclbfhoaa
open Go.RowKit

namespace Pac
abbrev N (n : Nat) : Nat := F.nearest false n (-1074)
def sg (s : Bool) (n : Nat) : Int := if s then -(n : Int) else n
theorem near_zero (s : Bool) (p : Int) : F.nearest s 0 p = F.word s 0 := by unfold Ieee.Format.nearest; rw [if_pos rfl]
theorem near_mul (n k : Nat) (p : Int) : F.nearest false (n * 2 ^ k) p = F.nearest false n (p + k) := by
  by_cases h : n = 0
  · subst h; rw [Nat.zero_mul, near_zero, near_zero]
  · exact nearest_mul false n k (by omega) p
theorem read_sval (s : Bool) (r : Nat) (h : r < 9218868437227405312) : ∃ (m k : Nat), F.read (F.word s r) = .number s m (-1074 + (k : Int)) ∧ val r = m * 2 ^ k := by
  have hr := read_word s r (by omega)
  by_cases h1 : r < 4503599627370496
  · rw [if_pos h1] at hr
    exact ⟨r, 0, hr, by unfold val; rw [if_pos h1, Nat.pow_zero, Nat.mul_one]⟩
  · rw [if_neg h1, if_pos h] at hr
    exact ⟨_, _, hr, by unfold val; rw [if_neg h1]⟩
theorem small_near (v : Nat) (h : v < 9007199254740992) : N v = v := by
  by_cases h0 : v = 0
  · subst h0; exact (near_zero false _).trans (word_false 0)
  · have hlog : v.log2 ≤ 52 := by
      rcases Nat.lt_or_ge 52 v.log2 with h1 | h1
      · have h2 := Nat.log2_self_le h0
        have h3 : 2 ^ 53 ≤ 2 ^ v.log2 := Nat.pow_le_pow_right (by omega) h1
        rw [p53] at h3; omega
      · exact h1
    have hl : last v (-1074) = -1074 := by unfold last; omega
    rw [show N v = F.nearest false v (-1074) from rfl, nearest_eq _ _ _ h0, word_false, hl]
    unfold kept
    rw [hl, show ((-1074 : Int) - -1074).toNat = 0 by decide, Nat.pow_zero, half_one, show ((-1074 : Int) + 1074).toNat = 0 by decide, Nat.zero_mul, Nat.zero_add, Nat.mul_one]
    exact Nat.min_eq_left (by omega)
theorem small_val (v : Nat) (h : v < 9007199254740992) : val v = v := by
  unfold val
  by_cases h1 : v < 4503599627370496
  · rw [if_pos h1]
  · rw [if_neg h1, show v / 4503599627370496 - 1 = 0 by omega, Nat.pow_zero, Nat.mul_one]; omega
theorem near_val (r : Nat) (h : r < 9218868437227405312) : N (val r) = r := by
  by_cases h1 : r < 4503599627370496
  · rw [small_val r (by omega)]; exact small_near r (by omega)
  · have hn := nearest_normal r (by omega) h false
    rw [word_false] at hn
    have hv : val r = (4503599627370496 + r % 4503599627370496) * 2 ^ (r / 4503599627370496 - 1) := by unfold val; rw [if_neg h1]
    rw [hv]
    show F.nearest false _ (-1074) = r
    rw [near_mul]; exact hn
theorem near_le {n r : Nat} (h : n ≤ val r) (hr : r < 9218868437227405312) : N n ≤ r := by
  have := nearest_mono h (-1074)
  rw [show F.nearest false (val r) (-1074) = r from near_val r hr] at this
  exact this
theorem near_ge {n r : Nat} (h : val r ≤ n) (hr : r < 9218868437227405312) : r ≤ N n := by
  have := nearest_mono h (-1074)
  rw [show F.nearest false (val r) (-1074) = r from near_val r hr] at this
  exact this
theorem pow_val (i : Nat) (hi : i ≤ 1200) : ∃ P, P < 9218868437227405312 ∧ val P = 2 ^ i := by
  by_cases h : i < 52
  · have : 2 ^ i < 2 ^ 52 := Nat.pow_lt_pow_right (by omega) h
    rw [p52] at this
    exact ⟨2 ^ i, by omega, small_val _ (by omega)⟩
  · refine ⟨(i - 51) * 4503599627370496, by omega, ?_⟩
    unfold val
    rw [if_neg (by omega), Nat.mul_mod_left, Nat.mul_div_cancel _ (by omega), Nat.add_zero, ← p52, ← Nat.pow_add, show 52 + (i - 51 - 1) = i by omega]
theorem compare_mul (A B : Int) (P : Nat) (hP : 0 < P) : compare (A * P) (B * P) = compare A B := by
  have hp : (0 : Int) < P := by omega
  rcases Int.lt_trichotomy A B with h | h | h
  · rw [Int.compare_eq_lt.2 h, Int.compare_eq_lt.2 (Int.mul_lt_mul_of_pos_right h hp)]
  · subst h; rw [Int.compare_eq_eq.2 rfl, Int.compare_eq_eq.2 rfl]
  · rw [Int.compare_eq_gt.2 h, Int.compare_eq_gt.2 (Int.mul_lt_mul_of_pos_right h hp)]
theorem sg_signed (s : Bool) (m k g : Nat) (h : g ≤ k) : sg s (m * 2 ^ k) = Ieee.signed s m (k - g) * ((2 ^ g : Nat) : Int) := by
  have e : m * 2 ^ k = m * 2 ^ (k - g) * 2 ^ g := by rw [Nat.mul_assoc, ← Nat.pow_add, show k - g + g = k by omega]
  unfold sg Ieee.signed
  rw [Nat.shiftLeft_eq, e]
  cases s
  · simp only [Bool.false_eq_true, if_false, Int.natCast_mul]
  · simp only [if_true, Int.natCast_mul, Int.neg_mul]
theorem ord_words (s t : Bool) {r q : Nat} (hr : r < 9218868437227405312) (hq : q < 9218868437227405312) : ord (F.word s r) (F.word t q) = some (compare (sg s (val r)) (sg t (val q))) := by
  obtain ⟨m, k, e1, v1⟩ := read_sval s r hr
  obtain ⟨n, j, e2, v2⟩ := read_sval t q hq
  unfold ord Ieee.Format.order
  rw [e1, e2]
  simp only [Ieee.Datum.order]
  obtain ⟨g, hg⟩ : ∃ g : Nat, g = min k j := ⟨_, rfl⟩
  have b : min (-1074 + (k : Int)) (-1074 + (j : Int)) = -1074 + (g : Int) := by omega
  have b1 : (-1074 + (k : Int) - (-1074 + (g : Int))).toNat = k - g := by omega
  have b2 : (-1074 + (j : Int) - (-1074 + (g : Int))).toNat = j - g := by omega
  rw [b, b1, b2, v1, v2, sg_signed s m k g (by omega), sg_signed t n j g (by omega), compare_mul _ _ _ (Nat.two_pow_pos g)]
theorem add_words (s t : Bool) {r q : Nat} (hr : r < 9218868437227405312) (hq : q < 9218868437227405312) : ∃ z, F.add (F.word s r) (F.word t q) = some (F.word z (N (sg s (val r) + sg t (val q)).natAbs)) ∧
    (sg s (val r) + sg t (val q) < 0 → z = true) ∧ (0 < sg s (val r) + sg t (val q) → z = false) := by
  obtain ⟨m, k, e1, v1⟩ := read_sval s r hr
  obtain ⟨n, j, e2, v2⟩ := read_sval t q hq
  unfold Ieee.Format.add
  rw [e1, e2]
  simp only [Ieee.Datum.sum, Option.map_some]
  obtain ⟨g, hg⟩ : ∃ g : Nat, g = min k j := ⟨_, rfl⟩
  have b : min (-1074 + (k : Int)) (-1074 + (j : Int)) = -1074 + (g : Int) := by omega
  have b1 : (-1074 + (k : Int) - (-1074 + (g : Int))).toNat = k - g := by omega
  have b2 : (-1074 + (j : Int) - (-1074 + (g : Int))).toNat = j - g := by omega
  rw [b, b1, b2, v1, v2, sg_signed s m k g (by omega), sg_signed t n j g (by omega)]
  generalize Ieee.signed s m (k - g) = A
  generalize Ieee.signed t n (j - g) = B
  have hP := Nat.two_pow_pos g
  have hp : (0 : Int) < ((2 ^ g : Nat) : Int) := by omega
  rw [← Int.add_mul]
  generalize A + B = T
  refine ⟨if T = 0 then s && t else decide (T < 0), ?_, ?_, ?_⟩
  · show some (F.nearest _ T.natAbs (-1074 + (g : Int))) = _
    rw [nearest_sign, Int.natAbs_mul, Int.natAbs_natCast, ← near_mul]
  · intro h
    have : T < 0 := by
      rcases Int.lt_or_le T 0 with h1 | h1
      · exact h1
      · have := Int.mul_nonneg h1 (Int.le_of_lt hp); omega
    rw [if_neg (by omega)]; exact decide_eq_true this
  · intro h
    have : 0 < T := by
      rcases Int.lt_or_le 0 T with h1 | h1
      · exact h1
      · have := Int.mul_nonneg (show 0 ≤ -T by omega) (Int.le_of_lt hp); rw [Int.neg_mul] at this; omega
    rw [if_neg (by omega)]; exact decide_eq_false (by omega)
theorem sub_words (s t : Bool) {r q : Nat} (hr : r < 9218868437227405312) (hq : q < 9218868437227405312) : ∃ z, F.sub (F.word s r) (F.word t q) = some (F.word z (N (sg s (val r) - sg t (val q)).natAbs)) ∧
    (sg s (val r) - sg t (val q) < 0 → z = true) ∧ (0 < sg s (val r) - sg t (val q) → z = false) := by
  have e : F.sub (F.word s r) (F.word t q) = F.add (F.word s r) (F.word (!t) q) := by
    obtain ⟨n, j, e2, _⟩ := read_sval t q hq
    obtain ⟨n', j', e3, _⟩ := read_sval (!t) q hq
    have h2 := read_word t q (by omega)
    have h3 := read_word (!t) q (by omega)
    unfold Ieee.Format.sub Ieee.Format.add
    have : (F.read (F.word t q)).opposite = F.read (F.word (!t) q) := by
      rw [h2, h3]
      by_cases c1 : q < 4503599627370496
      · rw [if_pos c1, if_pos c1]; rfl
      · rw [if_neg c1, if_neg c1, if_pos hq, if_pos hq]; rfl
    rw [this]
  have h := add_words s (!t) hr hq
  have es : sg s (val r) + sg (!t) (val q) = sg s (val r) - sg t (val q) := by
    cases t <;> simp [sg] <;> omega
  rw [es] at h
  rw [e]; exact h
theorem mul_words (c j : Nat) (hc : F.read c = .number false 4503599627370496 (-52 - (j : Int))) (s : Bool) {r : Nat} (hr : r < 9218868437227405312) : F.mul c (F.word s r) = some (F.word s (F.nearest false (val r) (-1074 - (j : Int)))) := by
  obtain ⟨m, k, e1, v1⟩ := read_sval s r hr
  unfold Ieee.Format.mul
  rw [hc, e1]
  simp only [Ieee.Datum.product, Option.map_some, Bool.false_xor]
  show some (F.nearest s (4503599627370496 * m) _) = _
  rw [nearest_sign, Nat.mul_comm, ← p52, near_mul, v1, near_mul]
  have : -52 - (j : Int) + (-1074 + (k : Int)) + ((52 : Nat) : Int) = -1074 - (j : Int) + (k : Int) := by omega
  rw [this]
theorem most_val : val 4696837146684686336 < 2 ^ 1100 := by decide +kernel
theorem one_val : val 4607182418800017408 < 2 ^ 1100 := by decide +kernel
/-- a part of a way is no longer than the way -/
theorem part_le (v j : Nat) (hv : v < 2 ^ 1100) (hj : 1 ≤ j ∧ j ≤ 3) : ∃ X Y, N v = X ∧ X < 9218868437227405312 ∧ F.nearest false (val X) (-1074 - (j : Int)) = Y ∧ Y < 9218868437227405312 ∧ val Y ≤ v := by
  by_cases h : v < 9007199254740992
  · refine ⟨v, _, small_near v h, by omega, rfl, ?_⟩
    have h1 : F.nearest false (val v) (-1074 - (j : Int)) ≤ v := by
      have h2 : val v ≤ val v * 2 ^ j := Nat.le_mul_of_pos_right _ (Nat.two_pow_pos j)
      have h3 := nearest_mono h2 (-1074 - (j : Int))
      rw [near_mul, show -1074 - (j : Int) + (j : Int) = -1074 by omega, show F.nearest false (val v) (-1074) = v from near_val v (by omega)] at h3
      exact h3
    exact ⟨by omega, Nat.le_trans (val_mono h1) (Nat.le_of_eq (small_val v h))⟩
  · obtain ⟨L, hL⟩ : ∃ L, v.log2 = L := ⟨_, rfl⟩
    have h1 := Nat.log2_self_le (n := v) (by omega)
    have h2 := @Nat.lt_log2_self v
    rw [hL] at h1 h2
    have hL1 : L < 1100 := (Nat.pow_lt_pow_iff_right (by omega)).1 (Nat.lt_of_le_of_lt h1 hv)
    have hL2 : 53 ≤ L + 0 := by
      rcases Nat.lt_or_ge L 53 with h3 | h3
      · have : 2 ^ (L + 1) ≤ 2 ^ 53 := Nat.pow_le_pow_right (by omega) (by omega)
        rw [p53] at this; omega
      · exact h3
    obtain ⟨P, hP, vP⟩ := pow_val (L + 1) (by omega)
    obtain ⟨Q, hQ, vQ⟩ := pow_val (L + 1 - j) (by omega)
    have hX : N v ≤ P := near_le (by rw [vP]; omega) hP
    have hXv := val_mono hX
    rw [vP] at hXv
    have hY : F.nearest false (val (N v)) (-1074 - (j : Int)) ≤ Q := by
      have h3 := nearest_mono hXv (-1074 - (j : Int))
      rw [show 2 ^ (L + 1) = 2 ^ (L + 1 - j) * 2 ^ j by rw [← Nat.pow_add, show L + 1 - j + j = L + 1 by omega], near_mul, show -1074 - (j : Int) + (j : Int) = -1074 by omega, ← vQ, show F.nearest false (val Q) (-1074) = Q from near_val Q hQ] at h3
      exact h3
    have h4 := val_mono hY
    rw [vQ] at h4
    have h5 : 2 ^ (L + 1 - j) ≤ 2 ^ L := Nat.pow_le_pow_right (by omega) (by omega)
    exact ⟨_, _, rfl, by omega, rfl, by omega, by omega⟩
end Pac
end Go.Proofs.Ytmfaadhclbfhoaa
