/- The laws of chapter 19: the plain law of runs; no program in sight. -/
import Derived.Test.YtmfaadhclbfhoaaPacD
namespace Go.Proofs.Ytmfaadhclbfhoaa
open Go.RowKit

namespace Pac
theorem val_zero : val 0 = 0 := rfl
theorem near_nat (n : Nat) : N (n : Int).natAbs = N n := by rw [Int.natAbs_natCast]
theorem plain_word (z : Bool) (r : Nat) (h : r < 9218868437227405312) (hz : z = true → r = 0) : plain (F.word z r) = r := by
  cases z
  · rw [word_false]
    by_cases h0 : r = 0
    · subst h0; exact plain_zero false
    · exact plain_pos (by omega) h
  · rw [hz rfl]; exact plain_zero true
theorem near_z0 : N 0 = 0 := (near_zero false _).trans (word_false 0)
/-- what is blended lies between the two -/
theorem blend_between (c j : Nat) (hj : 1 ≤ j ∧ j ≤ 3) (hc : F.read c = .number false 4503599627370496 (-52 - (j : Int))) (A B : Nat) (t : Bool) (hA : A ≤ 4696837146684686336) (hB : B ≤ 4696837146684686336) (ht : t = true → B = 0) :
    ∃ r, blend A (F.word t B) c = some r ∧ min A B ≤ plain r ∧ plain r ≤ max A B := by
  have hA' : A < 9218868437227405312 := by omega
  have hB' : B < 9218868437227405312 := by omega
  have vA := val_mono hA
  have vB := val_mono hB
  have mv := most_val
  have st : sg t (val B) = (val B : Int) := by
    cases t
    · rfl
    · rw [ht rfl, val_zero]; rfl
  have sA : sg false (val A) = (val A : Int) := rfl
  obtain ⟨z, h1, hz1, hz2⟩ := sub_words t false hB' hA'
  rw [word_false A] at h1
  rw [st, sA] at h1 hz1 hz2
  obtain ⟨X, Y, hX, hXi, hY, hYi, hv⟩ := part_le ((val B : Int) - (val A : Int)).natAbs j (by omega) hj
  rw [hX] at h1
  have h2 := mul_words c j hc z hXi
  rw [hY] at h2
  obtain ⟨z2, h3, hz3, hz4⟩ := add_words false z hA' hYi
  rw [word_false A, sA] at h3
  rw [sA] at hz3 hz4
  have hT : ∃ T : Nat, (val A : Int) + sg z (val Y) = (T : Int) ∧ (val A ≤ T ∧ T ≤ val B ∨ val B ≤ T ∧ T ≤ val A) := by
    rcases Int.lt_trichotomy ((val B : Int) - (val A : Int)) 0 with h | h | h
    · rw [hz1 h]
      refine ⟨val A - val Y, ?_, .inr ⟨by omega, by omega⟩⟩
      show (val A : Int) + -(val Y : Int) = _
      omega
    · have : val Y = 0 := by omega
      rw [this]
      refine ⟨val A, ?_, .inl ⟨by omega, by omega⟩⟩
      cases z <;> simp [sg]
    · rw [hz2 h]
      refine ⟨val A + val Y, ?_, .inl ⟨by omega, by omega⟩⟩
      show (val A : Int) + (val Y : Int) = _
      omega
  obtain ⟨T, hT, hb⟩ := hT
  rw [hT] at h3 hz3 hz4
  rw [near_nat] at h3
  have hbe : min A B ≤ N T ∧ N T ≤ max A B := by
    rcases hb with hb | hb
    · have b1 := near_ge hb.1 hA'
      have b2 := near_le hb.2 hB'
      omega
    · have b1 := near_ge hb.1 hB'
      have b2 := near_le hb.2 hA'
      omega
  refine ⟨F.word z2 (N T), ?_, ?_⟩
  · unfold blend
    show (F.sub (F.word t B) A).bind (fun x => (F.mul c x).bind fun y => F.add A y) = _
    rw [h1]
    show (F.mul c (F.word z X)).bind (fun y => F.add A y) = _
    rw [h2]
    exact h3
  · have hp : plain (F.word z2 (N T)) = N T := by
      refine plain_word _ _ (by omega) ?_
      intro hz
      rcases Nat.eq_zero_or_pos T with h0 | h0
      · rw [h0]; exact near_z0
      · have := hz4 (by omega); rw [this] at hz; exact absurd hz (by simp)
    rw [hp]; exact hbe
theorem order_inf : F.order 9218868437227405312 4696837146684686336 = some .gt := by decide +kernel
/-- what counts is a word up to a million, or the negative 0 -/
theorem cnt_word {t : Nat} (ht : t < 18446744073709551616) (h : cnt t = true) : ∃ s B, t = F.word s B ∧ B ≤ 4696837146684686336 ∧ (s = true → B = 0) := by
  obtain ⟨s, B, hw, hB⟩ : ∃ s B, t = F.word s B ∧ B < 9223372036854775808 := by
    by_cases h1 : t < 9223372036854775808
    · exact ⟨false, t, (word_false t).symm, h1⟩
    · exact ⟨true, t - 9223372036854775808, by rw [word_eq]; simp; omega, by omega⟩
  subst hw
  have hp := cnt_pos h
  obtain ⟨s', m, e, hr, _⟩ := cnt_num h
  have hi : B < 9218868437227405312 := by
    have h2 := read_word s B hB
    rw [hr] at h2
    rcases Nat.lt_or_ge B 9218868437227405312 with h3 | h3
    · exact h3
    · rw [if_neg (by omega), if_neg (by omega)] at h2
      split at h2 <;> exact absurd h2 (by simp)
  refine ⟨s, B, rfl, ?_, ?_⟩
  · unfold cnt leB at h
    rw [Bool.and_eq_true] at h
    have h2 := h.2
    have e1 := ord_words s false hi (show 4696837146684686336 < 9218868437227405312 by omega)
    rw [word_false] at e1
    rw [e1] at h2
    cases s
    · have h3 : val B ≤ val 4696837146684686336 := by
        rcases Nat.lt_or_ge (val 4696837146684686336) (val B) with h4 | h4
        · have : compare (sg false (val B)) (sg false (val 4696837146684686336)) = .gt := Int.compare_eq_gt.2 (by show (val 4696837146684686336 : Int) < (val B : Int); omega)
          rw [this] at h2; exact absurd h2 (by simp)
        · exact h4
      have h4 := near_le h3 (by omega)
      rwa [show N (val B) = B from near_val B hi] at h4
    · have h0 : B = 0 := by
        have h3 := h.1
        unfold geB at h3
        have e2 := ord_words true false hi (show 0 < 9218868437227405312 by omega)
        rw [word_false] at e2
        rw [e2] at h3
        rcases Nat.eq_zero_or_pos B with h4 | h4
        · exact h4
        · have := val_pos h4
          have : compare (sg true (val B)) (sg false (val 0)) = .lt := Int.compare_eq_lt.2 (by show -(val B : Int) < ((0 : Nat) : Int); omega)
          rw [this] at h3; exact absurd h3 (by simp)
      omega
  · rintro rfl
    have h3 := h
    unfold cnt geB at h3
    rw [Bool.and_eq_true] at h3
    have h3 := h3.1
    have e2 := ord_words true false hi (show 0 < 9218868437227405312 by omega)
    rw [word_false] at e2
    rw [e2] at h3
    rcases Nat.eq_zero_or_pos B with h4 | h4
    · exact h4
    · have := val_pos h4
      have : compare (sg true (val B)) (sg false (val 0)) = .lt := Int.compare_eq_lt.2 (by show -(val B : Int) < ((0 : Nat) : Int); omega)
      rw [this] at h3; exact absurd h3 (by simp)
/-- half of what counts is no more than it -/
theorem half_cnt (s : Bool) (B : Nat) (hB : B ≤ 4696837146684686336) (hs : s = true → B = 0) : ∃ h, floatBits .quo .f64 (F.word s B) 4611686018427387904 = some h ∧ plain h ≤ B := by
  have hB' : B < 9218868437227405312 := by omega
  obtain ⟨m, k, e1, v1⟩ := read_sval s B hB'
  have h2 : F.read 4611686018427387904 = .number false 4503599627370496 (-51) := by decide
  have hfb : F.fractionBits + 2 = 54 := by decide
  have hm : m.log2 ≤ 1100 := by
    by_cases h0 : m = 0
    · subst h0; exact Nat.zero_le _
    · have a1 := Nat.log2_self_le h0
      have a2 : m ≤ val B := by rw [v1]; exact Nat.le_mul_of_pos_right _ (Nat.two_pow_pos k)
      have a3 := val_mono hB
      have a4 := most_val
      exact Nat.le_of_lt ((Nat.pow_lt_pow_iff_right (by omega)).1 (Nat.lt_of_le_of_lt a1 (by omega)))
  have hm2 : m.log2 ≤ 52 := by
    have hr := read_word s B (by omega)
    rw [e1] at hr
    have hlt : m < 2 ^ 53 := by
      rw [p53]
      by_cases c1 : B < 4503599627370496
      · rw [if_pos c1] at hr
        injection hr with _ h4 _; omega
      · rw [if_neg c1, if_pos hB'] at hr
        injection hr with _ h4 _; omega
    by_cases h0 : m = 0
    · subst h0; exact Nat.zero_le _
    · have a1 := Nat.log2_self_le h0
      have := (Nat.pow_lt_pow_iff_right (by omega)).1 (Nat.lt_of_le_of_lt a1 hlt)
      omega
  obtain ⟨l, hl⟩ : ∃ l, m.log2 = l := ⟨_, rfl⟩
  have hlog : (4503599627370496 : Nat).log2 = 52 := by decide
  have hq : floatBits .quo .f64 (F.word s B) 4611686018427387904 = some (F.word s (F.nearest false (val B) (-1075))) := by
    show F.div (F.word s B) 4611686018427387904 = _
    unfold Ieee.Format.div
    rw [e1, h2, hfb]
    simp only [Ieee.Datum.quotient]
    rw [if_neg (by decide), hlog, hl]
    have hmore : 54 + 52 - l = (54 - l) + 52 := by omega
    rw [hmore, Nat.shiftLeft_eq, Nat.pow_add, p52, ← Nat.mul_assoc, Nat.mul_div_cancel _ (by omega), Nat.mul_mod_left]
    simp only [bne_self_eq_false, Bool.toNat_false, Nat.add_zero, Option.map_some, Bool.xor_false]
    show some (F.nearest s _ _) = _
    rw [nearest_sign, show 2 * (m * 2 ^ (54 - l)) = m * 2 ^ (55 - l) by rw [show 55 - l = (54 - l) + 1 by omega, Nat.pow_succ]; rw [Nat.mul_comm, Nat.mul_assoc], near_mul, v1, near_mul]
    have : -1074 + (k : Int) - -51 - ((54 - l + 52 : Nat) : Int) - 1 + ((55 - l : Nat) : Int) = -1075 + (k : Int) := by omega
    rw [this]
  have hle : F.nearest false (val B) (-1075) ≤ B := by
    have h3 := nearest_mono (show val B ≤ val B * 2 ^ 1 by omega) (-1075)
    rw [near_mul, show (-1075 : Int) + ((1 : Nat) : Int) = -1074 by decide, show F.nearest false (val B) (-1074) = B from near_val B hB'] at h3
    exact h3
  refine ⟨_, hq, ?_⟩
  rw [plain_word s _ (by omega) (by intro h; have := hs h; omega)]
  exact hle
end Pac
end Go.Proofs.Ytmfaadhclbfhoaa
