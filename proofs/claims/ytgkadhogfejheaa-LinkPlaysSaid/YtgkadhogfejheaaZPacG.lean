/- The laws of chapter 19: the plain law of waiting; no program in sight. -/
import Derived.Test.YtgkadhogfejheaaZPacH
set_option linter.unusedVariables false
set_option linter.unusedSimpArgs false
namespace Go.Proofs.Ytgkadhogfejheaa
open Go.RowKit

namespace Pac
/-- a number from 0 on, or more than all -/
def Pos (x : Nat) : Prop := (∃ m e, F.read x = .number false m e) ∨ (∃ e, F.read x = .number true 0 e) ∨ F.read x = .infinity false
theorem cut_up (n drop : Nat) : Ieee.Toward.cut .up false n drop = (n + 2 ^ drop - 1) / 2 ^ drop := by
  unfold Ieee.Toward.cut
  simp only [Bool.not_false, Bool.true_and, Nat.one_shiftLeft]
  by_cases h : drop ≤ n.log2 + 2
  · rw [Nat.min_eq_left h]
    have hp := Nat.two_pow_pos drop
    generalize 2 ^ drop = P at hp ⊢
    have h1 := Nat.div_add_mod n P
    have hm := Nat.mod_lt n hp
    generalize n / P = q at h1 ⊢
    generalize n % P = r at h1 hm ⊢
    symm
    by_cases hr : r = 0
    · subst hr
      simp only [bne_self_eq_false, Bool.toNat_false, Nat.add_zero]
      exact Nat.div_eq_of_lt_le (by rw [Nat.mul_comm]; omega) (by rw [Nat.succ_mul, Nat.mul_comm]; omega)
    · have hb : (r != 0) = true := bne_iff_ne.2 hr
      rw [hb]
      simp only [Bool.toNat_true]
      exact Nat.div_eq_of_lt_le (by rw [Nat.succ_mul, Nat.mul_comm]; omega) (by rw [Nat.succ_mul, Nat.succ_mul, Nat.mul_comm]; omega)
  · have hlt : n < 2 ^ (n.log2 + 2) := by
      have := @Nat.lt_log2_self n
      have h3 : 2 ^ (n.log2 + 2) = 2 * 2 ^ (n.log2 + 1) := by rw [Nat.pow_succ, Nat.mul_comm]
      omega
    have hle : 2 ^ (n.log2 + 2) ≤ 2 ^ drop := Nat.pow_le_pow_right (by omega) (by omega)
    rw [Nat.min_eq_right (by omega), Nat.div_eq_of_lt hlt, Nat.mod_eq_of_lt hlt]
    by_cases h0 : n = 0
    · subst h0
      simp only [bne_self_eq_false, Bool.toNat_false]
      rw [Nat.div_eq_of_lt (by have := Nat.two_pow_pos drop; omega)]
    · have hb : (n != 0) = true := bne_iff_ne.2 h0
      rw [hb]
      simp only [Bool.toNat_true]
      rw [Nat.div_eq_of_lt_le (m := n + 2 ^ drop - 1) (n := 2 ^ drop) (k := 1) (by omega) (by omega)]
/-- the least whole number that is enough -/
def top (m : Nat) (e : Int) : Nat := (m <<< e.toNat + 2 ^ (-e).toNat - 1) / 2 ^ (-e).toNat
theorem int_read : ∀ n : Nat, n < 65 → 0 < n → F.read (floatOfInt .f64 n) = .number false (n * 2 ^ (52 - n.log2)) (-((52 - n.log2 : Nat) : Int)) := by decide +kernel
theorem lt_top (n k m : Nat) (e : Int) : ((Ieee.signed false (n * 2 ^ k) (-(k : Int) - min (-(k : Int)) e).toNat) < Ieee.signed false m (e - min (-(k : Int)) e).toNat) ↔ n < top m e := by
  simp only [Ieee.signed, Bool.false_eq_true, if_false, Nat.shiftLeft_eq]
  rw [Int.ofNat_lt]
  unfold top
  rw [Nat.shiftLeft_eq]
  have key : ∀ a b c : Nat, n * 2 ^ a * 2 ^ b < m * 2 ^ c ↔ n * 2 ^ (a + b) < m * 2 ^ c := by intro a b c; rw [Nat.pow_add, ← Nat.mul_assoc]
  rw [key]
  rcases Int.le_total 0 e with he | he
  · have e1 : min (-(k : Int)) e = -(k : Int) := by omega
    have e2 : (-e).toNat = 0 := by omega
    have e3 : (e - -(k : Int)).toNat = e.toNat + k := by omega
    have e4 : (-(k : Int) - -(k : Int)).toNat = 0 := by omega
    rw [e1, e2, e3, e4, Nat.add_zero, Nat.pow_add 2 e.toNat k, ← Nat.mul_assoc, Nat.pow_zero, Nat.div_one, Nat.add_sub_cancel]
    exact Nat.mul_lt_mul_right (Nat.two_pow_pos k)
  · obtain ⟨f, hf⟩ : ∃ f : Nat, e = -(f : Int) := ⟨(-e).toNat, by omega⟩
    subst hf
    have e0 : (-(f : Int)).toNat = 0 := by omega
    have e2 : (-(-(f : Int))).toNat = f := by omega
    rw [e0, e2, Nat.pow_zero, Nat.mul_one]
    obtain ⟨b, hb⟩ : ∃ b : Nat, min (-(k : Int)) (-(f : Int)) = -(b : Int) := ⟨max k f, by omega⟩
    have hbk : k ≤ b ∧ f ≤ b := by omega
    rw [hb]
    have e3 : (-(k : Int) - -(b : Int)).toNat = b - k := by omega
    have e4 : (-(f : Int) - -(b : Int)).toNat = b - f := by omega
    rw [e3, e4, show k + (b - k) = f + (b - f) by omega, Nat.pow_add, ← Nat.mul_assoc, Nat.mul_lt_mul_right (Nat.two_pow_pos (b - f))]
    have hp := Nat.two_pow_pos f
    constructor
    · intro h
      exact (Nat.le_div_iff_mul_le hp).2 (by rw [Nat.succ_mul]; omega)
    · intro h
      have := (Nat.le_div_iff_mul_le hp).1 h
      rw [Nat.succ_mul] at this; omega
theorem small : ∀ K : Nat, K < 65 → (ord (F.write (.number false K 0)) 4611686018427387904).isSome = true ∧ (ord (fmax (F.write (.number false K 0)) 4611686018427387904) 4634204016564240384).isSome = true ∧
    floatToIntVal .f64 (fmin (fmax (F.write (.number false K 0)) 4611686018427387904) 4634204016564240384) .i64 = some ((max K 2 : Nat) : Int) := by decide +kernel
theorem kept_ge (K : Nat) (hK : 64 ≤ K) : ∃ r, 4634204016564240384 ≤ r ∧ r ≤ 9218868437227405312 ∧ F.write (.number false K 0) = F.word false r := by
  show ∃ r, _ ∧ _ ∧ F.nearest false K 0 = _
  unfold Ieee.Format.nearest
  rw [if_neg (by omega)]
  have hl1 : 2 ^ K.log2 ≤ K := Nat.log2_self_le (by omega)
  have hl6 : 6 ≤ K.log2 := by
    rcases Nat.lt_or_ge K.log2 6 with h | h
    · have h2 := @Nat.lt_log2_self K
      have h3 : 2 ^ (K.log2 + 1) ≤ 2 ^ 6 := Nat.pow_le_pow_right (by omega) (by omega)
      omega
    · exact h
  have hfb : ((F.fractionBits : Nat) : Int) = 52 := by decide
  simp only [hfb, lp, bn, ir]
  have hlast : max (0 + (K.log2 : Int) - 52) (-1074) = (K.log2 : Int) - 52 := by omega
  rw [hlast]
  obtain ⟨kept, hk⟩ : ∃ kept, Ieee.Toward.cut .even false (K <<< (0 - ((K.log2 : Int) - 52)).toNat) (((K.log2 : Int) - 52) - 0).toNat = kept := ⟨_, rfl⟩
  have hge : 4503599627370496 ≤ kept := by
    rw [← hk]
    unfold Ieee.Toward.cut
    refine Nat.le_trans ?_ (Nat.le_add_right _ _)
    rw [Nat.one_shiftLeft]
    by_cases h : K.log2 ≤ 52
    · have e1 : (((K.log2 : Int) - 52) - 0).toNat = 0 := by omega
      have e2 : (0 - ((K.log2 : Int) - 52)).toNat = 52 - K.log2 := by omega
      rw [e1, e2, Nat.zero_min, Nat.pow_zero, Nat.div_one, Nat.shiftLeft_eq]
      calc 4503599627370496 = 2 ^ K.log2 * 2 ^ (52 - K.log2) := by rw [← Nat.pow_add, show K.log2 + (52 - K.log2) = 52 by omega]
        _ ≤ K * 2 ^ (52 - K.log2) := Nat.mul_le_mul_right _ hl1
    · have e1 : (((K.log2 : Int) - 52) - 0).toNat = K.log2 - 52 := by omega
      have e2 : (0 - ((K.log2 : Int) - 52)).toNat = 0 := by omega
      rw [e1, e2, Nat.shiftLeft_zero, Nat.min_eq_left (by omega)]
      refine (Nat.le_div_iff_mul_le (Nat.two_pow_pos _)).2 ?_
      calc 4503599627370496 * 2 ^ (K.log2 - 52) = 2 ^ K.log2 := by rw [show (4503599627370496 : Nat) = 2 ^ 52 by decide, ← Nat.pow_add, show 52 + (K.log2 - 52) = K.log2 by omega]
        _ ≤ K := hl1
  rw [hk]
  refine ⟨_, ?_, Nat.min_le_right _ _, rfl⟩
  refine Nat.le_min.2 ⟨?_, by omega⟩
  have e3 : (((K.log2 : Int) - 52) - -1074).toNat = K.log2 + 1022 := by omega
  rw [e3]
  omega
theorem big (K : Nat) (hK : 64 ≤ K) : ord (F.write (.number false K 0)) 4611686018427387904 = some .gt ∧ (ord (F.write (.number false K 0)) 4634204016564240384 = some .gt ∨ ord (F.write (.number false K 0)) 4634204016564240384 = some .eq) ∧
    (FloatKind.f64.decode (F.write (.number false K 0))).neg = false := by
  obtain ⟨r, h1, h2, h3⟩ := kept_ge K hK
  rw [h3]
  have hr := read_word false r (by omega)
  have r64 : F.read 4634204016564240384 = .number false 4503599627370496 (-46) := by decide
  have r2 : F.read 4611686018427387904 = .number false 4503599627370496 (-51) := by decide
  have o64 : ord (F.word false r) 4634204016564240384 = (F.read (F.word false r)).order (.number false 4503599627370496 (-46)) := by unfold ord Ieee.Format.order; rw [r64]
  have o2 : ord (F.word false r) 4611686018427387904 = (F.read (F.word false r)).order (.number false 4503599627370496 (-51)) := by unfold ord Ieee.Format.order; rw [r2]
  have hd : FloatKind.f64.decode (F.word false r) = F.read (F.word false r) := rfl
  rw [o64, o2, hd, hr, if_neg (by omega)]
  by_cases hi : r < 9218868437227405312
  · rw [if_pos hi]
    have hq : 1029 ≤ r / 4503599627370496 := by omega
    obtain ⟨q, hq2⟩ : ∃ q : Nat, r / 4503599627370496 - 1 = 1028 + q := ⟨r / 4503599627370496 - 1029, by omega⟩
    rw [hq2]
    obtain ⟨f, hf⟩ : ∃ f, 4503599627370496 + r % 4503599627370496 = f := ⟨_, rfl⟩
    have hf2 : 4503599627370496 ≤ f := by omega
    rw [hf]
    have b64 : min (-1074 + ((1028 + q : Nat) : Int)) (-46) = -46 := by omega
    have b2 : min (-1074 + ((1028 + q : Nat) : Int)) (-51) = -51 := by omega
    have hpq := Nat.two_pow_pos q
    refine ⟨?_, ?_, rfl⟩
    · simp only [Ieee.Datum.order, b2]
      rw [Option.some.injEq, Int.compare_eq_gt]
      have e1 : (-1074 + ((1028 + q : Nat) : Int) - -51).toNat = q + 5 := by omega
      have e2 : ((-51 : Int) - -51).toNat = 0 := by omega
      simp only [Ieee.signed, Bool.false_eq_true, if_false, e1, e2, Nat.shiftLeft_eq]
      have : 4503599627370496 * 32 ≤ f * 2 ^ (q + 5) := by
        rw [Nat.pow_add]
        have : 32 ≤ 2 ^ q * 2 ^ 5 := by omega
        exact Nat.mul_le_mul hf2 this
      omega
    · have e1 : (-1074 + ((1028 + q : Nat) : Int) - -46).toNat = q := by omega
      have e2 : ((-46 : Int) - -46).toNat = 0 := by omega
      simp only [Ieee.Datum.order, b64, Ieee.signed, Bool.false_eq_true, if_false, e1, e2, Nat.shiftLeft_eq, Option.some.injEq]
      rw [Int.compare_eq_gt, Int.compare_eq_eq]
      have : 4503599627370496 * 1 ≤ f * 2 ^ q := Nat.mul_le_mul hf2 (by omega)
      omega
  · rw [if_neg hi, if_pos (by omega)]
    exact ⟨rfl, .inl rfl, rfl⟩
theorem waits (x : Nat) (hx : Pos x) : ∃ (c y z n : Nat), ceilB x = some c ∧ ord c 4611686018427387904 ≠ none ∧ fmax c 4611686018427387904 = y ∧ ord y 4634204016564240384 ≠ none ∧ fmin y 4634204016564240384 = z ∧
    floatToIntVal .f64 z .i64 = some (n : Int) ∧ (2 ≤ n ∧ n ≤ 64) ∧ ∀ j : Nat, 2 ≤ j → j < 64 → (ord (floatOfInt .f64 j) x == some .lt) = decide (j < n) := by
  have hv : floatToIntVal .f64 4634204016564240384 .i64 = some ((64 : Nat) : Int) := by decide +kernel
  rcases hx with ⟨m, e, hx⟩ | ⟨e, hx⟩ | hx
  · have hc : ceilB x = some (F.write (.number false (top m e) 0)) := by
      unfold ceilB
      rw [show FloatKind.f64.decode x = _ from hx]
      simp only [Ieee.Datum.integral, cut_up]
      rfl
    have hlt : ∀ j : Nat, 2 ≤ j → j < 64 → (ord (floatOfInt .f64 j) x == some .lt) = decide (j < top m e) := by
      intro j h1 h2
      unfold ord Ieee.Format.order
      rw [hx, int_read j (by omega) (by omega)]
      simp only [Ieee.Datum.order]
      rw [Bool.eq_iff_iff, beq_iff_eq, Option.some.injEq, Int.compare_eq_lt, decide_eq_true_iff]
      exact lt_top j (52 - j.log2) m e
    by_cases hK : top m e < 65
    · obtain ⟨s1, s2, s3⟩ := small (top m e) hK
      refine ⟨_, _, _, max (top m e) 2, hc, ?_, rfl, ?_, rfl, s3, by omega, ?_⟩
      · intro h; rw [h] at s1; cases s1
      · intro h; rw [h] at s2; cases s2
      · intro j h1 h2; rw [hlt j h1 h2, decide_eq_decide]; omega
    · obtain ⟨b1, b2, b3⟩ := big (top m e) (by omega)
      have hmax : fmax (F.write (.number false (top m e) 0)) 4611686018427387904 = F.write (.number false (top m e) 0) := by unfold fmax; rw [b1]
      have hmin : fmin (F.write (.number false (top m e) 0)) 4634204016564240384 = 4634204016564240384 := by
        unfold fmin
        rcases b2 with b2 | b2
        · rw [b2]
        · rw [b2, b3]; rfl
      refine ⟨_, _, _, 64, hc, by rw [b1]; simp, hmax, ?_, hmin, hv, by omega, ?_⟩
      · rcases b2 with b2 | b2 <;> rw [b2] <;> simp
      · intro j h1 h2; rw [hlt j h1 h2, decide_eq_decide]; omega
  · have hc : ceilB x = some 9223372036854775808 := by
      unfold ceilB
      rw [show FloatKind.f64.decode x = _ from hx]
      have : (Ieee.Datum.number true 0 e).integral .up = .number true 0 0 := by
        simp [Ieee.Datum.integral, Ieee.Toward.cut]
      simp only [this]
      rfl
    refine ⟨_, _, _, 2, hc, by decide +kernel, rfl, by decide +kernel, rfl, by decide +kernel, by omega, ?_⟩
    intro j h1 h2
    unfold ord Ieee.Format.order
    rw [hx, int_read j (by omega) (by omega)]
    simp only [Ieee.Datum.order, signed_zero]
    rw [Bool.eq_iff_iff, beq_iff_eq, Option.some.injEq, Int.compare_eq_lt, decide_eq_true_iff]
    simp only [Ieee.signed, Bool.false_eq_true, if_false]
    constructor
    · intro h; exact absurd h (Int.not_lt.2 (Int.natCast_nonneg _))
    · intro h; omega
  · have hc : ceilB x = some 9218868437227405312 := by
      unfold ceilB
      rw [show FloatKind.f64.decode x = _ from hx]
      rfl
    refine ⟨_, _, _, 64, hc, by decide +kernel, rfl, by decide +kernel, rfl, by decide +kernel, by omega, ?_⟩
    intro j h1 h2
    unfold ord Ieee.Format.order
    rw [hx, int_read j (by omega) (by omega)]
    simp only [Ieee.Datum.order]
    simp; omega

/-! ### The numbers of a pace are none below 0, nor is what is reckoned of them -/
def PosD (d : Ieee.Datum) : Prop := (∃ m e, d = .number false m e) ∨ (∃ e, d = .number true 0 e) ∨ d = .infinity false
theorem write_pos {d : Ieee.Datum} (h : PosD d) : PosD (F.read (F.write d)) := by
  rcases h with ⟨m, e, rfl⟩ | ⟨e, rfl⟩ | rfl
  · obtain ⟨r, h1, h2⟩ := nearest_word false m e
    show PosD (F.read (F.nearest false m e))
    rw [h2, read_word false r (by omega)]
    by_cases a : r < 4503599627370496
    · rw [if_pos a]; exact .inl ⟨_, _, rfl⟩
    · rw [if_neg a]
      by_cases b : r < 9218868437227405312
      · rw [if_pos b]; exact .inl ⟨_, _, rfl⟩
      · rw [if_neg b, if_pos (by omega)]; exact .inr (.inr rfl)
  · rw [write_zero]; exact .inr (.inl ⟨_, read_mzero⟩)
  · have : F.write (.infinity false) = F.word false 9218868437227405312 := by show F.word false F.infRung = _; rw [ir]
    rw [this, read_word false _ (by omega), if_neg (by omega), if_neg (by omega), if_pos rfl]
    exact .inr (.inr rfl)
theorem cnt_pos {x : Nat} (h : cnt x = true) : PosD (F.read x) := by
  obtain ⟨s, m, e, hr, he⟩ := cnt_num h
  rw [hr]
  cases s
  · exact .inl ⟨_, _, rfl⟩
  · by_cases hm : m = 0
    · subst hm; exact .inr (.inl ⟨_, rfl⟩)
    · exfalso
      unfold cnt geB ord Ieee.Format.order at h
      rw [Bool.and_eq_true] at h
      have h1 := h.1
      rw [hr, read_zero] at h1
      simp only [Ieee.Datum.order, signed_zero] at h1
      have hneg : Ieee.signed true m (e - min e (-1074)).toNat < 0 := by
        simp only [Ieee.signed, if_true]
        have : 0 < m <<< (e - min e (-1074)).toNat := by rw [Nat.shiftLeft_eq]; exact Nat.mul_pos (by omega) (Nat.two_pow_pos _)
        omega
      rw [Int.compare_eq_lt.2 hneg] at h1
      simp at h1
theorem signed_nonneg (m k : Nat) : 0 ≤ Ieee.signed false m k := by simp only [Ieee.signed, Bool.false_eq_true, if_false]; exact Int.natCast_nonneg _
theorem sum_pos {a b : Ieee.Datum} (ha : PosD a) (hb : PosD b) : ∃ d, a.sum b = some d ∧ PosD d := by
  have key : ∀ (u v : Bool) (t : Int) (base : Int), 0 ≤ t → (u && v) = false → PosD (.number (if t = 0 then u && v else decide (t < 0)) t.natAbs base) := by
    intro u v t base ht huv
    by_cases h0 : t = 0
    · rw [if_pos h0, huv]; exact .inl ⟨_, _, rfl⟩
    · rw [if_neg h0, decide_eq_false (by omega)]; exact .inl ⟨_, _, rfl⟩
  rcases ha with ⟨m, e, rfl⟩ | ⟨e, rfl⟩ | rfl
  · rcases hb with ⟨m2, e2, rfl⟩ | ⟨e2, rfl⟩ | rfl
    · exact ⟨_, rfl, key false false _ _ (Int.add_nonneg (signed_nonneg _ _) (signed_nonneg _ _)) rfl⟩
    · exact ⟨_, rfl, key false true _ _ (by rw [signed_zero]; exact Int.add_nonneg (signed_nonneg _ _) (Int.le_refl _)) rfl⟩
    · exact ⟨_, rfl, .inr (.inr rfl)⟩
  · rcases hb with ⟨m2, e2, rfl⟩ | ⟨e2, rfl⟩ | rfl
    · exact ⟨_, rfl, key true false _ _ (by rw [signed_zero]; exact Int.add_nonneg (Int.le_refl _) (signed_nonneg _ _)) rfl⟩
    · refine ⟨_, rfl, .inr (.inl ⟨min e e2, ?_⟩)⟩
      simp only [signed_zero]; rfl
    · exact ⟨_, rfl, .inr (.inr rfl)⟩
  · rcases hb with ⟨m2, e2, rfl⟩ | ⟨e2, rfl⟩ | rfl <;> exact ⟨_, rfl, .inr (.inr rfl)⟩
theorem four_pos {b : Ieee.Datum} (hb : PosD b) : ∃ d, (F.read 4616189618054758400).product b = some d ∧ PosD d := by
  have r4 : F.read 4616189618054758400 = .number false 4503599627370496 (-50) := by decide
  rw [r4]
  rcases hb with ⟨m2, e2, rfl⟩ | ⟨e2, rfl⟩ | rfl
  · exact ⟨_, rfl, .inl ⟨_, _, rfl⟩⟩
  · exact ⟨_, rfl, .inr (.inl ⟨_, rfl⟩)⟩
  · exact ⟨_, rfl, .inr (.inr rfl)⟩
/-- what is waited, of the numbers of a pace -/
theorem pace_waits {m d : Nat} (hm : cnt m = true) (hd : cnt d = true) : ∃ q x, floatBits .mul .f64 4616189618054758400 d = some q ∧ floatBits .add .f64 m q = some x ∧ Pos x := by
  obtain ⟨d1, h1, p1⟩ := four_pos (cnt_pos hd)
  obtain ⟨d2, h2, p2⟩ := sum_pos (cnt_pos hm) (write_pos p1)
  refine ⟨F.write d1, F.write d2, ?_, ?_, write_pos p2⟩
  · unfold floatBits Ieee.Format.mul; simp only [h1]; rfl
  · unfold floatBits Ieee.Format.add; simp only [h2]; rfl
end Pac
end Go.Proofs.Ytgkadhogfejheaa
