/- The laws of chapter 19: PaceHears; the plain law of the zeros. -/
import Derived.Test.YtgkadhogfejheaaZPacS
import Derived.Laws.BitsAllLaws
set_option linter.unusedVariables false
set_option linter.unusedSimpArgs false
namespace Go.Proofs.Ytgkadhogfejheaa
open Go.RowKit

namespace Pac
abbrev F : Ieee.Format := FloatKind.f64.format
theorem sw : F.signWeight = 9223372036854775808 := by decide
theorem bn : F.binade = 4503599627370496 := by decide
theorem ir : F.infRung = 9218868437227405312 := by decide
theorem lp : F.leastPlace = -1074 := by decide
/-- not no number -/
def Nn (d : Ieee.Datum) : Prop := ∀ s f, d ≠ .nan s f
theorem word_eq (neg : Bool) (rung : Nat) : F.word neg rung = if neg then 9223372036854775808 + rung else rung := by
  unfold Ieee.Format.word; rw [sw]
theorem read_word (neg : Bool) (rung : Nat) (h : rung < 9223372036854775808) : F.read (F.word neg rung) =
    if rung < 4503599627370496 then .number neg rung (-1074)
    else if rung < 9218868437227405312 then .number neg (4503599627370496 + rung % 4503599627370496) (-1074 + (rung / 4503599627370496 - 1 : Nat))
    else if rung = 9218868437227405312 then .infinity neg
    else .nan neg (rung - 9218868437227405312) := by
  rw [word_eq]
  unfold Ieee.Format.read
  simp only [sw, bn, ir, lp]
  cases neg
  · have h1 : rung / 9223372036854775808 % 2 = 0 := by omega
    have h2 : rung % 9223372036854775808 = rung := by omega
    simp only [Bool.false_eq_true, if_false, h1, h2]; rfl
  · have h1 : (9223372036854775808 + rung) / 9223372036854775808 % 2 = 1 := by omega
    have h2 : (9223372036854775808 + rung) % 9223372036854775808 = rung := by omega
    simp only [if_true, h1, h2]; rfl
theorem nearest_word (neg : Bool) (mag : Nat) (place : Int) : ∃ rung, rung ≤ 9218868437227405312 ∧ F.nearest neg mag place = F.word neg rung := by
  unfold Ieee.Format.nearest
  split
  · exact ⟨0, by omega, rfl⟩
  · exact ⟨_, by rw [← ir]; exact Nat.min_le_right _ _, rfl⟩
theorem write_word (d : Ieee.Datum) (h : Nn d) : ∃ s rung, rung ≤ 9218868437227405312 ∧ F.write d = F.word s rung := by
  cases d with
  | number s m e => obtain ⟨r, h1, h2⟩ := nearest_word s m e; exact ⟨s, r, h1, h2⟩
  | infinity s => exact ⟨s, 9218868437227405312, Nat.le_refl _, by show F.word s F.infRung = _; rw [ir]⟩
  | nan s f => exact absurd rfl (h s f)
theorem read_write (d : Ieee.Datum) (h : Nn d) : Nn (F.read (F.write d)) := by
  obtain ⟨s, r, h1, h2⟩ := write_word d h
  rw [h2, read_word s r (by omega)]
  intro s' f'
  split
  · simp
  · split
    · simp
    · rw [if_pos (by omega)]; simp
/-- a word of a number -/
def Num (x : Nat) : Prop := ∃ s m e, F.read x = .number s m e ∧ -1074 ≤ e
theorem num_of_read {x : Nat} {s : Bool} {m : Nat} {e : Int} (h : F.read x = .number s m e) : Num x := by
  refine ⟨s, m, e, h, ?_⟩
  unfold Ieee.Format.read at h
  simp only [lp] at h
  split at h
  · injection h with _ _ h; omega
  · split at h
    · injection h with _ _ h; omega
    · split at h <;> cases h
theorem read_zero : F.read 0 = .number false 0 (-1074) := by decide
theorem read_mzero : F.read 9223372036854775808 = .number true 0 (-1074) := by decide
theorem cnt_num {x : Nat} (h : cnt x = true) : Num x := by
  unfold cnt geB leB ord Ieee.Format.order at h
  rw [Bool.and_eq_true] at h
  obtain ⟨h1, h2⟩ := h
  cases hr : F.read x with
  | number s m e => exact num_of_read hr
  | infinity s =>
    cases s
    · rw [hr] at h2
      have : F.read 4696837146684686336 = .number false 8589934592000000 (-33) := by decide
      rw [this] at h2
      simp [Ieee.Datum.order] at h2
    · rw [hr, read_zero] at h1
      simp [Ieee.Datum.order] at h1
  | nan s f => rw [hr] at h1; simp [Ieee.Datum.order] at h1
theorem blend_some {a b s : Nat} (ha : Num a) (hb : Nn (F.read b)) (hs : ∃ t n e, F.read s = .number t n e ∧ n ≠ 0) : ∃ r, blend a b s = some r := by
  obtain ⟨sa, ma, ea, ha, _⟩ := ha
  obtain ⟨t, n, e, hs, hn⟩ := hs
  unfold blend floatBits
  simp only
  have h1 : ∃ d, (F.read b).sum (F.read a).opposite = some d ∧ Nn d := by
    rw [ha]
    cases hr : F.read b with
    | number s m e => exact ⟨_, rfl, by intro s f h; cases h⟩
    | infinity s => exact ⟨_, rfl, by intro s f h; cases h⟩
    | nan s f => exact absurd hr (hb s f)
  obtain ⟨d, hd, hnd⟩ := h1
  have e1 : F.sub b a = some (F.write d) := by unfold Ieee.Format.sub; rw [hd]; rfl
  rw [e1]
  simp only [Option.bind_some]
  have h2 : ∃ d2, (F.read s).product (F.read (F.write d)) = some d2 ∧ Nn d2 := by
    rw [hs]
    have := read_write d hnd
    cases hr : F.read (F.write d) with
    | number s m e => exact ⟨_, rfl, by intro s f h; cases h⟩
    | infinity s => exact ⟨.infinity (t ^^ s) , by simp [Ieee.Datum.product, hn, Bool.xor_comm], by intro s f h; cases h⟩
    | nan s f => exact absurd hr (this s f)
  obtain ⟨d2, hd2, hnd2⟩ := h2
  have e2 : F.mul s (F.write d) = some (F.write d2) := by unfold Ieee.Format.mul; rw [hd2]; rfl
  rw [e2]
  simp only [Option.bind_some]
  have h3 : ∃ d3, (F.read a).sum (F.read (F.write d2)) = some d3 := by
    rw [ha]
    have := read_write d2 hnd2
    cases hr : F.read (F.write d2) with
    | number s m e => exact ⟨_, rfl⟩
    | infinity s => exact ⟨_, rfl⟩
    | nan s f => exact absurd hr (this s f)
  obtain ⟨d3, hd3⟩ := h3
  exact ⟨F.write d3, by unfold Ieee.Format.add; rw [hd3]; rfl⟩
theorem write_zero (s : Bool) (e : Int) : F.write (.number s 0 e) = if s then 9223372036854775808 else 0 := by
  show F.nearest s 0 e = _
  unfold Ieee.Format.nearest
  rw [if_pos rfl, word_eq]
theorem plain_zero (s : Bool) : plain (if s then 9223372036854775808 else 0) = 0 := by
  cases s <;> decide
theorem signed_zero (s : Bool) (k : Nat) : Ieee.signed s 0 k = 0 := by cases s <;> simp [Ieee.signed]
/-- what is blended with the zero, or with the negative one, is plainly the same -/
theorem blend_zero {d s : Nat} (hd : Num d) (hs : ∃ n e, F.read s = .number false n e ∧ n ≠ 0) : ∃ D1 D2, blend d 0 s = some D1 ∧ blend d 9223372036854775808 s = some D2 ∧ plain D1 = plain D2 := by
  obtain ⟨sd, md, ed, hd, he⟩ := hd
  obtain ⟨n, e, hs, hn⟩ := hs
  have hb : min (-1074 : Int) ed = -1074 := by omega
  by_cases hm : md = 0
  · subst hm
    have step : ∀ z (y : Bool), F.read z = .number y 0 (-1074) → ∃ r : Bool, blend d z s = some (if r then 9223372036854775808 else 0) := by
      intro z y hz
      unfold blend floatBits
      simp only
      have e1 : F.sub z d = some (if (y && !sd) then 9223372036854775808 else 0) := by
        unfold Ieee.Format.sub
        rw [hz, hd]
        simp only [Ieee.Datum.opposite, Ieee.Datum.sum, signed_zero, Option.map_some]
        simp [write_zero]
      rw [e1]
      simp only [Option.bind_some]
      obtain ⟨b1, hb1⟩ : ∃ b1, (y && !sd) = b1 := ⟨_, rfl⟩
      rw [hb1]
      have hz2 : F.read (if b1 then 9223372036854775808 else 0) = .number b1 0 (-1074) := by cases b1; exact read_zero; exact read_mzero
      have e2 : F.mul s (if b1 then 9223372036854775808 else 0) = some (if b1 then 9223372036854775808 else 0) := by
        unfold Ieee.Format.mul
        rw [hs, hz2]
        simp [Ieee.Datum.product, write_zero]
      rw [e2]
      simp only [Option.bind_some]
      refine ⟨sd && b1, ?_⟩
      unfold Ieee.Format.add
      rw [hd, hz2]
      simp only [Ieee.Datum.sum, signed_zero, Option.map_some]
      simp [write_zero]
    obtain ⟨r1, h1⟩ := step 0 false read_zero
    obtain ⟨r2, h2⟩ := step 9223372036854775808 true read_mzero
    exact ⟨_, _, h1, h2, by rw [plain_zero, plain_zero]⟩
  · have e1 : F.sub 0 d = F.sub 9223372036854775808 d := by
      unfold Ieee.Format.sub
      rw [read_zero, read_mzero, hd]
      simp only [Ieee.Datum.opposite, Ieee.Datum.sum, signed_zero, Int.zero_add]
      have hne : Ieee.signed (!sd) md (ed - min (-1074) ed).toNat ≠ 0 := by
        have h0 : md <<< (ed - min (-1074) ed).toNat ≠ 0 := by
          rw [Nat.shiftLeft_eq]
          exact Nat.mul_ne_zero hm (by have := Nat.two_pow_pos (ed - min (-1074) ed).toNat; omega)
        cases sd
        · simp only [Ieee.signed, Bool.not_false, if_true]; omega
        · simp only [Ieee.signed, Bool.not_true, Bool.false_eq_true, if_false]; omega
      rw [if_neg hne, if_neg hne]
    obtain ⟨D, hD⟩ := blend_some (a := d) (b := 0) (s := s) ⟨sd, md, ed, hd, he⟩ (by rw [read_zero]; intro s f h; cases h) ⟨false, n, e, hs, hn⟩
    refine ⟨D, D, hD, ?_, rfl⟩
    unfold blend floatBits at hD ⊢
    simp only at hD ⊢
    rw [← e1]; exact hD
theorem xor_top (r : Nat) (h : r < 9223372036854775808) : (9223372036854775808 + r) ^^^ 9223372036854775808 = r := by
  have e : 2 ^ 63 * 1 + r = 2 ^ 63 * 1 ||| r := Nat.two_pow_add_eq_or_of_lt (i := 63) h 1
  have e2 : 9223372036854775808 + r = 2 ^ 63 ||| r := by simpa using e
  have e3 : (9223372036854775808 : Nat) = 2 ^ 63 := by decide
  rw [e2, e3]
  apply Nat.eq_of_testBit_eq
  intro i
  rw [Nat.testBit_xor, Nat.testBit_or, Nat.testBit_two_pow]
  by_cases hi : 63 = i
  · subst hi
    rw [Nat.testBit_lt_two_pow h]; simp
  · simp [hi]
theorem abs_word (s : Bool) (r : Nat) (h : r < 9223372036854775808) : abs (F.word s r) = r := by
  rw [word_eq]
  unfold abs
  have e := u64_andNot_nat (if s then 9223372036854775808 + r else r) 9223372036854775808 (by split <;> omega) (by omega)
  have e2 : ((9223372036854775808 : Nat) : Int) = 9223372036854775808 := rfl
  rw [e2] at e
  rw [e, Int.toNat_natCast]
  have e3 : 18446744073709551615 - 9223372036854775808 = 2 ^ 63 - 1 := by decide
  rw [e3, Nat.and_two_pow_sub_one_eq_mod]
  cases s
  · simp only [Bool.false_eq_true, if_false]; exact Nat.mod_eq_of_lt h
  · simp only [if_true]; omega
/-- the way, either way reckoned, but for the negative zero -/
theorem far_cases (D : Ieee.Datum) (h : Nn D) : far' (F.write D) = abs (F.write D) ∨ (abs (F.write D) = 0 ∧ far' (F.write D) = 9223372036854775808) := by
  obtain ⟨s, r, h1, h2⟩ := write_word D h
  have hr : r < 9223372036854775808 := by omega
  rw [h2, abs_word s r hr]
  have ho : ord (F.word s r) 0 = (F.read (F.word s r)).order (.number false 0 (-1074)) := by unfold ord Ieee.Format.order; rw [read_zero]
  have hbase : ∀ e : Int, -1074 ≤ e → min e (-1074) = -1074 := by intro e he; omega
  cases s
  · left
    have : (ord (F.word false r) 0 == some .lt) = false := by
      rw [ho, read_word false r hr]
      split
      · simp [Ieee.Datum.order, Ieee.signed, Int.compare_eq_lt]
      · split
        · simp only [Ieee.Datum.order, signed_zero]
          rw [beq_eq_false_iff_ne]
          intro hh
          rw [Option.some.injEq, Int.compare_eq_lt] at hh
          simp only [Ieee.signed, Bool.false_eq_true, if_false] at hh
          exact absurd hh (Int.not_lt.2 (Int.natCast_nonneg _))
        · rw [if_pos (by omega)]; simp [Ieee.Datum.order]
    unfold far'
    rw [this]
    simp [word_eq]
  · by_cases h0 : r = 0
    · right
      subst h0
      refine ⟨rfl, ?_⟩
      decide
    · left
      have : (ord (F.word true r) 0 == some .lt) = true := by
        rw [ho, read_word true r hr]
        have hp : ∀ m k : Nat, 0 < m → 0 < m <<< k := by
          intro m k hm; rw [Nat.shiftLeft_eq]; exact Nat.mul_pos hm (Nat.two_pow_pos k)
        split
        · have := hp r (-1074 - min (-1074) (-1074 : Int)).toNat (by omega)
          simp only [Ieee.Datum.order, Ieee.signed, if_true]
          rw [beq_iff_eq, Option.some.injEq, Int.compare_eq_lt]
          omega
        · split
          · simp only [Ieee.Datum.order, Ieee.signed, if_true]
            have := hp (4503599627370496 + r % 4503599627370496) ((-1074 + ((r / 4503599627370496 - 1 : Nat) : Int)) - min (-1074 + ((r / 4503599627370496 - 1 : Nat) : Int)) (-1074 : Int)).toNat (by omega)
            rw [beq_iff_eq, Option.some.injEq, Int.compare_eq_lt]
            omega
          · rw [if_pos (by omega)]; simp [Ieee.Datum.order]
      unfold far'
      rw [this, word_eq]
      simp only [if_true]
      exact xor_top r hr
theorem abs_nn (D : Ieee.Datum) (h : Nn D) : Nn (F.read (abs (F.write D))) := by
  obtain ⟨s, r, h1, h2⟩ := write_word D h
  have hr : r < 9223372036854775808 := by omega
  rw [h2, abs_word s r hr]
  have e : r = F.word false r := by rw [word_eq]; rfl
  rw [e, read_word false r hr]
  intro s' f'
  split
  · simp
  · split
    · simp
    · rw [if_pos (by omega)]; simp
theorem num_nn {x : Nat} (h : Num x) : Nn (F.read x) := by
  obtain ⟨s, m, e, h, _⟩ := h
  rw [h]; intro s f h; cases h
theorem may_cnt {m d : Nat} {s : Bool} (h : may m d s = true) : cnt m = true ∧ cnt d = true := by
  unfold may at h
  simp only [Bool.and_eq_true] at h
  exact ⟨h.1, h.2.1⟩
theorem quo_some {x : Nat} (h : Num x) : ∃ r, floatBits .quo .f64 x 4611686018427387904 = some r := by
  obtain ⟨s, m, e, h, _⟩ := h
  have h2 : F.read 4611686018427387904 = .number false 4503599627370496 (-51) := by decide
  unfold floatBits Ieee.Format.div
  simp only [h, h2, Ieee.Datum.quotient]
  rw [if_neg (by decide)]
  exact ⟨_, rfl⟩
theorem sub_some {t m : Nat} (ht : Num t) (hm : Num m) : ∃ d, Nn d ∧ floatBits .sub .f64 t m = some (F.write d) := by
  obtain ⟨s, a, e, ht, _⟩ := ht
  obtain ⟨s2, a2, e2, hm, _⟩ := hm
  refine ⟨_, ?_, by unfold floatBits Ieee.Format.sub; simp only [ht, hm, Ieee.Datum.opposite, Ieee.Datum.sum]; rfl⟩
  intro s f h; cases h
theorem quarter : ∃ n e, F.read 4598175219545276416 = .number false n e ∧ n ≠ 0 := ⟨4503599627370496, -54, by decide, by decide⟩
theorem eighth : ∃ n e, F.read 4593671619917905920 = .number false n e ∧ n ≠ 0 := ⟨4503599627370496, -55, by decide, by decide⟩
/-- what both hear -/
theorem hears {m d t : Nat} (hmay : may m d true = true) (hcnt : cnt t = true) : ∃ far D1 D2 M, floatBits .sub .f64 t m = some far ∧ blend d (abs far) 4598175219545276416 = some D1 ∧ blend d (far' far) 4598175219545276416 = some D2 ∧
    blend m t 4593671619917905920 = some M ∧ plain D1 = plain D2 := by
  obtain ⟨hm, hd⟩ := may_cnt hmay
  have nm := cnt_num hm
  have nd := cnt_num hd
  have nt := cnt_num hcnt
  obtain ⟨dd, hn, hsub⟩ := sub_some nt nm
  obtain ⟨n8, e8, h8, z8⟩ := eighth
  obtain ⟨M, hM⟩ := blend_some (a := m) (b := t) (s := 4593671619917905920) nm (num_nn nt) ⟨false, n8, e8, h8, z8⟩
  obtain ⟨n4, e4, h4, z4⟩ := quarter
  rcases far_cases dd hn with h | ⟨h1, h2⟩
  · obtain ⟨D, hD⟩ := blend_some (a := d) (b := abs (F.write dd)) (s := 4598175219545276416) nd (abs_nn dd hn) ⟨false, n4, e4, h4, z4⟩
    exact ⟨F.write dd, D, D, M, hsub, hD, by rw [h]; exact hD, hM, rfl⟩
  · obtain ⟨D1, D2, k1, k2, k3⟩ := blend_zero (d := d) (s := 4598175219545276416) nd ⟨n4, e4, h4, z4⟩
    exact ⟨F.write dd, D1, D2, M, hsub, by rw [h1]; exact k1, by rw [h2]; exact k2, hM, k3⟩
end Pac

/-- whatever is heard: both say the same, bit by bit -/
theorem hears_both (m d t : Nat) (s : Bool) : ∃ (X Y : Nat) (Z : Bool),
    (∀ w, Calls Try.prog 56 #[.agg #[.float .f64 m, .float .f64 d, .bool s], .float .f64 t] w fun e w' => e = .returned (.agg #[.float .f64 X, .float .f64 Y, .bool Z]) ∧ Below w.heap.size w w') ∧
    (∀ w, Calls Try.prog 39 #[.agg #[.float .f64 m, .float .f64 d, .bool s], .float .f64 t] w fun e w' => e = .returned (.agg #[.float .f64 X, .float .f64 Y, .bool Z]) ∧ Below w.heap.size w w') := by
  cases hmay : Pac.may m d s with
  | false => exact ⟨0, 0, false, fun w => pace_heard_bad m d t s hmay w, fun w => ref_heard_bad m d t s hmay w⟩
  | true =>
    cases hcnt : Pac.cnt t with
    | false => exact ⟨_, _, _, fun w => pace_heard_not m d t s hmay hcnt w, fun w => ref_heard_not m d t s hmay hcnt w⟩
    | true =>
      cases s with
      | false =>
        obtain ⟨h, hq⟩ := Pac.quo_some (Pac.cnt_num hcnt)
        exact ⟨_, _, _, fun w => pace_heard_first m d t h hmay hcnt hq w, fun w => ref_heard_first m d t h hmay hcnt hq w⟩
      | true =>
        obtain ⟨far, D1, D2, M, hsub, h1, h2, hM, hp⟩ := Pac.hears hmay hcnt
        refine ⟨_, _, _, fun w => pace_heard_some m d t far D1 M hmay hcnt hsub h1 hM w, fun w => ?_⟩
        rw [hp]
        unfold Pac.far' at h2
        cases hlt : (Pac.ord far 0 == some .lt) with
        | true => rw [hlt] at h2; exact ref_heard_some_true m d t far D2 M hmay hcnt hsub hlt h2 hM w
        | false => rw [hlt] at h2; exact ref_heard_some_false m d t far D2 M hmay hcnt hsub hlt h2 hM w

end Go.Proofs.Ytgkadhogfejheaa
