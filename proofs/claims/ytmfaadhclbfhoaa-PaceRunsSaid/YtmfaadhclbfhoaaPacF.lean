/- The laws of chapter 19: what becomes of a pace by one answer more. -/
import Derived.Test.YtmfaadhclbfhoaaPacE
namespace Go.Proofs.Ytmfaadhclbfhoaa
open Go.RowKit

namespace Pac
theorem may_zero0 : may 0 0 false = true := by decide +kernel
theorem quarter_read : F.read 4598175219545276416 = .number false 4503599627370496 (-52 - ((2 : Nat) : Int)) := by decide +kernel
theorem eighth_read : F.read 4593671619917905920 = .number false 4503599627370496 (-52 - ((3 : Nat) : Int)) := by decide +kernel
theorem may_ok {m d : Nat} {s : Bool} (hm : m ≤ 4696837146684686336) (hd : d ≤ 4696837146684686336) (h0 : s = false → m = 0 ∧ d = 0) : may m d s = true := by
  cases s
  · obtain ⟨rfl, rfl⟩ := h0 rfl; exact may_zero0
  · unfold may; rw [cnt_of hm, cnt_of hd]; rfl
theorem plain_self {m : Nat} (hm : m < 9218868437227405312) : plain m = m := by
  have := plain_word false m hm (by simp)
  rwa [word_false] at this
/-- a second answer: both stay bounded, the mean lies between -/
theorem some_step {m d t : Nat} (ht : t < 18446744073709551616) (hm : m ≤ 4696837146684686336) (hd : d ≤ 4696837146684686336) (hc : cnt t = true) (far D1 M : Nat)
    (hfar : floatBits .sub .f64 t m = some far) (hD : blend d (abs far) 4598175219545276416 = some D1) (hM : blend m t 4593671619917905920 = some M) :
    plain M ≤ 4696837146684686336 ∧ plain D1 ≤ 4696837146684686336 ∧ min m (plain t) ≤ plain M ∧ plain M ≤ max m (plain t) := by
  obtain ⟨s, B, rfl, hB, hs⟩ := cnt_word ht hc
  have hp : plain (F.word s B) = B := plain_word s B (by omega) hs
  obtain ⟨r, h1, h2, h3⟩ := blend_between _ 3 (by omega) eighth_read m B s hm hB hs
  rw [hM] at h1
  obtain rfl : M = r := by simpa using h1
  have vA := val_mono hm
  have vB := val_mono hB
  obtain ⟨z, h4, _⟩ := sub_words s false (show B < 9218868437227405312 by omega) (show m < 9218868437227405312 by omega)
  rw [word_false] at h4
  have hfar2 : F.sub (F.word s B) m = some far := hfar
  rw [h4] at hfar2
  obtain ⟨X, hX⟩ : ∃ X, N (sg s (val B) - sg false (val m)).natAbs = X := ⟨_, rfl⟩
  rw [hX] at hfar2
  obtain rfl : F.word z X = far := by simpa using hfar2
  have hXle : X ≤ 4696837146684686336 := by
    rw [← hX]
    refine near_le ?_ (by omega)
    have e1 : sg false (val m) = (val m : Int) := rfl
    have e2 : sg s (val B) = (val B : Int) := by
      cases s
      · rfl
      · rw [hs rfl]; rfl
    rw [e1, e2]; omega
  rw [abs_word z X (by omega)] at hD
  obtain ⟨r2, h5, _, h6⟩ := blend_between _ 2 (by omega) quarter_read d X false hd hXle (by simp)
  rw [word_false, hD] at h5
  obtain rfl : D1 = r2 := by simpa using h5
  rw [hp]
  exact ⟨by omega, by omega, h2, h3⟩
theorem val_lt {a b : Nat} (h : a < b) (hb : b < 9218868437227405312) : val a < val b := by
  rcases Nat.lt_or_ge (val a) (val b) with h1 | h1
  · exact h1
  · have := near_le h1 (show a < 9218868437227405312 by omega)
    rw [show N (val b) = b from near_val b hb] at this
    omega
theorem sg_cnt {s : Bool} {B : Nat} (hs : s = true → B = 0) : sg s (val B) = (val B : Int) := by
  cases s
  · rfl
  · rw [hs rfl]; rfl
theorem compare_val {a b : Nat} (ha : a < 9218868437227405312) (hb : b < 9218868437227405312) : compare (val a : Int) (val b : Int) = compare a b := by
  rcases Nat.lt_trichotomy a b with h | h | h
  · rw [Nat.compare_eq_lt.2 h, Int.compare_eq_lt.2 (by have := val_lt h hb; omega)]
  · subst h; rw [Nat.compare_eq_eq.2 rfl, Int.compare_eq_eq.2 rfl]
  · rw [Nat.compare_eq_gt.2 h, Int.compare_eq_gt.2 (by have := val_lt h ha; omega)]
/-- the order of what counts is that of the plain words -/
theorem ord_cnt {t u : Nat} (ht : t < 18446744073709551616) (hu : u < 18446744073709551616) (h1 : cnt t = true) (h2 : cnt u = true) : ord t u = some (compare (plain t) (plain u)) := by
  obtain ⟨s, A, rfl, hA, hs⟩ := cnt_word ht h1
  obtain ⟨z, B, rfl, hB, hz⟩ := cnt_word hu h2
  rw [ord_words s z (by omega) (by omega), sg_cnt hs, sg_cnt hz, compare_val (by omega) (by omega), plain_word s A (by omega) hs, plain_word z B (by omega) hz]
theorem one_le : val 4696837146684686336 + val 4607182418800017408 ≤ val 4699999999999999999 := by decide +kernel
theorem not_below {m u : Nat} (hu : u < 18446744073709551616) (hc : cnt u = true) (hm : m ≤ 4696837146684686336) (h : plain u ≤ m) : ∃ r, floatBits .sub .f64 u 4607182418800017408 = some r ∧ (ord m r == some .lt) = false := by
  obtain ⟨s, B, rfl, hB, hs⟩ := cnt_word hu hc
  rw [plain_word s B (by omega) hs] at h
  obtain ⟨z, h1, hz1, hz2⟩ := sub_words s false (show B < 9218868437227405312 by omega) (show 4607182418800017408 < 9218868437227405312 by omega)
  rw [word_false, sg_cnt hs, show sg false (val 4607182418800017408) = (val 4607182418800017408 : Int) from rfl] at h1
  rw [sg_cnt hs, show sg false (val 4607182418800017408) = (val 4607182418800017408 : Int) from rfl] at hz1 hz2
  refine ⟨_, h1, ?_⟩
  have v1 := val_mono hB
  have v2 := one_le
  have v3 : val 4696837146684686336 ≤ val 4699999999999999999 := val_mono (by omega)
  generalize hT : ((val B : Int) - (val 4607182418800017408 : Int)) = T at *
  obtain ⟨X, hX⟩ : ∃ X, N T.natAbs = X := ⟨_, rfl⟩
  rw [hX]
  have hXle : X ≤ 4699999999999999999 := by
    rw [← hX]; exact near_le (by omega) (by omega)
  have e1 := ord_words false z (show m < 9218868437227405312 by omega) (show X < 9218868437227405312 by omega)
  rw [word_false] at e1
  rw [e1, beq_eq_false_iff_ne]
  intro e
  rw [Option.some.injEq, Int.compare_eq_lt, show sg false (val m) = (val m : Int) from rfl] at e
  rcases Int.lt_trichotomy T 0 with h3 | h3 | h3
  · rw [hz1 h3, show sg true (val X) = -(val X : Int) from rfl] at e; omega
  · have : X = 0 := by rw [← hX, h3]; exact near_z0
    rw [this] at e
    have : sg z (val 0) = 0 := by cases z <;> rfl
    omega
  · rw [hz2 h3, show sg false (val X) = (val X : Int) from rfl] at e
    have h4 : X ≤ B := by rw [← hX]; exact near_le (by omega) (by omega)
    have h5 := val_mono (Nat.le_trans h4 h)
    omega
theorem not_above {m u : Nat} (hu : u < 18446744073709551616) (hc : cnt u = true) (h : m ≤ plain u) : ∃ r, floatBits .add .f64 u 4607182418800017408 = some r ∧ (ord m r == some .gt) = false := by
  obtain ⟨s, B, rfl, hB, hs⟩ := cnt_word hu hc
  rw [plain_word s B (by omega) hs] at h
  obtain ⟨z, h1, _, hz2⟩ := add_words s false (show B < 9218868437227405312 by omega) (show 4607182418800017408 < 9218868437227405312 by omega)
  rw [word_false, sg_cnt hs, show sg false (val 4607182418800017408) = (val 4607182418800017408 : Int) from rfl] at h1
  rw [sg_cnt hs, show sg false (val 4607182418800017408) = (val 4607182418800017408 : Int) from rfl] at hz2
  refine ⟨_, h1, ?_⟩
  have v1 := val_mono hB
  have v2 := one_le
  have v4 : 0 < val 4607182418800017408 := val_pos (by omega)
  obtain ⟨X, hX⟩ : ∃ X, N ((val B : Int) + (val 4607182418800017408 : Int)).natAbs = X := ⟨_, rfl⟩
  rw [hX, hz2 (by omega), word_false]
  have hXle : X ≤ 4699999999999999999 := by
    rw [← hX]; exact near_le (by omega) (by omega)
  have h4 : B ≤ X := by rw [← hX]; exact near_ge (by omega) (by omega)
  exact not_gt (by omega) (by omega)
end Pac

theorem runs_step (m d t : Nat) (s : Bool) (ht : t < 18446744073709551616) (hm : m ≤ 4696837146684686336) (hd : d ≤ 4696837146684686336) (h0 : s = false → m = 0 ∧ d = 0) : ∃ (X Y : Nat) (Z : Bool),
    (∀ w, Calls Try.prog 13 #[.agg #[.float .f64 m, .float .f64 d, .bool s], .float .f64 t] w fun e w' => e = .returned (.agg #[.float .f64 X, .float .f64 Y, .bool Z]) ∧ Below w.heap.size w w') ∧
    (∀ w, Calls Try.prog 14 #[.agg #[.float .f64 m, .float .f64 d, .bool s], .float .f64 t] w fun e w' => e = .returned (.agg #[.float .f64 X, .float .f64 Y, .bool Z]) ∧ Below w.heap.size w w') ∧
    X ≤ 4696837146684686336 ∧ Y ≤ 4696837146684686336 ∧ (Z = false → X = 0 ∧ Y = 0) ∧
    (Pac.cnt t = false → X = m ∧ Z = s) ∧ (Pac.cnt t = true → Z = true ∧ (s = false → X = Pac.plain t) ∧ (s = true → min m (Pac.plain t) ≤ X ∧ X ≤ max m (Pac.plain t))) := by
  have hmay := Pac.may_ok hm hd h0
  cases hcnt : Pac.cnt t with
  | false =>
    have e1 : Pac.plain m = m := Pac.plain_self (by omega)
    have e2 : Pac.plain d = d := Pac.plain_self (by omega)
    have h1 := fun w => pace_heard_not m d t s hmay hcnt w
    have h2 := fun w => ref_heard_not m d t s hmay hcnt w
    rw [e1, e2] at h1 h2
    exact ⟨m, d, s, h1, h2, hm, hd, h0, fun _ => ⟨rfl, rfl⟩, (fun h => by cases h)⟩
  | true =>
    cases s with
    | false =>
      obtain ⟨z, B, rfl, hB, hz⟩ := Pac.cnt_word ht hcnt
      obtain ⟨h, hq, hle⟩ := Pac.half_cnt z B hB hz
      have hp : Pac.plain (Pac.F.word z B) = B := Pac.plain_word z B (by omega) hz
      exact ⟨_, _, _, fun w => pace_heard_first m d _ h hmay hcnt hq w, fun w => ref_heard_first m d _ h hmay hcnt hq w, by rw [hp]; exact hB, by omega, (fun h => by cases h), (fun h => by cases h), fun _ => ⟨rfl, fun _ => rfl, (fun h => by cases h)⟩⟩
    | true =>
      obtain ⟨far, D1, D2, M, hsub, h1, h2, hM, hp⟩ := Pac.hears hmay hcnt
      obtain ⟨b1, b2, b3, b4⟩ := Pac.some_step ht hm hd hcnt far D1 M hsub h1 hM
      refine ⟨_, _, _, fun w => pace_heard_some m d t far D1 M hmay hcnt hsub h1 hM w, fun w => ?_, b1, b2, (fun h => by cases h), (fun h => by cases h), fun _ => ⟨rfl, (fun h => by cases h), fun _ => ⟨b3, b4⟩⟩⟩
      rw [hp]
      unfold Pac.far' at h2
      cases hlt : (Pac.ord far 0 == some .lt) with
      | true => rw [hlt] at h2; exact ref_heard_some_true m d t far D2 M hmay hcnt hsub hlt h2 hM w
      | false => rw [hlt] at h2; exact ref_heard_some_false m d t far D2 M hmay hcnt hsub hlt h2 hM w
end Go.Proofs.Ytmfaadhclbfhoaa
