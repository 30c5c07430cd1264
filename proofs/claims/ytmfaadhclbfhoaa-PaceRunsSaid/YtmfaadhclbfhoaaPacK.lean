/- The laws of chapter 19: the plain law of deviations; no program in sight. -/
import Derived.Test.YtmfaadhclbfhoaaPacV
namespace Go.Proofs.Ytmfaadhclbfhoaa
open Go.RowKit

namespace Pac
theorem cut_mul (n k drop : Nat) (h0 : 0 < n) (neg : Bool) : Ieee.Toward.cut .even neg (n * 2 ^ k) (drop + k) = Ieee.Toward.cut .even neg n drop := by
  have hlog : (n * 2 ^ k).log2 = n.log2 + k := by
    rw [Nat.log2_eq_iff (by exact Nat.mul_ne_zero (by omega) (by have := Nat.two_pow_pos k; omega))]
    have h1 := Nat.log2_self_le (n := n) (by omega)
    have h2 := @Nat.lt_log2_self n
    have hp := Nat.two_pow_pos k
    constructor
    · rw [Nat.pow_add]; exact Nat.mul_le_mul_right _ h1
    · rw [show n.log2 + k + 1 = (n.log2 + 1) + k by omega, Nat.pow_add]; exact Nat.mul_lt_mul_of_pos_right h2 hp
  unfold Ieee.Toward.cut
  simp only [hlog, Nat.one_shiftLeft]
  have hmin : min (drop + k) (n.log2 + k + 2) = min drop (n.log2 + 2) + k := by omega
  rw [hmin]
  generalize min drop (n.log2 + 2) = g
  have hp := Nat.two_pow_pos k
  have e1 : 2 ^ (g + k) = 2 ^ g * 2 ^ k := Nat.pow_add 2 g k
  rw [e1, Nat.mul_div_mul_right _ _ hp, Nat.mul_mod_mul_right]
  have e2 : (2 ^ g * 2 ^ k < 2 * (n % 2 ^ g * 2 ^ k)) ↔ (2 ^ g < 2 * (n % 2 ^ g)) := by
    rw [← Nat.mul_assoc]; exact Nat.mul_lt_mul_right hp
  have e3 : (2 ^ g * 2 ^ k == 2 * (n % 2 ^ g * 2 ^ k)) = (2 ^ g == 2 * (n % 2 ^ g)) := by
    rw [Bool.eq_iff_iff, beq_iff_eq, beq_iff_eq, ← Nat.mul_assoc]
    exact ⟨fun h => Nat.eq_of_mul_eq_mul_right hp h, fun h => congrArg (· * 2 ^ k) h⟩
  rw [e3]
  simp only [e2]
theorem cut_exact (n drop : Nat) (h0 : 0 < n) (neg : Bool) : Ieee.Toward.cut .even neg (n * 2 ^ drop) drop = n := by
  have := cut_mul n drop 0 h0 neg
  rw [Nat.zero_add] at this
  rw [this]
  unfold Ieee.Toward.cut
  simp [Nat.mod_one]
theorem nearest_mul (s : Bool) (n k : Nat) (h0 : 0 < n) (p : Int) : F.nearest s (n * 2 ^ k) p = F.nearest s n (p + k) := by
  have hp := Nat.two_pow_pos k
  have hne : n * 2 ^ k ≠ 0 := Nat.mul_ne_zero (by omega) (by omega)
  have hlog : (n * 2 ^ k).log2 = n.log2 + k := by
    rw [Nat.log2_eq_iff hne]
    have h1 := Nat.log2_self_le (n := n) (by omega)
    have h2 := @Nat.lt_log2_self n
    constructor
    · rw [Nat.pow_add]; exact Nat.mul_le_mul_right _ h1
    · rw [show n.log2 + k + 1 = (n.log2 + 1) + k by omega, Nat.pow_add]; exact Nat.mul_lt_mul_of_pos_right h2 hp
  unfold Ieee.Format.nearest
  rw [if_neg hne, if_neg (by omega), hlog]
  have hl : (p + ((n.log2 + k : Nat) : Int) - (F.fractionBits : Nat)) = (p + (k : Int) + (n.log2 : Int) - (F.fractionBits : Nat)) := by omega
  simp only [hl]
  generalize max (p + (k : Int) + (n.log2 : Int) - (F.fractionBits : Nat)) F.leastPlace = last
  have key : Ieee.Toward.cut .even s ((n * 2 ^ k) <<< (p - last).toNat) (last - p).toNat = Ieee.Toward.cut .even s (n <<< (p + (k : Int) - last).toNat) (last - (p + (k : Int))).toNat := by
    simp only [Nat.shiftLeft_eq]
    rcases Int.le_total last p with h | h
    · have a1 : (last - p).toNat = 0 := by omega
      have a2 : (last - (p + (k : Int))).toNat = 0 := by omega
      have a3 : (p + (k : Int) - last).toNat = k + (p - last).toNat := by omega
      rw [a1, a2, a3, Nat.pow_add, Nat.mul_assoc]
    · have a1 : (p - last).toNat = 0 := by omega
      rw [a1, Nat.pow_zero, Nat.mul_one]
      rcases Int.le_total (p + (k : Int)) last with h2 | h2
      · have a2 : (p + (k : Int) - last).toNat = 0 := by omega
        have a3 : (last - p).toNat = (last - (p + (k : Int))).toNat + k := by omega
        rw [a2, a3, Nat.pow_zero, Nat.mul_one, cut_mul _ _ _ h0]
      · obtain ⟨j, hj⟩ : ∃ j : Nat, (p + (k : Int) - last).toNat = j := ⟨_, rfl⟩
        obtain ⟨i, hi⟩ : ∃ i : Nat, (last - p).toNat = i := ⟨_, rfl⟩
        have a4 : (last - (p + (k : Int))).toNat = 0 := by omega
        have hk : k = j + i := by omega
        rw [hj, hi, a4, hk, Nat.pow_add, ← Nat.mul_assoc, cut_exact _ _ (Nat.mul_pos h0 (Nat.two_pow_pos j))]
        unfold Ieee.Toward.cut
        simp [Nat.mod_one]
  rw [key]
theorem read_normal (d : Nat) (h1 : 4503599627370496 ≤ d) (h2 : d < 9218868437227405312) (s : Bool) : F.read (F.word s d) = .number s (4503599627370496 + d % 4503599627370496) (-1074 + (d / 4503599627370496 - 1 : Nat)) := by
  rw [read_word s d (by omega), if_neg (by omega), if_pos h2]
theorem nearest_normal (d : Nat) (h1 : 4503599627370496 ≤ d) (h2 : d < 9218868437227405312) (s : Bool) : F.nearest s (4503599627370496 + d % 4503599627370496) (-1074 + (d / 4503599627370496 - 1 : Nat)) = F.word s d := by
  obtain ⟨m, hm⟩ : ∃ m, 4503599627370496 + d % 4503599627370496 = m := ⟨_, rfl⟩
  have hml : 4503599627370496 ≤ m ∧ m < 9007199254740992 := by omega
  rw [hm]
  have hlog : m.log2 = 52 := by
    rw [Nat.log2_eq_iff (by omega)]; omega
  have hfb : ((F.fractionBits : Nat) : Int) = 52 := by decide
  unfold Ieee.Format.nearest
  rw [if_neg (by omega), hlog]
  simp only [hfb, lp, bn, ir]
  obtain ⟨q, hq⟩ : ∃ q : Nat, d / 4503599627370496 - 1 = q := ⟨_, rfl⟩
  rw [hq]
  have hlast : max (-1074 + (q : Int) + ((52 : Nat) : Int) - 52) (-1074) = -1074 + (q : Int) := by omega
  rw [hlast]
  have a1 : (-1074 + (q : Int) - (-1074 + (q : Int))).toNat = 0 := by omega
  have a2 : (-1074 + (q : Int) - -1074).toNat = q := by omega
  rw [a1, a2, Nat.shiftLeft_zero]
  have hcut : Ieee.Toward.cut .even s m 0 = m := by
    unfold Ieee.Toward.cut
    simp [Nat.mod_one]
  rw [hcut]
  have hfin : min (q * 4503599627370496 + m) 9218868437227405312 = d := by rw [Nat.min_eq_left (by omega)]; omega
  rw [hfin]
/-- the next deviation -/
def nx (d : Nat) : Nat := F.nearest false (3 * (4503599627370496 + d % 4503599627370496)) (-1074 + (d / 4503599627370496 - 1 : Nat) - 2)
theorem blend_nx (d : Nat) (h1 : 13510798882111488 ≤ d) (h2 : d < 9218868437227405312) : blend d 0 4598175219545276416 = some (nx d) := by
  have w0 : F.word false d = d := by rw [word_eq]; rfl
  have rd := read_normal d (by omega) h2 false
  rw [w0] at rd
  have rt := read_normal d (by omega) h2 true
  have nd := nearest_normal d (by omega) h2 true
  have h3 : 4503599627370496 ≤ d - 9007199254740992 := by omega
  have rt2 := read_normal (d - 9007199254740992) h3 (by omega) true
  have nd2 := nearest_normal (d - 9007199254740992) h3 (by omega) true
  have emod : (d - 9007199254740992) % 4503599627370496 = d % 4503599627370496 := by omega
  have ediv : ((d - 9007199254740992) / 4503599627370496 - 1 : Nat) = d / 4503599627370496 - 1 - 2 := by omega
  rw [emod, ediv] at rt2 nd2
  unfold nx
  obtain ⟨m, hm⟩ : ∃ m, 4503599627370496 + d % 4503599627370496 = m := ⟨_, rfl⟩
  obtain ⟨q, hq⟩ : ∃ q : Nat, d / 4503599627370496 - 1 = q := ⟨_, rfl⟩
  rw [hm, hq] at rd rt nd rt2 nd2
  rw [hm, hq]
  have hq2 : 2 ≤ q := by omega
  have hm0 : 0 < m := by omega
  have eq2 : -1074 + ((q - 2 : Nat) : Int) = -1074 + (q : Int) - 2 := by omega
  rw [eq2] at rt2 nd2
  unfold blend floatBits
  simp only
  have s1 : F.sub 0 d = some (F.word true d) := by
    unfold Ieee.Format.sub
    rw [read_zero, rd]
    simp only [Ieee.Datum.opposite, Ieee.Datum.sum, signed_zero, Int.zero_add, Bool.not_false]
    have b1 : min (-1074 : Int) (-1074 + (q : Int)) = -1074 := by omega
    have b2 : (-1074 + (q : Int) - -1074).toNat = q := by omega
    rw [b1, b2]
    have hs : Ieee.signed true m q = -((m * 2 ^ q : Nat) : Int) := by simp [Ieee.signed, Nat.shiftLeft_eq]
    have hpos : 0 < m * 2 ^ q := Nat.mul_pos hm0 (Nat.two_pow_pos q)
    rw [hs, if_neg (by omega), decide_eq_true (by omega), Int.natAbs_neg, Int.natAbs_natCast]
    show some (F.nearest true (m * 2 ^ q) (-1074)) = _
    rw [nearest_mul _ _ _ hm0, nd]
  rw [s1]
  simp only [Option.bind_some]
  have s2 : F.mul 4598175219545276416 (F.word true d) = some (F.word true (d - 9007199254740992)) := by
    unfold Ieee.Format.mul
    have rq : F.read 4598175219545276416 = .number false 4503599627370496 (-54) := by decide
    rw [rq, rt]
    simp only [Ieee.Datum.product, Option.map_some]
    show some (F.nearest true (4503599627370496 * m) (-54 + (-1074 + (q : Int)))) = _
    rw [Nat.mul_comm, show (4503599627370496 : Nat) = 2 ^ 52 by decide, nearest_mul _ _ _ hm0]
    rw [show (-54 + (-1074 + (q : Int)) + ((52 : Nat) : Int)) = -1074 + (q : Int) - 2 by omega, nd2]
  rw [s2]
  simp only [Option.bind_some]
  unfold Ieee.Format.add
  rw [rd, rt2]
  simp only [Ieee.Datum.sum, Option.map_some]
  have b1 : min (-1074 + (q : Int)) (-1074 + (q : Int) - 2) = -1074 + (q : Int) - 2 := by omega
  rw [b1]
  have b2 : (-1074 + (q : Int) - (-1074 + (q : Int) - 2)).toNat = 2 := by omega
  have b3 : (-1074 + (q : Int) - 2 - (-1074 + (q : Int) - 2)).toNat = 0 := by omega
  rw [b2, b3]
  have hs : Ieee.signed false m 2 + Ieee.signed true m 0 = ((3 * m : Nat) : Int) := by simp [Ieee.signed, Nat.shiftLeft_eq]; omega
  rw [hs, if_neg (by omega), decide_eq_false (by omega), Int.natAbs_natCast]
  rfl
/-- what a word stands for, in units of the least place -/
def val (r : Nat) : Nat := if r < 4503599627370496 then r else (4503599627370496 + r % 4503599627370496) * 2 ^ (r / 4503599627370496 - 1)
theorem val_succ (r : Nat) : val r ≤ val (r + 1) := by
  unfold val
  by_cases h1 : r + 1 < 4503599627370496
  · rw [if_pos (by omega), if_pos h1]; omega
  · rw [if_neg h1]
    by_cases h2 : r < 4503599627370496
    · have : r + 1 = 4503599627370496 := by omega
      rw [if_pos h2, this]
      have e : 4503599627370496 / 4503599627370496 - 1 = 0 := by decide
      rw [e, Nat.pow_zero]; omega
    · rw [if_neg h2]
      by_cases h3 : r % 4503599627370496 + 1 < 4503599627370496
      · have e1 : (r + 1) / 4503599627370496 = r / 4503599627370496 := by omega
        have e2 : (r + 1) % 4503599627370496 = r % 4503599627370496 + 1 := by omega
        rw [e1, e2]; exact Nat.mul_le_mul_right _ (by omega)
      · obtain ⟨q, hq⟩ : ∃ q, r / 4503599627370496 = q + 1 := ⟨r / 4503599627370496 - 1, by omega⟩
        have e1 : (r + 1) / 4503599627370496 = q + 2 := by omega
        have e2 : (r + 1) % 4503599627370496 = 0 := by omega
        rw [e1, e2, hq, show q + 2 - 1 = q + 1 by omega, show q + 1 - 1 = q by omega, Nat.pow_succ]
        have hp := Nat.two_pow_pos q
        have : (4503599627370496 + r % 4503599627370496) * 2 ^ q ≤ 9007199254740992 * 2 ^ q := Nat.mul_le_mul_right _ (by omega)
        have e3 : (4503599627370496 + 0) * (2 ^ q * 2) = 9007199254740992 * 2 ^ q := by omega
        rw [e3]; exact this
theorem val_mono {a b : Nat} (h : a ≤ b) : val a ≤ val b := by
  induction h with
  | refl => exact Nat.le_refl _
  | step _ ih => exact Nat.le_trans ih (val_succ _)
theorem read_val (r : Nat) (h : r < 9218868437227405312) : ∃ (m k : Nat), F.read r = .number false m (-1074 + (k : Int)) ∧ val r = m * 2 ^ k := by
  have w0 : F.word false r = r := by rw [word_eq]; rfl
  have hr := read_word false r (by omega)
  rw [w0] at hr
  by_cases h1 : r < 4503599627370496
  · rw [if_pos h1] at hr
    exact ⟨r, 0, hr, by unfold val; rw [if_pos h1, Nat.pow_zero, Nat.mul_one]⟩
  · rw [if_neg h1, if_pos h] at hr
    exact ⟨_, _, hr, by unfold val; rw [if_neg h1]⟩
theorem ord_val {a b : Nat} (ha : a < 9218868437227405312) (hb : b < 9218868437227405312) : ord a b = some (compare (val a) (val b)) := by
  obtain ⟨m, k, hr, hv⟩ := read_val a ha
  obtain ⟨n, j, hs, hw⟩ := read_val b hb
  unfold ord Ieee.Format.order
  rw [hr, hs]
  simp only [Ieee.Datum.order, Option.some.injEq]
  have key : ∀ g : Nat, k = g + (k - g) → j = g + (j - g) → min (-1074 + (k : Int)) (-1074 + (j : Int)) = -1074 + (g : Int) → compare (Ieee.signed false m (-1074 + (k : Int) - min (-1074 + (k : Int)) (-1074 + (j : Int))).toNat) (Ieee.signed false n (-1074 + (j : Int) - min (-1074 + (k : Int)) (-1074 + (j : Int))).toNat) = compare (val a) (val b) := by
    intro g hk hj hmin
    rw [hmin]
    have e1 : (-1074 + (k : Int) - (-1074 + (g : Int))).toNat = k - g := by omega
    have e2 : (-1074 + (j : Int) - (-1074 + (g : Int))).toNat = j - g := by omega
    rw [e1, e2]
    simp only [Ieee.signed, Bool.false_eq_true, if_false, Nat.shiftLeft_eq]
    have hp := Nat.two_pow_pos g
    have va : val a = m * 2 ^ (k - g) * 2 ^ g := by rw [hv, Nat.mul_assoc, ← Nat.pow_add, show k - g + g = k by omega]
    have vb : val b = n * 2 ^ (j - g) * 2 ^ g := by rw [hw, Nat.mul_assoc, ← Nat.pow_add, show j - g + g = j by omega]
    generalize m * 2 ^ (k - g) = A at va ⊢
    generalize n * 2 ^ (j - g) = B at vb ⊢
    rcases Nat.lt_trichotomy A B with h | h | h
    · rw [Int.compare_eq_lt.2 (by omega), Nat.compare_eq_lt.2 (by rw [va, vb]; exact Nat.mul_lt_mul_of_pos_right h hp)]
    · subst h; rw [va, vb, Int.compare_eq_eq.2 rfl, Nat.compare_eq_eq.2 rfl]
    · rw [Int.compare_eq_gt.2 (by omega), Nat.compare_eq_gt.2 (by rw [va, vb]; exact Nat.mul_lt_mul_of_pos_right h hp)]
  exact key (min k j) (by omega) (by omega) (by omega)
theorem not_gt {a b : Nat} (h : a ≤ b) (hb : b < 9218868437227405312) : (ord a b == some .gt) = false := by
  rw [ord_val (by omega) hb]
  have := val_mono h
  rw [beq_eq_false_iff_ne]
  intro e
  rw [Option.some.injEq, Nat.compare_eq_gt] at e
  omega
theorem val_pos {r : Nat} (h : 0 < r) : 0 < val r := by
  unfold val
  split
  · exact h
  · exact Nat.mul_pos (by omega) (Nat.two_pow_pos _)
theorem cnt_of {d : Nat} (h : d ≤ 4696837146684686336) : cnt d = true := by
  unfold cnt geB leB
  rw [ord_val (by omega) (by omega), ord_val (a := d) (b := 4696837146684686336) (by omega) (by omega)]
  have := val_mono h
  have h0 : val 0 = 0 := rfl
  rw [h0]
  have a1 : (some (compare (val d) 0) == some .gt || some (compare (val d) 0) == some .eq) = true := by
    rcases Nat.eq_zero_or_pos (val d) with e | e
    · rw [e]; decide
    · rw [Nat.compare_eq_gt.2 e]; decide
  have a2 : (some (compare (val d) (val 4696837146684686336)) == some .lt || some (compare (val d) (val 4696837146684686336)) == some .eq) = true := by
    rcases Nat.lt_or_ge (val d) (val 4696837146684686336) with e | e
    · rw [Nat.compare_eq_lt.2 e]; decide
    · rw [Nat.compare_eq_eq.2 (by omega)]; decide
  rw [a1, a2]; rfl
theorem plain_pos {d : Nat} (h : 0 < d) (h2 : d < 9218868437227405312) : plain d = d := by
  unfold plain eqB
  rw [ord_val h2 (by omega)]
  have h0 : val 0 = 0 := rfl
  rw [h0, Nat.compare_eq_gt.2 (val_pos h)]
  rfl
/-- so often heard: the deviation, or none where it grew or came too near to 0 -/
def go : Nat → Nat → Option Nat
  | 0, d => some d
  | i + 1, d => if 13510798882111488 ≤ d ∧ nx d ≤ d ∧ 0 < nx d then go i (nx d) else none
def it : Nat → Nat → Nat
  | 0, d => d
  | i + 1, d => it i (nx d)
theorem it_succ : ∀ i d, it (i + 1) d = nx (it i d)
  | 0, _ => rfl
  | i + 1, d => it_succ i (nx d)
theorem go_it : ∀ n d e, go n d = some e → it n d = e ∧ ∀ i, i < n → 13510798882111488 ≤ it i d ∧ nx (it i d) ≤ it i d ∧ 0 < nx (it i d)
  | 0, d, e, h => by
    simp only [go, Option.some.injEq] at h
    exact ⟨h, fun i hi => by omega⟩
  | n + 1, d, e, h => by
    unfold go at h
    split at h
    · rename_i hc
      obtain ⟨h1, h2⟩ := go_it n (nx d) e h
      refine ⟨h1, fun i hi => ?_⟩
      cases i with
      | zero => exact hc
      | succ i => exact h2 i (by omega)
    · exact absurd h (by simp)
def clamp (k : Nat) : Nat := min (max k 2) 64
/-- what is asked of a time: all at once, for the kernel -/
def steadyAt (k : Nat) : Bool :=
  let x := floatOfInt .f64 k
  (plain x == x && cnt x && ord x x == some .eq && floatBits .sub .f64 x x == some 0 && blend x x 4593671619917905920 == some x) &&
  match floatBits .quo .f64 x 4611686018427387904 with
  | none => false
  | some h => decide (0 < h) && decide (h ≤ 4696837146684686336) &&
    match go 59 h with
    | none => false
    | some d => match floatBits .mul .f64 4616189618054758400 d with
      | none => false
      | some q => match floatBits .add .f64 x q with
        | none => false
        | some s => match ceilB s with
          | none => false
          | some c => (ord c 4611686018427387904).isSome && (ord (fmax c 4611686018427387904) 4634204016564240384).isSome &&
            (floatToIntVal .f64 (fmin (fmax c 4611686018427387904) 4634204016564240384) .i64 == some ((clamp k : Nat) : Int) ||
             floatToIntVal .f64 (fmin (fmax c 4611686018427387904) 4634204016564240384) .i64 == some ((min (clamp k + 1) 64 : Nat) : Int))
end Pac
end Go.Proofs.Ytmfaadhclbfhoaa
