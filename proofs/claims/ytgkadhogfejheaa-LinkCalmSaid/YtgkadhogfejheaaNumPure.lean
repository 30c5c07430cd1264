/- Numbers by seven bits: the plain law; no program in sight. -/
namespace Go.Proofs.Ytgkadhogfejheaa.Num

def put (n : Nat) : List UInt8 := if h : n < 128 then [UInt8.ofNat n] else UInt8.ofNat (n % 128 + 128) :: put (n / 128)
termination_by n
decreasing_by omega

/-- what is read at most, of a list, k bytes having been read whose number is n -/
def go (most : Nat) : List UInt8 → Nat → Nat → Except Nat (Nat × List UInt8)
  | [], k, _ => if k = 10 then .error 9 else .error 8
  | b :: t, k, n =>
    if k = 10 then .error 9 else
    if k = 9 ∧ 1 < b.toNat ∧ b.toNat < 128 then .error 9 else
    if b.toNat < 128 then
      if (0 < k ∧ b.toNat = 0) ∨ most < n + (b.toNat % 128 * 128 ^ k) % 2 ^ 64 then .error 9 else .ok (n + (b.toNat % 128 * 128 ^ k) % 2 ^ 64, t)
    else go most t (k + 1) (n + (b.toNat % 128 * 128 ^ k) % 2 ^ 64)
def read (most : Nat) (l : List UInt8) : Except Nat (Nat × List UInt8) := go most l 0 0

theorem put_lt {n : Nat} (h : n < 128) : put n = [UInt8.ofNat n] := by rw [put, dif_pos h]
theorem put_ge {n : Nat} (h : ¬ n < 128) : put n = UInt8.ofNat (n % 128 + 128) :: put (n / 128) := by rw [put, dif_neg h]

theorem put_length : ∀ (k n : Nat), n < 128 ^ (k + 1) → (put n).length ≤ k + 1 := by
  intro k
  induction k with
  | zero => intro n h; rw [put_lt (by simpa using h)]; simp
  | succ k ih =>
    intro n h
    by_cases h1 : n < 128
    · rw [put_lt h1]; simp
    · rw [put_ge h1]
      have := ih (n / 128) (by rw [Nat.div_lt_iff_lt_mul (by omega)]; rw [Nat.pow_succ] at h; exact h)
      simp; omega
theorem put_ten {n : Nat} (h : n < 2 ^ 64) : (put n).length ≤ 10 := by
  have : (2:Nat) ^ 64 < 128 ^ (9 + 1) := by decide
  exact put_length 9 n (by omega)
theorem put_pos (n : Nat) : 0 < (put n).length := by rw [put]; split <;> simp

theorem put_inj : ∀ (n m : Nat), put n = put m → n = m := by
  intro n
  induction n using Nat.strongRecOn with
  | ind n ih =>
    intro m h
    by_cases h1 : n < 128 <;> by_cases h2 : m < 128
    · rw [put_lt h1, put_lt h2] at h
      simp at h
      have := congrArg UInt8.toNat h
      simp [UInt8.toNat_ofNat'] at this; omega
    · rw [put_lt h1, put_ge h2] at h
      simp at h
      have := put_pos (m / 128)
      have := h.2
      simp_all
    · rw [put_ge h1, put_lt h2] at h
      simp at h
      have := put_pos (n / 128)
      have := h.2
      simp_all
    · rw [put_ge h1, put_ge h2] at h
      simp at h
      have e := congrArg UInt8.toNat h.1
      simp [UInt8.toNat_ofNat'] at e
      have := ih (n / 128) (by omega) _ h.2
      omega

theorem put_max (n : Nat) (h : n < 2 ^ 64) (m : Nat) (t : List UInt8) (he : put m ++ t = put n) : m = n ∧ t = [] := by
  induction n using Nat.strongRecOn generalizing m with
  | ind n ih =>
    by_cases h1 : n < 128 <;> by_cases h2 : m < 128
    · rw [put_lt h1, put_lt h2] at he
      simp at he
      have := congrArg UInt8.toNat he.1
      simp [UInt8.toNat_ofNat'] at this
      exact ⟨by omega, he.2⟩
    · rw [put_lt h1, put_ge h2] at he
      simp at he
      have := put_pos (m / 128)
      simp_all
    · rw [put_ge h1, put_lt h2] at he
      simp at he
      have := congrArg UInt8.toNat he.1
      simp [UInt8.toNat_ofNat'] at this
      omega
    · rw [put_ge h1, put_ge h2] at he
      simp at he
      have e := congrArg UInt8.toNat he.1
      simp [UInt8.toNat_ofNat'] at e
      have := ih (n / 128) (by omega) (by omega) _ he.2
      exact ⟨by omega, this.2⟩

theorem pow9 : (128 : Nat) ^ 9 = 9223372036854775808 := by decide

theorem pow_le {k : Nat} (h : k ≤ 8) : (128 : Nat) ^ k ≤ 72057594037927936 := by
  have : (128 : Nat) ^ k ≤ 128 ^ 8 := Nat.pow_le_pow_right (by omega) h
  simpa using this

theorem mod_small {b k : Nat} (hb : b < 128) (hk : k ≤ 9) (h9 : k = 9 → b ≤ 1) : (b * 128 ^ k) % 2 ^ 64 = b * 128 ^ k := by
  apply Nat.mod_eq_of_lt
  by_cases e : k = 9
  · subst e; have := h9 rfl; rw [pow9]; omega
  · have := pow_le (show k ≤ 8 by omega)
    have : b * 128 ^ k ≤ 127 * 72057594037927936 := Nat.mul_le_mul (by omega) this
    omega

theorem go_ten (most : Nat) (l : List UInt8) (n : Nat) : go most l 10 n = .error 9 := by
  cases l <;> simp [go]

/-- what was read was put so -/
theorem go_put (most : Nat) : ∀ (l : List UInt8) (k n x : Nat) (t : List UInt8), k ≤ 9 → go most l k n = .ok (x, t) →
    ∃ m, l = put m ++ t ∧ x = n + m * 128 ^ k ∧ (0 < k → 0 < m) ∧ x ≤ most := by
  intro l
  induction l with
  | nil => intro k n x t hk h; simp only [go] at h; split at h <;> simp at h
  | cons b l ih =>
    intro k n x t hk h
    simp only [go] at h
    rw [if_neg (by omega)] at h
    split at h
    · simp at h
    rename_i hA
    split at h
    · rename_i hb
      split at h
      · simp at h
      rename_i hB
      have hbm : b.toNat % 128 = b.toNat := Nat.mod_eq_of_lt hb
      rw [hbm] at h hB
      rw [mod_small hb hk (by intro e; omega)] at h hB
      simp only [Except.ok.injEq, Prod.mk.injEq] at h
      refine ⟨b.toNat, ?_, h.1.symm, by omega, by omega⟩
      rw [put_lt hb]; simp [h.2]
    · rename_i hb
      by_cases e : k = 9
      · subst e; rw [go_ten] at h; simp at h
      obtain ⟨m, h1, h2, h3, h4⟩ := ih (k + 1) _ x t (by omega) h
      rw [mod_small (by omega) hk (by omega)] at h2
      have hm := h3 (by omega)
      have hb2 := b.toNat_lt
      refine ⟨b.toNat % 128 + 128 * m, ?_, ?_, by omega, h4⟩
      · rw [put_ge (by omega), h1]
        have e1 : (b.toNat % 128 + 128 * m) % 128 + 128 = b.toNat := by omega
        have e2 : (b.toNat % 128 + 128 * m) / 128 = m := by omega
        rw [e1, e2]; simp
      · rw [h2, Nat.pow_succ, Nat.add_mul]
        have : m * (128 ^ k * 128) = 128 * m * 128 ^ k := by rw [Nat.mul_comm (128 ^ k), ← Nat.mul_assoc, Nat.mul_comm m]
        omega
theorem read_put {most : Nat} {l t : List UInt8} {x : Nat} (h : read most l = .ok (x, t)) : l = put x ++ t ∧ x ≤ most := by
  obtain ⟨m, h1, h2, _, h4⟩ := go_put most l 0 0 x t (by omega) h
  simp at h2; subst h2; exact ⟨h1, h4⟩

/-- an error is no zero -/
theorem go_err (most : Nat) : ∀ (l : List UInt8) (k n c : Nat), go most l k n = .error c → c ≠ 0 := by
  intro l
  induction l with
  | nil => intro k n c h; simp only [go] at h; split at h <;> simp at h <;> omega
  | cons b l ih =>
    intro k n c h
    simp only [go] at h
    split at h
    · simp at h; omega
    split at h
    · simp at h; omega
    split at h
    · split at h
      · simp at h; omega
      · simp at h
    · exact ih _ _ _ h
theorem read_err {most : Nat} {l : List UInt8} {c : Nat} (h : read most l = .error c) : c ≠ 0 := go_err most l 0 0 c h
/-- what was put is read so -/
theorem put_go (most : Nat) (hmost : most < 2 ^ 64) (t : List UInt8) : ∀ (m k n : Nat), k ≤ 9 → n + m * 128 ^ k ≤ most → (0 < k → 0 < m) → go most (put m ++ t) k n = .ok (n + m * 128 ^ k, t) := by
  intro m
  induction m using Nat.strongRecOn with
  | ind m ih =>
    intro k n hk hle hpos
    have h9 : k = 9 → m ≤ 1 := by intro e; subst e; rw [pow9] at hle; omega
    by_cases h1 : m < 128
    · rw [put_lt h1]
      have e1 : (UInt8.ofNat m).toNat = m := by simp [UInt8.toNat_ofNat']; omega
      simp only [List.cons_append, List.nil_append, go, e1]
      rw [if_neg (by omega), if_neg (by omega), if_pos h1, Nat.mod_eq_of_lt h1, mod_small h1 hk h9, if_neg (by omega)]
    · rw [put_ge h1]
      have e1 : (UInt8.ofNat (m % 128 + 128)).toNat = m % 128 + 128 := by simp [UInt8.toNat_ofNat']; omega
      simp only [List.cons_append, go, e1]
      have e2 : (m % 128 + 128) % 128 = m % 128 := by omega
      rw [if_neg (by omega), if_neg (by omega), if_neg (by omega), e2, mod_small (by omega) hk (by omega)]
      have e3 : n + m % 128 * 128 ^ k + m / 128 * 128 ^ (k + 1) = n + m * 128 ^ k := by
        rw [Nat.pow_succ]
        have : m / 128 * (128 ^ k * 128) = 128 * (m / 128) * 128 ^ k := by rw [Nat.mul_comm (128 ^ k), ← Nat.mul_assoc, Nat.mul_comm (m / 128)]
        rw [this, Nat.add_assoc, ← Nat.add_mul]
        congr 2; omega
      rw [ih (m / 128) (by omega) (k + 1) _ (by omega) (by rw [e3]; exact hle) (by omega), e3]
theorem put_read (most : Nat) (hmost : most < 2 ^ 64) (t : List UInt8) (m : Nat) (h : m ≤ most) : read most (put m ++ t) = .ok (m, t) := by
  have := put_go most hmost t m 0 0 (by omega) (by simpa using h) (by omega)
  simpa [read] using this

/-! ### The bits -/
theorem or_128 (n : Nat) : (n % 256) ||| 128 = n % 128 + 128 := by
  have h : ∀ b : Nat, b < 256 → b ||| 128 = b % 128 + 128 := by decide +kernel
  rw [h _ (Nat.mod_lt _ (by omega))]; omega
theorem and_127 (b : Nat) : b &&& 127 = b % 128 := by
  rw [show (127:Nat) = 2 ^ 7 - 1 by rfl, Nat.and_two_pow_sub_one_eq_mod]
theorem or_shift {n k b : Nat} (hn : n < 128 ^ k) (hk : k ≤ 9) : n ||| ((b % 128) <<< (7 * k) % 2 ^ 64) = n + (b % 128 * 128 ^ k) % 2 ^ 64 := by
  have e : (128 : Nat) ^ k = 2 ^ (7 * k) := by rw [Nat.pow_mul]
  rw [Nat.shiftLeft_eq, ← e]
  have h64 : (2:Nat) ^ 64 = 128 ^ k * 2 ^ (64 - 7 * k) := by rw [e, ← Nat.pow_add]; congr 1; omega
  rw [Nat.mul_comm (b % 128), h64, Nat.mul_mod_mul_left, e]
  rw [e] at hn
  rw [Nat.or_comm, ← Nat.two_pow_add_eq_or_of_lt hn, Nat.add_comm]
theorem go_lt {n k b : Nat} (hn : n < 128 ^ k) : n + (b % 128 * 128 ^ k) % 2 ^ 64 < 128 ^ (k + 1) := by
  have : (b % 128 * 128 ^ k) % 2 ^ 64 ≤ b % 128 * 128 ^ k := Nat.mod_le _ _
  have : b % 128 * 128 ^ k ≤ 127 * 128 ^ k := Nat.mul_le_mul_right _ (by omega)
  rw [Nat.pow_succ]; omega
end Go.Proofs.Ytgkadhogfejheaa.Num
