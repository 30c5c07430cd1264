/- What the printed functions of the reference's numbers compute: the plain law of reading. -/
import Derived.Test.YtagbjibpcgipkaaPFrameGetsx5
import Derived.Test.YtagbjibpcgipkaaNumX
namespace Go.Proofs.Ytagbjibpcgipkaa.RefN
open Go.RowKit Go.Proofs.YtagbjibpcgipkaaW.PrintWords Go.Proofs.Ytagbjibpcgipkaa.PFrameGets

theorem bt_str (l : List UInt8) (i : Nat) (h : i < l.length) : bt (Mem.str l) (i : Int) = (l[i].toNat : Int) := by
  have e : ∀ h : ((i : Int)).toNat < (Mem.str l).size, ((((Mem.str l)[((i : Int)).toNat]'h).toNat : Nat) : Int) = bt (Mem.str l) (i : Int) := bt_at _ _
  rw [← e (by rw [Mem.str_size]; simpa using h)]
  rfl
/-- the number of the first i bytes -/
def val (l : List UInt8) : Nat → Nat
  | 0 => 0
  | i + 1 => val l i + (l.getD i 0).toNat % 128 * 128 ^ i
theorem val_lt (l : List UInt8) (i : Nat) : val l i < 128 ^ i := by
  induction i with
  | zero => simp [val]
  | succ i ih =>
    have h2 : (l.getD i 0).toNat % 128 * 128 ^ i ≤ 127 * 128 ^ i := Nat.mul_le_mul_right _ (by omega)
    simp only [val]
    rw [Nat.pow_succ]; omega
theorem wrap64_id {i : Int} (h : -9223372036854775808 ≤ i ∧ i < 9223372036854775808) : wrap64 i = i := by unfold wrap64; omega
theorem u64_id {i : Int} (h : 0 ≤ i ∧ i < 18446744073709551616) : IntKind.u64.wrap i = i := by
  rw [IntKind.wrap_u64]; omega
def enc (l : List UInt8) : Except Nat (Nat × List UInt8) → Option (ByteArray × Int × Int)
  | .ok (x, t) => some (Mem.str t, 0, (x : Int))
  | .error e => some (Mem.str l, (e : Int), 0)

theorem l1_eq (l : List UInt8) (most V i : Nat) (hV : V < 2 ^ 64) (hi : i < l.length) (hl : l.length < 2 ^ 62) (j : Nat) : ∀ (k X : Nat), j < k → j ≤ i + 1 → X * 128 ^ j + val l j = V →
    foolscapref03_Num.l1 k most i X ((j : Int) - 1) (Mem.str l) 0 = if V > most then some (Mem.str l, 9, 0) else some (Mem.str (l.drop (i + 1)), 0, (V : Int)) := by
  have hsz := Mem.str_size l
  induction j with
  | zero =>
    intro k X hk _ hX
    obtain ⟨k, rfl⟩ : ∃ m, k = m + 1 := ⟨k - 1, by omega⟩
    have hXV : X = V := by simp [val] at hX; exact hX
    subst hXV
    simp only [foolscapref03_Num.l1]
    rw [if_neg (by omega)]
    have e1 : wrap64 ((i : Int) + 1) = ((i + 1 : Nat) : Int) := by rw [wrap64_id (by omega)]; omega
    rw [e1, hsz]
    by_cases hm : X > most
    · rw [if_pos (by omega), if_pos hm]
    · rw [if_neg (by omega), if_neg hm, if_pos (by omega), if_pos (by omega)]
      congr 2
      rw [Int.toNat_natCast, Num.str_drop]
  | succ j ih =>
    intro k X hk hj hX
    obtain ⟨k, rfl⟩ : ∃ m, k = m + 1 := ⟨k - 1, by omega⟩
    have e0 : ((j + 1 : Nat) : Int) - 1 = (j : Int) := by omega
    rw [e0]
    simp only [foolscapref03_Num.l1]
    have hjl : j < l.length := by omega
    rw [if_pos (by omega), if_pos (by omega), if_pos (by rw [hsz]; omega), bt_str l j hjl]
    have hb : Int.tmod ((l[j].toNat : Nat) : Int) 128 = ((l[j].toNat % 128 : Nat) : Int) := by
      rw [Int.tmod_eq_emod_of_nonneg (by omega)]; simp
    have hval : val l (j + 1) = val l j + l[j].toNat % 128 * 128 ^ j := by simp [val, hjl]
    have hX2 : (128 * X + l[j].toNat % 128) * 128 ^ j + val l j = V := by
      rw [← hX, hval, Nat.pow_succ, Nat.add_mul]
      have : X * (128 ^ j * 128) = 128 * X * 128 ^ j := by rw [Nat.mul_comm (128 ^ j), ← Nat.mul_assoc, Nat.mul_comm X]
      omega
    have hle : 128 * X + l[j].toNat % 128 ≤ V := by
      have h1 : 1 ≤ 128 ^ j := Nat.one_le_pow _ _ (by omega)
      have h2 : (128 * X + l[j].toNat % 128) * 1 ≤ (128 * X + l[j].toNat % 128) * 128 ^ j := Nat.mul_le_mul_left _ h1
      omega
    have hV' : V < 18446744073709551616 := hV
    rw [hb, u64_id (i := 128 * (X : Int)) (by omega), u64_id (i := ((l[j].toNat % 128 : Nat) : Int)) (by omega), u64_id (by omega)]
    have e2 : 128 * (X : Int) + ((l[j].toNat % 128 : Nat) : Int) = ((128 * X + l[j].toNat % 128 : Nat) : Int) := by omega
    rw [e2, wrap64_id (by omega)]
    exact ih k _ (by omega) (by omega) hX2

theorem l0_eq (l : List UInt8) (most : Nat) (hmost : most < 2 ^ 64) (hl : l.length < 2 ^ 62) (d : Nat) : ∀ (k i : Nat), i + d = 10 → i ≤ l.length → 40 + d < k →
    (∀ j (h : j < l.length), j < i → 128 ≤ l[j].toNat) →
    foolscapref03_Num.l0 k most i (Mem.str l) 0 = enc l (Num.go most (l.drop i) i (val l i)) := by
  have hsz := Mem.str_size l
  induction d with
  | zero =>
    intro k i hi hil hk _
    obtain rfl : i = 10 := by omega
    obtain ⟨k, rfl⟩ : ∃ m, k = m + 1 := ⟨k - 1, by omega⟩
    rw [Num.go_ten]
    simp only [foolscapref03_Num.l0, hsz]
    obtain ⟨k, rfl⟩ : ∃ m, k = m + 1 := ⟨k - 1, by omega⟩
    by_cases h10 : ((10 : Nat) : Int) < (l.length : Int)
    · rw [if_pos h10, if_neg (by omega)]; simp only [foolscapref03_Num.j1]; rw [if_pos (by omega)]; rfl
    · rw [if_neg h10]; simp only [foolscapref03_Num.j1]; rw [if_pos (by omega)]; rfl
  | succ d ih =>
    intro k i hi hil hk hall
    obtain ⟨k, rfl⟩ : ∃ m, k = m + 1 := ⟨k - 1, by omega⟩
    simp only [foolscapref03_Num.l0, hsz]
    by_cases hlt : i < l.length
    · have hdrop : l.drop i = l[i] :: l.drop (i + 1) := List.drop_eq_getElem_cons hlt
      rw [if_pos (by omega), if_pos (by omega), if_pos (by omega), bt_str l i hlt, hdrop]
      have hgd : l.getD i 0 = l[i] := by simp [hlt]
      by_cases hb : 128 ≤ l[i].toNat
      · rw [if_pos (by omega), wrap64_id (by omega)]
        have e1 : (i : Int) + 1 = ((i + 1 : Nat) : Int) := by omega
        rw [e1, ih k (i + 1) (by omega) (by omega) (by omega) (by
          intro j hj hji
          by_cases e : j = i
          · subst e; exact hb
          · exact hall j hj (by omega))]
        congr 1
        simp only [Num.go]
        rw [if_neg (by omega), if_neg (by omega), if_neg (by omega)]
        by_cases h9 : i = 9
        · subst h9; rw [Num.go_ten, Num.go_ten]
        · congr 1
          have hp : l[i].toNat % 128 * 128 ^ i < 2 ^ 64 := by
            have h1 := Num.pow_le (k := i) (by omega)
            have h2 : l[i].toNat % 128 * 128 ^ i ≤ 127 * 72057594037927936 := Nat.mul_le_mul (by omega) h1
            omega
          rw [Nat.mod_eq_of_lt hp]
          simp only [val, hgd]
      · rw [if_neg (by omega)]
        obtain ⟨k, rfl⟩ : ∃ m, k = m + 1 := ⟨k - 1, by omega⟩
        simp only [foolscapref03_Num.j1]
        rw [if_neg (by omega), if_neg (by rw [hsz]; omega)]
        -- the two ways to the sum
        have hmod : l[i].toNat % 128 = l[i].toNat := Nat.mod_eq_of_lt (by omega)
        have fin : ∀ (m : Nat), 20 < m → (i = 9 → l[i].toNat ≤ 1) → ∀ bz : Bool, (bz = true ↔ (0 < i ∧ l[i].toNat = 0)) →
            foolscapref03_Num.j2 m most i bz (Mem.str l) 0 = enc l (Num.go most (l[i] :: l.drop (i + 1)) i (val l i)) := by
          intro m hm h9 bz hbz
          obtain ⟨m, rfl⟩ : ∃ m', m = m' + 1 := ⟨m - 1, by omega⟩
          have hgo : Num.go most (l[i] :: l.drop (i + 1)) i (val l i) = if (0 < i ∧ l[i].toNat = 0) ∨ most < val l i + (l[i].toNat % 128 * 128 ^ i) % 2 ^ 64 then .error 9 else .ok (val l i + (l[i].toNat % 128 * 128 ^ i) % 2 ^ 64, l.drop (i + 1)) := by
            simp only [Num.go]
            rw [if_neg (by omega), if_neg (by rintro ⟨h1, h2, h3⟩; have := h9 h1; omega), if_pos (by omega)]
          rw [hgo]
          simp only [foolscapref03_Num.j2]
          by_cases hz : bz = true
          · rw [if_pos hz, if_pos (.inl (hbz.1 hz))]; rfl
          · have hnz : ¬ (0 < i ∧ l[i].toNat = 0) := fun h => hz (hbz.2 h)
            rw [if_neg hz]
            have hv := val_lt l i
            have hp : l[i].toNat % 128 * 128 ^ i < 2 ^ 64 ∧ val l (i + 1) < 2 ^ 64 := by
              simp only [val, hgd]
              by_cases h9' : i = 9
              · have := h9 h9'
                subst h9'
                rw [hmod, Num.pow9] at *
                have : l[9].toNat * 9223372036854775808 ≤ 1 * 9223372036854775808 := Nat.mul_le_mul_right _ this
                omega
              · have h1 := Num.pow_le (k := i) (by omega)
                have h2 : l[i].toNat % 128 * 128 ^ i ≤ 127 * 72057594037927936 := Nat.mul_le_mul (by omega) h1
                omega
            have hl1 := l1_eq l most (val l (i + 1)) i hp.2 hlt hl (i + 1) m 0 (by omega) (Nat.le_refl _) (by omega)
            have e3 : ((i + 1 : Nat) : Int) - 1 = (i : Int) := by omega
            rw [e3] at hl1
            have e4 : ((0 : Nat) : Int) = 0 := rfl
            rw [e4] at hl1
            rw [hl1, Nat.mod_eq_of_lt hp.1]
            have hv1 : val l (i + 1) = val l i + l[i].toNat % 128 * 128 ^ i := by simp only [val, hgd]
            rw [hv1]
            by_cases hm2 : val l i + l[i].toNat % 128 * 128 ^ i > most
            · rw [if_pos hm2, if_pos (.inr hm2)]; rfl
            · rw [if_neg hm2, if_neg (by rintro (h | h); exact hnz h; omega)]; rfl
        by_cases h9 : i = 9
        · subst h9
          rw [if_pos (by omega), if_pos (by rw [hsz]; omega)]
          have e9 : bt (Mem.str l) 9 = (l[9].toNat : Int) := bt_str l 9 hlt
          rw [e9]
          by_cases hb1 : (l[9].toNat : Int) > 1
          · rw [if_pos hb1]
            obtain ⟨k, rfl⟩ : ∃ m, k = m + 1 := ⟨k - 1, by omega⟩
            simp only [foolscapref03_Num.j2, Num.go]
            rw [if_pos trivial, if_neg (by omega), if_pos ⟨trivial, by omega, by omega⟩]; rfl
          · rw [if_neg hb1, if_pos (by omega), if_pos (by omega), if_pos (by rw [hsz]; omega)]
            have e9' : bt (Mem.str l) ((9 : Nat) : Int) = (l[9].toNat : Int) := bt_str l 9 hlt
            rw [e9']
            refine fin _ (by omega) (fun _ => by omega) _ ?_
            rw [beq_iff_eq]; omega
        · rw [if_neg (by omega)]
          by_cases h0 : 0 < i
          · rw [if_pos (by omega), if_pos (by omega), if_pos (by rw [hsz]; omega), bt_str l i hlt]
            refine fin _ (by omega) (fun h => absurd h h9) _ ?_
            rw [beq_iff_eq]; omega
          · rw [if_neg (by omega)]
            refine fin _ (by omega) (fun h => absurd h h9) _ ?_
            simp; omega
    · have hdrop : l.drop i = [] := List.drop_eq_nil_of_le (by omega)
      rw [if_neg (by omega), hdrop]
      obtain ⟨k, rfl⟩ : ∃ m, k = m + 1 := ⟨k - 1, by omega⟩
      simp only [foolscapref03_Num.j1, Num.go]
      rw [if_neg (by omega), if_pos (by rw [hsz]; omega), if_neg (by omega)]; rfl

theorem num_eq (l : List UInt8) (most : Nat) (hmost : most < 2 ^ 64) (hl : l.length < 2 ^ 62) (c : Int) (k : Nat) (hk : 50 < k) :
    foolscapref03_Num.f k (Mem.str l) c most = some (Mem.str (Num.step most l c).2.1, (Num.step most l c).2.2, ((Num.step most l c).1 : Int)) := by
  unfold foolscapref03_Num.f Num.step
  by_cases hc : c = 0
  · subst hc
    rw [if_pos rfl, if_neg (by simp)]
    have := l0_eq l most hmost hl 10 k 0 (by omega) (by omega) (by omega) (by intro j _ h; omega)
    rw [show ((0 : Nat) : Int) = 0 from rfl] at this
    rw [this, List.drop_zero]
    show enc l (Num.read most l) = _
    cases Num.read most l with
    | ok p => rfl
    | error e => rfl
  · rw [if_neg hc, if_pos hc]; rfl
theorem text_eq (l : List UInt8) (most : Nat) (hmost : most < 2 ^ 62) (hl : l.length < 2 ^ 62) (c : Int) (k : Nat) (hk : 60 < k) :
    foolscapref03_Text.f k (Mem.str l) c most = some (Mem.str (Num.text most l c).2.1, (Num.text most l c).2.2, Mem.str (Num.text most l c).1) := by
  obtain ⟨k, rfl⟩ : ∃ m, k = m + 1 := ⟨k - 1, by omega⟩
  unfold foolscapref03_Text.f
  rw [if_neg (by omega)]
  simp only [foolscapref03_Text.j0]
  rw [u64_id (by omega), num_eq l most (by omega) hl c k (by omega)]
  simp only [Option.bind_some]
  unfold Num.text Num.step
  have e : (max (most : Int) 0).toNat = most := by omega
  rw [e]
  by_cases hc : c = 0
  · subst hc
    simp only [ne_eq, not_true_eq_false, if_false]
    cases hr : Num.read most l with
    | error e =>
      have := Num.read_err hr
      simp only
      rw [if_neg (by omega)]; rfl
    | ok p =>
      obtain ⟨n, t⟩ := p
      have h1 := Num.read_put hr
      have htl : t.length ≤ l.length := by rw [h1.1]; simp
      have hsz := Mem.str_size t
      simp only [if_pos]
      rw [hsz, u64_id (by omega)]
      by_cases hn : t.length < n
      · rw [if_pos (by omega), if_pos hn]; rfl
      · rw [if_neg (by omega), if_neg hn, wrap64_id (by omega), if_pos (by omega), if_pos (by omega)]
        rw [Int.toNat_natCast, Num.str_drop, Num.str_extract]
        simp
  · simp only [ne_eq, hc, not_false_eq_true, if_true, if_false]; rfl
end Go.Proofs.Ytagbjibpcgipkaa.RefN
