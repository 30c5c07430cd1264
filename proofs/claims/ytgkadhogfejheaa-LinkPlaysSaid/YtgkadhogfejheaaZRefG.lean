/- What the printed function of the reference's frames computes: the plain law's get (FrmU, FrmV, and FrmW's first theorem, at the print PGet). -/
import Derived.Test.YtgkadhogfejheaaZPGetx4
import Derived.Test.YtgkadhogfejheaaQN
import Derived.Test.YtgkadhogfejheaaZFrmI
set_option linter.unusedVariables false
set_option linter.unusedSimpArgs false
namespace Go.Proofs.Ytgkadhogfejheaa.RefN
open Go.RowKit Go.Proofs.YtgkadhogfejheaaW.PrintWords Go.Proofs.Ytgkadhogfejheaa.PGet

theorem bt_str (l : List UInt8) (i : Nat) (h : i < l.length) : bt (Mem.str l) (i : Int) = (l[i].toNat : Int) := by
  have e : ∀ h : ((i : Int)).toNat < (Mem.str l).size, ((((Mem.str l)[((i : Int)).toNat]'h).toNat : Nat) : Int) = bt (Mem.str l) (i : Int) := bt_at _ _
  rw [← e (by rw [Mem.str_size]; simpa using h)]
  rfl
/-- the number of the first i bytes -/
def val (l : List UInt8) : Nat → Nat
  | 0 => 0
  | i + 1 => val l i + (l.getD i 0).toNat % 128 * 128 ^ i
theorem val_lt (l : List UInt8) (i : Nat) : val l i < 128 ^ i := by
  induction i with
  | zero => simp [val]
  | succ i ih =>
    have h2 : (l.getD i 0).toNat % 128 * 128 ^ i ≤ 127 * 128 ^ i := Nat.mul_le_mul_right _ (by omega)
    simp only [val]
    rw [Nat.pow_succ]; omega
theorem wrap64_id {i : Int} (h : -9223372036854775808 ≤ i ∧ i < 9223372036854775808) : wrap64 i = i := by unfold wrap64; omega
theorem u64_id {i : Int} (h : 0 ≤ i ∧ i < 18446744073709551616) : IntKind.u64.wrap i = i := by
  rw [IntKind.wrap_u64]; omega
def enc (l : List UInt8) : Except Nat (Nat × List UInt8) → Option (ByteArray × Int × Int)
  | .ok (x, t) => some (Mem.str t, 0, (x : Int))
  | .error e => some (Mem.str l, (e : Int), 0)

theorem l1_eq (l : List UInt8) (most V i : Nat) (hV : V < 2 ^ 64) (hi : i < l.length) (hl : l.length < 2 ^ 62) (j : Nat) : ∀ (k X : Nat), j < k → j ≤ i + 1 → X * 128 ^ j + val l j = V →
    foolscapref03_Num.l1 k most i X ((j : Int) - 1) (Mem.str l) 0 = if V > most then some (Mem.str l, 9, 0) else some (Mem.str (l.drop (i + 1)), 0, (V : Int)) := by
  have hsz := Mem.str_size l
  induction j with
  | zero =>
    intro k X hk _ hX
    obtain ⟨k, rfl⟩ : ∃ m, k = m + 1 := ⟨k - 1, by omega⟩
    have hXV : X = V := by simp [val] at hX; exact hX
    subst hXV
    simp only [foolscapref03_Num.l1]
    rw [if_neg (by omega)]
    have e1 : wrap64 ((i : Int) + 1) = ((i + 1 : Nat) : Int) := by rw [wrap64_id (by omega)]; omega
    rw [e1, hsz]
    by_cases hm : X > most
    · rw [if_pos (by omega), if_pos hm]
    · rw [if_neg (by omega), if_neg hm, if_pos (by omega), if_pos (by omega)]
      congr 2
      rw [Int.toNat_natCast, Num.str_drop]
  | succ j ih =>
    intro k X hk hj hX
    obtain ⟨k, rfl⟩ : ∃ m, k = m + 1 := ⟨k - 1, by omega⟩
    have e0 : ((j + 1 : Nat) : Int) - 1 = (j : Int) := by omega
    rw [e0]
    simp only [foolscapref03_Num.l1]
    have hjl : j < l.length := by omega
    rw [if_pos (by omega), if_pos (by omega), if_pos (by rw [hsz]; omega), bt_str l j hjl]
    have hb : Int.tmod ((l[j].toNat : Nat) : Int) 128 = ((l[j].toNat % 128 : Nat) : Int) := by
      rw [Int.tmod_eq_emod_of_nonneg (by omega)]; simp
    have hval : val l (j + 1) = val l j + l[j].toNat % 128 * 128 ^ j := by simp [val, hjl]
    have hX2 : (128 * X + l[j].toNat % 128) * 128 ^ j + val l j = V := by
      rw [← hX, hval, Nat.pow_succ, Nat.add_mul]
      have : X * (128 ^ j * 128) = 128 * X * 128 ^ j := by rw [Nat.mul_comm (128 ^ j), ← Nat.mul_assoc, Nat.mul_comm X]
      omega
    have hle : 128 * X + l[j].toNat % 128 ≤ V := by
      have h1 : 1 ≤ 128 ^ j := Nat.one_le_pow _ _ (by omega)
      have h2 : (128 * X + l[j].toNat % 128) * 1 ≤ (128 * X + l[j].toNat % 128) * 128 ^ j := Nat.mul_le_mul_left _ h1
      omega
    have hV' : V < 18446744073709551616 := hV
    rw [hb, u64_id (i := 128 * (X : Int)) (by omega), u64_id (i := ((l[j].toNat % 128 : Nat) : Int)) (by omega), u64_id (by omega)]
    have e2 : 128 * (X : Int) + ((l[j].toNat % 128 : Nat) : Int) = ((128 * X + l[j].toNat % 128 : Nat) : Int) := by omega
    rw [e2, wrap64_id (by omega)]
    exact ih k _ (by omega) (by omega) hX2

theorem l0_eq (l : List UInt8) (most : Nat) (_hmost : most < 2 ^ 64) (hl : l.length < 2 ^ 62) (d : Nat) : ∀ (k i : Nat), i + d = 10 → i ≤ l.length → 40 + d < k →
    (∀ j (h : j < l.length), j < i → 128 ≤ l[j].toNat) →
    foolscapref03_Num.l0 k most i (Mem.str l) 0 = enc l (Num.go most (l.drop i) i (val l i)) := by
  have hsz := Mem.str_size l
  induction d with
  | zero =>
    intro k i hi hil hk _
    obtain rfl : i = 10 := by omega
    obtain ⟨k, rfl⟩ : ∃ m, k = m + 1 := ⟨k - 1, by omega⟩
    rw [Num.go_ten]
    simp only [foolscapref03_Num.l0, hsz]
    obtain ⟨k, rfl⟩ : ∃ m, k = m + 1 := ⟨k - 1, by omega⟩
    by_cases h10 : ((10 : Nat) : Int) < (l.length : Int)
    · rw [if_pos h10, if_neg (by omega)]; simp only [foolscapref03_Num.j1]; rw [if_pos (by omega)]; rfl
    · rw [if_neg h10]; simp only [foolscapref03_Num.j1]; rw [if_pos (by omega)]; rfl
  | succ d ih =>
    intro k i hi hil hk hall
    obtain ⟨k, rfl⟩ : ∃ m, k = m + 1 := ⟨k - 1, by omega⟩
    simp only [foolscapref03_Num.l0, hsz]
    by_cases hlt : i < l.length
    · have hdrop : l.drop i = l[i] :: l.drop (i + 1) := List.drop_eq_getElem_cons hlt
      rw [if_pos (by omega), if_pos (by omega), if_pos (by omega), bt_str l i hlt, hdrop]
      have hgd : l.getD i 0 = l[i] := by simp [hlt]
      by_cases hb : 128 ≤ l[i].toNat
      · rw [if_pos (by omega), wrap64_id (by omega)]
        have e1 : (i : Int) + 1 = ((i + 1 : Nat) : Int) := by omega
        rw [e1, ih k (i + 1) (by omega) (by omega) (by omega) (by
          intro j hj hji
          by_cases e : j = i
          · subst e; exact hb
          · exact hall j hj (by omega))]
        congr 1
        simp only [Num.go]
        rw [if_neg (by omega), if_neg (by omega), if_neg (by omega)]
        by_cases h9 : i = 9
        · subst h9; rw [Num.go_ten, Num.go_ten]
        · congr 1
          have hp : l[i].toNat % 128 * 128 ^ i < 2 ^ 64 := by
            have h1 := Num.pow_le (k := i) (by omega)
            have h2 : l[i].toNat % 128 * 128 ^ i ≤ 127 * 72057594037927936 := Nat.mul_le_mul (by omega) h1
            omega
          rw [Nat.mod_eq_of_lt hp]
          simp only [val, hgd]
      · rw [if_neg (by omega)]
        obtain ⟨k, rfl⟩ : ∃ m, k = m + 1 := ⟨k - 1, by omega⟩
        simp only [foolscapref03_Num.j1]
        rw [if_neg (by omega), if_neg (by rw [hsz]; omega)]
        -- the two ways to the sum
        have hmod : l[i].toNat % 128 = l[i].toNat := Nat.mod_eq_of_lt (by omega)
        have fin : ∀ (m : Nat), 20 < m → (i = 9 → l[i].toNat ≤ 1) → ∀ bz : Bool, (bz = true ↔ (0 < i ∧ l[i].toNat = 0)) →
            foolscapref03_Num.j2 m most i bz (Mem.str l) 0 = enc l (Num.go most (l[i] :: l.drop (i + 1)) i (val l i)) := by
          intro m hm h9 bz hbz
          obtain ⟨m, rfl⟩ : ∃ m', m = m' + 1 := ⟨m - 1, by omega⟩
          have hgo : Num.go most (l[i] :: l.drop (i + 1)) i (val l i) = if (0 < i ∧ l[i].toNat = 0) ∨ most < val l i + (l[i].toNat % 128 * 128 ^ i) % 2 ^ 64 then .error 9 else .ok (val l i + (l[i].toNat % 128 * 128 ^ i) % 2 ^ 64, l.drop (i + 1)) := by
            simp only [Num.go]
            rw [if_neg (by omega), if_neg (by rintro ⟨h1, h2, h3⟩; have := h9 h1; omega), if_pos (by omega)]
          rw [hgo]
          simp only [foolscapref03_Num.j2]
          by_cases hz : bz = true
          · rw [if_pos hz, if_pos (.inl (hbz.1 hz))]; rfl
          · have hnz : ¬ (0 < i ∧ l[i].toNat = 0) := fun h => hz (hbz.2 h)
            rw [if_neg hz]
            have hv := val_lt l i
            have hp : l[i].toNat % 128 * 128 ^ i < 2 ^ 64 ∧ val l (i + 1) < 2 ^ 64 := by
              simp only [val, hgd]
              by_cases h9' : i = 9
              · have := h9 h9'
                subst h9'
                rw [hmod, Num.pow9] at *
                have : l[9].toNat * 9223372036854775808 ≤ 1 * 9223372036854775808 := Nat.mul_le_mul_right _ this
                omega
              · have h1 := Num.pow_le (k := i) (by omega)
                have h2 : l[i].toNat % 128 * 128 ^ i ≤ 127 * 72057594037927936 := Nat.mul_le_mul (by omega) h1
                omega
            have hl1 := l1_eq l most (val l (i + 1)) i hp.2 hlt hl (i + 1) m 0 (by omega) (Nat.le_refl _) (by omega)
            have e3 : ((i + 1 : Nat) : Int) - 1 = (i : Int) := by omega
            rw [e3] at hl1
            have e4 : ((0 : Nat) : Int) = 0 := rfl
            rw [e4] at hl1
            rw [hl1, Nat.mod_eq_of_lt hp.1]
            have hv1 : val l (i + 1) = val l i + l[i].toNat % 128 * 128 ^ i := by simp only [val, hgd]
            rw [hv1]
            by_cases hm2 : val l i + l[i].toNat % 128 * 128 ^ i > most
            · rw [if_pos hm2, if_pos (.inr hm2)]; rfl
            · rw [if_neg hm2, if_neg (by rintro (h | h); exact hnz h; omega)]; rfl
        by_cases h9 : i = 9
        · subst h9
          rw [if_pos (by omega), if_pos (by rw [hsz]; omega)]
          have e9 : bt (Mem.str l) 9 = (l[9].toNat : Int) := bt_str l 9 hlt
          rw [e9]
          by_cases hb1 : (l[9].toNat : Int) > 1
          · rw [if_pos hb1]
            obtain ⟨k, rfl⟩ : ∃ m, k = m + 1 := ⟨k - 1, by omega⟩
            simp only [foolscapref03_Num.j2, Num.go]
            rw [if_pos trivial, if_neg (by omega), if_pos ⟨trivial, by omega, by omega⟩]; rfl
          · rw [if_neg hb1, if_pos (by omega), if_pos (by omega), if_pos (by rw [hsz]; omega)]
            have e9' : bt (Mem.str l) ((9 : Nat) : Int) = (l[9].toNat : Int) := bt_str l 9 hlt
            rw [e9']
            refine fin _ (by omega) (fun _ => by omega) _ ?_
            rw [beq_iff_eq]; omega
        · rw [if_neg (by omega)]
          by_cases h0 : 0 < i
          · rw [if_pos (by omega), if_pos (by omega), if_pos (by rw [hsz]; omega), bt_str l i hlt]
            refine fin _ (by omega) (fun h => absurd h h9) _ ?_
            rw [beq_iff_eq]; omega
          · rw [if_neg (by omega)]
            refine fin _ (by omega) (fun h => absurd h h9) _ ?_
            simp; omega
    · have hdrop : l.drop i = [] := List.drop_eq_nil_of_le (by omega)
      rw [if_neg (by omega), hdrop]
      obtain ⟨k, rfl⟩ : ∃ m, k = m + 1 := ⟨k - 1, by omega⟩
      simp only [foolscapref03_Num.j1, Num.go]
      rw [if_neg (by omega), if_pos (by rw [hsz]; omega), if_neg (by omega)]; rfl

theorem num_eq (l : List UInt8) (most : Nat) (hmost : most < 2 ^ 64) (hl : l.length < 2 ^ 62) (c : Int) (k : Nat) (hk : 50 < k) :
    foolscapref03_Num.f k (Mem.str l) c most = some (Mem.str (Num.step most l c).2.1, (Num.step most l c).2.2, ((Num.step most l c).1 : Int)) := by
  unfold foolscapref03_Num.f Num.step
  by_cases hc : c = 0
  · subst hc
    rw [if_pos rfl, if_neg (by simp)]
    have := l0_eq l most hmost hl 10 k 0 (by omega) (by omega) (by omega) (by intro j _ h; omega)
    rw [show ((0 : Nat) : Int) = 0 from rfl] at this
    rw [this, List.drop_zero]
    show enc l (Num.read most l) = _
    cases Num.read most l with
    | ok p => rfl
    | error e => rfl
  · rw [if_neg hc, if_pos hc]; rfl
theorem text_eq (l : List UInt8) (most : Nat) (hmost : most < 2 ^ 62) (hl : l.length < 2 ^ 62) (c : Int) (k : Nat) (hk : 60 < k) :
    foolscapref03_Text.f k (Mem.str l) c most = some (Mem.str (Num.text most l c).2.1, (Num.text most l c).2.2, Mem.str (Num.text most l c).1) := by
  obtain ⟨k, rfl⟩ : ∃ m, k = m + 1 := ⟨k - 1, by omega⟩
  unfold foolscapref03_Text.f
  rw [if_neg (by omega)]
  simp only [foolscapref03_Text.j0]
  rw [u64_id (by omega), num_eq l most (by omega) hl c k (by omega)]
  simp only [Option.bind_some]
  unfold Num.text Num.step
  have e : (max (most : Int) 0).toNat = most := by omega
  rw [e]
  by_cases hc : c = 0
  · subst hc
    simp only [ne_eq, not_true_eq_false, if_false]
    cases hr : Num.read most l with
    | error e =>
      have := Num.read_err hr
      simp only
      rw [if_neg (by omega)]; rfl
    | ok p =>
      obtain ⟨n, t⟩ := p
      have h1 := Num.read_put hr
      have htl : t.length ≤ l.length := by rw [h1.1]; simp
      have hsz := Mem.str_size t
      simp only [if_pos]
      rw [hsz, u64_id (by omega)]
      by_cases hn : t.length < n
      · rw [if_pos (by omega), if_pos hn]; rfl
      · rw [if_neg (by omega), if_neg hn, wrap64_id (by omega), if_pos (by omega), if_pos (by omega)]
        rw [Int.toNat_natCast, Num.str_drop, Num.str_extract]
        simp
  · simp only [ne_eq, hc, not_false_eq_true, if_true, if_false]; rfl
end Go.Proofs.Ytgkadhogfejheaa.RefN
namespace Go.Proofs.Ytgkadhogfejheaa.RefN
open Go.RowKit Go.Proofs.YtgkadhogfejheaaW.PrintWords Go.Proofs.Ytgkadhogfejheaa.PGet

/-! ### The sums -/
theorem step_eq (x : BitVec 32) : foolscapref04_Step.f (x.toNat : Int) = some ((Crc.step x).toNat : Int) := by
  have hx := x.isLt
  unfold foolscapref04_Step.f Crc.step
  have e1 : Int.tmod (x.toNat : Int) 2 = ((x.toNat % 2 : Nat) : Int) := by rw [Int.tmod_eq_emod_of_nonneg (by omega)]; simp
  have e2 : Int.tdiv (x.toNat : Int) 2 % (4294967296 : Int) = ((x >>> 1).toNat : Int) := by
    rw [Int.tdiv_eq_ediv_of_nonneg (by omega), Crc.shr x 1]; omega
  rw [e1, e2, Crc.lsb_mod]
  by_cases h : x.toNat % 2 = 1
  · rw [if_pos (by omega)]
    have e3 : bits .xor .u32 ((x >>> 1).toNat : Int) 2197175160 = ((x >>> 1 ^^^ Crc.poly).toNat : Int) := Crc.bits_xor (x >>> 1) Crc.poly
    rw [e3]
    simp [h]
  · rw [if_neg (by omega)]
    simp [h]
theorem l1_more (s : ByteArray) (i : Int) (d : Nat) : ∀ (k : Nat) (y : BitVec 32), d ≤ 8 →
    foolscapref04_More.l1 (k + d + 1) s (y.toNat : Int) i (8 - (d : Int)) = foolscapref04_More.l0 k s ((Crc.stepN d y).toNat : Int) (wrap64 (i + 1)) := by
  induction d with
  | zero =>
    intro k y _
    simp only [foolscapref04_More.l1]
    rw [if_neg (by omega)]
    rfl
  | succ d ih =>
    intro k y hd
    rw [show k + (d + 1) + 1 = (k + d + 1) + 1 by omega]
    rw [foolscapref04_More.l1, if_pos (by omega), step_eq]
    simp only [Option.bind_some]
    rw [wrap64_id (by omega)]
    have e : 8 - ((d + 1 : Nat) : Int) + 1 = 8 - (d : Int) := by omega
    rw [e, ih k _ (by omega)]
    rfl
theorem l0_more (l : List UInt8) (hl : l.length < 2 ^ 62) (d : Nat) : ∀ (i k : Nat) (y : BitVec 32), i + d = l.length → 10 * d < k →
    foolscapref04_More.l0 k (Mem.str l) (y.toNat : Int) i = some ((4294967295 - ((Crc.run y (l.drop i)).toNat : Int)) % 4294967296) := by
  have hsz := Mem.str_size l
  induction d with
  | zero =>
    intro i k y hi hk
    obtain ⟨k, rfl⟩ : ∃ m, k = m + 1 := ⟨k - 1, by omega⟩
    simp only [foolscapref04_More.l0]
    rw [if_neg (by omega), List.drop_eq_nil_of_le (by omega)]
    rfl
  | succ d ih =>
    intro i k y hi hk
    obtain ⟨k, rfl⟩ : ∃ m, k = m + 8 + 1 + 1 := ⟨k - 10, by omega⟩
    have hil : i < l.length := by omega
    rw [foolscapref04_More.l0, if_pos (by omega), if_pos (by omega), bt_str l i hil]
    have hb : bits .xor .u32 (y.toNat : Int) ((l[i].toNat : Int) % 4294967296) = ((y ^^^ BitVec.ofNat 32 l[i].toNat).toNat : Int) := by
      rw [← Crc.bits_xor y (BitVec.ofNat 32 l[i].toNat)]; rfl
    rw [hb]
    have e : (0 : Int) = 8 - ((8 : Nat) : Int) := rfl
    rw [e, l1_more _ _ 8 k _ (Nat.le_refl _), wrap64_id (by omega)]
    have e1 : (i : Int) + 1 = ((i + 1 : Nat) : Int) := by omega
    rw [e1, ih (i + 1) k _ (by omega) (by omega), List.drop_eq_getElem_cons hil]
    rfl
theorem sum_eq (l : List UInt8) (hl : l.length < 2 ^ 62) (k : Nat) (hk : 10 * l.length < k) : foolscapref04_Sum.f k (Mem.str l) = some ((Crc.sum l).toNat : Int) := by
  unfold foolscapref04_Sum.f foolscapref04_More.f
  have e0 : ((4294967295 : Int) - 0) % 4294967296 = ((~~~(0#32)).toNat : Int) := rfl
  have e1 : (0 : Int) = ((0 : Nat) : Int) := rfl
  rw [e0]
  rw [show foolscapref04_More.l0 k (Mem.str l) ((~~~(0#32)).toNat : Int) 0 = _ from l0_more l hl l.length 0 k (~~~(0#32)) (by omega) hk]
  simp only [Option.bind_some, List.drop_zero]
  have h := (Crc.run (~~~(0#32)) l).isLt
  have e2 : (4294967295 - ((Crc.run (~~~(0#32)) l).toNat : Int)) % 4294967296 = 4294967295 - ((Crc.run (~~~(0#32)) l).toNat : Int) := by omega
  rw [e2, ← Crc.sub_ones]
  rfl
theorem put_eq (x : BitVec 32) : foolscapref04_Put.f (x.toNat : Int) = some (Mem.str (Crc.four x)) := by
  have h := x.isLt
  unfold foolscapref04_Put.f
  rw [← Mem.strOfNums_of]
  congr 2
  rw [Int.tmod_eq_emod_of_nonneg (by omega), Int.tdiv_eq_ediv_of_nonneg (by omega), Int.tdiv_eq_ediv_of_nonneg (by omega), Int.tdiv_eq_ediv_of_nonneg (by omega)]
  simp [Crc.four]
theorem empty_eq (l : List UInt8) : ((Mem.str l).toList == ([] : List UInt8)) = decide (l = []) := Frm.empty_str l
theorem may_eq (k s q a : Int) (b : List UInt8) (n : Nat) (hn : 0 < n) : foolscapref05_May.f n k s q a (Mem.str b) = some (Frm.okB ⟨k, s, q, a, b⟩) := by
  obtain ⟨n, rfl⟩ : ∃ m, n = m + 1 := ⟨n - 1, by omega⟩
  have hsz := Mem.str_size b
  unfold foolscapref05_May.f
  simp only [foolscapref05_May.j0]
  unfold Frm.okB
  simp only
  by_cases h1 : s < 1
  · rw [if_pos h1, if_pos trivial]; congr 1; symm; rw [decide_eq_false_iff_not]; omega
  rw [if_neg h1]
  by_cases h2 : s > 16
  · rw [if_pos h2, if_pos trivial]; congr 1; symm; rw [decide_eq_false_iff_not]; omega
  rw [if_neg h2]
  by_cases h3 : a < 0
  · rw [if_pos h3, if_pos trivial]; congr 1; symm; rw [decide_eq_false_iff_not]; omega
  rw [if_neg h3]
  by_cases h4 : a > 1099511627776
  · rw [if_pos (by simpa using h4)]; congr 1; symm; rw [decide_eq_false_iff_not]; omega
  rw [if_neg (by simpa using h4)]
  by_cases h5 : k = 1
  · subst h5
    rw [if_pos rfl]
    by_cases h6 : q ≥ 1
    · rw [if_pos h6]
      by_cases h7 : q ≤ 1099511627776
      · rw [if_pos h7, hsz]; congr 1; rw [decide_eq_decide]; omega
      · rw [if_neg h7]; congr 1; symm; rw [decide_eq_false_iff_not]; omega
    · rw [if_neg h6]; congr 1; symm; rw [decide_eq_false_iff_not]; omega
  · rw [if_neg h5]
    by_cases h6 : k = 2
    · subst h6
      rw [if_pos rfl]
      by_cases h7 : q = 0
      · subst h7
        rw [if_pos rfl, empty_eq]; congr 1; rw [decide_eq_decide]
        constructor
        · intro h; exact ⟨by omega, by omega, .inl ⟨rfl, rfl, h⟩⟩
        · rintro ⟨_, _, ⟨_, _, h⟩ | ⟨h, _⟩⟩
          · exact h
          · omega
      · rw [if_neg h7]; congr 1; symm; rw [decide_eq_false_iff_not]; omega
    · rw [if_neg h6]; congr 1; symm; rw [decide_eq_false_iff_not]; omega

/-! ### Getting -/
def enc6 (p : Frm.F × Int) : Option (Int × Int × Int × Int × ByteArray × Int) := some (p.1.kind, p.1.site, p.1.seq, p.1.ack, Mem.str p.1.body, p.2)
theorem step_le (most : Nat) (l : List UInt8) (c : Int) : (Num.step most l c).1 ≤ most := (Frm.step_x (x := (Num.step most l c).1) (t := (Num.step most l c).2.1) (f' := (Num.step most l c).2.2) rfl).1
theorem j2_eq (s t : List UInt8) (hs : s.length < 2 ^ 61) (kk : Int) (x6 x7 x8 : Nat) (b : List UInt8) (c q : Int) (h6 : x6 < 2 ^ 62) (h7 : x7 < 2 ^ 62) (h8 : x8 < 2 ^ 62)
    (ht : t.length ≤ s.length) (k : Nat) (hk : 10 * s.length + 5 < k) (d1 d2 d3 : Int) (hq : q = x7) :
    foolscapref05_Get.j2 k (Mem.str s) x6 q x8 kk d1 d2 d3 (Mem.str b) (Mem.str t) c =
      enc6 (if c ≠ 0 then (Frm.zero, c) else if t.length < 4 then (Frm.zero, 8) else if 4 < t.length then (Frm.zero, 11) else
        if Crc.four (Crc.sum (s.take (s.length - 4))) ≠ t then (Frm.zero, 10) else
        if Frm.okB ⟨kk, x6, x7, x8, b⟩ = false then (Frm.zero, 9) else (⟨kk, x6, x7, x8, b⟩, 0)) := by
  subst hq
  obtain ⟨k, rfl⟩ : ∃ m, k = m + 1 := ⟨k - 1, by omega⟩
  have hsz := Mem.str_size s
  have hszt := Mem.str_size t
  simp only [foolscapref05_Get.j2]
  by_cases hc : c = 0
  · subst hc
    rw [if_pos rfl]
    simp only [ne_eq, not_true_eq_false, if_false]
    by_cases h1 : t.length < 4
    · rw [if_pos (by omega), if_pos h1]; rfl
    · rw [if_neg (by omega), if_neg h1]
      by_cases h2 : 4 < t.length
      · rw [if_pos (by omega), if_pos h2]; rfl
      · rw [if_neg (by omega), if_neg h2, hsz, wrap64_id (by omega), if_pos (by omega), if_pos (by omega)]
        have e1 : ((s.length : Int) - 4).toNat = s.length - 4 := by omega
        rw [e1, Num.str_extract, List.drop_zero, sum_eq _ (by rw [List.length_take]; omega) k (by rw [List.length_take]; omega)]
        simp only [Option.bind_some]
        rw [put_eq]
        simp only [Option.bind_some]
        rw [ByteArray.toList_eq, ByteArray.toList_eq, Mem.str_toList, Mem.str_toList]
        by_cases h3 : Crc.four (Crc.sum (s.take (s.length - 4))) = t
        · rw [if_pos h3, if_neg (by simp [h3]), wrap64_id (by omega), wrap64_id (by omega), wrap64_id (by omega), may_eq _ _ _ _ _ _ (by omega)]
          simp only [Option.bind_some]
          cases Frm.okB ⟨kk, x6, x7, x8, b⟩
          · rfl
          · rfl
        · rw [if_neg h3, if_pos h3]; rfl
  · rw [if_neg hc]
    simp only [ne_eq, hc, not_false_eq_true, if_true]; rfl
/-- what is left of a list by reading is its end -/
theorem st4_suffix (k : Int) (l : List UInt8) : ∃ p, l = p ++ (Frm.st4 k l).2.1 := by
  have hstep : ∀ most (l : List UInt8) c, ∃ p, l = p ++ (Num.step most l c).2.1 := by
    intro most l c
    unfold Num.step
    split
    · exact ⟨[], rfl⟩
    · split
      · rename_i hr; exact ⟨_, (Num.read_put hr).1⟩
      · exact ⟨[], rfl⟩
  have htext : ∀ (l : List UInt8) c, ∃ p, l = p ++ (Num.text 1048576 l c).2.1 := by
    intro l c
    unfold Num.text
    split
    · exact ⟨[], rfl⟩
    · split
      · exact ⟨[], rfl⟩
      · rename_i n t hr
        split
        · exact ⟨[], rfl⟩
        · refine ⟨Num.put n ++ t.take n, ?_⟩
          have := (Num.read_put hr).1
          rw [List.append_assoc, List.take_append_drop]
          exact this
  have two : ∀ {a b c : List UInt8}, (∃ p, a = p ++ b) → (∃ p, b = p ++ c) → ∃ p, a = p ++ c := by
    rintro a b c ⟨p, rfl⟩ ⟨q, rfl⟩; exact ⟨p ++ q, by simp⟩
  have s1 : ∃ p, l = p ++ (Frm.st1 k l).2.1 := hstep _ _ _
  have s2 : ∃ p, l = p ++ (Frm.st2 k l).2.1 := by
    unfold Frm.st2; split
    · exact two s1 (hstep _ _ _)
    · exact s1
  have s3 : ∃ p, l = p ++ (Frm.st3 k l).2.1 := two s2 (hstep _ _ _)
  unfold Frm.st4; split
  · exact two s3 (htext _ _)
  · exact s3
theorem tail_of (l : List UInt8) {k : Int} {a b c : UInt8} {f : Frm.F} {t : List UInt8} {e : Int} (h : Frm.st4 k l = (f, t, e)) (ht : t.length = 4) : (a :: b :: c :: l).drop ((a :: b :: c :: l).length - 4) = t := by
  obtain ⟨p, hp⟩ := st4_suffix k l
  rw [h] at hp
  simp only at hp
  subst hp
  have e1 : a :: b :: c :: (p ++ t) = (a :: b :: c :: p) ++ t := rfl
  rw [e1]
  have e2 : ((a :: b :: c :: p) ++ t).length - 4 = (a :: b :: c :: p).length := by rw [List.length_append, ht]; omega
  rw [e2, List.drop_left]
theorem get_eq (s : List UInt8) (hs : s.length < 2 ^ 61) (k : Nat) (hk : 10 * s.length + 100 < k) : foolscapref05_Get.f k (Mem.str s) = enc6 (Frm.get s) := by
  have hsz := Mem.str_size s
  unfold foolscapref05_Get.f
  match s, hs, hk, hsz with
  | [], _, _, hsz => rw [hsz, if_pos (by simp)]; rfl
  | [_], _, _, hsz => rw [hsz, if_pos (by simp)]; rfl
  | [_, _], _, _, hsz => rw [hsz, if_pos (by simp)]; rfl
  | a :: b :: m :: l, hs, hk, hsz =>
    have hlen : (a :: b :: m :: l).length = l.length + 3 := rfl
    have b0 : bt (Mem.str (a :: b :: m :: l)) 0 = (a.toNat : Int) := bt_str (a :: b :: m :: l) 0 (by simp)
    have b1 : bt (Mem.str (a :: b :: m :: l)) 1 = (b.toNat : Int) := bt_str (a :: b :: m :: l) 1 (by simp)
    have b2 : bt (Mem.str (a :: b :: m :: l)) 2 = (m.toNat : Int) := bt_str (a :: b :: m :: l) 2 (by simp)
    have mlt := m.toNat_lt
    have bad : ∀ j, 0 < j → foolscapref05_Get.j0 j (Mem.str (a :: b :: m :: l)) true = enc6 (Frm.zero, 9) := by
      intro j hj
      obtain ⟨j, rfl⟩ : ∃ m, j = m + 1 := ⟨j - 1, by omega⟩
      simp only [foolscapref05_Get.j0]; rfl
    rw [hsz, if_neg (by omega), if_pos (by omega), b0, b1, b2]
    by_cases h1 : a = 70
    · subst h1
      rw [if_pos (by decide), if_pos (by omega)]
      by_cases h2 : b = 83
      · subst h2
        rw [if_pos (by decide), if_pos (by omega)]
        by_cases h3 : m = 1 ∨ m = 2
        · -- the frame's fields
          have hgood : (if (m.toNat : Int) = 1 then foolscapref05_Get.j0 k (Mem.str (70 :: 83 :: m :: l)) false else foolscapref05_Get.j0 k (Mem.str (70 :: 83 :: m :: l)) ((m.toNat : Int) != 2)) = foolscapref05_Get.j0 k (Mem.str (70 :: 83 :: m :: l)) false := by
            rcases h3 with rfl | rfl <;> rfl
          rw [hgood]
          obtain ⟨k, rfl⟩ : ∃ j, k = j + 1 := ⟨k - 1, by omega⟩
          rw [foolscapref05_Get.j0]
          rw [if_neg (by decide), hsz, if_pos (by omega), if_pos (by omega), b2, wrap64_id (by omega)]
          have hex : (Mem.str (70 :: 83 :: m :: l)).extract 3 (70 :: 83 :: m :: l).length = Mem.str l := by rw [Num.str_drop]; rfl
          rw [hex]
          have e16 : (16 : Int) = ((16 : Nat) : Int) := rfl
          have eM : (1099511627776 : Int) = ((1099511627776 : Nat) : Int) := rfl
          have eB : (1048576 : Int) = ((1048576 : Nat) : Int) := rfl
          rw [Frm.get_cons, if_neg (by simp [h3])]
          have q1 := num_eq l 16 (by omega) (by omega) 0 k (by omega)
          have l1 := Frm.step_len 16 l 0
          have x1 := step_le 16 l 0
          rcases hs1 : Num.step 16 l 0 with ⟨x, t1, c1⟩
          rw [hs1] at q1 l1 x1
          simp only at q1 l1 x1
          rw [e16, q1]
          simp only [Option.bind_some]
          have q2 := num_eq t1 1099511627776 (by omega) (by omega) c1 k (by omega)
          have l2 := Frm.step_len 1099511627776 t1 c1
          have x2 := step_le 1099511627776 t1 c1
          rcases hs2 : Num.step 1099511627776 t1 c1 with ⟨q, t2, c2⟩
          rw [hs2] at q2 l2 x2
          simp only at q2 l2 x2
          rcases h3 with rfl | rfl
          · -- a frame that carries
            rw [if_pos (by decide), eM, q2]
            simp only [Option.bind_some]
            obtain ⟨k, rfl⟩ : ∃ j, k = j + 1 := ⟨k - 1, by omega⟩
            have q3 := num_eq t2 1099511627776 (by omega) (by omega) c2 k (by omega)
            have l3 := Frm.step_len 1099511627776 t2 c2
            have x3 := step_le 1099511627776 t2 c2
            rcases hs3 : Num.step 1099511627776 t2 c2 with ⟨a, t3, c3⟩
            rw [hs3] at q3 l3 x3
            simp only at q3 l3 x3
            have q4 := text_eq t3 1048576 (by omega) (by omega) c3 k (by omega)
            have l4 := Frm.text_len t3 c3
            rcases hs4 : Num.text 1048576 t3 c3 with ⟨b, t4, c4⟩
            have q4' : foolscapref03_Text.f k (Mem.str t3) c3 1048576 = some (Mem.str t4, c4, Mem.str b) := by
              have e : ((1048576 : Nat) : Int) = 1048576 := rfl
              rw [e, hs4] at q4; exact q4
            rw [hs4] at l4
            simp only at l4
            have hst : Frm.st4 ((UInt8.toNat 1 : Nat) : Int) l = (⟨1, x, q, a, b⟩, t4, c4) := by
              simp [Frm.st4, Frm.st3, Frm.st2, Frm.st1, Frm.st0, Frm.f1, Frm.f2, Frm.f3, Frm.f4, hs1, hs2, hs3, hs4]
            rw [foolscapref05_Get.j1, eM, q3]
            simp only [Option.bind_some]
            rw [if_pos (by decide), q4']
            simp only [Option.bind_some]
            rw [hst]
            rw [show ((UInt8.toNat 1 : Nat) : Int) = 1 from rfl]
            rw [j2_eq (70 :: 83 :: 1 :: l) t4 (by omega) 1 x q a b c4 _ (by omega) (by omega) (by omega) (by omega) k (by omega) 0 0 0 rfl]
            congr 1
            by_cases hc : c4 = 0
            · subst hc
              by_cases h5 : t4.length < 4
              · simp [h5]
              · by_cases h6 : 4 < t4.length
                · simp [h5, h6]
                · have hd : (70 :: 83 :: 1 :: l).drop ((70 :: 83 :: 1 :: l).length - 4) = t4 := tail_of l hst (by omega)
                  simp only [ne_eq, not_true_eq_false, if_false, h5, h6, hd]
            · simp [hc]
          · -- a frame that tells
            rw [if_neg (by decide)]
            obtain ⟨k, rfl⟩ : ∃ j, k = j + 1 := ⟨k - 1, by omega⟩
            have q3 := num_eq t1 1099511627776 (by omega) (by omega) c1 k (by omega)
            rw [hs2] at q3
            simp only at q3
            have hst : Frm.st4 ((UInt8.toNat 2 : Nat) : Int) l = (⟨2, x, 0, q, []⟩, t2, c2) := by
              simp [Frm.st4, Frm.st3, Frm.st2, Frm.st1, Frm.st0, Frm.f1, Frm.f3, hs1, hs2]
            rw [foolscapref05_Get.j1, eM, q3]
            simp only [Option.bind_some]
            rw [if_neg (by decide)]
            rw [hst]
            rw [show ((UInt8.toNat 2 : Nat) : Int) = 2 from rfl, show (⟨#[]⟩ : ByteArray) = Mem.str [] from rfl]
            rw [j2_eq (70 :: 83 :: 2 :: l) t2 (by omega) 2 x 0 q [] c2 0 (by omega) (by omega) (by omega) (by omega) k (by omega) 0 0 0 rfl]
            congr 1
            by_cases hc : c2 = 0
            · subst hc
              by_cases h5 : t2.length < 4
              · simp [h5]
              · by_cases h6 : 4 < t2.length
                · simp [h5, h6]
                · have hd : (70 :: 83 :: 2 :: l).drop ((70 :: 83 :: 2 :: l).length - 4) = t2 := tail_of l hst (by omega)
                  simp only [ne_eq, not_true_eq_false, if_false, h5, h6, hd]
                  rfl
            · simp [hc]
        · have m1 : ¬ (m.toNat : Int) = 1 := fun h => h3 (.inl (UInt8.toNat_inj.1 (show m.toNat = 1 by omega)))
          have m2 : ((m.toNat : Int) != 2) = true := bne_iff_ne.2 fun h => h3 (.inr (UInt8.toNat_inj.1 (show m.toNat = 2 by omega)))
          rw [if_neg m1, m2, bad k (by omega), Frm.get_form _ _ _ _ (by rintro ⟨_, _, h⟩; exact h3 h)]
      · rw [if_neg (fun h => h2 (UInt8.toNat_inj.1 (show b.toNat = 83 by omega)))]
        rw [bad k (by omega), Frm.get_form _ _ _ _ (by rintro ⟨_, h, _⟩; exact h2 h)]
    · rw [if_neg (fun h => h1 (UInt8.toNat_inj.1 (show a.toNat = 70 by omega)))]
      rw [bad k (by omega), Frm.get_form _ _ _ _ (by rintro ⟨h, _⟩; exact h1 h)]
end Go.Proofs.Ytgkadhogfejheaa.RefN
namespace Go.Proofs.Ytgkadhogfejheaa
open Go.RowKit

theorem frame_refget (s : List UInt8) (hs : s.length < 2 ^ 61) (w : World) :
    Calls Try.prog 38 #[.string (Mem.str s)] w fun e w' => e = .returned (.tuple #[Frm.val (Frm.get s).1, .int .i64 (Frm.get s).2]) ∧ Below w.heap.size w w' :=
  PGet.foolscapref05_Get.calls (10 * s.length + 101) (Mem.str s) _ _ _ _ _ _ w (RefN.get_eq s hs _ (by omega))
end Go.Proofs.Ytgkadhogfejheaa
