/- The plain law of the CRC chapter: words of 32 bits, steps, tables, powers. No program in sight. -/

set_option linter.unusedVariables false
set_option linter.unusedSimpArgs false
namespace Go.Proofs.Ytgkadhogfejheaa.Crc

def poly : BitVec 32 := 0x82f63b78#32
def lsb (w : BitVec 32) : Bool := w.getLsbD 0
def step (w : BitVec 32) : BitVec 32 := (w >>> 1) ^^^ (if lsb w then poly else 0#32)

theorem lsb_xor (a b : BitVec 32) : lsb (a ^^^ b) = (lsb a ^^ lsb b) := by
  unfold lsb; exact BitVec.getLsbD_xor

theorem and_one (w : BitVec 32) : w &&& 1#32 = if lsb w then 1#32 else 0#32 := by
  apply BitVec.eq_of_getLsbD_eq
  intro i hi
  by_cases h0 : i = 0
  · subst h0
    have : (w &&& 1#32).getLsbD 0 = w.getLsbD 0 := by rw [BitVec.getLsbD_and]; simp
    rw [this]; cases h : lsb w <;> (unfold lsb at h; rw [h]; rfl)
  · rw [BitVec.getLsbD_and]
    have h1 : (1#32).getLsbD i = false := by rw [BitVec.getLsbD_one]; simp [h0]
    rw [h1]; cases h : lsb w <;> simp [h0]

/-- the program's own step -/
theorem step_prog (w : BitVec 32) : (w >>> 1) ^^^ (poly &&& (0#32 - (w &&& 1#32))) = step w := by
  unfold step
  rw [and_one]
  cases h : lsb w
  · simp
  · have : poly &&& (0#32 - (if true then 1#32 else 0#32)) = poly := by decide
    rw [this]; rfl

theorem lsb_mod (w : BitVec 32) : lsb w = decide (w.toNat % 2 = 1) := by
  rw [lsb, BitVec.getLsbD, Nat.testBit_zero]

theorem step_xor (a b : BitVec 32) : step (a ^^^ b) = step a ^^^ step b := by
  unfold step
  rw [lsb_xor, BitVec.ushiftRight_xor_distrib]
  generalize a >>> 1 = x; generalize b >>> 1 = y
  cases lsb a <;> cases lsb b <;> simp
  · rw [BitVec.xor_assoc]
  · rw [BitVec.xor_assoc, BitVec.xor_comm y, ← BitVec.xor_assoc]
  · rw [BitVec.xor_assoc x, BitVec.xor_comm poly (y ^^^ poly), BitVec.xor_assoc y]; simp

def stepN : Nat → BitVec 32 → BitVec 32
  | 0, w => w
  | n + 1, w => stepN n (step w)

theorem stepN_xor (n : Nat) : ∀ a b, stepN n (a ^^^ b) = stepN n a ^^^ stepN n b := by
  induction n with
  | zero => intro a b; rfl
  | succ n ih => intro a b; simp only [stepN, step_xor, ih]

theorem stepN_add (m n : Nat) : ∀ w, stepN (m + n) w = stepN n (stepN m w) := by
  induction m with
  | zero => intro w; simp [stepN]
  | succ m ih => intro w; rw [Nat.succ_add]; simp only [stepN, ih]

/-- a step can be turned back -/
theorem step_inj0 (w : BitVec 32) (h : step w = 0#32) : w = 0#32 := by
  have hb : lsb w = false := by
    cases hb : lsb w
    · rfl
    · have h2 := congrArg (fun x => BitVec.getLsbD x 31) h
      unfold step at h2
      rw [hb] at h2
      simp only [BitVec.getLsbD_xor, BitVec.getLsbD_ushiftRight, if_true] at h2
      have h3 : w.getLsbD (1 + 31) = false := BitVec.getLsbD_of_ge _ _ (by omega)
      have h4 : poly.getLsbD 31 = true := by decide
      rw [h3, h4] at h2
      simp at h2
  have h2 : w >>> 1 = 0#32 := by
    unfold step at h
    rw [hb] at h
    simpa using h
  apply BitVec.eq_of_getLsbD_eq
  intro i hi
  cases i with
  | zero => unfold lsb at hb; rw [hb]; rfl
  | succ i =>
    have h3 := congrArg (fun x => BitVec.getLsbD x i) h2
    simp only [BitVec.getLsbD_ushiftRight] at h3
    rw [Nat.add_comm] at h3
    rw [h3]; simp

theorem xor_eq_zero {a b : BitVec 32} (h : a ^^^ b = 0#32) : a = b := by
  have h2 := congrArg (· ^^^ b) h
  simpa [BitVec.xor_assoc] using h2

theorem stepN_inj0 (n : Nat) : ∀ w, stepN n w = 0#32 → w = 0#32 := by
  induction n with
  | zero => intro w h; exact h
  | succ n ih => intro w h; exact step_inj0 w (ih _ h)

theorem stepN_inj (n : Nat) {a b : BitVec 32} (h : stepN n a = stepN n b) : a = b := by
  apply xor_eq_zero
  apply stepN_inj0 n
  rw [stepN_xor, h, BitVec.xor_self]

theorem bit_small {x : BitVec 32} {k i : Nat} (h : x.toNat < 2 ^ k) (hi : k ≤ i) : x.getLsbD i = false := by
  rw [← BitVec.testBit_toNat]
  exact Nat.testBit_lt_two_pow (Nat.lt_of_lt_of_le h (Nat.pow_le_pow_right (by omega) hi))

/-- a word whose lowest bits are noughts is only moved -/
theorem stepN_shl (k : Nat) : ∀ (x : BitVec 32), x.toNat < 2 ^ (32 - k) → k ≤ 32 → stepN k (x <<< k) = x := by
  induction k with
  | zero => intro x _ _; simp [stepN]
  | succ k ih =>
    intro x hx hk
    have h1 : step (x <<< (k + 1)) = x <<< k := by
      have hb : lsb (x <<< (k + 1)) = false := by unfold lsb; rw [BitVec.getLsbD_shiftLeft]; simp
      unfold step
      rw [hb]
      simp only [Bool.false_eq_true, if_false, BitVec.xor_zero]
      apply BitVec.eq_of_getLsbD_eq
      intro i hi
      rw [BitVec.getLsbD_ushiftRight, BitVec.getLsbD_shiftLeft, BitVec.getLsbD_shiftLeft]
      by_cases h31 : 1 + i < 32
      · by_cases hik : i < k
        · have : 1 + i < k + 1 := by omega
          simp [this, hik]
        · have : ¬ 1 + i < k + 1 := by omega
          have e : 1 + i - (k + 1) = i - k := by omega
          simp [hik, h31, hi, e, this]
      · have : i = 31 := by omega
        subst this
        have hz : x.getLsbD (31 - k) = false := bit_small hx (by omega)
        rw [hz]; simp
    simp only [stepN, h1]
    exact ih x (Nat.lt_of_lt_of_le hx (Nat.pow_le_pow_right (by omega) (by omega))) (by omega)

/-! ### A byte goes in -/
/-- the word behind one more byte, bit by bit -/
def put (w : BitVec 32) (c : UInt8) : BitVec 32 := stepN 8 (w ^^^ BitVec.ofNat 32 c.toNat)

theorem low_high (w : BitVec 32) : w = (BitVec.ofNat 32 (w.toNat % 256)) ^^^ ((w >>> 8) <<< 8) := by
  apply BitVec.eq_of_getLsbD_eq
  intro i hi
  rw [BitVec.getLsbD_xor, BitVec.getLsbD_shiftLeft, BitVec.getLsbD_ushiftRight, BitVec.getLsbD_ofNat]
  rw [show (256 : Nat) = 2 ^ 8 from rfl, Nat.testBit_mod_two_pow, BitVec.testBit_toNat]
  by_cases h : i < 8
  · simp [h, hi]
  · have : 8 + (i - 8) = i := by omega
    simp [h, hi, this]

theorem ofNat_xor {a b : Nat} : BitVec.ofNat 32 (a ^^^ b) = BitVec.ofNat 32 a ^^^ BitVec.ofNat 32 b := by
  apply BitVec.eq_of_getLsbD_eq
  intro i hi
  simp [hi]

/-- by the table: one look-up a byte -/
theorem put_table (w : BitVec 32) (c : UInt8) :
    put w c = stepN 8 (BitVec.ofNat 32 ((w.toNat % 256) ^^^ c.toNat)) ^^^ (w >>> 8) := by
  unfold put
  have e : w ^^^ BitVec.ofNat 32 c.toNat = BitVec.ofNat 32 ((w.toNat % 256) ^^^ c.toNat) ^^^ ((w >>> 8) <<< 8) := by
    rw [ofNat_xor]
    conv => lhs; rw [low_high w]
    rw [BitVec.xor_assoc, BitVec.xor_comm ((w >>> 8) <<< 8), BitVec.xor_assoc]
  rw [e, stepN_xor]
  congr 1
  apply stepN_shl
  · have : (w >>> 8).toNat = w.toNat / 256 := by simp [BitVec.toNat_ushiftRight, Nat.shiftRight_eq_div_pow]
    rw [this]
    have := w.isLt
    omega
  · omega

/-- the word behind many bytes -/
def run (w : BitVec 32) (l : List UInt8) : BitVec 32 := l.foldl put w

theorem run_cons (w : BitVec 32) (c : UInt8) (l : List UInt8) : run w (c :: l) = run (put w c) l := rfl
theorem run_append (w : BitVec 32) (l m : List UInt8) : run w (l ++ m) = run (run w l) m := List.foldl_append
theorem run_snoc (w : BitVec 32) (l : List UInt8) (c : UInt8) : run w (l ++ [c]) = put (run w l) c := by simp [run]

theorem put_xor (a b : BitVec 32) (c : UInt8) : put a c ^^^ put b c = stepN 8 (a ^^^ b) := by
  unfold put
  rw [← stepN_xor]
  congr 1
  generalize BitVec.ofNat 32 c.toNat = z
  rw [BitVec.xor_assoc, BitVec.xor_comm z, BitVec.xor_assoc b]; simp

/-- the same bytes behind two words: what parts them is only moved along -/
theorem run_xor (l : List UInt8) : ∀ a b, run a l ^^^ run b l = stepN (8 * l.length) (a ^^^ b) := by
  induction l with
  | nil => intro a b; rfl
  | cons c l ih =>
    intro a b
    rw [run_cons, run_cons, ih, put_xor, List.length_cons, ← stepN_add]
    congr 1; omega

theorem run_from0 (l : List UInt8) (w : BitVec 32) : run w l = stepN (8 * l.length) w ^^^ run 0#32 l := by
  have h := run_xor l w 0#32
  rw [BitVec.xor_zero] at h
  rw [← h, BitVec.xor_assoc]; simp

def more (s : BitVec 32) (l : List UInt8) : BitVec 32 := ~~~(run (~~~s) l)
def sum (l : List UInt8) : BitVec 32 := more 0#32 l

theorem not_eq (a : BitVec 32) : ~~~a = a ^^^ BitVec.allOnes 32 := by
  apply BitVec.eq_of_getLsbD_eq
  intro i hi
  rw [BitVec.getLsbD_not, BitVec.getLsbD_xor, BitVec.getLsbD_allOnes]
  simp [hi]

theorem not_inj {a b : BitVec 32} (h : ~~~a = ~~~b) : a = b := by
  have := congrArg (~~~ ·) h
  simpa using this

theorem sum_eq (l m : List UInt8) : sum l = sum m ↔ run (~~~0#32) l = run (~~~0#32) m :=
  ⟨fun h => not_inj h, fun h => by unfold sum more; rw [h]⟩

theorem run_eq_any {l m : List UInt8} (hl : l.length = m.length) (v w : BitVec 32) (h : run v l = run v m) : run w l = run w m := by
  rw [run_from0, run_from0 m, hl] at h ⊢
  have h2 := congrArg (stepN (8 * m.length) v ^^^ ·) h
  simp only [← BitVec.xor_assoc, BitVec.xor_self, BitVec.zero_xor] at h2
  rw [h2]

theorem run_inj (l : List UInt8) {v w : BitVec 32} (h : run v l = run w l) : v = w := by
  apply xor_eq_zero
  apply stepN_inj0 (8 * l.length)
  rw [← run_xor, h, BitVec.xor_self]

theorem around (a b x y : List UInt8) (hl : a.length = b.length) : sum (x ++ a ++ y) = sum (x ++ b ++ y) ↔ sum a = sum b := by
  rw [sum_eq, sum_eq, run_append, run_append, run_append, run_append]
  constructor
  · intro h; exact run_eq_any hl _ _ (run_inj y h)
  · intro h; rw [run_eq_any hl _ (run (~~~0#32) x) h]

/-! ### Four bytes are a word -/
def by8 (c : UInt8) : BitVec 32 := BitVec.ofNat 32 c.toNat
theorem by8_lt (c : UInt8) : (by8 c).toNat < 256 := by
  unfold by8; rw [BitVec.toNat_ofNat]; have := c.toNat_lt; omega
theorem by8_bit (c : UInt8) {i : Nat} (h : 8 ≤ i) : (by8 c).getLsbD i = false := bit_small (k := 8) (by8_lt c) h
theorem by8_bit' (c : UInt8) {i : Nat} (h : i < 8) : (by8 c).getLsbD i = c.toNat.testBit i := by
  unfold by8; rw [BitVec.getLsbD_ofNat]; simp; intro; omega

theorem by8_get (c : UInt8) {i : Nat} (hi : i < 32) (h : 8 ≤ i) : (by8 c)[i] = false := by
  rw [← BitVec.getLsbD_eq_getElem]; exact by8_bit c h

theorem late (n : Nat) (c : UInt8) (k : Nat) (hk : k ≤ 24) : stepN n (by8 c) = stepN (n + k) ((by8 c) <<< k) := by
  rw [Nat.add_comm, stepN_add, stepN_shl]
  · have := by8_lt c
    exact Nat.lt_of_lt_of_le this (by rw [show (256 : Nat) = 2 ^ 8 from rfl]; exact Nat.pow_le_pow_right (by omega) (by omega))
  · omega

theorem run_four (v : BitVec 32) (a b c d : UInt8) :
    run v [a, b, c, d] = stepN 32 (v ^^^ (by8 a ^^^ (by8 b <<< 8) ^^^ (by8 c <<< 16) ^^^ (by8 d <<< 24))) := by
  simp only [run, List.foldl]
  have e : ∀ w c, put w c = stepN 8 w ^^^ stepN 8 (by8 c) := fun w c => stepN_xor 8 w (by8 c)
  simp only [e, stepN_xor, ← stepN_add]
  rw [late 8 b 24 (by omega) |> fun _ => late (8 + 8 + 8) b 8 (by omega), late (8 + 8) c 16 (by omega), late 8 d 24 (by omega)]
  simp only [Nat.reduceAdd, BitVec.xor_assoc]

theorem word_inj {a b c d a' b' c' d' : UInt8}
    (h : by8 a ^^^ (by8 b <<< 8) ^^^ (by8 c <<< 16) ^^^ (by8 d <<< 24) = by8 a' ^^^ (by8 b' <<< 8) ^^^ (by8 c' <<< 16) ^^^ (by8 d' <<< 24)) :
    a = a' ∧ b = b' ∧ c = c' ∧ d = d' := by
  have bit : ∀ i, i < 32 → (by8 a ^^^ (by8 b <<< 8) ^^^ (by8 c <<< 16) ^^^ (by8 d <<< 24)).getLsbD i = (by8 a' ^^^ (by8 b' <<< 8) ^^^ (by8 c' <<< 16) ^^^ (by8 d' <<< 24)).getLsbD i := fun i _ => by rw [h]
  simp only [BitVec.getLsbD_xor, BitVec.getLsbD_shiftLeft] at bit
  have eq8 : ∀ x y : UInt8, (∀ i, i < 8 → x.toNat.testBit i = y.toNat.testBit i) → x = y := by
    intro x y hxy
    apply UInt8.toNat_inj.1
    apply Nat.eq_of_testBit_eq
    intro i
    by_cases hi : i < 8
    · exact hxy i hi
    · have hx := x.toNat_lt; have hy := y.toNat_lt
      rw [Nat.testBit_lt_two_pow (Nat.lt_of_lt_of_le hx (by rw [show (2:Nat)^8 = 2 ^ 8 from rfl]; exact Nat.pow_le_pow_right (by omega) (by omega))),
        Nat.testBit_lt_two_pow (Nat.lt_of_lt_of_le hy (by rw [show (2:Nat)^8 = 2 ^ 8 from rfl]; exact Nat.pow_le_pow_right (by omega) (by omega)))]
  refine ⟨eq8 _ _ fun i hi => ?_, eq8 _ _ fun i hi => ?_, eq8 _ _ fun i hi => ?_, eq8 _ _ fun i hi => ?_⟩
  · have := bit i (by omega)
    have h1 : i < 16 := by omega
    have h2 : i < 24 := by omega
    simpa [hi, h1, h2, by8_bit'] using this
  · have := bit (i + 8) (by omega)
    have h0 : ¬ i + 8 < 8 := by omega
    have h1 : i + 8 < 16 := by omega
    have h2 : i + 8 < 24 := by omega
    have h3 : i + 8 < 32 := by omega
    simpa [hi, h0, h1, h2, h3, by8_bit', by8_get] using this
  · have := bit (i + 16) (by omega)
    have h0 : ¬ i + 16 < 8 := by omega
    have h1 : ¬ i + 16 < 16 := by omega
    have h2 : i + 16 < 24 := by omega
    have h3 : i + 16 < 32 := by omega
    have e : i + 16 - 8 = i + 8 := by omega
    simpa [hi, h0, h1, h2, h3, e, by8_bit', by8_get, by8_bit] using this
  · have := bit (i + 24) (by omega)
    have h0 : ¬ i + 24 < 8 := by omega
    have h1 : ¬ i + 24 < 16 := by omega
    have h2 : ¬ i + 24 < 24 := by omega
    have h3 : i + 24 < 32 := by omega
    have e : i + 24 - 8 = i + 16 := by omega
    have e2 : i + 24 - 16 = i + 8 := by omega
    simpa [hi, h0, h1, h2, h3, e, e2, by8_bit', by8_get, by8_bit] using this

theorem turned (x y : List UInt8) (a b c d a' b' c' d' : UInt8) :
    sum (x ++ [a, b, c, d] ++ y) = sum (x ++ [a', b', c', d'] ++ y) ↔ a = a' ∧ b = b' ∧ c = c' ∧ d = d' := by
  constructor
  · intro h
    have h2 := (around [a, b, c, d] [a', b', c', d'] x y rfl).1 h
    rw [sum_eq, run_four, run_four] at h2
    have h3 := stepN_inj 32 h2
    have h4 := congrArg (~~~0#32 ^^^ ·) h3
    simp only [← BitVec.xor_assoc, BitVec.xor_self, BitVec.zero_xor] at h4
    exact word_inj h4
  · rintro ⟨rfl, rfl, rfl, rfl⟩; rfl

/-! ### What becomes of each bit of a word -/
def sel (m w : BitVec 32) (i : Nat) : BitVec 32 := m &&& (0#32 - ((w >>> i) &&& 1#32))

def times (m : Nat → BitVec 32) (w : BitVec 32) : Nat → BitVec 32
  | 0 => 0#32
  | k + 1 => times m w k ^^^ sel (m k) w k

end Go.Proofs.Ytgkadhogfejheaa.Crc
