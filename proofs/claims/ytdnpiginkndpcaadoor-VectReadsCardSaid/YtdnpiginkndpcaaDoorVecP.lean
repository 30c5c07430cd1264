/- Vectors: the plain law of counts and of what may be. (The texts PVectAsks are printed: print.sh with BYTES=13000.) -/
import Derived.Test.YtdnpiginkndpcaaDoorPVectAsksx3
import Derived.Test.YtdnpiginkndpcaaDoorPVectAsksx6
import Derived.Test.YtdnpiginkndpcaaDoorPVectAsksx7
import Derived.Test.YtdnpiginkndpcaaDoorPVectAsksx8
import Derived.Test.YtdnpiginkndpcaaDoorPVectAsksx9
namespace Go.Proofs.YtdnpiginkndpcaaDoor
open Go.RowKit

namespace Vec
open PVectAsks Go.Proofs.YtdnpiginkndpcaaDoorW.PrintWords
theorem wrap_id {x : Int} (h1 : -9223372036854775808 ≤ x) (h2 : x ≤ 9223372036854775807) : wrap64 x = x := by unfold wrap64; omega
/-- a site's count -/
def cnt (l : List Int) (s : Int) : Int := if 1 ≤ s ∧ s ≤ l.length then l.getD (s - 1).toNat 0 else 0
theorem within_eval (a b c : Int) : vect_within.f a b c = some (decide (b ≤ a ∧ a ≤ c)) := by
  unfold vect_within.f
  by_cases h : a ≥ b
  · rw [if_pos h]
    congr 1
    rw [Bool.eq_iff_iff, decide_eq_true_eq, decide_eq_true_eq]
    omega
  · rw [if_neg h, decide_eq_false (by omega)]
theorem count_eval (l : List Int) (s : Int) (hl : l.length ≤ 100000) : vect_count.f l s = some (cnt l s) := by
  unfold vect_count.f cnt
  rw [within_eval]
  simp only [Option.bind_some]
  by_cases h : 1 ≤ s ∧ s ≤ (l.length : Int)
  · rw [decide_eq_true h, if_pos rfl, wrap_id (by omega) (by omega), if_pos (by omega), if_pos (by omega), if_pos h]
    rfl
  · rw [decide_eq_false h, if_neg (by simp), if_neg h]
theorem ref_count_eval (l : List Int) (s : Int) (hl : l.length ≤ 100000) : foolscapref06_Count.f l s = some (cnt l s) := by
  unfold foolscapref06_Count.f cnt
  by_cases h1 : s ≥ 1
  · by_cases h2 : s ≤ (l.length : Int)
    · rw [if_pos h1, if_pos h2, wrap_id (by omega) (by omega), if_pos (by omega), if_pos (by omega), if_pos ⟨h1, h2⟩]
      rfl
    · rw [if_pos h1, if_neg h2, if_neg (fun h => h2 h.2)]
  · rw [if_neg h1, if_neg (fun h => h1 h.1)]
/-- may a name be -/
def mayName (s q : Int) : Bool := decide (1 ≤ s ∧ s ≤ 16 ∧ 1 ≤ q ∧ q ≤ 1099511627776)
theorem mayName_eval (s q : Int) : vect_MayName.f s q = some (mayName s q) := by
  unfold vect_MayName.f mayName
  rw [within_eval, within_eval]
  simp only [Option.bind_some]
  by_cases h : 1 ≤ s ∧ s ≤ 16
  · rw [decide_eq_true h, if_pos rfl]
    congr 1
    rw [Bool.eq_iff_iff, decide_eq_true_eq, decide_eq_true_eq]
    omega
  · rw [decide_eq_false h, if_neg (by simp), decide_eq_false (by omega)]
/-- does one cover the other one -/
def covers (a b : List Int) : Bool := (List.range 16).all fun i => decide (cnt b (i + 1 : Nat) ≤ cnt a (i + 1 : Nat))
def ok (x : Int) : Bool := decide (0 ≤ x ∧ x ≤ 1099511627776)
/-- what stands last -/
def tl (l : List Int) : Int := l.getD (l.length - 1) 0
/-- may a vector be -/
def may (l : List Int) : Bool := decide (l.length ≤ 16) && l.all ok && (l.isEmpty || decide (0 < tl l))
theorem rd_at {l : List Int} {i : Nat} {x : Int} (h : l[i]? = some x) : rd l (i : Int) = x := by
  unfold rd
  rw [show ((i : Int)).toNat = i by omega, List.getD_eq_getElem?_getD, h]; rfl
theorem drop_at {l : List Int} {i : Nat} {x : Int} (h : l[i]? = some x) : l.drop i = x :: l.drop (i + 1) := by
  obtain ⟨h1, h2⟩ := List.getElem?_eq_some_iff.1 h
  rw [← h2]; exact List.drop_eq_getElem_cons h1
theorem rd_last {l : List Int} (hl : l.length ≤ 100000) (h0 : l.length ≠ 0) : 0 ≤ wrap64 ((l.length : Int) - 1) ∧ wrap64 ((l.length : Int) - 1) < (l.length : Int) ∧ rd l (wrap64 ((l.length : Int) - 1)) = tl l := by
  have e : wrap64 ((l.length : Int) - 1) = (l.length : Int) - 1 := wrap_id (by omega) (by omega)
  refine ⟨by omega, by omega, ?_⟩
  rw [e]
  unfold rd tl
  rw [show ((l.length : Int) - 1).toNat = l.length - 1 by omega]
theorem may_l (l : List Int) (hl : l.length ≤ 100000) : ∀ (d k i : Nat), l.length = i + d → d < k → vect_May.l0 k l l (l.length : Int) (i : Int) = some ((l.drop i).all ok && (decide (l.length ≤ 16) && (l.isEmpty || decide (0 < tl l)))) := by
  intro d
  induction d with
  | zero =>
    intro k i h hk
    obtain ⟨k, rfl⟩ : ∃ m, k = m + 1 := ⟨k - 1, by omega⟩
    unfold vect_May.l0
    rw [if_neg (by omega), List.drop_eq_nil_of_le (by omega), List.all_nil, Bool.true_and]
    by_cases h16 : (l.length : Int) ≤ 16
    · rw [if_pos h16, decide_eq_true (show l.length ≤ 16 by omega), Bool.true_and]
      by_cases h0 : (l.length : Int) = 0
      · rw [if_pos h0]
        have : l = [] := List.eq_nil_of_length_eq_zero (by omega)
        subst this
        rfl
      · obtain ⟨a1, a2, a3⟩ := rd_last hl (by omega)
        rw [if_neg h0, if_pos a1, if_pos a2, a3]
        have : l.isEmpty = false := by
          cases l with
          | nil => simp at h0
          | cons x l => rfl
        rw [this, Bool.false_or]
    · rw [if_neg h16, decide_eq_false (show ¬ l.length ≤ 16 by omega), Bool.false_and]
  | succ d ih =>
    intro k i h hk
    obtain ⟨k, rfl⟩ : ∃ m, k = m + 1 := ⟨k - 1, by omega⟩
    obtain ⟨x, hx⟩ : ∃ x, l[i]? = some x := ⟨_, List.getElem?_eq_getElem (by omega)⟩
    unfold vect_May.l0
    rw [if_pos (by omega), if_pos (by omega), if_pos (by omega), rd_at hx, within_eval]
    simp only [Option.bind_some]
    rw [drop_at hx, List.all_cons]
    have e : wrap64 ((i : Int) + 1) = ((i + 1 : Nat) : Int) := by rw [wrap_id (by omega) (by omega)]; omega
    cases ho : ok x with
    | true =>
      have : decide (0 ≤ x ∧ x ≤ 1099511627776) = true := ho
      rw [this, if_pos rfl, e, ih k (i + 1) (by omega) (by omega), Bool.true_and]
    | false =>
      have : decide (0 ≤ x ∧ x ≤ 1099511627776) = false := ho
      rw [this, if_neg (by simp), Bool.false_and, Bool.false_and]
theorem may_eval (l : List Int) (hl : l.length ≤ 100000) (k : Nat) (hk : l.length < k) : vect_May.f k l = some (may l) := by
  have := may_l l hl l.length k 0 (by omega) hk
  unfold vect_May.f
  rw [show ((0 : Nat) : Int) = 0 from rfl] at this
  rw [this, List.drop_zero]
  unfold may
  congr 1
  cases l.all ok <;> cases decide (l.length ≤ 16) <;> rfl
theorem last_ok {l : List Int} (h : l.all ok = true) (h0 : l.length ≠ 0) : 0 ≤ tl l ∧ tl l ≤ 1099511627776 := by
  obtain ⟨x, hx⟩ : ∃ x, l[l.length - 1]? = some x := ⟨_, List.getElem?_eq_getElem (by omega)⟩
  have : tl l = x := by unfold tl; rw [List.getD_eq_getElem?_getD, hx]; rfl
  rw [this]
  have := List.all_eq_true.1 h x (List.mem_of_getElem? hx)
  exact of_decide_eq_true this
theorem ref_may_l (l : List Int) (hl : l.length ≤ 100000) : ∀ (d k i : Nat), l.length = i + d → d < k → foolscapref06_May.l0 k l (i : Int) = some ((l.drop i).all ok && (l.isEmpty || (tl l != 0))) := by
  intro d
  induction d with
  | zero =>
    intro k i h hk
    obtain ⟨k, rfl⟩ : ∃ m, k = m + 1 := ⟨k - 1, by omega⟩
    unfold foolscapref06_May.l0
    rw [if_neg (by omega), List.drop_eq_nil_of_le (by omega), List.all_nil, Bool.true_and]
    by_cases h0 : (l.length : Int) = 0
    · rw [if_pos h0]
      have : l = [] := List.eq_nil_of_length_eq_zero (by omega)
      subst this
      rfl
    · obtain ⟨a1, a2, a3⟩ := rd_last hl (by omega)
      rw [if_neg h0, if_pos a1, if_pos a2, a3]
      have : l.isEmpty = false := by
        cases l with
        | nil => simp at h0
        | cons x l => rfl
      rw [this, Bool.false_or]
  | succ d ih =>
    intro k i h hk
    obtain ⟨k, rfl⟩ : ∃ m, k = m + 1 := ⟨k - 1, by omega⟩
    obtain ⟨x, hx⟩ : ∃ x, l[i]? = some x := ⟨_, List.getElem?_eq_getElem (by omega)⟩
    unfold foolscapref06_May.l0
    rw [if_pos (by omega), if_pos (by omega), rd_at hx, drop_at hx, List.all_cons]
    have e : wrap64 ((i : Int) + 1) = ((i + 1 : Nat) : Int) := by rw [wrap_id (by omega) (by omega)]; omega
    by_cases h1 : x < 0
    · have : ok x = false := decide_eq_false (by omega)
      rw [if_pos h1, this, Bool.false_and, Bool.false_and]
    · by_cases h2 : x > 1099511627776
      · have : ok x = false := decide_eq_false (by omega)
        rw [if_neg h1, if_pos h2, this, Bool.false_and, Bool.false_and]
      · have : ok x = true := decide_eq_true (by omega)
        rw [if_neg h1, if_neg h2, e, ih k (i + 1) (by omega) (by omega), this, Bool.true_and]
theorem ref_may_eval (l : List Int) (hl : l.length ≤ 100000) (k : Nat) (hk : l.length < k) : foolscapref06_May.f k l = some (may l) := by
  have := ref_may_l l hl l.length k 0 (by omega) hk
  unfold foolscapref06_May.f
  rw [show ((0 : Nat) : Int) = 0 from rfl, List.drop_zero] at this
  unfold may
  by_cases h16 : (l.length : Int) > 16
  · rw [if_pos h16, decide_eq_false (show ¬ l.length ≤ 16 by omega)]; rfl
  · rw [if_neg h16, this, decide_eq_true (show l.length ≤ 16 by omega), Bool.true_and]
    congr 1
    cases ha : l.all ok with
    | false => rfl
    | true =>
      rw [Bool.true_and, Bool.true_and]
      cases l with
      | nil => rfl
      | cons x l =>
        have := last_ok ha (by simp)
        show (tl (x :: l) != 0) = decide (0 < tl (x :: l))
        rw [Bool.eq_iff_iff, bne_iff_ne, decide_eq_true_eq]
        omega
theorem covers_l (a b : List Int) (ha : a.length ≤ 100000) (hb : b.length ≤ 100000) : ∀ (d k i : Nat), 16 = i + d → d < k → foolscapref06_Covers.l0 k a b ((i + 1 : Nat) : Int) = some (((List.range 16).drop i).all fun i => decide (cnt b (i + 1 : Nat) ≤ cnt a (i + 1 : Nat))) := by
  intro d
  induction d with
  | zero =>
    intro k i h hk
    obtain ⟨k, rfl⟩ : ∃ m, k = m + 1 := ⟨k - 1, by omega⟩
    unfold foolscapref06_Covers.l0
    rw [if_neg (by omega), List.drop_eq_nil_of_le (by simp; omega)]
    rfl
  | succ d ih =>
    intro k i h hk
    obtain ⟨k, rfl⟩ : ∃ m, k = m + 1 := ⟨k - 1, by omega⟩
    have hd : (List.range 16).drop i = i :: (List.range 16).drop (i + 1) := by
      have h1 : i < (List.range 16).length := by simp; omega
      rw [List.drop_eq_getElem_cons h1]
      simp
    unfold foolscapref06_Covers.l0
    rw [if_pos (by omega), ref_count_eval a _ ha, ref_count_eval b _ hb, hd, List.all_cons]
    simp only [Option.bind_some]
    have e : wrap64 (((i + 1 : Nat) : Int) + 1) = ((i + 1 + 1 : Nat) : Int) := by rw [wrap_id (by omega) (by omega)]; omega
    by_cases hc : cnt a (i + 1 : Nat) < cnt b (i + 1 : Nat)
    · rw [if_pos hc, decide_eq_false (by omega), Bool.false_and]
    · rw [if_neg hc, decide_eq_true (by omega), Bool.true_and, e]
      exact ih k (i + 1) (by omega) (by omega)
theorem ref_covers_eval (a b : List Int) (ha : a.length ≤ 100000) (hb : b.length ≤ 100000) (k : Nat) (hk : 16 < k) : foolscapref06_Covers.f k a b = some (covers a b) := by
  have := covers_l a b ha hb 16 k 0 (by omega) hk
  rw [List.drop_zero] at this
  exact this
end Vec
end Go.Proofs.YtdnpiginkndpcaaDoor
