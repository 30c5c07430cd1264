/- The plain law of spans: what the printed functions compute; lists that may be are told by their places. -/
import Derived.Test.YtihdcglkmilckaaSpnA
import Derived.Test.YtihdcglkmilckaaPSpansOpenx2
import Derived.Test.YtihdcglkmilckaaPSpansOpenx5
import Derived.Test.YtihdcglkmilckaaPSpansOpenx6
namespace Go.Proofs.Ytihdcglkmilckaa
open Go.RowKit

namespace Spn
open PSpansOpen Go.Proofs.YtihdcglkmilckaaW.PrintWords
def good (last : Int) (s : Span) : Bool := decide (1 ≤ s.f1 ∧ last < s.f0 ∧ s.f0 ≤ 20000 ∧ s.f1 ≤ 20000 - s.f0)
def mayFrom : Int → List Span → Bool
  | _, [] => true
  | last, s :: l => good last s && mayFrom (fin s) l
/-- may a list be? -/
def may (l : List Span) : Bool := mayFrom (-1) l
/-- has it a place? -/
def has (l : List Span) (p : Int) : Bool := l.any fun s => decide (s.f0 ≤ p ∧ p < fin s)

theorem rd_at {l : List Span} {i : Nat} {s : Span} (h : l[i]? = some s) : rd_T42 l (i : Int) = s := by
  unfold rd_T42; rw [Int.toNat_natCast, List.getD_eq_getElem?_getD, h]; rfl
theorem drop_at {α : Type} {l : List α} {i : Nat} {s : α} (h : l[i]? = some s) : l.drop i = s :: l.drop (i + 1) := by
  obtain ⟨hi, rfl⟩ := List.getElem?_eq_some_iff.1 h
  exact List.drop_eq_getElem_cons hi
theorem at_lt {α : Type} (l : List α) (i : Nat) (h : i < l.length) : ∃ s, l[i]? = some s := ⟨_, List.getElem?_eq_getElem h⟩
theorem next_int (i : Nat) (h : i ≤ 1000000) : wrap64 ((i : Int) + 1) = ((i + 1 : Nat) : Int) := by unfold wrap64; omega

theorem fits_eval (s : Span) : spans_fits.f s.f0 s.f1 = some (decide (0 ≤ s.f0 ∧ s.f0 ≤ 20000 ∧ 0 ≤ s.f1 ∧ s.f1 ≤ 20000 - s.f0)) := by
  unfold spans_fits.f
  by_cases h1 : s.f0 ≥ 0
  · rw [if_pos h1]
    by_cases h2 : s.f0 ≤ 20000
    · rw [if_pos h2]
      by_cases h3 : s.f1 ≥ 0
      · rw [if_pos h3, wrap_id (by omega) (by omega)]
        congr 1; rw [Bool.eq_iff_iff]; simp; omega
      · rw [if_neg h3]; congr 1; rw [eq_comm, decide_eq_false_iff_not]; omega
    · rw [if_neg h2]; congr 1; rw [eq_comm, decide_eq_false_iff_not]; omega
  · rw [if_neg h1]; congr 1; rw [eq_comm, decide_eq_false_iff_not]; omega

theorem good_false {last : Int} {s : Span} (h : ¬ (1 ≤ s.f1 ∧ last < s.f0 ∧ s.f0 ≤ 20000 ∧ s.f1 ≤ 20000 - s.f0)) : good last s = false := decide_eq_false h
theorem good_true {last : Int} {s : Span} (h : 1 ≤ s.f1 ∧ last < s.f0 ∧ s.f0 ≤ 20000 ∧ s.f1 ≤ 20000 - s.f0) : good last s = true := decide_eq_true h

theorem may_eval_l (l : List Span) (hl : l.length ≤ 100000) : ∀ (d k : Nat) (last : Int) (i : Nat), l.length = i + d → d < k → -1 ≤ last → spans_May.l0 k last l (l.length : Int) i = some (mayFrom last (l.drop i)) := by
  intro d
  induction d with
  | zero =>
    intro k last i hi hk hlast
    obtain ⟨k, rfl⟩ : ∃ m, k = m + 1 := ⟨k - 1, by omega⟩
    simp only [spans_May.l0]
    rw [if_neg (by omega), List.drop_eq_nil_of_le (by omega)]; rfl
  | succ d ih =>
    intro k last i hi hk hlast
    obtain ⟨k, rfl⟩ : ∃ m, k = m + 1 := ⟨k - 1, by omega⟩
    obtain ⟨s, hs⟩ := at_lt l i (by omega)
    simp only [spans_May.l0]
    rw [if_pos (by omega), if_pos (by omega), if_pos (by omega), rd_at hs, fits_eval, drop_at hs]
    simp only [Option.bind_some, mayFrom]
    by_cases h1 : 0 ≤ s.f0 ∧ s.f0 ≤ 20000 ∧ 0 ≤ s.f1 ∧ s.f1 ≤ 20000 - s.f0
    · rw [decide_eq_true h1, if_pos rfl]
      by_cases h2 : s.f1 < 1
      · rw [if_pos h2, good_false (by omega)]; rfl
      · rw [if_neg h2]
        by_cases h3 : s.f0 ≤ last
        · rw [if_pos h3, good_false (by omega)]; rfl
        · rw [if_neg h3, good_true (by omega)]
          unfold spans_end.f
          rw [wrap_id (by omega) (by omega)]
          simp only [Option.bind_some, Bool.true_and]
          rw [next_int i (by omega), ih k _ (i + 1) (by omega) (by omega) (by omega)]
          rfl
    · rw [decide_eq_false h1, if_neg (by simp), good_false (by omega)]; rfl
theorem spans_may (l : List Span) (hl : l.length ≤ 100000) (k : Nat) (hk : l.length < k) : spans_May.f k l = some (may l) := by
  unfold spans_May.f
  have := may_eval_l l hl l.length k (-1) 0 (by omega) hk (by omega)
  unfold may; simpa using this
theorem ref_may_l (l : List Span) (hl : l.length ≤ 100000) : ∀ (d k : Nat) (last : Int) (i : Nat), l.length = i + d → d < k → -1 ≤ last → foolscapref07_May.l0 k l last i = some (mayFrom last (l.drop i)) := by
  intro d
  induction d with
  | zero =>
    intro k last i hi hk hlast
    obtain ⟨k, rfl⟩ : ∃ m, k = m + 1 := ⟨k - 1, by omega⟩
    simp only [foolscapref07_May.l0]
    rw [if_neg (by omega), List.drop_eq_nil_of_le (by omega)]; rfl
  | succ d ih =>
    intro k last i hi hk hlast
    obtain ⟨k, rfl⟩ : ∃ m, k = m + 1 := ⟨k - 1, by omega⟩
    obtain ⟨s, hs⟩ := at_lt l i (by omega)
    simp only [foolscapref07_May.l0]
    rw [if_pos (by omega), if_pos (by omega), rd_at hs, drop_at hs]
    simp only [mayFrom]
    by_cases h2 : s.f1 < 1
    · rw [if_pos h2, good_false (by omega)]; rfl
    · rw [if_neg h2]
      by_cases h3 : s.f0 ≤ last
      · rw [if_pos h3, good_false (by omega)]; rfl
      · rw [if_neg h3]
        by_cases h4 : s.f0 > 20000
        · rw [if_pos h4, good_false (by omega)]; rfl
        · rw [if_neg h4, wrap_id (show -9223372036854775808 ≤ 20000 - s.f0 by omega) (by omega)]
          by_cases h5 : s.f1 > 20000 - s.f0
          · rw [if_pos h5, good_false (by omega)]; rfl
          · rw [if_neg h5, good_true (by omega), wrap_id (by omega) (by omega), next_int i (by omega), ih k _ (i + 1) (by omega) (by omega) (by omega)]
            rfl
theorem ref_may (l : List Span) (hl : l.length ≤ 100000) (k : Nat) (hk : l.length < k) : foolscapref07_May.f k l = some (may l) := by
  unfold foolscapref07_May.f
  have := ref_may_l l hl l.length k (-1) 0 (by omega) hk (by omega)
  unfold may; simpa using this
def asked (l : List Span) (at_ n : Int) : Bool := may l && decide (0 ≤ at_ ∧ at_ ≤ 20000 ∧ 0 ≤ n)
theorem spans_asked (l : List Span) (hl : l.length ≤ 100000) (a n : Int) (k : Nat) (hk : l.length < k) : spans_asked.f k l a n = some (asked l a n) := by
  unfold spans_asked.f asked
  rw [spans_may l hl k hk]
  simp only [Option.bind_some]
  cases may l with
  | false => rfl
  | true =>
    rw [if_pos rfl, Bool.true_and]
    by_cases h1 : a ≥ 0
    · rw [if_pos h1]
      by_cases h2 : a ≤ 20000
      · rw [if_pos h2]; congr 1; rw [Bool.eq_iff_iff]; simp; omega
      · rw [if_neg h2]; congr 1; rw [eq_comm, decide_eq_false_iff_not]; omega
    · rw [if_neg h1]; congr 1; rw [eq_comm, decide_eq_false_iff_not]; omega

/-! ### Lists that may be, and their places -/
def endFrom : Int → List Span → Int
  | last, [] => last
  | _, s :: l => endFrom (fin s) l
theorem good_spec {last : Int} {s : Span} (h : good last s = true) : 1 ≤ s.f1 ∧ last < s.f0 ∧ s.f0 ≤ 20000 ∧ s.f1 ≤ 20000 - s.f0 := of_decide_eq_true h
theorem mayFrom_snoc (last : Int) (l : List Span) (t : Span) : mayFrom last (l ++ [t]) = (mayFrom last l && good (endFrom last l) t) := by
  induction l generalizing last with
  | nil => simp [mayFrom, endFrom]
  | cons s l ih => simp only [List.cons_append, mayFrom, endFrom, ih, Bool.and_assoc]
theorem endFrom_snoc (last : Int) (l : List Span) (t : Span) : endFrom last (l ++ [t]) = fin t := by
  induction l generalizing last with
  | nil => rfl
  | cons s l ih => simp only [List.cons_append, endFrom, ih]
theorem has_nil (p : Int) : has [] p = false := rfl
theorem has_cons (s : Span) (l : List Span) (p : Int) : has (s :: l) p = (decide (s.f0 ≤ p ∧ p < fin s) || has l p) := rfl
theorem has_append (l m : List Span) (p : Int) : has (l ++ m) p = (has l p || has m p) := by unfold has; rw [List.any_append]
theorem has_one (s : Span) (p : Int) : has [s] p = decide (s.f0 ≤ p ∧ p < fin s) := by unfold has; simp
theorem end_ge {last : Int} {l : List Span} (h : mayFrom last l = true) : last ≤ endFrom last l := by
  induction l generalizing last with
  | nil => exact Int.le_refl _
  | cons s l ih =>
    simp only [mayFrom, Bool.and_eq_true] at h
    have := good_spec h.1
    have := ih h.2
    simp only [endFrom]; unfold fin at *; omega
/-- its places lie behind 'last', and ahead of its end -/
theorem has_in {last : Int} {l : List Span} (h : mayFrom last l = true) {p : Int} (hp : has l p = true) : last < p ∧ p < endFrom last l := by
  induction l generalizing last with
  | nil => cases hp
  | cons s l ih =>
    simp only [mayFrom, Bool.and_eq_true] at h
    have hg := good_spec h.1
    rw [has_cons, Bool.or_eq_true, decide_eq_true_eq] at hp
    have he := end_ge h.2
    simp only [endFrom]
    rcases hp with hp | hp
    · unfold fin at *; omega
    · have := ih h.2 hp
      unfold fin at *; omega
theorem end_le {last : Int} {l : List Span} (h : mayFrom last l = true) (hl : last ≤ 20000) : endFrom last l ≤ 20000 := by
  induction l generalizing last with
  | nil => exact hl
  | cons s l ih =>
    simp only [mayFrom, Bool.and_eq_true] at h
    have := good_spec h.1
    exact ih h.2 (by unfold fin; omega)
theorem may_mem {last : Int} {l : List Span} (h : mayFrom last l = true) {s : Span} (hs : s ∈ l) : last < s.f0 ∧ 1 ≤ s.f1 ∧ fin s ≤ 20000 := by
  induction l generalizing last with
  | nil => cases hs
  | cons t l ih =>
    simp only [mayFrom, Bool.and_eq_true] at h
    have hg := good_spec h.1
    rcases List.mem_cons.1 hs with rfl | hs
    · unfold fin; omega
    · have := ih h.2 hs
      unfold fin at *; omega
/-- ITS PLACES TELL A LIST -/
theorem told {l : List Span} : ∀ {last : Int} {l' : List Span} {last' : Int}, mayFrom last l = true → mayFrom last' l' = true → (∀ p, has l p = has l' p) → l = l' := by
  induction l with
  | nil =>
    intro last l' last' _ h' hp
    cases l' with
    | nil => rfl
    | cons s l' =>
      simp only [mayFrom, Bool.and_eq_true] at h'
      have hg := good_spec h'.1
      have h1 := hp s.f0
      rw [has_nil, has_cons] at h1
      have : decide (s.f0 ≤ s.f0 ∧ s.f0 < fin s) = true := decide_eq_true (by unfold fin; omega)
      rw [this] at h1; cases h1
  | cons s l ih =>
    intro last l' last' h h' hp
    cases l' with
    | nil =>
      simp only [mayFrom, Bool.and_eq_true] at h
      have hg := good_spec h.1
      have h1 := hp s.f0
      rw [has_nil, has_cons] at h1
      have : decide (s.f0 ≤ s.f0 ∧ s.f0 < fin s) = true := decide_eq_true (by unfold fin; omega)
      rw [this] at h1; cases h1
    | cons s' l' =>
      simp only [mayFrom, Bool.and_eq_true] at h h'
      have hg := good_spec h.1
      have hg' := good_spec h'.1
      have key : ∀ p, (s.f0 ≤ p ∧ p < fin s ∨ has l p = true) ↔ (s'.f0 ≤ p ∧ p < fin s' ∨ has l' p = true) := by
        intro p
        have := hp p
        rw [has_cons, has_cons] at this
        rw [← decide_eq_true_eq (p := s.f0 ≤ p ∧ p < fin s), ← decide_eq_true_eq (p := s'.f0 ≤ p ∧ p < fin s'), ← Bool.or_eq_true, ← Bool.or_eq_true, this]
      have in1 : ∀ p, has l p = true → fin s < p := fun p hh => (has_in h.2 hh).1
      have in2 : ∀ p, has l' p = true → fin s' < p := fun p hh => (has_in h'.2 hh).1
      have f : s.f0 = s'.f0 := by
        rcases Int.lt_trichotomy s.f0 s'.f0 with c | c | c
        · rcases (key s.f0).1 (.inl (by unfold fin; omega)) with g | g
          · omega
          · have := in2 _ g; unfold fin at *; omega
        · exact c
        · rcases (key s'.f0).2 (.inl (by unfold fin; omega)) with g | g
          · omega
          · have := in1 _ g; unfold fin at *; omega
      have g : fin s = fin s' := by
        rcases Int.lt_trichotomy (fin s) (fin s') with c | c | c
        · rcases (key (fin s)).2 (.inl (by unfold fin at *; omega)) with g | g
          · omega
          · have := in1 _ g; omega
        · exact c
        · rcases (key (fin s')).1 (.inl (by unfold fin at *; omega)) with g | g
          · omega
          · have := in2 _ g; omega
      have hs : s = s' := by
        obtain ⟨a, b⟩ := s
        obtain ⟨c, d⟩ := s'
        have f' : a = c := f
        have g' : a + b = c + d := g
        subst f'
        rw [show b = d by omega]
      subst hs
      rw [ih h.2 h'.2 (fun p => ?_)]
      by_cases hin : s.f0 ≤ p ∧ p < fin s
      · cases e1 : has l p with
        | true => have := in1 p e1; omega
        | false =>
          cases e2 : has l' p with
          | true => have := in2 p e2; omega
          | false => rfl
      · have := hp p
        rw [has_cons, has_cons, decide_eq_false hin] at this
        simpa using this
theorem has_last {l : List Span} (h : may l = true) {p : Int} (hp : has l p = true) : ∃ m t, l = m ++ [t] ∧ p < fin t := by
  rcases List.eq_nil_or_concat l with rfl | ⟨m, t, rfl⟩
  · cases hp
  · rw [List.concat_eq_append] at *
    have := (has_in h hp).2
    rw [endFrom_snoc] at this
    exact ⟨m, t, rfl, this⟩
/-- a span more, not ahead of the last one's begin -/
theorem add_may {l : List Span} {s : Span} (h : may l = true) (h1 : 1 ≤ s.f1) (h0 : 0 ≤ s.f0) (h2 : fin s ≤ 20000) (hord : ∀ t, l.getLast? = some t → t.f0 ≤ s.f0) :
    may (add l s) = true ∧ (∀ p, has (add l s) p = (has l p || decide (s.f0 ≤ p ∧ p < fin s))) := by
  rcases List.eq_nil_or_concat l with rfl | ⟨m, t, rfl⟩
  · rw [add_nil s (by omega)]
    refine ⟨?_, fun p => by rw [has_one, has_nil]; rfl⟩
    simp only [may, mayFrom, Bool.and_true]
    exact good_true (by unfold fin at h2; omega)
  · rw [List.concat_eq_append] at *
    have ho := hord t (by simp)
    have hm := h
    unfold may at hm
    rw [mayFrom_snoc, Bool.and_eq_true] at hm
    have hg := good_spec hm.2
    by_cases hj : s.f0 ≤ fin t
    · rw [add_join m t s (by omega) hj]
      refine ⟨?_, fun p => ?_⟩
      · unfold may
        rw [mayFrom_snoc, hm.1, Bool.true_and]
        apply good_true
        show 1 ≤ max (fin t) (fin s) - t.f0 ∧ endFrom (-1) m < t.f0 ∧ t.f0 ≤ 20000 ∧ max (fin t) (fin s) - t.f0 ≤ 20000 - t.f0
        unfold fin at *; omega
      · rw [has_append, has_append, has_one, has_one, Bool.or_assoc]
        congr 1
        rw [Bool.eq_iff_iff]
        simp only [Bool.or_eq_true, decide_eq_true_eq]
        show (t.f0 ≤ p ∧ p < t.f0 + (max (fin t) (fin s) - t.f0)) ↔ _
        unfold fin at *; omega
    · rw [add_more m t s (by omega) hj]
      refine ⟨?_, fun p => by rw [has_append _ [s], has_one]⟩
      unfold may
      rw [mayFrom_snoc, show mayFrom (-1) (m ++ [t]) = true from h, Bool.true_and, endFrom_snoc]
      exact good_true (by unfold fin at *; omega)
end Spn
end Go.Proofs.Ytihdcglkmilckaa
