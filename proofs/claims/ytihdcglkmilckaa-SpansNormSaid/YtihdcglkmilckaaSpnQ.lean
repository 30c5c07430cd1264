/- The plain law of spans: what the reference's Marks and Made compute. -/
import Derived.Test.YtihdcglkmilckaaSpnP
namespace Go.Proofs.Ytihdcglkmilckaa
open Go.RowKit

namespace Spn
open PSpansOpen Go.Proofs.YtihdcglkmilckaaW.PrintWords
/-- places from a on, d of them, are marked -/
def fill (x : List Bool) (a : Nat) : Nat → List Bool
  | 0 => x
  | d + 1 => fill (x.set a true) (a + 1) d
theorem fill_length (x : List Bool) (a d : Nat) : (fill x a d).length = x.length := by
  induction d generalizing x a with
  | zero => rfl
  | succ d ih => simp only [fill, ih, List.length_set]
theorem fill_get (x : List Bool) (a d p : Nat) (hp : p < x.length) : (fill x a d)[p]? = if a ≤ p ∧ p < a + d then some true else x[p]? := by
  induction d generalizing x a with
  | zero => rw [if_neg (by omega)]; rfl
  | succ d ih =>
    simp only [fill]
    rw [ih _ _ (by simpa using hp)]
    by_cases h : a = p
    · subst h
      rw [if_neg (by omega), if_pos (by omega), List.getElem?_set_self hp]
    · rw [List.getElem?_set_ne h]
      by_cases h2 : a + 1 ≤ p ∧ p < a + 1 + d
      · rw [if_pos h2, if_pos (by omega)]
      · rw [if_neg h2, if_neg (by omega)]
def fillAll (x : List Bool) : List Span → List Bool
  | [] => x
  | s :: l => fillAll (fill x s.f0.toNat s.f1.toNat) l
theorem fillAll_length (x : List Bool) (l : List Span) : (fillAll x l).length = x.length := by
  induction l generalizing x with
  | nil => rfl
  | cons s l ih => simp only [fillAll, ih, fill_length]
theorem fillAll_get (l : List Span) : ∀ (x : List Bool) (last : Int) (p : Nat), mayFrom last l = true → -1 ≤ last → p < x.length → (fillAll x l)[p]? = if has l (p : Int) = true then some true else x[p]? := by
  induction l with
  | nil => intro x last p _ _ _; rw [has_nil, if_neg (by simp)]; rfl
  | cons s l ih =>
    intro x last p h hlast hp
    simp only [mayFrom, Bool.and_eq_true] at h
    have hg := good_spec h.1
    simp only [fillAll]
    rw [ih _ _ p h.2 (by unfold fin; omega) (by rw [fill_length]; exact hp), fill_get _ _ _ _ hp, has_cons]
    cases has l (p : Int) with
    | true => rw [Bool.or_true]; rfl
    | false =>
      rw [Bool.or_false, if_neg (by simp)]
      by_cases hh : s.f0.toNat ≤ p ∧ p < s.f0.toNat + s.f1.toNat
      · rw [if_pos hh, if_pos (decide_eq_true (by unfold fin; omega))]
      · rw [if_neg hh, if_neg (by rw [decide_eq_true_eq]; unfold fin; omega)]

theorem marks_l1 (l : List Span) (s : Span) (h0 : 0 ≤ s.f0) (h2 : fin s ≤ 20000) (i : Int) : ∀ (d k : Nat) (x : List Bool) (j : Int), 0 ≤ j → s.f1 = j + d → x.length = 20000 →
    foolscapref07_Marks.l1 (k + d + 1) l x i j s.f0 s.f1 = foolscapref07_Marks.l0 k l (fill x (s.f0 + j).toNat d) (wrap64 (i + 1)) := by
  intro d
  unfold fin at h2
  induction d with
  | zero =>
    intro k x j hj hd hx
    simp only [foolscapref07_Marks.l1]
    rw [if_neg (by omega)]; rfl
  | succ d ih =>
    intro k x j hj hd hx
    rw [show k + (d + 1) + 1 = k + d + 1 + 1 by omega, foolscapref07_Marks.l1]
    rw [if_pos (by omega), wrap_id (show -9223372036854775808 ≤ s.f0 + j by omega) (by omega), if_pos (by omega), if_pos (by omega), wrap_id (show -9223372036854775808 ≤ j + 1 by omega) (by omega),
      ih k _ (j + 1) (by omega) (by omega) (by simpa using hx)]
    simp only [fill]
    rw [show (s.f0 + (j + 1)).toNat = (s.f0 + j).toNat + 1 by omega]
theorem marks_l0 (l : List Span) (hl : l.length ≤ 100000) : ∀ (d : Nat) (i : Nat) (x : List Bool) (last : Int), l.length = i + d → x.length = 20000 → -1 ≤ last → mayFrom last (l.drop i) = true →
    ∃ K, ∀ k, foolscapref07_Marks.l0 (k + K) l x i = some (fillAll x (l.drop i), true) := by
  intro d
  induction d with
  | zero =>
    intro i x last hi hx _ _
    refine ⟨1, fun k => ?_⟩
    simp only [foolscapref07_Marks.l0]
    rw [if_neg (by omega), List.drop_eq_nil_of_le (by omega)]; rfl
  | succ d ih =>
    intro i x last hi hx hlast hm
    obtain ⟨s, hs⟩ := at_lt l i (by omega)
    rw [drop_at hs] at hm ⊢
    simp only [mayFrom, Bool.and_eq_true] at hm
    have hg := good_spec hm.1
    obtain ⟨K, hK⟩ := ih (i + 1) (fill x s.f0.toNat s.f1.toNat) _ (by omega) (by rw [fill_length]; exact hx) (show -1 ≤ fin s by unfold fin; omega) hm.2
    refine ⟨K + s.f1.toNat + 3, fun k => ?_⟩
    rw [show k + (K + s.f1.toNat + 3) = (k + K + s.f1.toNat + 1) + 1 + 1 by omega]
    simp only [foolscapref07_Marks.l0]
    rw [if_pos (by omega), if_pos (by omega), rd_at hs, if_neg (by omega), if_neg (by omega), if_neg (by omega), wrap_id (show -9223372036854775808 ≤ 20000 - s.f0 by omega) (by omega), decide_eq_false (by omega)]
    simp only [foolscapref07_Marks.j1, Bool.false_eq_true, if_false]
    rw [marks_l1 l s (by omega) (by unfold fin; omega) i s.f1.toNat (k + K) x 0 (by omega) (by omega) hx, next_int i (by omega), Int.add_zero, hK k]
    rfl
/-- of each place whether a span has it -/
theorem marks (l : List Span) (hl : l.length ≤ 100000) (h : may l = true) : ∃ K out, (∀ k, foolscapref07_Marks.f (k + K) l = some (out, true)) ∧ out.length = 20000 ∧ ∀ p : Nat, p < 20000 → out[p]? = some (has l p) := by
  obtain ⟨K, hK⟩ := marks_l0 l hl l.length 0 (List.replicate 20000 false) (-1) (by omega) List.length_replicate (by omega) h
  refine ⟨K, fillAll (List.replicate 20000 false) l, fun k => ?_, by rw [fillAll_length]; exact List.length_replicate, fun p hp => ?_⟩
  · unfold foolscapref07_Marks.f
    rw [if_pos (by omega)]
    exact hK k
  · rw [fillAll_get l _ _ p h (by omega) (by rw [List.length_replicate]; exact hp)]
    cases has l (p : Int) with
    | true => rfl
    | false => rw [if_neg (by simp), List.getElem?_replicate, if_pos hp]

theorem rdOf_at {m : List Bool} {i : Nat} {b : Bool} (h : m[i]? = some b) : rdOf false m (i : Int) = b := by
  unfold rdOf; rw [Int.toNat_natCast, List.getD_eq_getElem?_getD, h]; rfl
/-- what has been made of the first i marks -/
structure MadeBy (m : List Bool) (i : Nat) (out : List Span) : Prop where
  ok : may out = true
  places : ∀ p : Int, has out p = true ↔ ∃ j : Nat, j < i ∧ p = j ∧ m[j]? = some true
  short : out.length ≤ i
theorem made_last {m : List Bool} {i : Nat} {o : List Span} {t : Span} (h : MadeBy m i (o ++ [t])) : fin t ≤ i ∧ 1 ≤ t.f1 ∧ 0 ≤ t.f0 := by
  have hm := h.ok
  unfold may at hm
  rw [mayFrom_snoc, Bool.and_eq_true] at hm
  have hg := good_spec hm.2
  have he := end_ge hm.1
  obtain ⟨j, h1, h2, _⟩ := (h.places (fin t - 1)).1 (by rw [has_append, has_one, Bool.or_eq_true]; exact .inr (decide_eq_true (by unfold fin at *; omega)))
  exact ⟨by omega, hg.1, by omega⟩
theorem made_skip {m : List Bool} {i : Nat} {out : List Span} (h : MadeBy m i out) (hf : m[i]? = some false) : MadeBy m (i + 1) out := by
  refine ⟨h.ok, fun p => ?_, by have := h.short; omega⟩
  rw [h.places p]
  constructor
  · rintro ⟨j, h1, h2⟩; exact ⟨j, by omega, h2⟩
  · rintro ⟨j, h1, h2, h3⟩
    by_cases e : j = i
    · subst e; rw [hf] at h3; cases h3
    · exact ⟨j, by omega, h2, h3⟩
theorem made_new {m : List Bool} {i : Nat} {out : List Span} (h : MadeBy m i out) (ht : m[i]? = some true) (hn : i = 0 ∨ ∃ j, i = j + 1 ∧ m[j]? = some false) (hi : i < 20000) : MadeBy m (i + 1) (out ++ [⟨i, 1⟩]) := by
  refine ⟨?_, fun p => ?_, by have := h.short; simp; omega⟩
  · have hm := h.ok
    unfold may at hm ⊢
    rw [mayFrom_snoc, hm, Bool.true_and]
    apply good_true
    refine ⟨by simp, ?_, by simp; omega, by simp; omega⟩
    show endFrom (-1) out < (i : Int)
    rcases List.eq_nil_or_concat out with rfl | ⟨o, t, rfl⟩
    · show (-1 : Int) < i; omega
    · rw [List.concat_eq_append] at *
      rw [endFrom_snoc]
      have hl := made_last h
      rcases Int.lt_or_le (fin t) i with c | c
      · exact c
      · exfalso
        have e : fin t = i := by omega
        obtain ⟨j, h1, h2, h3⟩ := (h.places (fin t - 1)).1 (by rw [has_append, has_one, Bool.or_eq_true]; exact .inr (decide_eq_true (by unfold fin at *; omega)))
        rcases hn with hn | ⟨j', hn, hj⟩
        · omega
        · obtain rfl : j = j' := by omega
          rw [hj] at h3; cases h3
  · rw [has_append, has_one, Bool.or_eq_true, h.places p, decide_eq_true_eq]
    constructor
    · rintro (⟨j, h1, h2, h3⟩ | h1)
      · exact ⟨j, by omega, h2, h3⟩
      · refine ⟨i, by omega, ?_, ht⟩
        have h1' : (i : Int) ≤ p ∧ p < i + 1 := h1
        omega
    · rintro ⟨j, h1, h2, h3⟩
      by_cases e : j = i
      · right; show (i : Int) ≤ p ∧ p < i + 1; omega
      · exact .inl ⟨j, by omega, h2, h3⟩
theorem made_more {m : List Bool} {i : Nat} {o : List Span} {t : Span} (h : MadeBy m (i + 1) (o ++ [t])) (ht : m[i + 1]? = some true) (hp : m[i]? = some true) (hi : i + 1 < 20000) : fin t = i + 1 ∧ MadeBy m (i + 2) (o ++ [⟨t.f0, t.f1 + 1⟩]) := by
  have hl := made_last h
  have hm := h.ok
  unfold may at hm
  rw [mayFrom_snoc, Bool.and_eq_true] at hm
  have hg := good_spec hm.2
  have e : fin t = i + 1 := by
    have h1 := (h.places i).2 ⟨i, by omega, rfl, hp⟩
    have h2 := (has_in h.ok h1).2
    rw [endFrom_snoc] at h2
    omega
  refine ⟨e, ?_, fun p => ?_, by have := h.short; simp at this ⊢; omega⟩
  · unfold may
    rw [mayFrom_snoc, hm.1, Bool.true_and]
    apply good_true
    show 1 ≤ t.f1 + 1 ∧ endFrom (-1) o < t.f0 ∧ t.f0 ≤ 20000 ∧ t.f1 + 1 ≤ 20000 - t.f0
    unfold fin at e; omega
  · have hpl := h.places p
    rw [has_append, has_one, Bool.or_eq_true, decide_eq_true_eq] at hpl ⊢
    show (has o p = true ∨ (t.f0 ≤ p ∧ p < t.f0 + (t.f1 + 1))) ↔ _
    unfold fin at e hpl
    constructor
    · rintro (h1 | h1)
      · obtain ⟨j, h2, h3⟩ := hpl.1 (.inl h1); exact ⟨j, by omega, h3⟩
      · by_cases c : p < t.f0 + t.f1
        · obtain ⟨j, h2, h3⟩ := hpl.1 (.inr ⟨h1.1, c⟩); exact ⟨j, by omega, h3⟩
        · exact ⟨i + 1, by omega, by omega, ht⟩
    · rintro ⟨j, h2, h3, h4⟩
      by_cases c : j = i + 1
      · right; omega
      · rcases hpl.2 ⟨j, by omega, h3, h4⟩ with h5 | h5
        · exact .inl h5
        · right; omega
theorem made_l0 (m : List Bool) (hm : m.length = 20000) : ∀ (d k i : Nat) (out : List Span), i + d = 20000 → MadeBy m i out → ∃ r, foolscapref07_Made.l0 (k + d + 1) m out i = some r ∧ MadeBy m 20000 r := by
  intro d
  induction d with
  | zero =>
    intro k i out hi h
    refine ⟨out, ?_, by rw [show i = 20000 by omega] at h; exact h⟩
    simp only [foolscapref07_Made.l0]
    rw [if_neg (by omega)]
  | succ d ih =>
    intro k i out hi h
    obtain ⟨b, hb⟩ := at_lt m i (by omega)
    have hlen := h.short
    rw [show k + (d + 1) + 1 = k + d + 1 + 1 by omega]
    simp only [foolscapref07_Made.l0]
    rw [if_pos (by omega), if_pos (by omega), rdOf_at hb, next_int i (by omega)]
    cases b with
    | false =>
      rw [if_neg (by simp)]
      exact ih k (i + 1) out (by omega) (made_skip h hb)
    | true =>
      rw [if_pos rfl]
      cases i with
      | zero =>
        rw [if_neg (by omega), if_pos (by omega)]
        exact ih k 1 _ (by omega) (made_new h hb (.inl rfl) (by omega))
      | succ i =>
        obtain ⟨c, hc⟩ := at_lt m i (by omega)
        have e1 : wrap64 (((i + 1 : Nat) : Int) - 1) = (i : Int) := by unfold wrap64; omega
        rw [if_pos (by omega), e1, if_pos (by omega), if_pos (by omega), rdOf_at hc]
        cases c with
        | false =>
          rw [if_neg (by simp), if_pos (by omega)]
          exact ih k (i + 2) _ (by omega) (made_new h hb (.inr ⟨i, rfl, hc⟩) (by omega))
        | true =>
          rw [if_pos rfl]
          have h1 := (h.places i).2 ⟨i, by omega, rfl, hc⟩
          rcases List.eq_nil_or_concat out with rfl | ⟨o, t, rfl⟩
          · cases h1
          · rw [List.concat_eq_append] at *
            have e2 : wrap64 (((o ++ [t]).length : Int) - 1) = (o.length : Int) := by rw [List.length_append] at hlen ⊢; simp at hlen ⊢; unfold wrap64; omega
            obtain ⟨e3, h3⟩ := made_more h hb hc (by omega)
            have hl := made_last h
            have e4 : rd_T42 (o ++ [t]) (o.length : Int) = t := rd_at (by simp)
            rw [e2, if_pos (by omega), if_pos (by rw [List.length_append]; simp; omega), e4, wrap_id (show -9223372036854775808 ≤ t.f1 + 1 by omega) (by unfold fin at *; omega), Int.toNat_natCast, List.set_append_right _ _ (Nat.le_refl _), Nat.sub_self]
            exact ih k (i + 2) _ (by omega) h3
/-- the spans of marks -/
theorem made (m : List Bool) (hm : m.length = 20000) : ∃ K r, (∀ k, foolscapref07_Made.f (k + K) m = some r) ∧ may r = true ∧ ∀ p : Int, has r p = true ↔ ∃ j : Nat, j < 20000 ∧ p = j ∧ m[j]? = some true := by
  have h0 : MadeBy m 0 [] := ⟨rfl, fun p => Iff.intro (fun h => (by cases h)) (fun ⟨j, h, _⟩ => (by omega)), by simp⟩
  obtain ⟨r, hr, hM⟩ := made_l0 m hm 20000 0 0 [] (by omega) h0
  refine ⟨20001, r, fun k => ?_, hM.ok, hM.places⟩
  obtain ⟨r', hr', hM'⟩ := made_l0 m hm 20000 k 0 [] (by omega) h0
  have : r = r' := told hM.ok hM'.ok (fun p => by rw [Bool.eq_iff_iff, hM.places p, hM'.places p])
  unfold foolscapref07_Made.f
  rw [this]
  exact hr'
end Spn
end Go.Proofs.Ytihdcglkmilckaa
