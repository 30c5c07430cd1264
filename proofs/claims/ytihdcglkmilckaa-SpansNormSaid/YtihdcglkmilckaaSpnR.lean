/- The plain law of spans: what is opened, by its places; the reference's Open. -/
import Derived.Test.YtihdcglkmilckaaSpnQ
import Derived.Test.YtihdcglkmilckaaSpnS
namespace Go.Proofs.Ytihdcglkmilckaa
open Go.RowKit

namespace Spn
open PSpansOpen Go.Proofs.YtihdcglkmilckaaW.PrintWords
theorem may_nil : may [] = true := rfl
theorem may_snoc {l : List Span} {s : Span} (h : may (l ++ [s]) = true) : may l = true ∧ endFrom (-1) l < s.f0 ∧ 0 ≤ s.f0 ∧ 1 ≤ s.f1 ∧ fin s ≤ 20000 := by
  unfold may at h ⊢
  rw [mayFrom_snoc, Bool.and_eq_true] at h
  have hg := good_spec h.2
  have := end_ge h.1
  exact ⟨h.1, hg.2.1, by omega, hg.1, by unfold fin; omega⟩
/-- the last one's first and last place -/
theorem last_has {l : List Span} (h : may l = true) {t : Span} (ht : l.getLast? = some t) : has l t.f0 = true ∧ has l (fin t - 1) = true := by
  rcases List.eq_nil_or_concat l with rfl | ⟨m, u, rfl⟩
  · cases ht
  · rw [List.concat_eq_append] at *
    obtain rfl : u = t := by simpa using ht
    have := may_snoc h
    rw [has_append, has_one, has_append, has_one, Bool.or_eq_true, Bool.or_eq_true]
    exact ⟨.inr (decide_eq_true (by unfold fin; omega)), .inr (decide_eq_true (by unfold fin; omega))⟩
def total (l : List Span) : Int := l.foldl (fun t s => t + s.f1) 0
theorem total_from (l : List Span) (x : Int) : l.foldl (fun t s => t + s.f1) x = x + total l := by
  unfold total
  induction l generalizing x with
  | nil => simp
  | cons s l ih => simp only [List.foldl_cons]; rw [ih, ih (0 + s.f1)]; omega
theorem total_append (l m : List Span) : total (l ++ m) = total l + total m := by
  have : total (l ++ m) = m.foldl (fun t s => t + s.f1) (total l) := by unfold total; rw [List.foldl_append]
  rw [this, total_from]
theorem total_one (s : Span) : total [s] = s.f1 := by unfold total; simp
theorem total_nil : total [] = 0 := rfl
/-- a span more, behind the last one's end -/
theorem add_total {l : List Span} {s : Span} (h1 : 1 ≤ s.f1) (hord : ∀ t, l.getLast? = some t → fin t ≤ s.f0) : total (add l s) = total l + s.f1 := by
  rcases List.eq_nil_or_concat l with rfl | ⟨m, t, rfl⟩
  · rw [add_nil s (by omega), total_one, total_nil]; omega
  · rw [List.concat_eq_append] at *
    have ho := hord t (by simp)
    by_cases hj : s.f0 ≤ fin t
    · rw [add_join m t s (by omega) hj, total_append, total_append, total_one, total_one]
      unfold fin at *
      show total m + (max (t.f0 + t.f1) (s.f0 + s.f1) - t.f0) = _
      omega
    · rw [add_more m t s (by omega) hj, total_append, total_append, total_one, total_one]
/-- one span more, all of it behind a bound that no place of the list reaches -/
theorem add_all {l : List Span} {s : Span} (h : may l = true) (h0 : 0 ≤ s.f0) (h1 : 0 ≤ s.f1) (h2 : fin s ≤ 20000) (hb : ∀ p, has l p = true → p < s.f0) :
    may (add l s) = true ∧ (∀ p, has (add l s) p = (has l p || decide (s.f0 ≤ p ∧ p < fin s))) ∧ total (add l s) = total l + s.f1 := by
  by_cases hz : s.f1 < 1
  · rw [add_none l s hz]
    refine ⟨h, fun p => ?_, by omega⟩
    rw [decide_eq_false (by unfold fin; omega), Bool.or_false]
  · have hl := fun t ht => last_has h (t := t) ht
    obtain ⟨a1, a2⟩ := add_may h (s := s) (by omega) h0 h2 (fun t ht => by have := hb _ (hl t ht).1; omega)
    exact ⟨a1, a2, add_total (by omega) (fun t ht => by have := hb _ (hl t ht).2; omega)⟩

theorem opens_snoc (a n : Int) (l : List Span) (s : Span) : opens a n (l ++ [s]) = openStep a n (opens a n l) s := by unfold opens; rw [List.foldl_append]; rfl
theorem opens_law (a n : Int) (ha : 0 ≤ a) (hn : 0 ≤ n) : ∀ l : List Span, may l = true → (∀ s ∈ l, a < fin s → n ≤ 20000 - fin s) →
    may (opens a n l) = true ∧ (∀ p, has (opens a n l) p = (decide (p < a) && has l p || decide (a + n ≤ p) && has l (p - n))) ∧ total (opens a n l) = total l := by
  intro l
  generalize hlen : l.length = k
  induction k generalizing l with
  | zero =>
    intro _ _
    obtain rfl := List.eq_nil_of_length_eq_zero hlen
    exact ⟨rfl, fun p => by simp [opens, has_nil], rfl⟩
  | succ k ih =>
    intro hm hf
    rcases List.eq_nil_or_concat l with rfl | ⟨m, s, rfl⟩
    · cases hlen
    · rw [List.concat_eq_append] at *
      obtain ⟨hm0, hend, hs0, hs1, hs2⟩ := may_snoc hm
      obtain ⟨i1, i2, i3⟩ := ih m (by simpa using hlen) hm0 (fun u hu => hf u (by simp [hu]))
      have hfs := hf s (by simp)
      have hpl : ∀ p, has m p = true → p < s.f0 := fun p hp => by have := (has_in (last := -1) hm0 hp).2; omega
      have hpo : ∀ p, has (opens a n m) p = true → (p < a ∧ p < s.f0) ∨ (a + n ≤ p ∧ p - n < s.f0) := by
        intro p hp
        rw [i2 p, Bool.or_eq_true, Bool.and_eq_true, Bool.and_eq_true, decide_eq_true_eq, decide_eq_true_eq] at hp
        rcases hp with ⟨h1, h2⟩ | ⟨h1, h2⟩
        · exact .inl ⟨h1, hpl p h2⟩
        · exact .inr ⟨h1, hpl _ h2⟩
      rw [opens_snoc]
      have key : ∀ (q : List Span), (∀ p, has q p = (has (opens a n m) p || (decide (s.f0 ≤ p ∧ p < cut a s) || decide (cut a s + n ≤ p ∧ p < fin s + n)))) →
          ∀ p, has q p = (decide (p < a) && has (m ++ [s]) p || decide (a + n ≤ p) && has (m ++ [s]) (p - n)) := by
        intro q hq p
        rw [hq p, i2 p, has_append, has_append, has_one, has_one, Bool.eq_iff_iff]
        simp only [Bool.or_eq_true, Bool.and_eq_true, decide_eq_true_eq]
        have hc : (s.f0 ≤ p ∧ p < cut a s) ↔ (p < a ∧ s.f0 ≤ p ∧ p < fin s) := by unfold cut fin; omega
        have hd : (cut a s + n ≤ p ∧ p < fin s + n) ↔ (a + n ≤ p ∧ s.f0 ≤ p - n ∧ p - n < fin s) := by unfold cut fin; omega
        rw [hc, hd]
        constructor
        · rintro ((⟨h1, h2⟩ | ⟨h1, h2⟩) | h | h)
          · exact .inl ⟨h1, .inl h2⟩
          · exact .inr ⟨h1, .inl h2⟩
          · exact .inl ⟨h.1, .inr h.2⟩
          · exact .inr ⟨h.1, .inr h.2⟩
        · rintro (⟨h1, h2 | h2⟩ | ⟨h1, h2 | h2⟩)
          · exact .inl (.inl ⟨h1, h2⟩)
          · exact .inr (.inl ⟨h1, h2⟩)
          · exact .inl (.inr ⟨h1, h2⟩)
          · exact .inr (.inr ⟨h1, h2⟩)
      have c1 : s.f0 ≤ cut a s ∧ cut a s ≤ fin s := by unfold cut fin; omega
      have hcase : cut a s < fin s → a < fin s := by unfold cut fin; omega
      have c2 : cut a s = s.f0 ∨ (s.f0 < a ∧ cut a s ≤ a) := by unfold cut fin; omega
      have c3 : cut a s < fin s → a ≤ cut a s := by unfold cut fin; omega
      obtain ⟨b1, b2, b3⟩ : may (add (opens a n m) ⟨s.f0, cut a s - s.f0⟩) = true ∧ (∀ p, has (add (opens a n m) ⟨s.f0, cut a s - s.f0⟩) p = (has (opens a n m) p || decide (s.f0 ≤ p ∧ p < cut a s))) ∧ total (add (opens a n m) ⟨s.f0, cut a s - s.f0⟩) = total (opens a n m) + (cut a s - s.f0) := by
        by_cases hz : cut a s = s.f0
        · rw [add_none _ _ (show cut a s - s.f0 < 1 by omega)]
          exact ⟨i1, fun p => by rw [decide_eq_false (by omega), Bool.or_false], by omega⟩
        · have hlt : s.f0 < a := by omega
          obtain ⟨b1, b2, b3⟩ := add_all (s := ⟨s.f0, cut a s - s.f0⟩) i1 hs0 (by simp only; omega) (by unfold fin; simp only; omega) (fun p hp => by rcases hpo p hp with h | h <;> simp only <;> omega)
          refine ⟨b1, fun p => ?_, b3⟩
          rw [b2 p]
          have : fin (⟨s.f0, cut a s - s.f0⟩ : Span) = cut a s := by unfold fin; simp only; omega
          rw [this]
      unfold openStep
      by_cases hc : cut a s < fin s
      · rw [if_pos hc]
        have hns := hfs (hcase hc)
        have hac := c3 hc
        obtain ⟨d1, d2, d3⟩ := add_all (s := ⟨cut a s + n, fin s - cut a s⟩) b1 (by simp only; omega) (by simp only; omega) (by show cut a s + n + (fin s - cut a s) ≤ 20000; omega) (fun p hp => by
          rw [b2 p, Bool.or_eq_true, decide_eq_true_eq] at hp
          show p < cut a s + n
          rcases hp with hp | hp
          · rcases hpo p hp with h | h <;> omega
          · omega)
        refine ⟨d1, key _ (fun p => ?_), ?_⟩
        · rw [d2 p, b2 p, Bool.or_assoc]
          have : fin (⟨cut a s + n, fin s - cut a s⟩ : Span) = fin s + n := by show cut a s + n + (fin s - cut a s) = fin s + n; omega
          rw [this]
        · rw [d3, b3, i3, total_append, total_one]
          show total m + (cut a s - s.f0) + (fin s - cut a s) = total m + s.f1
          unfold fin; omega
      · rw [if_neg hc]
        refine ⟨b1, key _ (fun p => ?_), ?_⟩
        · rw [b2 p]
          rw [decide_eq_false (p := cut a s + n ≤ p ∧ p < fin s + n) (by omega), Bool.or_false]
        · rw [b3, i3, total_append, total_one]
          unfold fin at *; omega
/-- full: some place would come to lie behind the last one -/
theorem full_iff {l : List Span} (hm : may l = true) (a n : Int) : full l a n = false ↔ ∀ s ∈ l, a < fin s → n ≤ 20000 - fin s := by
  rcases List.eq_nil_or_concat l with rfl | ⟨m, t, rfl⟩
  · exact ⟨fun _ s hs => (by cases hs), fun _ => rfl⟩
  · rw [List.concat_eq_append] at *
    have hf : full (m ++ [t]) a n = decide (a < fin t ∧ 20000 - fin t < n) := by unfold full; rw [List.getLast?_concat]
    rw [hf, decide_eq_false_iff_not]
    constructor
    · intro h s hs hlt
      have h2 : fin s ≤ fin t := by
        have h1 := hm
        unfold may at h1
        have h3 := (has_in h1 (p := fin s - 1) (by
          unfold has
          rw [List.any_eq_true]
          exact ⟨s, hs, decide_eq_true (by have := may_mem h1 hs; unfold fin at *; omega)⟩)).2
        rw [endFrom_snoc] at h3
        omega
      by_cases hn : 20000 - fin t < n
      · exact absurd ⟨by omega, hn⟩ h
      · omega
    · intro h hh
      have := h t (by simp) hh.1
      omega
theorem openL_law {l : List Span} {a n : Int} (hq : asked l a n = true) (hf : full l a n = false) :
    may (openL l a n) = true ∧ (∀ p, has (openL l a n) p = (decide (p < a) && has l p || decide (a + n ≤ p) && has l (p - n))) ∧ total (openL l a n) = total l := by
  obtain ⟨hm, ha0, ha2, hn0⟩ := asked_may hq
  have : openL l a n = opens a n l := by unfold openL; rw [hq, hf]; rfl
  rw [this]
  exact opens_law a n ha0 hn0 l hm ((full_iff hm a n).1 hf)

/-! ### The reference's Open -/
/-- places that are moved, below i -/
def Moved (l : List Span) (a n : Int) (i : Nat) (p : Int) : Prop := ∃ j : Nat, j < i ∧ has l j = true ∧ (((j : Int) < a ∧ p = j) ∨ (a ≤ j ∧ p = j + n))
def Safe (l : List Span) (a n : Int) (i : Nat) : Prop := ∀ j : Nat, j < i → has l j = true → a ≤ j → n ≤ 19999 - j
theorem ref_open_l0 (l : List Span) (a n : Int) (hn : 0 ≤ n) (hn2 : n ≤ 9223372036854775807) (M : List Bool) (hM : M.length = 20000) (hMg : ∀ p : Nat, p < 20000 → M[p]? = some (has l p)) : ∀ (d i : Nat) (out : List Bool), i + d = 20000 → out.length = 20000 →
    (∀ p : Nat, p < 20000 → (out[p]? = some true ↔ Moved l a n i p)) → Safe l a n i →
    ∃ K r e, (∀ k, foolscapref07_Open.l0 (k + K) a n M out i = some (r, e)) ∧ (Safe l a n 20000 → e = 0 ∧ may r = true ∧ ∀ p, has r p = true ↔ Moved l a n 20000 p) ∧ (¬ Safe l a n 20000 → r = [] ∧ e = 4) := by
  intro d
  induction d with
  | zero =>
    intro i out hi hlen hout hsafe
    obtain rfl : i = 20000 := by omega
    obtain ⟨K, r, hr, hm, hp⟩ := made out hlen
    refine ⟨K + 1, r, 0, fun k => ?_, fun _ => ⟨rfl, hm, fun p => ?_⟩, fun h => absurd hsafe h⟩
    · rw [show k + (K + 1) = k + K + 1 by omega, foolscapref07_Open.l0, if_neg (by omega), hr k]; rfl
    · rw [hp p]
      constructor
      · rintro ⟨j, h1, rfl, h3⟩; exact (hout j h1).1 h3
      · rintro ⟨j, h1, h2, h3⟩
        have hb : ∃ q : Nat, p = q ∧ q < 20000 := by
          rcases h3 with ⟨_, h3⟩ | ⟨h4, h3⟩
          · exact ⟨j, h3, h1⟩
          · have := hsafe j h1 h2 h4; exact ⟨(j + n).toNat, by omega, by omega⟩
        obtain ⟨q, rfl, hq⟩ := hb
        exact ⟨q, hq, rfl, (hout q hq).2 ⟨j, h1, h2, h3⟩⟩
  | succ d ih =>
    intro i out hi hlen hout hsafe
    have hMi := hMg i (by omega)
    have next : ∀ p : Int, Moved l a n (i + 1) p ↔ Moved l a n i p ∨ (has l i = true ∧ (((i : Int) < a ∧ p = i) ∨ (a ≤ i ∧ p = i + n))) := by
      intro p
      constructor
      · rintro ⟨j, h1, h2, h3⟩
        by_cases e : j = i
        · subst e; exact .inr ⟨h2, h3⟩
        · exact .inl ⟨j, by omega, h2, h3⟩
      · rintro (⟨j, h1, h2, h3⟩ | ⟨h2, h3⟩)
        · exact ⟨j, by omega, h2, h3⟩
        · exact ⟨i, by omega, h2, h3⟩
    have hset : ∀ (q : Nat), q < 20000 → ∀ (p : Nat), p < 20000 → ((out.set q true)[p]? = some true ↔ (Moved l a n i p ∨ p = q)) := by
      intro q hq p hp
      by_cases e : q = p
      · subst e; rw [List.getElem?_set_self (by omega)]; exact ⟨fun _ => .inr rfl, fun _ => rfl⟩
      · rw [List.getElem?_set_ne e, hout p hp]; exact ⟨.inl, fun h => h.elim id fun h => absurd h.symm e⟩
    cases hh : has l i with
    | false =>
      rw [hh] at hMi
      obtain ⟨K, r, e, h1, h2, h3⟩ := ih (i + 1) out (by omega) hlen (fun p hp => by rw [hout p hp, next p, hh]; simp) (fun j hj h4 h5 => by
        by_cases e : j = i
        · subst e; rw [hh] at h4; cases h4
        · exact hsafe j (by omega) h4 h5)
      refine ⟨K + 1, r, e, fun k => ?_, h2, h3⟩
      rw [show k + (K + 1) = k + K + 1 by omega, foolscapref07_Open.l0, if_pos (by omega), if_pos (by omega), if_pos (by omega), rdOf_at hMi, if_neg (by simp), next_int i (by omega)]
      exact h1 k
    | true =>
      rw [hh] at hMi
      by_cases hia : (i : Int) < a
      · obtain ⟨K, r, e, h1, h2, h3⟩ := ih (i + 1) (out.set i true) (by omega) (by simpa using hlen) (fun p hp => by rw [hset i (by omega) p hp, next p, hh]; exact or_congr Iff.rfl ⟨fun h => ⟨rfl, by omega⟩, fun ⟨_, h⟩ => by omega⟩) (fun j hj h4 h5 => by
          by_cases e : j = i
          · subst e; omega
          · exact hsafe j (by omega) h4 h5)
        refine ⟨K + 1, r, e, fun k => ?_, h2, h3⟩
        rw [show k + (K + 1) = k + K + 1 by omega, foolscapref07_Open.l0, if_pos (by omega), if_pos (by omega), if_pos (by omega), rdOf_at hMi, if_pos rfl, if_pos hia, if_pos (by omega), next_int i (by omega), Int.toNat_natCast]
        exact h1 k
      · by_cases hfull : n > 19999 - (i : Int)
        · refine ⟨1, [], 4, fun k => ?_, fun h => ?_, fun _ => ⟨rfl, rfl⟩⟩
          · rw [foolscapref07_Open.l0, if_pos (by omega), if_pos (by omega), if_pos (by omega), rdOf_at hMi, if_pos rfl, if_neg hia, wrap_id (by omega) (by omega), if_pos hfull]
          · have := h i (by omega) hh (by omega); omega
        · obtain ⟨q, hq⟩ : ∃ q : Nat, (i : Int) + n = q := ⟨((i : Int) + n).toNat, by omega⟩
          obtain ⟨K, r, e, h1, h2, h3⟩ := ih (i + 1) (out.set q true) (by omega) (by simpa using hlen) (fun p hp => by rw [hset q (by omega) p hp, next p, hh]; exact or_congr Iff.rfl ⟨fun h => ⟨rfl, by omega⟩, fun ⟨_, h⟩ => by omega⟩) (fun j hj h4 h5 => by
            by_cases e : j = i
            · subst e; omega
            · exact hsafe j (by omega) h4 h5)
          refine ⟨K + 1, r, e, fun k => ?_, h2, h3⟩
          rw [show k + (K + 1) = k + K + 1 by omega, foolscapref07_Open.l0, if_pos (by omega), if_pos (by omega), if_pos (by omega), rdOf_at hMi, if_pos rfl, if_neg hia, wrap_id (show -9223372036854775808 ≤ 19999 - (i : Int) by omega) (by omega), if_neg hfull,
            wrap_id (show -9223372036854775808 ≤ (i : Int) + n by omega) (by omega), hq, if_pos (by omega), if_pos (by omega), next_int i (by omega), Int.toNat_natCast]
          exact h1 k
theorem safe_iff {l : List Span} (hm : may l = true) (a n : Int) : Safe l a n 20000 ↔ full l a n = false := by
  rw [full_iff hm]
  constructor
  · intro h s hs hlt
    have hg := may_mem (last := -1) hm hs
    have hh : has l (fin s - 1) = true := by
      unfold has; rw [List.any_eq_true]
      exact ⟨s, hs, decide_eq_true (by unfold fin; omega)⟩
    have hs0 : 0 ≤ fin s - 1 := by unfold fin; omega
    have := h (fin s - 1).toNat (by omega) (by rw [Int.toNat_of_nonneg hs0]; exact hh) (by omega)
    omega
  · intro h j hj hh haj
    unfold has at hh
    rw [List.any_eq_true] at hh
    obtain ⟨s, hs, hd⟩ := hh
    have hd := of_decide_eq_true hd
    have := h s hs (by omega)
    omega
/-- THE REFERENCE'S OPEN IS THE PROGRAM'S -/
theorem ref_open (l : List Span) (hl : l.length ≤ 100000) (a n : Int) (hn2 : n ≤ 9223372036854775807) : ∃ k, foolscapref07_Open.f k l a n = some (openL l a n, openE l a n) := by
  have hno : asked l a n = false → foolscapref07_Open.f (l.length + 2) l a n = some ([], 1) := by
    intro hq
    unfold foolscapref07_Open.f
    rw [ref_may l hl _ (by omega)]
    simp only [Option.bind_some]
    unfold asked at hq
    cases hm : may l with
    | false => rw [if_neg (by simp), foolscapref07_Open.j0, if_pos rfl]
    | true =>
      rw [hm, Bool.true_and, decide_eq_false_iff_not] at hq
      rw [if_pos rfl]
      by_cases h1 : a < 0
      · rw [if_pos h1, foolscapref07_Open.j0, if_pos rfl]
      · rw [if_neg h1]
        by_cases h2 : a > 20000
        · rw [if_pos h2, foolscapref07_Open.j0, if_pos rfl]
        · rw [if_neg h2, decide_eq_true (by omega), foolscapref07_Open.j0, if_pos rfl]
  cases hq : asked l a n with
  | false =>
    refine ⟨_, (hno hq).trans ?_⟩
    unfold openL openE; rw [hq]; rfl
  | true =>
    obtain ⟨hm, ha0, ha2, hn0⟩ := asked_may hq
    obtain ⟨K1, M, hM1, hM2, hM3⟩ := marks l hl hm
    obtain ⟨K2, r, e, h1, h2, h3⟩ := ref_open_l0 l a n hn0 hn2 M hM2 hM3 20000 0 (List.replicate 20000 false) (by omega) List.length_replicate (fun p hp => by
      rw [List.getElem?_replicate, if_pos hp]
      exact Iff.intro (fun h => (by cases h)) (fun ⟨j, h, _⟩ => (by omega))) (fun j hj => by omega)
    refine ⟨l.length + K1 + K2 + 1, ?_⟩
    unfold foolscapref07_Open.f
    rw [ref_may l hl _ (by omega), hm]
    simp only [Option.bind_some]
    rw [if_pos trivial, if_neg (by omega), if_neg (by omega), decide_eq_false (by omega), foolscapref07_Open.j0, if_neg (by simp), show l.length + K1 + K2 = (l.length + K2) + K1 by omega, hM1]
    simp only [Option.bind_some]
    rw [if_pos (by omega), show l.length + K2 + K1 = (l.length + K1) + K2 by omega]
    rw [show (0 : Int) = ((0 : Nat) : Int) from rfl, h1]
    cases hf : full l a n with
    | true =>
      obtain ⟨rfl, rfl⟩ := h3 (fun h => by rw [(safe_iff hm a n).1 h] at hf; cases hf)
      unfold openL openE; rw [hq, hf]; rfl
    | false =>
      obtain ⟨rfl, hmr, hp⟩ := h2 ((safe_iff hm a n).2 hf)
      obtain ⟨o1, o2, _⟩ := openL_law hq hf
      have he : openE l a n = 0 := by unfold openE; rw [hq, hf]; rfl
      rw [he]
      have : r = openL l a n := told (last := -1) (last' := -1) hmr o1 (fun p => by
        rw [Bool.eq_iff_iff, hp p, o2 p]
        simp only [Bool.or_eq_true, Bool.and_eq_true, decide_eq_true_eq]
        constructor
        · rintro ⟨j, h1, h2, ⟨h3, rfl⟩ | ⟨h3, rfl⟩⟩
          · exact .inl ⟨h3, h2⟩
          · exact .inr ⟨by omega, by rw [show (j : Int) + n - n = j by omega]; exact h2⟩
        · have hb : ∀ q, has l q = true → ∃ j : Nat, q = j ∧ j < 20000 := fun q hh => by
            have h1 := has_in (last := -1) hm hh
            have h2 := end_le (last := -1) hm (by omega)
            exact ⟨q.toNat, by omega, by omega⟩
          rintro (⟨h1, h2⟩ | ⟨h1, h2⟩)
          · obtain ⟨j, rfl, hj⟩ := hb p h2; exact ⟨j, hj, h2, .inl ⟨h1, rfl⟩⟩
          · obtain ⟨j, hj1, hj⟩ := hb _ h2; exact ⟨j, hj, by rw [← hj1]; exact h2, .inr ⟨by omega, by omega⟩⟩)
      rw [this]
end Spn
end Go.Proofs.Ytihdcglkmilckaa
