/- The plain law of spans: what is shut, by its places; how many places lie ahead; Open and Shut of both. -/
import Derived.Test.YtihdcglkmilckaaSpnV
namespace Go.Proofs.Ytihdcglkmilckaa
open Go.RowKit

namespace Spn
open PSpansOpen Go.Proofs.YtihdcglkmilckaaW.PrintWords
theorem shuts_snoc (a n : Int) (l : List Span) (s : Span) : shuts a n (l ++ [s]) = add (shuts a n l) (back a n s) := by unfold shuts; rw [List.foldl_append]; rfl
theorem shuts_law (a n : Int) (ha : 0 ≤ a) (hn : 0 ≤ n) : ∀ l : List Span, may l = true → (∀ s ∈ l, bad a n s = false) →
    may (shuts a n l) = true ∧ (∀ p, has (shuts a n l) p = (decide (p < a) && has l p || decide (a ≤ p) && has l (p + n))) ∧ total (shuts a n l) = total l := by
  intro l
  generalize hlen : l.length = k
  induction k generalizing l with
  | zero =>
    intro _ _
    obtain rfl := List.eq_nil_of_length_eq_zero hlen
    exact ⟨rfl, fun p => by simp [shuts, has_nil], rfl⟩
  | succ k ih =>
    intro hm hf
    rcases List.eq_nil_or_concat l with rfl | ⟨m, s, rfl⟩
    · cases hlen
    · rw [List.concat_eq_append] at *
      obtain ⟨hm0, hend, hs0, hs1, hs2⟩ := may_snoc hm
      obtain ⟨i1, i2, i3⟩ := ih m (by simpa using hlen) hm0 (fun u hu => hf u (by simp [hu]))
      have hfs := hf s (by simp)
      unfold bad at hfs
      rw [decide_eq_false_iff_not] at hfs
      have hpl : ∀ p, has m p = true → p < s.f0 := fun p hp => by have := (has_in (last := -1) hm0 hp).2; omega
      have hpo : ∀ p, has (shuts a n m) p = true → (p < a ∧ p < s.f0) ∨ (a ≤ p ∧ p + n < s.f0) := by
        intro p hp
        rw [i2 p, Bool.or_eq_true, Bool.and_eq_true, Bool.and_eq_true, decide_eq_true_eq, decide_eq_true_eq] at hp
        rcases hp with ⟨h1, h2⟩ | ⟨h1, h2⟩
        · exact .inl ⟨h1, hpl p h2⟩
        · exact .inr ⟨h1, hpl _ h2⟩
      rw [shuts_snoc]
      obtain ⟨f0, f1⟩ := s
      simp only at hs0 hs1 hend hpl hpo
      have hfin : fin (⟨f0, f1⟩ : Span) = f0 + f1 := rfl
      rw [hfin] at hs2 hfs
      simp only at hfs
      have hb : back a n ⟨f0, f1⟩ = if a + n ≤ f0 then ⟨f0 - n, f1⟩ else ⟨f0, f1⟩ := rfl
      obtain ⟨y, hy1, hy2, hy3, hy4, hy5⟩ : ∃ y : Int, back a n ⟨f0, f1⟩ = ⟨y, f1⟩ ∧ 0 ≤ y ∧ y + f1 ≤ 20000 ∧ (∀ p, has (shuts a n m) p = true → p < y) ∧ (∀ p, (y ≤ p ∧ p < y + f1) ↔ (p < a ∧ f0 ≤ p ∧ p < f0 + f1) ∨ (a ≤ p ∧ f0 ≤ p + n ∧ p + n < f0 + f1)) := by
        by_cases hc : a + n ≤ f0
        · exact ⟨f0 - n, by rw [hb, if_pos hc], by omega, by omega, fun p hp => by rcases hpo p hp with h | h <;> omega, fun p => by omega⟩
        · exact ⟨f0, by rw [hb, if_neg hc], by omega, by omega, fun p hp => by rcases hpo p hp with h | h <;> omega, fun p => by omega⟩
      rw [hy1]
      obtain ⟨b1, b2, b3⟩ := add_all (s := ⟨y, f1⟩) i1 hy2 (by simp only; omega) hy3 hy4
      refine ⟨b1, fun p => ?_, by rw [b3, i3, total_append, total_one]⟩
      rw [b2 p, i2 p, has_append, has_append, has_one, has_one, Bool.eq_iff_iff]
      simp only [Bool.or_eq_true, Bool.and_eq_true, decide_eq_true_eq]
      have : (y ≤ p ∧ p < fin (⟨y, f1⟩ : Span)) ↔ _ := hy5 p
      rw [this, hfin]
      constructor
      · rintro ((⟨h1, h2⟩ | ⟨h1, h2⟩) | h | h)
        · exact .inl ⟨h1, .inl h2⟩
        · exact .inr ⟨h1, .inl h2⟩
        · exact .inl ⟨h.1, .inr h.2⟩
        · exact .inr ⟨h.1, .inr h.2⟩
      · rintro (⟨h1, h2 | h2⟩ | ⟨h1, h2 | h2⟩)
        · exact .inl (.inl ⟨h1, h2⟩)
        · exact .inr (.inl ⟨h1, h2⟩)
        · exact .inl (.inr ⟨h1, h2⟩)
        · exact .inr (.inr ⟨h1, h2⟩)
theorem has_of_mem {l : List Span} {s : Span} (hs : s ∈ l) {p : Int} (h : s.f0 ≤ p ∧ p < fin s) : has l p = true := by
  unfold has; rw [List.any_eq_true]; exact ⟨s, hs, decide_eq_true h⟩
theorem mem_of_has {l : List Span} {p : Int} (h : has l p = true) : ∃ s ∈ l, s.f0 ≤ p ∧ p < fin s := by
  unfold has at h; rw [List.any_eq_true] at h
  obtain ⟨s, hs, hd⟩ := h
  exact ⟨s, hs, of_decide_eq_true hd⟩
theorem free_iff {l : List Span} (hm : may l = true) {a n : Int} (ha : 0 ≤ a) (hn : 0 ≤ n) : Free l a n 20000 ↔ ∀ s ∈ l, bad a (min n 20000) s = false := by
  constructor
  · intro h s hs
    have hg := may_mem (last := -1) hm hs
    unfold bad
    rw [decide_eq_false_iff_not]
    rintro ⟨h1, h2, h3⟩
    have hj := h (max s.f0 a).toNat (by unfold fin at *; omega) (has_of_mem hs (by unfold fin at *; omega)) (by omega)
    omega
  · intro h j hj hh haj
    obtain ⟨s, hs, hd⟩ := mem_of_has hh
    have := h s hs
    unfold bad at this
    rw [decide_eq_false_iff_not] at this
    by_cases hlt : n ≤ j - a
    · exact hlt
    · exact absurd ⟨by omega, by omega, by omega⟩ this
theorem shutB_iff {l : List Span} {a n : Int} (hq : asked l a n = true) : shutB l a n = true ↔ Free l a n 20000 := by
  obtain ⟨hm, ha0, ha2, hn0⟩ := asked_may hq
  rw [free_iff hm ha0 hn0]
  unfold shutB
  rw [hq, Bool.true_and, Bool.not_eq_true', List.any_eq_false]
  exact forall_congr' fun s => forall_congr' fun _ => by simp
theorem shutL_law {l : List Span} {a n : Int} (hq : asked l a n = true) (hs : shutB l a n = true) :
    may (shutL l a n) = true ∧ (∀ p, has (shutL l a n) p = (decide (p < a) && has l p || decide (a ≤ p) && has l (p + min n 20000))) ∧ total (shutL l a n) = total l := by
  obtain ⟨hm, ha0, ha2, hn0⟩ := asked_may hq
  have : shutL l a n = shuts a (min n 20000) l := by unfold shutL; rw [hs]; rfl
  rw [this]
  exact shuts_law a _ ha0 (by omega) l hm ((free_iff hm ha0 hn0).1 ((shutB_iff hq).1 hs))
/-- what the reference leaves is what the program leaves -/
theorem ref_shut_is {l : List Span} {a n : Int} (hq : asked l a n = true) {B : Bool} {r : List Span} (h1 : B = false → r = [] ∧ ¬ Free l a n 20000) (h2 : B = true → Free l a n 20000 ∧ may r = true ∧ ∀ p : Int, has r p = true ↔ Back l a n 20000 p) : B = shutB l a n ∧ r = shutL l a n := by
  obtain ⟨hm, ha0, ha2, hn0⟩ := asked_may hq
  cases B with
  | false =>
    obtain ⟨rfl, hf⟩ := h1 rfl
    have : shutB l a n = false := by
      rw [Bool.eq_false_iff]; intro h; exact hf ((shutB_iff hq).1 h)
    exact ⟨this.symm, by unfold shutL; rw [this]; rfl⟩
  | true =>
    obtain ⟨hf, hmr, hp⟩ := h2 rfl
    have hB := (shutB_iff hq).2 hf
    obtain ⟨o1, o2, _⟩ := shutL_law hq hB
    refine ⟨hB.symm, told (last := -1) (last' := -1) hmr o1 (fun p => ?_)⟩
    rw [Bool.eq_iff_iff, hp p, o2 p]
    simp only [Bool.or_eq_true, Bool.and_eq_true, decide_eq_true_eq]
    have hb : ∀ q, has l q = true → ∃ j : Nat, q = j ∧ j < 20000 := fun q hh => by
      have h1 := has_in (last := -1) hm hh
      have h2 := end_le (last := -1) hm (by omega)
      exact ⟨q.toNat, by omega, by omega⟩
    constructor
    · rintro ⟨j, h1, h2, ⟨h3, rfl⟩ | ⟨h3, rfl⟩⟩
      · exact .inl ⟨h3, h2⟩
      · have := hf j h1 h2 h3
        exact .inr ⟨by omega, by rw [show (j : Int) - n + min n 20000 = j by omega]; exact h2⟩
    · rintro (⟨h1, h2⟩ | ⟨h1, h2⟩)
      · obtain ⟨j, rfl, hj⟩ := hb p h2; exact ⟨j, hj, h2, .inl ⟨h1, rfl⟩⟩
      · obtain ⟨j, hj1, hj⟩ := hb _ h2
        exact ⟨j, hj, by rw [← hj1]; exact h2, .inr ⟨by omega, by omega⟩⟩
/-- WHAT IS OPENED IS SHUT AS IT WAS -/
theorem open_shut {l : List Span} {a n : Int} (he : openE l a n = 0) : shutB (openL l a n) a n = true ∧ shutL (openL l a n) a n = l ∧ may (openL l a n) = true ∧ may l = true ∧ total (openL l a n) = total l := by
  have hq : asked l a n = true := by
    cases h : asked l a n with
    | true => rfl
    | false => unfold openE at he; rw [h] at he; cases he
  have hf : full l a n = false := by
    cases h : full l a n with
    | false => rfl
    | true => unfold openE at he; rw [hq, h] at he; cases he
  obtain ⟨hm, ha0, ha2, hn0⟩ := asked_may hq
  obtain ⟨o1, o2, o3⟩ := openL_law hq hf
  have hfl := (full_iff hm a n).1 hf
  have hq2 : asked (openL l a n) a n = true := by
    unfold asked; rw [o1, Bool.true_and]; exact decide_eq_true ⟨ha0, ha2, hn0⟩
  have hB : shutB (openL l a n) a n = true := by
    rw [shutB_iff hq2]
    intro j hj hh haj
    rw [o2, Bool.or_eq_true, Bool.and_eq_true, Bool.and_eq_true, decide_eq_true_eq, decide_eq_true_eq] at hh
    omega
  obtain ⟨s1, s2, _⟩ := shutL_law hq2 hB
  refine ⟨hB, told (last := -1) (last' := -1) s1 hm (fun p => ?_), o1, hm, o3⟩
  rw [s2, o2, o2, Bool.eq_iff_iff]
  simp only [Bool.or_eq_true, Bool.and_eq_true, decide_eq_true_eq]
  constructor
  · rintro (⟨h1, ⟨_, h2⟩ | ⟨h2, _⟩⟩ | ⟨h1, ⟨h2, _⟩ | ⟨h2, h3⟩⟩)
    · exact h2
    · omega
    · omega
    · obtain ⟨s, hs, hd⟩ := mem_of_has h3
      have := hfl s hs (by omega)
      rw [show p + min n 20000 - n = p by omega] at h3
      exact h3
  · intro h
    by_cases hpa : p < a
    · exact .inl ⟨hpa, .inl ⟨hpa, h⟩⟩
    · obtain ⟨s, hs, hd⟩ := mem_of_has h
      have := hfl s hs (by omega)
      have hg := may_mem (last := -1) hm hs
      have e : min n 20000 = n := by omega
      exact .inr ⟨by omega, .inr ⟨by omega, by rw [e, show p + n - n = p by omega]; exact h⟩⟩

/-! ### How many places lie ahead -/
def part (p : Int) (s : Span) : Int := min (max p s.f0) (fin s) - s.f0
def ahead (l : List Span) (p : Int) : Int := l.foldl (fun t s => t + part p s) 0
theorem ahead_from (l : List Span) (p x : Int) : l.foldl (fun t s => t + part p s) x = x + ahead l p := by
  unfold ahead
  induction l generalizing x with
  | nil => simp
  | cons s l ih => simp only [List.foldl_cons]; rw [ih, ih (0 + part p s)]; omega
theorem ahead_cons (s : Span) (l : List Span) (p : Int) : ahead (s :: l) p = part p s + ahead l p := by
  show (s :: l).foldl _ 0 = _
  rw [List.foldl_cons, ahead_from]; omega
theorem ahead_nil (p : Int) : ahead [] p = 0 := rfl
theorem part_bd {p last : Int} {s : Span} (h : good last s = true) : 0 ≤ part p s ∧ part p s ≤ s.f1 := by
  have := good_spec h
  unfold part fin; omega
theorem ahead_bd {l : List Span} {last : Int} (h : mayFrom last l = true) (hl : -1 ≤ last) (h2 : last ≤ 20000) (p : Int) : 0 ≤ ahead l p ∧ ahead l p ≤ 20000 - last := by
  induction l generalizing last with
  | nil => rw [ahead_nil]; omega
  | cons s l ih =>
    simp only [mayFrom, Bool.and_eq_true] at h
    have hg := good_spec h.1
    have hp := part_bd (p := p) h.1
    have := ih h.2 (by unfold fin; omega) (by unfold fin; omega)
    rw [ahead_cons]
    unfold fin at this
    omega
theorem ahead_l0 (l : List Span) (hl : l.length ≤ 100000) (p : Int) : ∀ (d k : Nat) (last x : Int) (i : Nat), l.length = i + d → d < k → mayFrom last (l.drop i) = true → -1 ≤ last → last ≤ 20000 → 0 ≤ x → x + ahead (l.drop i) p ≤ 1000000 →
    spans_Ahead.l0 k p x l (l.length : Int) i = some (x + ahead (l.drop i) p) := by
  intro d
  induction d with
  | zero =>
    intro k last x i hi hk _ _ _ _ _
    obtain ⟨k, rfl⟩ : ∃ m, k = m + 1 := ⟨k - 1, by omega⟩
    rw [spans_Ahead.l0, if_neg (by omega), List.drop_eq_nil_of_le (by omega), ahead_nil, Int.add_zero]
  | succ d ih =>
    intro k last x i hi hk hm hlast hlast2 hx hx2
    obtain ⟨k, rfl⟩ : ∃ m, k = m + 1 := ⟨k - 1, by omega⟩
    obtain ⟨s, hs⟩ := at_lt l i (by omega)
    rw [drop_at hs] at hm hx2 ⊢
    simp only [mayFrom, Bool.and_eq_true] at hm
    have hg := good_spec hm.1
    have hp := part_bd (p := p) hm.1
    rw [ahead_cons] at hx2 ⊢
    have hbd2 := ahead_bd hm.2 (by unfold fin; omega) (by unfold fin; omega) p
    rw [spans_Ahead.l0, if_pos (by omega), if_pos (by omega), if_pos (by omega), rd_at hs]
    unfold spans_end.f
    simp only [Option.bind_some]
    have e1 : mn (mx p s.f0) (wrap64 (s.f0 + s.f1)) - s.f0 = part p s := by
      rw [wrap_id (by omega) (by omega)]
      unfold mn mx part fin
      split <;> split <;> omega
    rw [e1, wrap_id (show -9223372036854775808 ≤ part p s by omega) (by omega), wrap_id (show -9223372036854775808 ≤ x + part p s by omega) (by omega), next_int i (by omega),
      ih k _ _ (i + 1) (by omega) (by omega) hm.2 (by unfold fin; omega) (by unfold fin; omega) (by omega) (by omega)]
    congr 1; omega
theorem spans_ahead (l : List Span) (hl : l.length ≤ 100000) (p : Int) (k : Nat) (hk : l.length < k) : spans_Ahead.f k l p = some (if may l then ahead l p else 0) := by
  unfold spans_Ahead.f
  rw [spans_may l hl k hk]
  simp only [Option.bind_some]
  cases hm : may l with
  | false => rfl
  | true =>
    have hb := ahead_bd (last := -1) hm (by omega) (by omega) p
    have := ahead_l0 l hl p l.length k (-1) 0 0 (by omega) hk hm (by omega) (by omega) (by omega) (by rw [List.drop_zero]; omega)
    simp only [if_true]
    rw [List.drop_zero, Int.zero_add] at this
    exact this
theorem ahead_total {l : List Span} : ∀ {last : Int}, mayFrom last l = true → -1 ≤ last → ahead l 20000 = total l := by
  induction l with
  | nil => intro last _ _; rfl
  | cons s l ih =>
    intro last h hl
    simp only [mayFrom, Bool.and_eq_true] at h
    have hg := good_spec h.1
    rw [ahead_cons, ih h.2 (by unfold fin; omega)]
    have : total (s :: l) = s.f1 + total l := by rw [show s :: l = [s] ++ l from rfl, total_append, total_one]
    rw [this]
    unfold part fin; omega
theorem spans_total (l : List Span) (hl : l.length ≤ 100000) (k : Nat) (hk : l.length < k) : spans_Total.f k l = some (if may l then total l else 0) := by
  unfold spans_Total.f
  rw [spans_ahead l hl 20000 k hk]
  cases hm : may l with
  | false => rfl
  | true => simp only [if_true, Option.bind_some]; rw [ahead_total (last := -1) hm (by omega)]
end Spn
open PSpansOpen

/-- the program's Shut -/
theorem spans_shut (l : List Spn.Span) (A : Option Addr) (c : Nat) (a n : Int) (w : World) (hC : Go.Proofs.YtihdcglkmilckaaW.PrintWords.Kd.C k42 w A l.length l) (hc : l.length ≤ c) (hl : l.length ≤ 10000) :
    Calls Try.prog 18 #[.slice A l.length c, .int .i64 a, .int .i64 n] w fun e w' =>
      ∃ v, e = .returned (.tuple #[v, .bool (Spn.shutB l a n)]) ∧ Spn.Own w' w.heap.size v (Spn.shutL l a n) ∧ Below w.heap.size w w' := by
  cases hq : Spn.asked l a n with
  | false =>
    have e1 : Spn.shutB l a n = false := by unfold Spn.shutB; rw [hq]; rfl
    have e2 : Spn.shutL l a n = [] := by unfold Spn.shutL; rw [e1]; rfl
    rw [e1, e2]
    exact (spans_shut_no l A c a n w hC hc (by omega) hq).mono fun e w' ⟨he, hb⟩ => ⟨_, he, Spn.own_nil _ _, hb⟩
  | true =>
    obtain ⟨hm, ha0, ha2, hn0⟩ := Spn.asked_may hq
    by_cases h0 : l.length = 0
    · obtain rfl := List.eq_nil_of_length_eq_zero h0
      have e1 : Spn.shutB [] a n = true := by unfold Spn.shutB; rw [hq]; rfl
      have e2 : Spn.shutL [] a n = [] := by unfold Spn.shutL; rw [e1]; rfl
      rw [e1, e2]
      exact (spans_shut_nil A c a n w hC hq).mono fun e w' ⟨he, hb⟩ => ⟨_, he, Spn.own_nil _ _, hb⟩
    · obtain ⟨b, off, rfl, hA⟩ := Spn.at_of hC (by omega)
      have hN : min n 20000 = if 20000 < n then 20000 else n := by split <;> omega
      refine (spans_shut_yes l l.length rfl b off c a n (min n 20000) w hC hA hc hl hq (fun s hs => by have := Spn.may_mem (last := -1) hm hs; omega) ha0 ha2 hn0 hN).mono ?_
      rintro e w' ⟨v, B, he, hB, ho, hb⟩
      have e1 : B = Spn.shutB l a n := by rw [hB]; unfold Spn.shutB; rw [hq, Bool.true_and]
      refine ⟨v, by rw [he, e1], ?_, hb⟩
      rw [e1] at ho
      exact ho
/-- the reference's Shut -/
theorem ref_shut (l : List Spn.Span) (A : Option Addr) (c : Nat) (a n : Int) (w : World) (hC : Go.Proofs.YtihdcglkmilckaaW.PrintWords.Kd.C k42 w A l.length l) (hc : l.length ≤ c) (hl : l.length ≤ 10000) (hn2 : n ≤ 9223372036854775807) :
    Calls Try.prog 19 #[.slice A l.length c, .int .i64 a, .int .i64 n] w fun e w' =>
      ∃ v, e = .returned (.tuple #[v, .bool (Spn.shutB l a n)]) ∧ Spn.Own w' w.heap.size v (Spn.shutL l a n) ∧ Below w.heap.size w w' := by
  cases hq : Spn.asked l a n with
  | false =>
    have e1 : Spn.shutB l a n = false := by unfold Spn.shutB; rw [hq]; rfl
    have e2 : Spn.shutL l a n = [] := by unfold Spn.shutL; rw [e1]; rfl
    rw [e1, e2]
    exact (ref_shut_no l A c a n w hC hc (by omega) hq).mono fun e w' ⟨he, hb⟩ => ⟨_, he, Spn.own_nil _ _, hb⟩
  | true =>
    refine (ref_shut_yes l A c a n w hC hc (by omega) hq hn2).mono ?_
    rintro e w' ⟨v, B, r, he, ho, hb, h1, h2⟩
    obtain ⟨rfl, rfl⟩ := Spn.ref_shut_is hq h1 h2
    exact ⟨v, he, ho, hb⟩
/-- the reference's Open -/
theorem ref_open (l : List Spn.Span) (A : Option Addr) (c : Nat) (a n : Int) (w : World) (hC : Go.Proofs.YtihdcglkmilckaaW.PrintWords.Kd.C k42 w A l.length l) (hc : l.length ≤ c) (hl : l.length ≤ 10000) (hn2 : n ≤ 9223372036854775807) :
    Calls Try.prog 17 #[.slice A l.length c, .int .i64 a, .int .i64 n] w fun e w' =>
      ∃ v, e = .returned (.tuple #[v, .int .i64 (Spn.openE l a n)]) ∧ Spn.Own w' w.heap.size v (Spn.openL l a n) ∧ Below w.heap.size w w' := by
  obtain ⟨k, hk⟩ := Spn.ref_open l (by omega) a n hn2
  refine (foolscapref07_Open.calls k A c l a n _ _ w hC hc hk).mono ?_
  rintro e w' ⟨v, he, hr, hb⟩
  exact ⟨v, he, Spn.own_of_R hr, hb⟩
end Go.Proofs.Ytihdcglkmilckaa
