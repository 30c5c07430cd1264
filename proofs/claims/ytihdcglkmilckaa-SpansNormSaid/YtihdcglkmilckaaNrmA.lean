/- The plain law of spans put in order: any sorted list added up has the places, and may be; marks of any spans that fit. -/
import Derived.Test.YtihdcglkmilckaaSpnX
import Derived.Shelf.SlSortCmp.WholeK
namespace Go.Proofs.Ytihdcglkmilckaa
open Go.RowKit

namespace Spn
open PSpansOpen Go.Proofs.YtihdcglkmilckaaW.PrintWords
def fitsB (s : Span) : Bool := decide (0 ≤ s.f0 ∧ s.f0 ≤ 20000 ∧ 0 ≤ s.f1 ∧ s.f1 ≤ 20000 - s.f0)
theorem fitsB_spec {s : Span} (h : fitsB s = true) : 0 ≤ s.f0 ∧ s.f0 ≤ 20000 ∧ 0 ≤ s.f1 ∧ s.f1 ≤ 20000 - s.f0 := of_decide_eq_true h
def okAll (l : List Span) : Bool := l.all fitsB
theorem okAll_mem {l : List Span} : okAll l = true ↔ ∀ s ∈ l, fitsB s = true := by unfold okAll; rw [List.all_eq_true]
theorem okAll_cons (s : Span) (l : List Span) : okAll (s :: l) = (fitsB s && okAll l) := rfl
def adds (l : List Span) : List Span := l.foldl add []
theorem adds_snoc (l : List Span) (s : Span) : adds (l ++ [s]) = add (adds l) s := by unfold adds; rw [List.foldl_append]; rfl
theorem adds_len (l : List Span) : (adds l).length ≤ l.length := by
  have key : ∀ (m o : List Span), (m.foldl add o).length ≤ o.length + m.length := by
    intro m
    induction m with
    | nil => intro o; simp
    | cons s m ih =>
      intro o
      rw [List.foldl_cons]
      have := ih (add o s)
      have h2 := add_len o s
      simp only [List.length_cons]
      omega
  have := key l []
  unfold adds
  simpa using this
theorem adds_law : ∀ l : List Span, okAll l = true → l.Pairwise (fun a b => a.f0 ≤ b.f0) →
    may (adds l) = true ∧ (∀ p, has (adds l) p = has l p) ∧ (∀ t, (adds l).getLast? = some t → ∃ u ∈ l, t.f0 = u.f0) := by
  intro l
  generalize hlen : l.length = k
  induction k generalizing l with
  | zero =>
    intro _ _
    obtain rfl := List.eq_nil_of_length_eq_zero hlen
    exact ⟨rfl, fun p => rfl, fun t h => by cases h⟩
  | succ k ih =>
    intro hf hs
    rcases List.eq_nil_or_concat l with rfl | ⟨m, s, rfl⟩
    · cases hlen
    · rw [List.concat_eq_append] at *
      rw [okAll_mem] at hf
      rw [List.pairwise_append] at hs
      obtain ⟨hs1, -, hs3⟩ := hs
      obtain ⟨i1, i2, i3⟩ := ih m (by simpa using hlen) (okAll_mem.2 fun u hu => hf u (by simp [hu])) hs1
      have hfs := fitsB_spec (hf s (by simp))
      rw [adds_snoc]
      by_cases h1 : s.f1 < 1
      · rw [add_none _ _ h1]
        refine ⟨i1, fun p => ?_, fun t ht => ?_⟩
        · rw [i2 p, has_append, has_one, decide_eq_false (by unfold fin; omega), Bool.or_false]
        · obtain ⟨u, hu, e⟩ := i3 t ht
          exact ⟨u, by simp [hu], e⟩
      · have hord : ∀ t, (adds m).getLast? = some t → t.f0 ≤ s.f0 := fun t ht => by
          obtain ⟨u, hu, e⟩ := i3 t ht
          rw [e]
          exact hs3 u hu s (by simp)
        obtain ⟨b1, b2⟩ := add_may i1 (by omega) hfs.1 (by unfold fin; omega) hord
        refine ⟨b1, fun p => by rw [b2 p, i2 p, has_append, has_one], fun t ht => ?_⟩
        rcases List.eq_nil_or_concat (adds m) with h0 | ⟨o, t0, h0⟩
        · rw [h0, add_nil s h1] at ht
          exact ⟨s, by simp, by simp at ht; rw [ht]⟩
        · rw [List.concat_eq_append] at h0
          rw [h0] at ht
          by_cases hj : s.f0 ≤ fin t0
          · rw [add_join o t0 s h1 hj] at ht
            obtain ⟨u, hu, e⟩ := i3 t0 (by rw [h0]; simp)
            simp at ht
            exact ⟨u, by simp [hu], by rw [← ht]; exact e⟩
          · rw [add_more o t0 s h1 hj] at ht
            simp at ht
            exact ⟨s, by simp, by rw [ht]⟩
theorem has_same {l m : List Span} (h : ∀ s, s ∈ l ↔ s ∈ m) (p : Int) : has l p = has m p := by
  unfold has
  rw [Bool.eq_iff_iff, List.any_eq_true, List.any_eq_true]
  exact ⟨fun ⟨x, hx, e⟩ => ⟨x, (h x).1 hx, e⟩, fun ⟨x, hx, e⟩ => ⟨x, (h x).2 hx, e⟩⟩
theorem okAll_same {l m : List Span} (h : ∀ s, s ∈ l ↔ s ∈ m) (hm : okAll m = true) : okAll l = true :=
  okAll_mem.2 fun s hs => okAll_mem.1 hm s ((h s).1 hs)

/-! the sort -/
instance : Inhabited Span := ⟨⟨0, 0⟩⟩
def byFrom (a b : Span) : Int := Lib.compareInt a.f0 b.f0
theorem ltFrom (x y : Span) : ltOf byFrom x y = decide (x.f0 < y.f0) := by
  unfold ltOf byFrom Lib.compareInt
  by_cases h1 : x.f0 < y.f0
  · simp [h1]
  · by_cases h2 : y.f0 < x.f0 <;> simp [h1, h2]
theorem swoFrom : Go.Sort.SWO (ltOf byFrom) where
  irrefl x := by rw [ltFrom]; simp
  trans x y z h1 h2 := by rw [ltFrom] at *; simp at *; omega
  ntrans x y z h1 h2 := by rw [ltFrom] at *; simp at *; omega
theorem perm_mem {d d' : Array Span} (h : Go.Sort.PermIn 0 d.size d d') : ∀ s, s ∈ d'.toList ↔ s ∈ d.toList := by
  obtain ⟨h1, _, h3⟩ := h
  have e1 : d.extract 0 d.size = d := by simp
  have e2 : d'.extract 0 d.size = d' := by rw [← h1]; simp
  rw [e1, e2] at h3
  intro s
  exact h3.mem_iff
theorem sorted_pair {d' : Array Span} (h : Go.Sort.SortedIn (ltOf byFrom) 0 d'.size d') : d'.toList.Pairwise fun a b => a.f0 ≤ b.f0 := by
  rw [List.pairwise_iff_getElem]
  intro i j hi hj hij
  have h2 := h i j (Nat.zero_le _) hij (by simpa using hj)
  rw [ltFrom, decide_eq_false_iff_not, getElem!_pos d' i (by simpa using hi), getElem!_pos d' j (by simpa using hj)] at h2
  rw [Array.getElem_toList, Array.getElem_toList]
  omega
/-- what any sorted list of them adds up to -/
theorem sorted_adds {l m : List Span} (hl : okAll l = true) (hm : ∀ s, s ∈ m ↔ s ∈ l) (hs : m.Pairwise fun a b => a.f0 ≤ b.f0) : may (adds m) = true ∧ ∀ p, has (adds m) p = has l p := by
  obtain ⟨h1, h2, _⟩ := adds_law m (okAll_same hm hl) hs
  exact ⟨h1, fun p => (h2 p).trans (has_same hm p)⟩

/-! marks of any spans -/
theorem fillAll_ok (l : List Span) : ∀ (x : List Bool) (p : Nat), okAll l = true → p < x.length → (fillAll x l)[p]? = if has l (p : Int) = true then some true else x[p]? := by
  induction l with
  | nil => intro x p _ _; rw [has_nil, if_neg (by simp)]; rfl
  | cons s l ih =>
    intro x p h hp
    rw [okAll_cons, Bool.and_eq_true] at h
    have hg := fitsB_spec h.1
    simp only [fillAll]
    rw [ih _ p h.2 (by rw [fill_length]; exact hp), fill_get _ _ _ _ hp, has_cons]
    cases has l (p : Int) with
    | true => rw [Bool.or_true]; rfl
    | false =>
      rw [Bool.or_false, if_neg (by simp)]
      by_cases hh : s.f0.toNat ≤ p ∧ p < s.f0.toNat + s.f1.toNat
      · rw [if_pos hh, if_pos (decide_eq_true (by unfold fin; omega))]
      · rw [if_neg hh, if_neg (by rw [decide_eq_true_eq]; unfold fin; omega)]
theorem marks_l0_ok (l : List Span) (hl : l.length ≤ 100000) : ∀ (d : Nat) (i : Nat) (x : List Bool), l.length = i + d → x.length = 20000 →
    ∃ K, ∀ k, foolscapref07_Marks.l0 (k + K) l x i = some (if okAll (l.drop i) then (fillAll x (l.drop i), true) else ([], false)) := by
  intro d
  induction d with
  | zero =>
    intro i x hi hx
    refine ⟨1, fun k => ?_⟩
    simp only [foolscapref07_Marks.l0]
    rw [if_neg (by omega), List.drop_eq_nil_of_le (by omega)]; rfl
  | succ d ih =>
    intro i x hi hx
    obtain ⟨s, hs⟩ := at_lt l i (by omega)
    rw [drop_at hs, okAll_cons]
    by_cases hfit : 0 ≤ s.f0 ∧ s.f0 ≤ 20000 ∧ 0 ≤ s.f1 ∧ s.f1 ≤ 20000 - s.f0
    · have hB : fitsB s = true := decide_eq_true hfit
      obtain ⟨K, hK⟩ := ih (i + 1) (fill x s.f0.toNat s.f1.toNat) (by omega) (by rw [fill_length]; exact hx)
      refine ⟨K + s.f1.toNat + 3, fun k => ?_⟩
      rw [show k + (K + s.f1.toNat + 3) = (k + K + s.f1.toNat + 1) + 1 + 1 by omega]
      simp only [foolscapref07_Marks.l0]
      rw [if_pos (by omega), if_pos (by omega), rd_at hs, if_neg (by omega), if_neg (by omega), if_neg (by omega), wrap_id (show -9223372036854775808 ≤ 20000 - s.f0 by omega) (by omega), decide_eq_false (by omega)]
      simp only [foolscapref07_Marks.j1, Bool.false_eq_true, if_false]
      rw [marks_l1 l s (by omega) (by unfold fin; omega) i s.f1.toNat (k + K) x 0 (by omega) (by omega) hx, next_int i (by omega), Int.add_zero, hK k, hB, Bool.true_and]
      rfl
    · have hB : fitsB s = false := decide_eq_false hfit
      refine ⟨3, fun k => ?_⟩
      rw [hB, Bool.false_and, if_neg (by simp), show k + 3 = (k + 1) + 1 + 1 by omega]
      simp only [foolscapref07_Marks.l0]
      rw [if_pos (by omega), if_pos (by omega), rd_at hs]
      by_cases h1 : s.f0 < 0
      · rw [if_pos h1]; simp only [foolscapref07_Marks.j1, if_true]
      · rw [if_neg h1]
        by_cases h2 : s.f0 > 20000
        · rw [if_pos h2]; simp only [foolscapref07_Marks.j1, if_true]
        · rw [if_neg h2]
          by_cases h3 : s.f1 < 0
          · rw [if_pos h3]; simp only [foolscapref07_Marks.j1, if_true]
          · rw [if_neg h3, wrap_id (show -9223372036854775808 ≤ 20000 - s.f0 by omega) (by omega), decide_eq_true (by omega)]
            simp only [foolscapref07_Marks.j1, if_true]
/-- of each place whether a span has it; or that a span does not fit -/
theorem marks_all (l : List Span) (hl : l.length ≤ 100000) : ∃ K out, (∀ k, foolscapref07_Marks.f (k + K) l = some (out, okAll l)) ∧ (okAll l = true → out.length = 20000 ∧ ∀ p : Nat, p < 20000 → out[p]? = some (has l p)) := by
  obtain ⟨K, hK⟩ := marks_l0_ok l hl l.length 0 (List.replicate 20000 false) (by omega) List.length_replicate
  cases h : okAll l with
  | false =>
    refine ⟨K, [], fun k => ?_, fun h => by cases h⟩
    unfold foolscapref07_Marks.f
    rw [if_pos (by omega)]
    have := hK k
    rw [List.drop_zero, h, if_neg (by simp)] at this
    exact this
  | true =>
    refine ⟨K, fillAll (List.replicate 20000 false) l, fun k => ?_, fun _ => ⟨by rw [fillAll_length]; exact List.length_replicate, fun p hp => ?_⟩⟩
    · unfold foolscapref07_Marks.f
      rw [if_pos (by omega)]
      have := hK k
      rw [List.drop_zero, h, if_pos rfl] at this
      exact this
    · rw [fillAll_ok l _ p h (by rw [List.length_replicate]; exact hp)]
      cases has l (p : Int) with
      | true => rfl
      | false => rw [if_neg (by simp), List.getElem?_replicate, if_pos hp]
/-- what the reference makes of the marks -/
theorem made_all (l : List Span) (hf : okAll l = true) (m : List Bool) (hm : m.length = 20000) (hp : ∀ p : Nat, p < 20000 → m[p]? = some (has l p)) : ∃ K r, (∀ k, foolscapref07_Made.f (k + K) m = some r) ∧ may r = true ∧ ∀ p : Int, has r p = has l p := by
  obtain ⟨K, r, h1, h2, h3⟩ := made m hm
  refine ⟨K, r, h1, h2, fun p => ?_⟩
  rw [Bool.eq_iff_iff, h3 p]
  constructor
  · rintro ⟨j, hj, rfl, h⟩
    rw [hp j hj] at h
    exact Option.some.inj h
  · intro h
    obtain ⟨s, hs, h4, h5⟩ := mem_of_has h
    have hg := fitsB_spec (okAll_mem.1 hf s hs)
    unfold fin at h5
    obtain ⟨j, rfl⟩ : ∃ j : Nat, p = j := ⟨p.toNat, by omega⟩
    exact ⟨j, by omega, rfl, by rw [hp j (by omega), h]⟩
end Spn
end Go.Proofs.Ytihdcglkmilckaa
