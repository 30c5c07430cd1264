/- The plain law of the walk along two lists: its places; the plain law of SpansParts. -/
import Derived.Test.YtihdcglkmilckaaWlkE
import Derived.Test.YtihdcglkmilckaaSpnX
namespace Go.Proofs.Ytihdcglkmilckaa
open Go.RowKit

namespace Wlk
open Spn
/-- a list's edges from a place on: x is whether it has the places up to the next one -/
def Good (h : Int → Bool) : Bool → Int → List Edge → Prop
  | x, last, [] => ∀ q, last ≤ q → h q = x
  | x, last, (p, b) :: es => last ≤ p ∧ (∀ q, last ≤ q → q < p → h q = x) ∧ Good h b p es
theorem good_flat {h : Int → Bool} {x : Bool} {last p : Int} {es : List Edge} (hg : Good h x last es) (hh : ∀ e, es.head? = some e → p ≤ e.1) : ∀ q, last ≤ q → q < p → h q = x := by
  cases es with
  | nil => exact fun q h1 _ => hg q h1
  | cons e es =>
    obtain ⟨p', b⟩ := e
    have := hh (p', b) rfl
    simp only at this
    exact fun q h1 h2 => hg.2.1 q h1 (by omega)
theorem good_move {h : Int → Bool} {x : Bool} {last p : Int} {es : List Edge} (hg : Good h x last es) (hl : last ≤ p) (hh : ∀ e, es.head? = some e → p ≤ e.1) : Good h x p es := by
  cases es with
  | nil => exact fun q h1 => hg q (by omega)
  | cons e es =>
    obtain ⟨p', b⟩ := e
    exact ⟨hh (p', b) rfl, fun q h1 h2 => hg.2.1 q (by omega) h2, hg.2.2⟩
theorem edgesOf_cons (s : Span) (l : List Span) : edgesOf (s :: l) = (s.f0, true) :: (fin s, false) :: edgesOf l := rfl
theorem good_edges : ∀ (l : List Span) (m last : Int) (h : Int → Bool), mayFrom m l = true → last ≤ m + 1 → (∀ q, last ≤ q → h q = has l q) → Good h false last (edgesOf l) := by
  intro l
  induction l with
  | nil => intro m last h _ _ hh q hq; rw [hh q hq, has_nil]
  | cons s l ih =>
    intro m last h hm hl hh
    have hm' : good m s = true ∧ mayFrom (fin s) l = true := by
      have : (good m s && mayFrom (fin s) l) = true := hm
      rwa [Bool.and_eq_true] at this
    have hs := good_spec hm'.1
    have hfin : fin s = s.f0 + s.f1 := rfl
    rw [edgesOf_cons]
    have off : ∀ q, q ≤ fin s → has l q = false := by
      intro q hq
      cases hx : has l q with
      | false => rfl
      | true => have := has_in hm'.2 hx; omega
    refine ⟨by omega, fun q h1 h2 => ?_, by omega, fun q h1 h2 => ?_, ih (fin s) (fin s) h hm'.2 (by omega) (fun q hq => ?_)⟩
    · rw [hh q h1, has_cons, off q (by omega), Bool.or_false]
      exact decide_eq_false (by omega)
    · rw [hh q (by omega), has_cons]
      rw [decide_eq_true (show s.f0 ≤ q ∧ q < fin s from ⟨h1, h2⟩), Bool.true_or]
    · rw [hh q (by omega), has_cons]
      rw [decide_eq_false (show ¬ (s.f0 ≤ q ∧ q < fin s) by omega), Bool.false_or]
structure SInv (what : Bool → Bool → Bool) (ha hb : Int → Bool) (s : St) (EA R : List Edge) : Prop where
  may : Spn.may s.out = true
  l0 : 0 ≤ s.last
  l1 : s.last ≤ 20000
  places : ∀ p : Int, has s.out p = true ↔ (0 ≤ p ∧ p < s.last ∧ what (ha p) (hb p) = true)
  a : Good ha s.ina s.last EA
  b : Good hb s.inb s.last R
theorem upto_inv {what : Bool → Bool → Bool} {ha hb : Int → Bool} {s : St} {EA R : List Edge} (h : SInv what ha hb s EA R) (p : Int) (h1 : s.last ≤ p) (h2 : p ≤ 20000) (hA : ∀ e, EA.head? = some e → p ≤ e.1) (hR : ∀ e, R.head? = some e → p ≤ e.1) : SInv what ha hb (upto what p s) EA R := by
  have fa := good_flat h.a hA
  have fb := good_flat h.b hR
  have l0 := h.l0
  have key : ∀ q : Int, (0 ≤ q ∧ q < p ∧ what (ha q) (hb q) = true) ↔ ((0 ≤ q ∧ q < s.last ∧ what (ha q) (hb q) = true) ∨ (s.last ≤ q ∧ q < p ∧ what s.ina s.inb = true)) := by
    intro q
    constructor
    · rintro ⟨a1, a2, a3⟩
      by_cases hq : q < s.last
      · exact .inl ⟨a1, hq, a3⟩
      · rw [fa q (by omega) a2, fb q (by omega) a2] at a3
        exact .inr ⟨by omega, a2, a3⟩
    · rintro (⟨a1, a2, a3⟩ | ⟨a1, a2, a3⟩)
      · exact ⟨a1, by omega, a3⟩
      · rw [← fa q a1 a2, ← fb q a1 a2] at a3
        exact ⟨by omega, a2, a3⟩
  have hgo : Spn.may (upto what p s).out = true ∧ ∀ q : Int, has (upto what p s).out q = true ↔ (0 ≤ q ∧ q < p ∧ what (ha q) (hb q) = true) := by
    unfold upto
    simp only
    by_cases hw : what s.ina s.inb = true
    · rw [if_pos hw]
      by_cases he : p - s.last < 1
      · have : add s.out ⟨s.last, p - s.last⟩ = s.out := add_none _ _ he
        rw [this]
        refine ⟨h.may, fun q => ?_⟩
        rw [key q, h.places q]
        exact ⟨.inl, fun hh => hh.elim id (fun hh => by omega)⟩
      · have hadd := add_may (s := ⟨s.last, p - s.last⟩) h.may (by simp only; omega) l0 (by unfold fin; simp only; omega) (fun t ht => by
          have hmem := may_mem (last := -1) h.may (List.mem_of_getLast? ht)
          have : has s.out t.f0 = true := by
            unfold has
            rw [List.any_eq_true]
            exact ⟨t, List.mem_of_getLast? ht, decide_eq_true ⟨Int.le_refl _, by unfold fin; omega⟩⟩
          have := (h.places _).1 this
          show t.f0 ≤ s.last
          omega)
        refine ⟨hadd.1, fun q => ?_⟩
        rw [hadd.2 q, Bool.or_eq_true, h.places q, key q, decide_eq_true_eq]
        have hf : fin ⟨s.last, p - s.last⟩ = p := by unfold fin; simp only; omega
        rw [hf]
        exact ⟨fun hh => hh.elim .inl (fun hh => .inr ⟨hh.1, hh.2, hw⟩), fun hh => hh.elim .inl (fun hh => .inr ⟨hh.1, hh.2.1⟩)⟩
    · rw [if_neg hw]
      refine ⟨h.may, fun q => ?_⟩
      rw [key q, h.places q]
      exact ⟨.inl, fun hh => hh.elim id (fun hh => absurd hh.2.2 hw)⟩
  exact ⟨hgo.1, by show 0 ≤ p; omega, h2, hgo.2, good_move h.a h1 hA, good_move h.b h1 hR⟩
theorem turn_sub {what : Bool → Bool → Bool} {m : Int} : ∀ (R : List Edge) (s : St), ∀ e ∈ (turn what m s R).2, e ∈ R := by
  intro R
  induction R with
  | nil => intro s e he; exact he
  | cons x R ih =>
    intro s e he
    obtain ⟨q, b⟩ := x
    unfold turn at he
    split at he
    · exact List.mem_cons_of_mem _ (ih _ e he)
    · exact he
theorem sweep_sub {what : Bool → Bool → Bool} : ∀ (es : List Edge) (F : St × List Edge), ∀ e ∈ (sweep what F es).2, e ∈ F.2 := by
  intro es
  induction es with
  | nil => intro F e he; exact he
  | cons x es ih =>
    intro F e he
    exact turn_sub _ _ e (ih (step what F x) e he)
theorem turn_inv {what : Bool → Bool → Bool} {ha hb : Int → Bool} {EA : List Edge} {m : Int} (hm : m ≤ 20000) (hA : ∀ e, EA.head? = some e → m ≤ e.1) : ∀ (R : List Edge) (s : St), SInv what ha hb s EA R →
    SInv what ha hb (turn what m s R).1 EA (turn what m s R).2 ∧ ∀ e, (turn what m s R).2.head? = some e → m < e.1 := by
  intro R
  induction R with
  | nil => intro s h; exact ⟨h, fun e he => by cases he⟩
  | cons x R ih =>
    intro s h
    obtain ⟨q, b⟩ := x
    unfold turn
    split
    · rename_i hq
      refine ih _ ?_
      have hb := h.b
      have hu := upto_inv h q hb.1 (by omega) (fun e he => by have := hA e he; omega) (fun e he => by cases he; exact Int.le_refl _)
      exact ⟨hu.may, hu.l0, hu.l1, hu.places, hu.a, hb.2.2⟩
    · rename_i hq
      exact ⟨h, fun e he => by cases he; simp only; omega⟩
theorem sweep_inv {what : Bool → Bool → Bool} {ha hb : Int → Bool} : ∀ (EA : List Edge) (F : St × List Edge), (∀ e ∈ EA, e.1 ≤ 20000) → SInv what ha hb F.1 EA F.2 → SInv what ha hb (sweep what F EA).1 [] (sweep what F EA).2 := by
  intro EA
  induction EA with
  | nil => intro F _ h; exact h
  | cons x EA ih =>
    intro F hx h
    obtain ⟨p, b⟩ := x
    have hp := hx (p, b) (by simp)
    simp only at hp
    refine ih (step what F (p, b)) (fun e he => hx e (by simp [he])) ?_
    obtain ⟨h1, h2⟩ := turn_inv (m := p) hp (fun e he => by cases he; exact Int.le_refl _) F.2 F.1 h
    have hu := upto_inv h1 p h1.a.1 hp (fun e he => by cases he; exact Int.le_refl _) (fun e he => by have := h2 e he; omega)
    exact ⟨hu.may, hu.l0, hu.l1, hu.places, h1.a.2.2, hu.b⟩
theorem has_out {l : List Span} (h : Spn.may l = true) {p : Int} (hp : p < 0 ∨ 20000 ≤ p) : has l p = false := by
  cases hx : has l p with
  | false => rfl
  | true =>
    have h1 := has_in (last := -1) h hx
    have h2 := end_le (last := -1) h (by omega)
    omega
theorem walked_spec {what : Bool → Bool → Bool} (h00 : what false false = false) {la lb : List Span} (hma : Spn.may la = true) (hmb : Spn.may lb = true) : Spn.may (walked what la lb) = true ∧ ∀ p : Int, has (walked what la lb) p = what (has la p) (has lb p) := by
  have ina : ∀ {l : List Span}, Spn.may l = true → ∀ e ∈ edgesOf l, e.1 ≤ 20000 := by
    intro l hm e he
    unfold edgesOf at he
    rw [List.mem_flatMap] at he
    obtain ⟨s, hs, he⟩ := he
    have := may_mem (last := -1) hm hs
    have hfin : fin s = s.f0 + s.f1 := rfl
    simp at he
    rcases he with rfl | rfl
    · simp only; omega
    · simp only; omega
  have g0 : SInv what (has la) (has lb) ⟨[], 0, false, false⟩ (edgesOf la) (edgesOf lb) :=
    ⟨rfl, Int.le_refl _, by show (0 : Int) ≤ 20000; decide, fun p => by
      rw [has_nil]
      constructor
      · intro h; cases h
      · rintro ⟨h1, h2, _⟩
        have : p < 0 := h2
        omega, good_edges la (-1) 0 (has la) hma (by omega) (fun _ _ => rfl), good_edges lb (-1) 0 (has lb) hmb (by omega) (fun _ _ => rfl)⟩
  have g1 := sweep_inv (edgesOf la) (⟨[], 0, false, false⟩, edgesOf lb) (ina hma) g0
  obtain ⟨g2, g3⟩ := turn_inv (m := 20000) (Int.le_refl _) (fun e he => by cases he) (sweep what (⟨[], 0, false, false⟩, edgesOf lb) (edgesOf la)).2 _ g1
  have g4 : (turn what 20000 (sweep what (⟨[], 0, false, false⟩, edgesOf lb) (edgesOf la)).1 (sweep what (⟨[], 0, false, false⟩, edgesOf lb) (edgesOf la)).2).2 = [] := by
    cases hx : (turn what 20000 (sweep what (⟨[], 0, false, false⟩, edgesOf lb) (edgesOf la)).1 (sweep what (⟨[], 0, false, false⟩, edgesOf lb) (edgesOf la)).2).2 with
    | nil => rfl
    | cons e es =>
      have h1 := g3 e (by rw [hx]; rfl)
      have h2 := ina hmb e (sweep_sub _ _ e (turn_sub _ _ e (by rw [hx]; simp)))
      omega
  rw [g4] at g2
  unfold walked
  generalize (turn what 20000 (sweep what (⟨[], 0, false, false⟩, edgesOf lb) (edgesOf la)).1 (sweep what (⟨[], 0, false, false⟩, edgesOf lb) (edgesOf la)).2).1 = s at g2 ⊢
  refine ⟨g2.may, fun p => ?_⟩
  have l1 := g2.l1
  have ea : s.ina = false := by rw [← g2.a 20000 l1]; exact has_out hma (.inr (Int.le_refl _))
  have eb : s.inb = false := by rw [← g2.b 20000 l1]; exact has_out hmb (.inr (Int.le_refl _))
  rw [Bool.eq_iff_iff, g2.places p]
  constructor
  · exact fun h => h.2.2
  · intro h
    refine ⟨?_, ?_, h⟩
    · rcases Int.lt_or_le p 0 with hp | hp
      · rw [has_out hma (.inl hp), has_out hmb (.inl hp), h00] at h
        cases h
      · exact hp
    · rcases Int.lt_or_le p s.last with hp | hp
      · exact hp
      · rw [g2.a p hp, g2.b p hp, ea, eb, h00] at h
        cases h
/-- the walk's list is the one that has the places -/
theorem walked_told {what : Bool → Bool → Bool} (h00 : what false false = false) {la lb r : List Span} (hma : Spn.may la = true) (hmb : Spn.may lb = true) (hr : Spn.may r = true) (hp : ∀ p : Int, has r p = what (has la p) (has lb p)) : walked what la lb = r := by
  obtain ⟨h1, h2⟩ := walked_spec h00 hma hmb
  exact told (last := -1) (last' := -1) h1 hr (fun p => by rw [h2 p, hp p])
end Wlk
end Go.Proofs.Ytihdcglkmilckaa

namespace Go.Proofs.Ytihdcglkmilckaa
open Go.RowKit

namespace Wlk
open Spn
def ind (b : Bool) : Int := if b then 1 else 0
/-- how many places from 0 on -/
def cnt (h : Int → Bool) : Nat → Int
  | 0 => 0
  | k + 1 => cnt h k + ind (h k)
theorem cnt_sum {f g h k : Int → Bool} (hp : ∀ p, ind (f p) + ind (g p) + ind (h p) = ind (k p)) (N : Nat) : cnt f N + cnt g N + cnt h N = cnt k N := by
  induction N with
  | zero => rfl
  | succ N ih =>
    have := hp N
    simp only [cnt]
    omega
theorem cnt_or {f g k : Int → Bool} (hp : ∀ p, ind (k p) = ind (f p) + ind (g p)) (N : Nat) : cnt k N = cnt f N + cnt g N := by
  induction N with
  | zero => rfl
  | succ N ih =>
    have := hp N
    simp only [cnt]
    omega
theorem cnt_none {h : Int → Bool} (hh : ∀ p, h p = false) (N : Nat) : cnt h N = 0 := by
  induction N with
  | zero => rfl
  | succ N ih => simp only [cnt, hh, ih]; rfl
theorem cnt_one {a b : Int} (h0 : 0 ≤ a) (h1 : a ≤ b) (N : Nat) : cnt (fun p => decide (a ≤ p ∧ p < b)) N = max 0 (min b N - a) := by
  induction N with
  | zero => simp only [cnt]; omega
  | succ N ih =>
    simp only [cnt, ih]
    by_cases h : a ≤ (N : Int) ∧ (N : Int) < b
    · rw [decide_eq_true h]
      simp only [ind, if_pos]
      omega
    · rw [decide_eq_false h]
      have : ind false = 0 := rfl
      rw [this]
      omega
theorem total_cnt : ∀ (l : List Span) (m : Int), mayFrom m l = true → -1 ≤ m → total l = cnt (has l) 20000 := by
  intro l
  induction l with
  | nil => intro m _ _; rw [total_nil, cnt_none (fun p => has_nil p)]
  | cons s l ih =>
    intro m hm h1
    have hm' : good m s = true ∧ mayFrom (fin s) l = true := by
      have : (good m s && mayFrom (fin s) l) = true := hm
      rwa [Bool.and_eq_true] at this
    have hs := good_spec hm'.1
    have hfin : fin s = s.f0 + s.f1 := rfl
    have e1 : total (s :: l) = s.f1 + total l := by rw [show s :: l = [s] ++ l from rfl, total_append, total_one]
    have e2 : cnt (has (s :: l)) 20000 = cnt (fun p => decide (s.f0 ≤ p ∧ p < fin s)) 20000 + cnt (has l) 20000 := by
      refine cnt_or (fun p => ?_) _
      rw [has_cons]
      by_cases hp : s.f0 ≤ p ∧ p < fin s
      · have : has l p = false := by
          cases hx : has l p with
          | false => rfl
          | true => have := has_in hm'.2 hx; omega
        rw [decide_eq_true hp, this]
        rfl
      · rw [decide_eq_false hp, Bool.false_or]
        have : ind false = 0 := rfl
        rw [this]
        omega
    rw [e1, e2, ih (fin s) hm'.2 (by omega), cnt_one (by omega) (by omega)]
    omega
/-- what one has alone, what the other has alone, and what both have -/
theorem parts_law {la lb : List Span} (hma : may la = true) (hmb : may lb = true) {X Y Z A P Q : List Span} (hX : walked (fun x y => x && !y) la lb = X) (hY : walked (fun x y => x && !y) lb la = Y) (hZ : walked (fun x y => x && y) la lb = Z) (hA : walked (fun x y => x || y) la lb = A)
    (hP : walked (fun x y => x || y) X Y = P) (hQ : walked (fun x y => x || y) P Z = Q) :
    may X = true ∧ may Y = true ∧ may Z = true ∧ may A = true ∧ may P = true ∧ Q = A ∧ total X + total Y + total Z = total A := by
  obtain ⟨x1, x2⟩ := walked_spec (what := fun x y => x && !y) rfl hma hmb
  obtain ⟨y1, y2⟩ := walked_spec (what := fun x y => x && !y) rfl hmb hma
  obtain ⟨z1, z2⟩ := walked_spec (what := fun x y => x && y) rfl hma hmb
  obtain ⟨a1, a2⟩ := walked_spec (what := fun x y => x || y) rfl hma hmb
  rw [hX] at x1 x2
  rw [hY] at y1 y2
  rw [hZ] at z1 z2
  rw [hA] at a1 a2
  obtain ⟨p1, p2⟩ := walked_spec (what := fun x y => x || y) rfl x1 y1
  rw [hP] at p1 p2
  obtain ⟨q1, q2⟩ := walked_spec (what := fun x y => x || y) rfl p1 z1
  rw [hQ] at q1 q2
  refine ⟨x1, y1, z1, a1, p1, told (last := -1) (last' := -1) q1 a1 (fun p => ?_), ?_⟩
  · rw [q2 p, p2 p, x2 p, y2 p, z2 p, a2 p]
    cases has la p <;> cases has lb p <;> rfl
  · rw [total_cnt X (-1) x1 (by omega), total_cnt Y (-1) y1 (by omega), total_cnt Z (-1) z1 (by omega), total_cnt A (-1) a1 (by omega)]
    refine cnt_sum (fun p => ?_) _
    rw [x2 p, y2 p, z2 p, a2 p]
    cases has la p <;> cases has lb p <;> rfl
theorem asked_of {l : List Span} {a n : Int} (h : may l = true) (h0 : 0 ≤ a) (h1 : a ≤ 20000) (h2 : 0 ≤ n) : asked l a n = true := by
  unfold asked
  rw [h, decide_eq_true ⟨h0, h1, h2⟩]
  rfl
theorem end_has {l : List Span} {s : Span} (h : may l = true) (hs : s ∈ l) : has l (fin s - 1) = true := by
  have := may_mem (last := -1) h hs
  have hfin : fin s = s.f0 + s.f1 := rfl
  exact has_of_mem hs (by omega)
/-- two openings of one point are one by both -/
theorem opens_parts {l : List Span} (hm : may l = true) {a n m : Int} (h0 : 0 ≤ a) (h1 : a ≤ 20000) (h2 : 0 ≤ n) (h3 : 0 ≤ m) :
    may (openL l a n) = true ∧ ((openE l a n = 0 ∧ openE (openL l a n) a m = 0 ∧ openE l a (n + m) = 0 ∧ openL (openL l a n) a m = openL l a (n + m)) ∨
      (openE l a n = 0 ∧ openE (openL l a n) a m = 4 ∧ openE l a (n + m) = 4) ∨ (openE l a n = 4 ∧ openE l a (n + m) = 4)) := by
  have q1 := asked_of hm h0 h1 h2
  have q3 : asked l a (n + m) = true := asked_of hm h0 h1 (by omega)
  have e1 : openE l a n = if full l a n then 4 else 0 := by unfold openE; rw [q1]; rfl
  have e3 : openE l a (n + m) = if full l a (n + m) then 4 else 0 := by unfold openE; rw [q3]; rfl
  cases hf : full l a n with
  | true =>
    have hu : openL l a n = [] := by unfold openL; rw [hf, q1]; rfl
    refine ⟨by rw [hu]; rfl, .inr (.inr ⟨by rw [e1, hf]; rfl, ?_⟩)⟩
    cases hg : full l a (n + m) with
    | true => rw [e3, hg]; rfl
    | false =>
      have := (full_iff hm a (n + m)).1 hg
      have := (full_iff hm a n).2 (fun s hs hh => by have := this s hs hh; omega)
      rw [hf] at this
      cases this
  | false =>
    obtain ⟨u1, u2, _⟩ := openL_law q1 hf
    have q2 : asked (openL l a n) a m = true := asked_of u1 h0 h1 h3
    have e2 : openE (openL l a n) a m = if full (openL l a n) a m then 4 else 0 := by unfold openE; rw [q2]; rfl
    refine ⟨u1, ?_⟩
    have hmem := (full_iff hm a n).1 hf
    cases hf2 : full (openL l a n) a m with
    | true =>
      refine .inr (.inl ⟨by rw [e1, hf]; rfl, by rw [e2, hf2]; rfl, ?_⟩)
      cases hg : full l a (n + m) with
      | true => rw [e3, hg]; rfl
      | false =>
        have hg' := (full_iff hm a (n + m)).1 hg
        have : full (openL l a n) a m = false := (full_iff u1 a m).2 (fun s hs hh => by
          have h4 := end_has u1 hs
          rw [u2, Bool.or_eq_true, Bool.and_eq_true, Bool.and_eq_true, decide_eq_true_eq, decide_eq_true_eq] at h4
          rcases h4 with ⟨h5, _⟩ | ⟨h5, h6⟩
          · omega
          · obtain ⟨t, ht, h7, h8⟩ := mem_of_has h6
            have := hg' t ht (by omega)
            omega)
        rw [hf2] at this
        cases this
    | false =>
      have hmem2 := (full_iff u1 a m).1 hf2
      have hg : full l a (n + m) = false := (full_iff hm a (n + m)).2 (fun s hs hh => by
        have h4 := end_has hm hs
        have h5 : has (openL l a n) (fin s - 1 + n) = true := by
          rw [u2, Bool.or_eq_true]
          refine .inr ?_
          rw [Bool.and_eq_true, decide_eq_true_eq]
          refine ⟨by omega, ?_⟩
          rw [show fin s - 1 + n - n = fin s - 1 by omega]
          exact h4
        obtain ⟨t, ht, h7, h8⟩ := mem_of_has h5
        have := hmem2 t ht (by omega)
        omega)
      refine .inl ⟨by rw [e1, hf]; rfl, by rw [e2, hf2]; rfl, by rw [e3, hg]; rfl, ?_⟩
      obtain ⟨v1, v2, _⟩ := openL_law q2 hf2
      obtain ⟨w1, w2, _⟩ := openL_law q3 hg
      refine told (last := -1) (last' := -1) v1 w1 (fun p => ?_)
      rw [v2 p, w2 p, u2 p, u2 (p - m), Bool.eq_iff_iff]
      simp only [Bool.or_eq_true, Bool.and_eq_true, decide_eq_true_eq]
      rw [show p - m - n = p - (n + m) by omega]
      constructor
      · rintro (⟨h4, (⟨_, h5⟩ | ⟨h5, _⟩)⟩ | ⟨h4, (⟨h5, _⟩ | ⟨h5, h6⟩)⟩)
        · exact .inl ⟨h4, h5⟩
        · omega
        · omega
        · exact .inr ⟨by omega, h6⟩
      · rintro (⟨h4, h5⟩ | ⟨h4, h5⟩)
        · exact .inl ⟨h4, .inl ⟨h4, h5⟩⟩
        · exact .inr ⟨by omega, .inr ⟨by omega, h5⟩⟩
end Wlk
end Go.Proofs.Ytihdcglkmilckaa
