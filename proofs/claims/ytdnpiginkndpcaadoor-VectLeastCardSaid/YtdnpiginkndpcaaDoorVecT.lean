/- The walk of trim; the plain law of the least. -/
import Derived.Test.YtdnpiginkndpcaaDoorVecR
namespace Go.Proofs.YtdnpiginkndpcaaDoor
open Go.RowKit
open PVectAsks

namespace Vec
open Go.Proofs.YtdnpiginkndpcaaDoorW.PrintWords
theorem Arg.cell {w : World} {ad : Addr} {n c : Nat} {l : List Int} (h : Arg w (some ad) n c l) (i : Nat) (hi : i < n) : w.cell? (ad.add i) = some (.int .i64 (l.getD i 0)) := by
  obtain ⟨h1, h2, h3, h4, h5⟩ := h
  obtain ⟨ad', e, hc⟩ := h5 (by omega)
  cases e
  obtain ⟨x, hx⟩ : ∃ x, l[i]? = some x := ⟨_, List.getElem?_eq_getElem (by omega)⟩
  obtain ⟨cc, k1, k2, k3⟩ := hc i x hx
  have k2' : cc = [.int .i64 x] := k2
  subst k2'
  have := k3 0 _ rfl
  rw [show i * (Kd.int .i64).sz + 0 = i by simp [Kd.int, Kd.scalar]] at this
  rw [this, getD_of hx]
theorem Arg.take {w : World} {A : Option Addr} {n c m : Nat} {l : List Int} (h : Arg w A n c l) (hm : m ≤ n) : Arg w A m c (l.take m) := by
  obtain ⟨h1, h2, h3, h4, h5⟩ := h
  have hl : (l.take m).length = m := by rw [List.length_take]; omega
  refine ⟨hl, by omega, rfl, by omega, fun hp => ?_⟩
  obtain ⟨ad, e, hc⟩ := h5 (by omega)
  refine ⟨ad, e, fun j p hj => hc j p ?_⟩
  have hj2 : j < m := by have := (List.getElem?_eq_some_iff.1 hj).1; omega
  rw [List.getElem?_take_of_lt hj2] at hj
  exact hj
theorem Arg.some {w : World} {A : Option Addr} {n c : Nat} {l : List Int} (h : Arg w A n c l) (hn : 0 < n) : ∃ ad, A = some ad := by
  obtain ⟨h1, h2, h3, h4, h5⟩ := h
  obtain ⟨ad, e, _⟩ := h5 (by omega)
  exact ⟨ad, e⟩
structure TM (l : List Int) (n m : Nat) (w wr : World) : Prop where
  hm : m ≤ n
  hz : ∀ i, m ≤ i → i < n → l.getD i 0 = 0
  hw : w = wr
def lenOf : Value → Nat
  | .slice _ n _ => n
  | _ => 0
end Vec

set_option maxRecDepth 100000 in
set_option maxHeartbeats 2000000 in
theorem vect_trim_zero (A : Option Addr) (c : Nat) (w : World) : Calls Tryd.prog 42 #[.slice A 0 c] w fun e w' => e = .returned (.slice A 0 c) ∧ w = w' := by
  go_enter Tryd.func42, Tryd.ntmps42
  go_wp2
  go_loopw [0] (fun t0 wr => t0 = .slice A 0 c ∧ w = wr) (fun _ _ => 0)
  case atStart => exact ⟨rfl, rfl⟩
  case round =>
    obtain ⟨rfl, rfl⟩ := hrel
    go_wp2
    go_ret
    exact ⟨rfl, rfl⟩

set_option maxRecDepth 100000 in
set_option maxHeartbeats 2000000 in
theorem vect_trim_some (ad : Addr) (n c : Nat) (l : List Int) (w : World) (h : Vec.Arg w (some ad) n c l) (hn : n ≤ 1000) :
    Calls Tryd.prog 42 #[.slice (some ad) n c] w fun e w' => ∃ m, e = .returned (.slice (some ad) m c) ∧ Vec.Tr l m ∧ w = w' := by
  have HA := Lib.hid h
  have hc := h.hc
  clear h
  go_enter Tryd.func42, Tryd.ntmps42
  go_wp2
  go_loopw [0] (fun t0 wr => ∃ m : Nat, t0 = .slice (some ad) m c ∧ Vec.TM l n m w wr) (fun t0 _ => Vec.lenOf t0)
  case atStart => exact ⟨n, rfl, ⟨Nat.le_refl _, fun i h1 h2 => by omega, rfl⟩⟩
  case round =>
    obtain ⟨m, rfl, hm, hz, rfl⟩ := hrel
    have HZ := Lib.hid hz
    clear hz
    by_cases hc0 : m ≠ 0 ∧ l.getD (m - 1) 0 = 0
    · obtain ⟨hm0, hx⟩ := hc0
      obtain ⟨k, hk⟩ : ∃ k : Nat, (m : Int) - 1 = k := ⟨m - 1, by omega⟩
      have hmk : m - 1 = k := by omega
      rw [hmk] at hx
      have c0 := HA.out.cell k (by omega)
      rw [hx] at c0
      have d1 : (0 : Int) < (m : Int) := by omega
      have d2 : (0 : Int) ≤ (k : Int) := by omega
      have d3 : (k : Int) < (m : Int) := by omega
      have d4 : (k : Int) ≤ (c : Int) := by omega
      have Hx := Lib.hid hx
      have Hmk := Lib.hid hmk
      clear hx hmk hm0
      go_wp2
      refine ⟨⟨k, rfl, ⟨by omega, fun i h1 h2 => ?_, rfl⟩⟩, by simp only [Vec.lenOf]; omega⟩
      by_cases e : i = k
      · rw [e]; exact Hx.out
      · exact HZ.out i (by have := Hmk.out; omega) h2
    · have htr : Vec.Tr l m := ⟨by rw [HA.out.hl]; exact hm, fun i h1 h2 => HZ.out i h1 (by rw [HA.out.hl] at h2; exact h2), (by
        by_cases e : m = 0
        · exact .inl e
        · exact .inr fun h => hc0 ⟨e, h⟩)⟩
      have Htr := Lib.hid htr
      have hways : m = 0 ∨ (m ≠ 0 ∧ l.getD (m - 1) 0 ≠ 0) := by
        by_cases e : m = 0
        · exact .inl e
        · exact .inr ⟨e, fun h => hc0 ⟨e, h⟩⟩
      clear hc0 htr HZ
      rcases hways with hm0 | ⟨hm0, hx⟩
      · have d1 : decide (0 < m) = false := decide_eq_false (by omega)
        clear hm0
        go_wp2
        go_ret
        exact ⟨m, rfl, Htr.out, rfl⟩
      · obtain ⟨k, hk⟩ : ∃ k : Nat, (m : Int) - 1 = k := ⟨m - 1, by omega⟩
        have hmk : m - 1 = k := by omega
        rw [hmk] at hx
        have c0 := HA.out.cell k (by omega)
        obtain ⟨x, hxx⟩ : ∃ x, l.getD k 0 = x := ⟨_, rfl⟩
        rw [hxx] at hx c0
        have d0 : (x == 0) = false := beq_eq_false_iff_ne.2 hx
        have d1 : (0 : Int) < (m : Int) := by omega
        have d2 : (0 : Int) ≤ (k : Int) := by omega
        have d3 : (k : Int) < (m : Int) := by omega
        clear hx hxx hm0 hmk
        go_wp2
        go_ret
        exact ⟨m, rfl, Htr.out, rfl⟩

namespace Vec
open Go.Proofs.YtdnpiginkndpcaaDoorW.PrintWords
theorem trim_says {w : World} {A : Option Addr} {n c : Nat} {l : List Int} (h : Arg w A n c l) (hn : n ≤ 1000) : Calls Tryd.prog 42 #[.slice A n c] w fun e w' => ∃ m, e = .returned (.slice A m c) ∧ Tr l m ∧ Arg w' A m c (l.take m) ∧ Below w.heap.size w w' := by
  by_cases h0 : n = 0
  · subst h0
    refine (vect_trim_zero A c w).mono ?_
    rintro e w' ⟨rfl, rfl⟩
    exact ⟨0, rfl, ⟨Nat.zero_le _, fun i _ hi => by have := h.hl; omega, .inl rfl⟩, h.take (Nat.le_refl _), Below.refl _ _⟩
  · obtain ⟨ad, rfl⟩ := h.some (by omega)
    refine (vect_trim_some ad n c l w h hn).mono ?_
    rintro e w' ⟨m, rfl, ht, rfl⟩
    exact ⟨m, rfl, ht, h.take (by have := ht.le; have := h.hl; omega), Below.refl _ _⟩
/-! ### the least, plain -/
def rowAt (ls : List (List Int)) (j : Nat) : List Int := ls.getD j []
def lowF (ls : List (List Int)) : Nat → Nat → Int
  | 0, i => (rowAt ls 0).getD i 0
  | k + 1, i => min (lowF ls k i) ((rowAt ls k).getD i 0)
def fullLow (ls : List (List Int)) : List Int := (List.range 16).map (lowF ls ls.length)
theorem tr_exists (l : List Int) : ∃ m, Tr l m := by
  have : ∀ n, n ≤ l.length → (∀ i, n ≤ i → i < l.length → l.getD i 0 = 0) → ∃ m, Tr l m := by
    intro n
    induction n with
    | zero => intro h hz; exact ⟨0, h, hz, .inl rfl⟩
    | succ n ih =>
      intro h hz
      by_cases e : l.getD n 0 = 0
      · refine ih (by omega) fun i h1 h2 => ?_
        by_cases e2 : i = n
        · rw [e2]; exact e
        · exact hz i (by omega) h2
      · exact ⟨n + 1, h, hz, .inr e⟩
  exact this l.length (Nat.le_refl _) fun i h1 h2 => by omega
theorem Tr.getD_zero {l : List Int} {m : Nat} (h : Tr l m) (i : Nat) (hi : m ≤ i) : l.getD i 0 = 0 := by
  by_cases c : i < l.length
  · exact h.zero i hi c
  · rw [List.getD_eq_getElem?_getD, List.getElem?_eq_none (by omega)]; rfl
theorem Tr.agree {a b : List Int} {m k : Nat} (ha : Tr a m) (hb : Tr b k) (h : ∀ i, a.getD i 0 = b.getD i 0) : a.take m = b.take k := by
  have e : m = k := by
    rcases Nat.lt_trichotomy m k with c | c | c
    · rcases hb.last with e | e
      · omega
      · exact absurd ((h _).symm.trans (ha.getD_zero (k - 1) (by omega))) e
    · exact c
    · rcases ha.last with e | e
      · omega
      · exact absurd ((h _).trans (hb.getD_zero (m - 1) (by omega))) e
  subst e
  apply eq_of_getD
  · have := ha.le; have := hb.le; simp; omega
  · intro i hi
    have hi' : i < m := by have := ha.le; simp at hi; omega
    rw [List.getD_eq_getElem?_getD, List.getD_eq_getElem?_getD, List.getElem?_take_of_lt hi', List.getElem?_take_of_lt hi', ← List.getD_eq_getElem?_getD, ← List.getD_eq_getElem?_getD]
    exact h i
theorem Tr.take_getD {a : List Int} {m : Nat} (ha : Tr a m) (i : Nat) : (a.take m).getD i 0 = a.getD i 0 := by
  by_cases c : i < m
  · rw [List.getD_eq_getElem?_getD, List.getElem?_take_of_lt c, ← List.getD_eq_getElem?_getD]
  · rw [ha.getD_zero i (by omega), List.getD_eq_getElem?_getD, List.getElem?_eq_none (by rw [List.length_take]; omega)]; rfl
section
variable {ls : List (List Int)} (hm : ∀ l ∈ ls, may l = true)
include hm
theorem rowAt_may (j : Nat) (h : j < ls.length) : may (rowAt ls j) = true := by
  unfold rowAt
  rw [List.getD_eq_getElem?_getD, List.getElem?_eq_getElem h]
  exact hm _ (List.getElem_mem h)
theorem lowF_bd (k i : Nat) (h : k ≤ ls.length) (h0 : 0 < ls.length) : 0 ≤ lowF ls k i ∧ lowF ls k i ≤ 1099511627776 := by
  induction k with
  | zero => exact may_getD (rowAt_may hm 0 h0) i
  | succ k ih =>
    have h1 := ih (by omega)
    have h2 := may_getD (rowAt_may hm k (by omega)) i
    unfold lowF
    omega
theorem lowF_out (k i : Nat) (h : k ≤ ls.length) (h0 : 0 < ls.length) (hi : 16 ≤ i) : lowF ls k i = 0 := by
  have hz : ∀ j, j < ls.length → (rowAt ls j).getD i 0 = 0 := fun j hj => by
    have := may_len (rowAt_may hm j hj)
    rw [List.getD_eq_getElem?_getD, List.getElem?_eq_none (by omega)]; rfl
  induction k with
  | zero => exact hz 0 h0
  | succ k ih =>
    unfold lowF
    rw [ih (by omega), hz k (by omega)]
    rfl
theorem fullLow_getD (h0 : 0 < ls.length) (i : Nat) : (fullLow ls).getD i 0 = lowF ls ls.length i := by
  by_cases h : i < 16
  · unfold fullLow; rw [getD_map_range _ _ _ h]
  · rw [lowF_out hm _ _ (Nat.le_refl _) h0 (by omega), List.getD_eq_getElem?_getD, List.getElem?_eq_none (by unfold fullLow; simp; omega)]; rfl
theorem low_may (h0 : 0 < ls.length) {m : Nat} (ht : Tr (fullLow ls) m) : may ((fullLow ls).take m) = true := by
  have hle := ht.le
  have h16 : (fullLow ls).length = 16 := by unfold fullLow; simp
  have hl : ((fullLow ls).take m).length = m := by rw [List.length_take]; omega
  refine may_mk (by rw [hl]; omega) (fun i _ => ?_) ?_
  · rw [ht.take_getD, fullLow_getD hm h0]
    exact lowF_bd hm _ _ (Nat.le_refl _) h0
  · rcases ht.last with e | e
    · left; rw [hl]; exact e
    · right
      unfold tl
      rw [hl, ht.take_getD]
      have := lowF_bd hm ls.length (m - 1) (Nat.le_refl _) h0
      rw [fullLow_getD hm h0] at e ⊢
      omega
end
theorem le_lowF (ls : List (List Int)) (x : Int) (k i : Nat) : x ≤ lowF ls k i ↔ x ≤ (rowAt ls 0).getD i 0 ∧ ∀ j, j < k → x ≤ (rowAt ls j).getD i 0 := by
  induction k with
  | zero => exact ⟨fun h => ⟨h, fun j hj => by omega⟩, fun h => h.1⟩
  | succ k ih =>
    unfold lowF
    rw [show x ≤ min (lowF ls k i) ((rowAt ls k).getD i 0) ↔ x ≤ lowF ls k i ∧ x ≤ (rowAt ls k).getD i 0 by omega, ih]
    constructor
    · rintro ⟨⟨h1, h2⟩, h3⟩
      refine ⟨h1, fun j hj => ?_⟩
      by_cases e : j = k
      · rw [e]; exact h3
      · exact h2 j (by omega)
    · rintro ⟨h1, h2⟩
      exact ⟨⟨h1, fun j hj => h2 j (by omega)⟩, h2 k (by omega)⟩
/-- all of the first k cover c -/
def allCov (ls : List (List Int)) (c : List Int) (k : Nat) : Bool := (List.range k).all fun j => covers (rowAt ls j) c
theorem allCov_succ (ls : List (List Int)) (c : List Int) (k : Nat) : allCov ls c (k + 1) = (allCov ls c k && covers (rowAt ls k) c) := by unfold allCov; rw [List.range_succ, List.all_append]; simp
theorem low_covers {ls : List (List Int)} (hm : ∀ l ∈ ls, may l = true) (h0 : 0 < ls.length) {m : Nat} (ht : Tr (fullLow ls) m) (c : List Int) : covers ((fullLow ls).take m) c = allCov ls c ls.length := by
  rw [Bool.eq_iff_iff, covers_iff]
  unfold allCov
  rw [List.all_eq_true]
  constructor
  · intro h j hj
    rw [covers_iff]
    intro i hi
    have := h i hi
    rw [ht.take_getD, fullLow_getD hm h0, le_lowF] at this
    exact this.2 j (by simpa using hj)
  · intro h i hi
    rw [ht.take_getD, fullLow_getD hm h0, le_lowF]
    refine ⟨?_, fun j hj => ?_⟩
    · exact (covers_iff _ _).1 (h 0 (by simpa using h0)) i hi
    · exact (covers_iff _ _).1 (h j (by simpa using hj)) i hi
theorem covers_low {ls : List (List Int)} (hm : ∀ l ∈ ls, may l = true) (h0 : 0 < ls.length) {m : Nat} (ht : Tr (fullLow ls) m) (j : Nat) (hj : j < ls.length) : covers (rowAt ls j) ((fullLow ls).take m) = true := by
  rw [covers_iff]
  intro i _
  rw [ht.take_getD, fullLow_getD hm h0]
  exact ((le_lowF ls (lowF ls ls.length i) ls.length i).1 (Int.le_refl _)).2 j hj
end Vec
end Go.Proofs.YtdnpiginkndpcaaDoor
