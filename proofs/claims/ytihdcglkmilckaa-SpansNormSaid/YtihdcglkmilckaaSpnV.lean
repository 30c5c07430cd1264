/- The walk of the reference's Shut. -/
import Derived.Test.YtihdcglkmilckaaSpnR
import Derived.Test.YtihdcglkmilckaaSpnT
import Derived.Test.YtihdcglkmilckaaCell
namespace Go.Proofs.Ytihdcglkmilckaa
open Go.RowKit

namespace Spn
open PSpansOpen Go.Proofs.YtihdcglkmilckaaW.PrintWords
def bools (m : List Bool) : Array Value := (m.map Value.bool).toArray
theorem bools_size (m : List Bool) : (bools m).size = m.length := by simp [bools]
theorem bools_get (m : List Bool) (i : Nat) : (bools m)[i]? = m[i]?.map Value.bool := by simp [bools]
theorem bools_set (m : List Bool) (i : Nat) (b : Bool) (h : i < m.length) : ((bools m).toList.take i ++ [Value.bool b] ++ (bools m).toList.drop (i + 1)).toArray = bools (m.set i b) := by
  unfold bools
  simp only [List.map_set]
  congr 1
  rw [List.set_eq_take_append_cons_drop, if_pos (by simpa using h)]
  simp
theorem made_bools (n : Nat) : madeCells (Value.bool false).cells (n * 1) = bools (List.replicate n false) := by
  apply Array.ext
  · simp [madeCells, bools]
  · intro i h1 h2
    simp [madeCells, bools, Value.cells, Nat.mod_one]
theorem info_bool : (Try.prog.info? 4).map (fun i => (i.zero, i.size, i.bytes)) = some (some (.bool false), 1, 1) := by kernel_rfl
theorem size_bool : (Try.prog.info? 4).map (·.size) = some 1 := by kernel_rfl
/-- a row of marks that is read -/
def MAt (w : World) (b off : Nat) (m : List Bool) : Prop := ∀ i x, m[i]? = some x → w.cell? ⟨b, off + i, none⟩ = some (.bool x)
theorem mat_of {w : World} {A : Option Addr} {m : List Bool} (h : Kd.C Kd.bool w A m.length m) (hl : 0 < m.length) : ∃ b off, A = some ⟨b, off, none⟩ ∧ MAt w b off m := by
  obtain ⟨ad, rfl, hc⟩ := h.2.2 hl
  obtain ⟨b, off, spot⟩ := ad
  have hcell : ∀ j p, m[j]? = some p → w.cell? ((⟨b, off, spot⟩ : Addr).add j) = some (.bool p) := by
    intro j p hp
    obtain ⟨c, _, hK, hcc⟩ := hc j p hp
    have hK' : c = [.bool p] := hK
    subst hK'
    have := hcc 0 _ rfl
    simpa [Kd.bool, Kd.scalar] using this
  have hspot : spot = none := by
    obtain ⟨s, hs⟩ := at_lt m 0 hl
    simpa [Addr.add] using World.cell?_spot (hcell 0 s hs)
  subst hspot
  refine ⟨b, off, rfl, fun i s hs => ?_⟩
  have := hcell i s hs
  rwa [Go.WideShapes.add_plain] at this
theorem mat_below {w w1 : World} {b off : Nat} {m : List Bool} (h : MAt w b off m) (hb : Below w.heap.size w w1) : MAt w1 b off m := fun i x hx => Mem.keep hb (h i x hx)
/-- a row of marks that has been made is read -/
theorem bools_reads {w : World} {g : Nat} {m : List Bool} {t : TypeId} {fr : Nat × Nat} (hl : m.length ≤ 100000) (h : w.heap[g]? = some (.cells (bools m) t fr)) : Kd.C Kd.bool w (some ⟨g, 0, none⟩) m.length m := by
  refine ⟨rfl, by omega, fun _ => ⟨_, rfl, fun j p hj => ⟨[.bool p], rfl, rfl, fun i u hu => ?_⟩⟩⟩
  have hi : i = 0 := by
    cases i with
    | zero => rfl
    | succ i => simp at hu
  subst hi
  have hu' : Value.bool p = u := by simpa using hu
  subst hu'
  rw [Go.WideShapes.add_plain]
  have e : 0 + (j * (Kd.bool).sz + 0) = j := by show 0 + (j * 1 + 0) = j; omega
  rw [e]
  exact (cell_of_row _ _ _ _ _ _ h).trans (by rw [bools_get, hj]; rfl)

theorem own_base {w : World} {base base' : Nat} {v : Value} {n : Nat} {xs : List Value} (h : w.ownsRow base 42 2 v n xs) (hb : base' ≤ base) : w.ownsRow base' 42 2 v n xs := by
  obtain ⟨h1, h2⟩ := h
  refine ⟨h1, ?_⟩
  rcases h2 with h2 | ⟨g, cap, cur, rfl, hg, r⟩
  · exact .inl h2
  · exact .inr ⟨g, cap, cur, rfl, by omega, r⟩
/-- places that are moved back, below i -/
def Back (l : List Span) (a n : Int) (i : Nat) (p : Int) : Prop := ∃ j : Nat, j < i ∧ has l j = true ∧ (((j : Int) < a ∧ p = j) ∨ (a ≤ j ∧ p = j - n))
def Free (l : List Span) (a n : Int) (i : Nat) : Prop := ∀ j : Nat, j < i → has l j = true → a ≤ j → n ≤ j - a
structure RShut (l : List Span) (a n : Int) (g : Nat) (w1 : World) (i : Nat) (out : List Bool) (wr : World) : Prop where
  hi : i ≤ 20000
  len : out.length = 20000
  bel : Below w1.heap.size w1 wr
  row : wr.heap[g]? = some (.cells (bools out) 4 (0, 0))
  places : ∀ p : Nat, p < 20000 → (out[p]? = some true ↔ Back l a n i p)
  free : Free l a n i
theorem back_next {l : List Span} {a n : Int} {i : Nat} (p : Int) : Back l a n (i + 1) p ↔ Back l a n i p ∨ (has l i = true ∧ (((i : Int) < a ∧ p = i) ∨ (a ≤ i ∧ p = i - n))) := by
  constructor
  · rintro ⟨j, h1, h2, h3⟩
    by_cases e : j = i
    · subst e; exact .inr ⟨h2, h3⟩
    · exact .inl ⟨j, by omega, h2, h3⟩
  · rintro (⟨j, h1, h2, h3⟩ | ⟨h2, h3⟩)
    · exact ⟨j, by omega, h2, h3⟩
    · exact ⟨i, by omega, h2, h3⟩
theorem back_none {l : List Span} {a n : Int} {i : Nat} {out : List Bool} (h : ∀ p : Nat, p < 20000 → (out[p]? = some true ↔ Back l a n i p)) (hf : has l i = false) : ∀ p : Nat, p < 20000 → (out[p]? = some true ↔ Back l a n (i + 1) p) := by
  intro p hp
  rw [h p hp, back_next, hf]; simp
theorem back_set {l : List Span} {a n : Int} {i q : Nat} {out : List Bool} (h : ∀ p : Nat, p < 20000 → (out[p]? = some true ↔ Back l a n i p)) (hlen : out.length = 20000) (ht : has l i = true) (hq : q < 20000)
    (hm : ((i : Int) < a ∧ (q : Int) = i) ∨ (a ≤ i ∧ (q : Int) = i - n)) : ∀ p : Nat, p < 20000 → ((out.set q true)[p]? = some true ↔ Back l a n (i + 1) p) := by
  intro p hp
  rw [back_next, ht]
  by_cases e : q = p
  · subst e; rw [List.getElem?_set_self (by omega)]; exact ⟨fun _ => .inr ⟨rfl, hm⟩, fun _ => rfl⟩
  · rw [List.getElem?_set_ne e, h p hp]
    exact ⟨.inl, fun hh => hh.elim id fun ⟨_, hh⟩ => absurd (show q = p by omega) e⟩
/-- what the reference's Shut leaves -/
def RPost (l : List Span) (a n : Int) (w : World) (e : Ending) (w' : World) : Prop :=
  ∃ v B r, e = .returned (.tuple #[v, .bool B]) ∧ Own w' w.heap.size v r ∧ Below w.heap.size w w' ∧ (B = false → r = [] ∧ ¬ Free l a n 20000) ∧
    (B = true → Free l a n 20000 ∧ may r = true ∧ ∀ p : Int, has r p = true ↔ Back l a n 20000 p)
end Spn
open PSpansOpen

set_option maxRecDepth 100000 in
set_option maxHeartbeats 1000000 in
theorem ref_shut_no (l : List Spn.Span) (A : Option Addr) (c : Nat) (a n : Int) (w : World) (hC : Go.Proofs.YtihdcglkmilckaaW.PrintWords.Kd.C k42 w A l.length l) (hc : l.length ≤ c) (hl : l.length ≤ 100000) (hno : Spn.asked l a n = false) :
    Calls Try.prog 19 #[.slice A l.length c, .int .i64 a, .int .i64 n] w fun e w' =>
      e = .returned (.tuple #[.slice none 0 0, .bool false]) ∧ Below w.heap.size w w' := by
  have hq := Spn.ref_may l hl (l.length + 1) (by omega)
  have HQ := Lib.hid (fun w1 h1 => foolscapref07_May.calls _ A c l _ w1 h1 hc hq)
  have HC := Lib.hid hC
  have hways : (Spn.may l = false) ∨ (Spn.may l = true ∧ decide (a < 0) = true) ∨ (Spn.may l = true ∧ decide (a < 0) = false ∧ decide (20000 < a) = true) ∨ (Spn.may l = true ∧ decide (a < 0) = false ∧ decide (20000 < a) = false ∧ decide (n < 0) = true) := by
    unfold Spn.asked at hno
    cases hm : Spn.may l with
    | false => exact .inl rfl
    | true =>
      rw [hm, Bool.true_and, decide_eq_false_iff_not] at hno
      simp only [decide_eq_true_eq, decide_eq_false_iff_not, Bool.true_eq_false, false_or, true_and]; omega
  clear hq hno hC
  rcases hways with hm | ⟨hm, d1⟩ | ⟨hm, d1, d2⟩ | ⟨hm, d1, d2, d3⟩
  all_goals
    rw [hm] at HQ
    have HM := Lib.hid hm
    clear hm
    go_enter Try.func19, Try.ntmps19
    go_wp2_with (
      go_at_call 10
      refine (HQ.out _ HC.out).mono ?_
      rintro e w1 ⟨rfl, hd1⟩)
    go_ret2
    exact ⟨rfl, by obtain ⟨k, rfl⟩ := hd1; exact Mem.below_drewN (Below.refl _ _) _⟩

set_option maxRecDepth 100000 in
set_option maxHeartbeats 2000000 in
theorem ref_shut_yes (l : List Spn.Span) (A : Option Addr) (c : Nat) (a n : Int) (w : World) (hC : Go.Proofs.YtihdcglkmilckaaW.PrintWords.Kd.C k42 w A l.length l) (hc : l.length ≤ c) (hl : l.length ≤ 100000) (hask : Spn.asked l a n = true) (hn2 : n ≤ 9223372036854775807) :
    Calls Try.prog 19 #[.slice A l.length c, .int .i64 a, .int .i64 n] w (Spn.RPost l a n w) := by
  obtain ⟨hm, ha0, ha2, hn0⟩ := Spn.asked_may hask
  have hq := Spn.ref_may l hl (l.length + 1) (by omega)
  rw [hm] at hq
  have HQ := Lib.hid (fun w1 h1 => foolscapref07_May.calls _ A c l _ w1 h1 hc hq)
  have HC := Lib.hid hC
  obtain ⟨K1, M, hM1, hM2, hM3⟩ := Spn.marks l hl hm
  have HMk := Lib.hid (fun w1 h1 => foolscapref07_Marks.calls _ A c l M true w1 h1 hc (hM1 0))
  have HM2 := Lib.hid hM2
  have HM3 := Lib.hid hM3
  have d1 : decide (a < 0) = false := decide_eq_false (by omega)
  have d2 : decide (20000 < a) = false := decide_eq_false (by omega)
  have d3 : decide (n < 0) = false := decide_eq_false (by omega)
  clear hm hq hC hM1 hM2 hM3 hask
  go_enter Try.func19, Try.ntmps19
  go_wp2_with (first
    | (go_at_call 10
       refine (HQ.out _ HC.out).mono ?_
       rintro e w1 ⟨rfl, hd1⟩
       have HB1 := Lib.hid (show Below w.heap.size w w1 by obtain ⟨k, rfl⟩ := hd1; exact Mem.below_drewN (Below.refl _ _) _)
       clear hd1)
    | (go_at_call 31
       refine (HMk.out _ (Go.Proofs.YtihdcglkmilckaaW.PrintWords.Kd.C_below HC.out HB1.out)).mono ?_
       rintro e w2 ⟨v2, rfl, hr2, hb2⟩
       obtain ⟨A2, c2, rfl, hc2, hC2⟩ := Go.Proofs.YtihdcglkmilckaaW.PrintWords.Kd.R_reads hr2
       have HC2 := Lib.hid hC2
       have HB2 := Lib.hid (Mem.then_ HB1.out hb2)
       clear hr2 hb2 hC2 hc2)
    | (refine Mem.wpList_make (o := ⟨some 32, _, _, _, _, _⟩) rfl _ _ 46 4 rfl Try.underlying46 (.bool false) 1 1 Spn.info_bool .i64 .i64 20000 20000 rfl rfl (by omega) (by omega) (by omega) (by omega) ?_
       intro w3 hn3
       have Hn3 := Lib.hid hn3
       clear hn3))
  obtain ⟨b2, off2, rfl, hmat⟩ := Spn.mat_of HC2.out (by rw [HM2.out]; omega)
  have HMat := Lib.hid hmat
  have hlen2 := HM2.out
  rw [hlen2]
  clear hmat hlen2
  go_loopw [11] (fun t11 wr => ∃ (i : Nat) (out : List Bool), t11 = .int .i64 i ∧ Spn.RShut l a n w2.heap.size w2 i out wr) (fun t11 _ => 20000 - (intOf t11).toNat)
  case atStart =>
    refine ⟨0, List.replicate 20000 false, rfl, by omega, List.length_replicate, Hn3.out.below, ?_, fun p hp => ?_, fun j hj => by omega⟩
    · have := Hn3.out.row
      rw [show ((20000 : Int).toNat * 1) = 20000 * 1 from rfl, Spn.made_bools] at this
      exact this
    · rw [List.getElem?_replicate, if_pos hp]
      exact Iff.intro (fun h => (by cases h)) (fun ⟨j, h, _⟩ => (by omega))
  case round =>
    obtain ⟨i, out, rfl, R⟩ := hrel
    have hi := R.hi
    have HR := Lib.hid R
    clear R
    by_cases hlt : i < 20000
    · have hMi := HM3.out i hlt
      have c0 : wr.cell? ⟨b2, off2 + i, none⟩ = some (.bool (Spn.has l i)) := Mem.keep HR.out.bel (HMat.out i _ hMi)
      have d6 : decide ((i : Int) < 20000) = true := decide_eq_true (by omega)
      have d7 : (i : Int) < 20000 := by omega
      have d8 : (0 : Int) ≤ (i : Int) := by omega
      clear hMi hi
      cases hx : Spn.has l i with
      | false =>
        rw [hx] at c0
        have HX := Lib.hid hx
        clear hx
        go_wp2
        go_roundw
        case rel => exact ⟨i + 1, out, by go_num, by omega, HR.out.len, HR.out.bel, HR.out.row, Spn.back_none HR.out.places HX.out, fun j hj h4 h5 => by
          by_cases e : j = i
          · subst e; rw [HX.out] at h4; cases h4
          · exact HR.out.free j (by omega) h4 h5⟩
        case measure => simp [intOf]; omega
      | true =>
        rw [hx] at c0
        have HX := Lib.hid hx
        clear hx
        have hw2 : w2.heap.size < wr.heap.size := by have := HR.out.row; exact (Array.getElem?_eq_some_iff.1 this).1
        have HW2 := Lib.hid hw2
        have HSz := Lib.hid (show (Spn.bools out).size = 20000 by rw [Spn.bools_size, HR.out.len])
        clear hw2
        by_cases hia : (i : Int) < a
        · have d9 : decide ((i : Int) < a) = true := decide_eq_true hia
          go_upto_region 10 with (fail)
          go_wp2_with (
            refine Mem.wpList_store_cell (o := ⟨none, _, _, _, _, _⟩) (by rfl) 4 (.tmp 47) (.const (.bool true)) (by rfl) w2.heap.size i (by rfl) (.bool true) (by rfl) rfl Spn.size_bool 4 (Spn.bools out) HR.out.row (by rw [HSz.out]; omega) _ (Spn.bools_set out i true (by rw [HR.out.len]; omega)) ?_
            intro w8 hp8
            have Hp8 := Lib.hid hp8
            clear hp8)
          go_roundw
          case rel => exact ⟨i + 1, _, by go_num, by omega, by rw [List.length_set]; exact HR.out.len, HR.out.bel.trans (Hp8.out.below (Nat.le_refl _)), Hp8.out.row, Spn.back_set HR.out.places HR.out.len HX.out hlt (.inl ⟨hia, rfl⟩), fun j hj h4 h5 => by
            by_cases e : j = i
            · subst e; omega
            · exact HR.out.free j (by omega) h4 h5⟩
          case measure => simp [intOf]; omega
        · have d9 : decide ((i : Int) < a) = false := decide_eq_false hia
          by_cases hbad : (i : Int) - a < n
          · have d10 : decide ((i : Int) - a < n) = true := decide_eq_true hbad
            go_wp2
            go_ret2
            exact ⟨_, false, [], rfl, Spn.own_nil _ _, (HB2.out.trans (HR.out.bel.mono HB2.out.size)), fun _ => ⟨rfl, fun h => by have := h i hlt HX.out (by omega); omega⟩, (fun h => by cases h)⟩
          · have d10 : decide ((i : Int) - a < n) = false := decide_eq_false hbad
            obtain ⟨q, hq⟩ : ∃ q : Nat, (i : Int) - n = q := ⟨((i : Int) - n).toNat, by omega⟩
            have hq2 : q < 20000 := by omega
            have d11 : (q : Int) < 20000 := by omega
            have d12 : (0 : Int) ≤ (q : Int) := by omega
            go_upto_region 13 with (fail)
            go_wp2_with (
              refine Mem.wpList_store_cell (o := ⟨none, _, _, _, _, _⟩) (by rfl) 4 (.tmp 57) (.const (.bool true)) (by rfl) w2.heap.size q (by rfl) (.bool true) (by rfl) rfl Spn.size_bool 4 (Spn.bools out) HR.out.row (by rw [HSz.out]; omega) _ (Spn.bools_set out q true (by rw [HR.out.len]; omega)) ?_
              intro w8 hp8
              have Hp8 := Lib.hid hp8
              clear hp8)
            go_roundw
            case rel => exact ⟨i + 1, _, by go_num, by omega, by rw [List.length_set]; exact HR.out.len, HR.out.bel.trans (Hp8.out.below (Nat.le_refl _)), Hp8.out.row, Spn.back_set HR.out.places HR.out.len HX.out hq2 (.inr ⟨by omega, hq.symm⟩), fun j hj h4 h5 => by
              by_cases e : j = i
              · subst e; omega
              · exact HR.out.free j (by omega) h4 h5⟩
            case measure => simp [intOf]; omega
    · have hi2 : i = 20000 := by omega
      subst hi2
      obtain ⟨K2, r, hr, hmr, hpr⟩ := Spn.made out HR.out.len
      have hC3 := Spn.bools_reads (by rw [HR.out.len]; omega) HR.out.row
      have HMade := Lib.hid (fun w1 h1 => foolscapref07_Made.calls _ (some ⟨w2.heap.size, 0, none⟩) 20000 out r w1 h1 (by rw [HR.out.len]; omega) (hr 0))
      have HC3 := Lib.hid hC3
      have HPr := Lib.hid hpr
      have HMr := Lib.hid hmr
      rw [HR.out.len] at HMade
      clear hC3 hr hpr hmr
      go_wp2_with (
        go_at_call 34
        refine (HMade.out _ (by have := HC3.out; rw [HR.out.len] at this; exact this)).mono ?_
        rintro e w9 ⟨v9, rfl, hr9, hb9⟩
        have Ho9 := Lib.hid (Spn.own_of_R hr9)
        have Hb9 := Lib.hid hb9
        clear hr9 hb9)
      go_ret2
      have hle := HR.out.bel.size
      have hle2 := HB2.out.size
      refine ⟨_, true, r, rfl, ?_, (HB2.out.trans (HR.out.bel.mono HB2.out.size)).trans (Hb9.out.mono (by omega)), (fun h => by cases h), fun _ => ⟨HR.out.free, HMr.out, fun p => ?_⟩⟩
      · have ho := Ho9.out
        unfold Spn.Own at ho ⊢
        exact Spn.own_base ho (by omega)
      · rw [HPr.out p]
        constructor
        · rintro ⟨j, h1, rfl, h3⟩; exact (HR.out.places j h1).1 h3
        · rintro ⟨j, h1, h2, h3⟩
          have hb : ∃ q : Nat, p = q ∧ q < 20000 := by
            rcases h3 with ⟨_, h3⟩ | ⟨h4, h3⟩
            · exact ⟨j, h3, h1⟩
            · have := HR.out.free j h1 h2 h4; exact ⟨((j : Int) - n).toNat, by omega, by omega⟩
          obtain ⟨q, rfl, hq⟩ := hb
          exact ⟨q, hq, rfl, (HR.out.places q hq).2 ⟨j, h1, h2, h3⟩⟩
end Go.Proofs.Ytihdcglkmilckaa
