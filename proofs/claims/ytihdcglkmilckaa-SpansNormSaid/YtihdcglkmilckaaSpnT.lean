/- The walk of spans.Shut. -/
import Derived.Test.YtihdcglkmilckaaSpnS
import Derived.Test.YtihdcglkmilckaaCell
namespace Go.Proofs.Ytihdcglkmilckaa
open Go.RowKit

namespace Spn
open PSpansOpen Go.Proofs.YtihdcglkmilckaaW.PrintWords
def bad (a N : Int) (s : Span) : Bool := decide (0 < N ∧ s.f0 < a + N ∧ a < fin s)
def back (a N : Int) (s : Span) : Span := if a + N ≤ s.f0 then ⟨s.f0 - N, s.f1⟩ else s
def shutStep (a N : Int) (out : List Span) (s : Span) : List Span := add out (back a N s)
def shuts (a N : Int) (l : List Span) : List Span := l.foldl (shutStep a N) []
def shutB (l : List Span) (a n : Int) : Bool := asked l a n && !(l.any (bad a (min n 20000)))
def shutL (l : List Span) (a n : Int) : List Span := if shutB l a n then shuts a (min n 20000) l else []
theorem size_int : (Try.prog.info? 3).map (·.size) = some 1 := by kernel_rfl
theorem shuts_next (a n : Int) (l : List Span) (i : Nat) (s : Span) (h : l[i]? = some s) : shuts a n (l.take (i + 1)) = add (shuts a n (l.take i)) (back a n s) := by
  obtain ⟨hi, rfl⟩ := List.getElem?_eq_some_iff.1 h
  unfold shuts
  rw [List.take_succ_eq_append_getElem hi, List.foldl_append]; rfl
/-- what is shut behind i spans -/
structure ShutAt (l : List Span) (a N : Int) (w : World) (i : Nat) (out : List Span) (v : Value) (wr : World) : Prop where
  hi : i ≤ l.length
  own : Own wr w.heap.size v out
  bel : Below w.heap.size w wr
  eq : out = shuts a N (l.take i)
  fits : Fits out
  short : out.length ≤ i
  fine : ∀ s ∈ l.take i, bad a N s = false
theorem fine_next {l : List Span} {a N : Int} {i : Nat} {s : Span} (h : l[i]? = some s) (hf : ∀ s ∈ l.take i, bad a N s = false) (hb : bad a N s = false) : ∀ s ∈ l.take (i + 1), bad a N s = false := by
  obtain ⟨hi, rfl⟩ := List.getElem?_eq_some_iff.1 h
  rw [List.take_succ_eq_append_getElem hi]
  intro u hu
  rcases List.mem_append.1 hu with hu | hu
  · exact hf u hu
  · obtain rfl : u = l[i] := by simpa using hu
    exact hb
end Spn
open PSpansOpen

set_option maxRecDepth 100000 in
set_option maxHeartbeats 1000000 in
theorem spans_shut_no (l : List Spn.Span) (A : Option Addr) (c : Nat) (a n : Int) (w : World) (hC : Go.Proofs.YtihdcglkmilckaaW.PrintWords.Kd.C k42 w A l.length l) (hc : l.length ≤ c) (hl : l.length ≤ 100000) (hno : Spn.asked l a n = false) :
    Calls Try.prog 18 #[.slice A l.length c, .int .i64 a, .int .i64 n] w fun e w' =>
      e = .returned (.tuple #[.slice none 0 0, .bool false]) ∧ Below w.heap.size w w' := by
  have hq := Spn.spans_asked l hl a n (l.length + 1) (by omega)
  rw [hno] at hq
  have HQ := Lib.hid (fun w1 h1 => spans_asked.calls _ A c l a n false w1 h1 hc hq)
  have HC := Lib.hid hC
  clear hq hno hC
  go_enter Try.func18, Try.ntmps18
  go_wp2_with (
    go_at_call 32
    refine (HQ.out _ HC.out).mono ?_
    rintro e w1 ⟨rfl, hb1⟩)
  go_ret2
  exact ⟨rfl, hb1⟩

set_option maxRecDepth 100000 in
set_option maxHeartbeats 1000000 in
theorem spans_shut_nil (A : Option Addr) (c : Nat) (a n : Int) (w : World) (hC : Go.Proofs.YtihdcglkmilckaaW.PrintWords.Kd.C k42 w A 0 []) (has : Spn.asked [] a n = true) :
    Calls Try.prog 18 #[.slice A 0 c, .int .i64 a, .int .i64 n] w fun e w' =>
      e = .returned (.tuple #[.slice none 0 0, .bool true]) ∧ Below w.heap.size w w' := by
  have hq := Spn.spans_asked [] (by simp) a n 1 (by simp)
  rw [has] at hq
  have HQ := Lib.hid (fun w1 h1 => spans_asked.calls _ A c [] a n true w1 h1 (by simp) hq)
  have HC := Lib.hid hC
  clear hq has hC
  by_cases hmn : 20000 < n
  all_goals
    go_enter Try.func18, Try.ntmps18
    go_wp2_with (
      go_at_call 32
      refine (HQ.out _ HC.out).mono ?_
      rintro e w1 ⟨rfl, hb1⟩)
    go_loop [8, 20] (fun t8 t20 => t8 = .slice none 0 0 ∧ t20 = .int .i64 0) (fun _ _ => 0)
    case atStart => exact ⟨rfl, rfl⟩
    case round =>
      obtain ⟨rfl, rfl⟩ := hrel
      go_wp2
      go_ret2
      exact ⟨rfl, hb1⟩

set_option maxRecDepth 100000 in
set_option maxHeartbeats 2000000 in
theorem spans_shut_yes (l : List Spn.Span) (L : Nat) (hL : l.length = L) (b off c : Nat) (a n N : Int) (w : World) (hC : Go.Proofs.YtihdcglkmilckaaW.PrintWords.Kd.C k42 w (some ⟨b, off, none⟩) l.length l) (hA : Spn.At w b off l) (hc : l.length ≤ c) (hl : l.length ≤ 10000)
    (has : Spn.asked l a n = true) (hin : ∀ s ∈ l, 0 ≤ s.f0 ∧ 1 ≤ s.f1 ∧ Spn.fin s ≤ 20000) (ha0 : 0 ≤ a) (ha2 : a ≤ 20000) (hn0 : 0 ≤ n) (hN : N = if 20000 < n then 20000 else n) :
    Calls Try.prog 18 #[.slice (some ⟨b, off, none⟩) L c, .int .i64 a, .int .i64 n] w fun e w' =>
      ∃ v B, e = .returned (.tuple #[v, .bool B]) ∧ B = !(l.any (Spn.bad a N)) ∧ Spn.Own w' w.heap.size v (if B then Spn.shuts a N l else []) ∧ Below w.heap.size w w' := by
  have hq := Spn.spans_asked l (by omega) a n (l.length + 1) (by omega)
  rw [has] at hq
  have HQ := Lib.hid (fun w1 h1 => spans_asked.calls _ (some ⟨b, off, none⟩) c l a n true w1 h1 hc hq)
  rw [hL] at HQ
  have HC := Lib.hid hC
  rw [hL] at HC
  have HA := Lib.hid hA
  have HK := Lib.hid hL
  have HI := Lib.hid hin
  have hK2 : (L : Int) ≤ 10000 := by omega
  have hcap : (L : Int) ≤ c := by omega
  have hN0 : 0 ≤ N := by rw [hN]; split <;> omega
  have hN2 : N ≤ 20000 := by rw [hN]; split <;> omega
  clear hq has hC hA hc hl hL hin
  replace hN := hN.symm
  go_enter Try.func18, Try.ntmps18
  go_wp2_with (
      go_at_call 32
      refine (HQ.out _ HC.out).mono ?_
      rintro e w1 ⟨rfl, hb1⟩)
  all_goals
    have Hb := Lib.hid hb1
    clear hb1 hN
    go_loopw [8, 20] (fun t8 t20 wr => ∃ (i : Nat) (out : List Spn.Span) (v : Value), t8 = v ∧ t20 = .int .i64 i ∧ Spn.ShutAt l a N w i out v wr) (fun _ t20 _ => L - (intOf t20).toNat)
    case atStart =>
      exact ⟨0, [], _, rfl, rfl, by omega, Spn.own_nil _ _, Hb.out, rfl, Spn.fits_nil, by simp, fun s hs => by simp at hs⟩
    case round =>
      obtain ⟨i, out, v, rfl, rfl, R⟩ := hrel
      have hi := R.hi
      have HR := Lib.hid R
      clear R
      have hKl := HK.out
      by_cases hlt : i < L
      · obtain ⟨s, hs⟩ := Spn.at_lt l i (by omega)
        obtain ⟨s0, s1⟩ := s
        have hcells := Spn.cells_below HA.out HR.out.bel (Nat.le_refl _) i _ hs
        have c0 : wr.cell? ⟨b, off + i * 2, none⟩ = some (.int .i64 s0) := hcells.1
        have c1 : wr.cell? ⟨b, off + i * 2 + 1, none⟩ = some (.int .i64 s1) := hcells.2
        obtain ⟨hs0, hs1, hs2⟩ := HI.out _ (List.mem_of_getElem? hs)
        have hs0' : 0 ≤ s0 := hs0
        have hs1' : 1 ≤ s1 := hs1
        have hs2' : s0 + s1 ≤ 20000 := hs2
        have HS := Lib.hid hs
        have d6 : decide ((i : Int) < (L : Int)) = true := decide_eq_true (by omega)
        have d7 : (i : Int) < (L : Int) := by omega
        have d8 : (0 : Int) ≤ (i : Int) := by omega
        have HMs := Lib.hid (show Spn.Mild ⟨s0, s1⟩ by unfold Spn.Mild; simp only; omega)
        have hlen : out.length ≤ 30000 := by have := HR.out.short; omega
        have Hlen := Lib.hid hlen
        clear hcells hs hs0 hs1 hs2 hKl hi hlen
        have hways : (decide (0 < N) = true ∧ decide (s0 < a + N) = true ∧ decide (a < s0 + s1) = true) ∨ (decide (0 < N) = false ∧ decide (a + N ≤ s0) = true) ∨ (decide (0 < N) = false ∧ decide (a + N ≤ s0) = false) ∨
            (decide (0 < N) = true ∧ decide (s0 < a + N) = false ∧ decide (a + N ≤ s0) = true) ∨ (decide (0 < N) = true ∧ decide (s0 < a + N) = true ∧ decide (a < s0 + s1) = false ∧ decide (a + N ≤ s0) = false) := by
          simp only [decide_eq_true_eq, decide_eq_false_iff_not]; omega
        go_upto_region 8 with (first
            | (refine Mem.wpList_alloc (o := ⟨some 10, _, _, _, _, _⟩) rfl 42 rfl _ Spn.zero_span ?_
               intro w3 hn3
               have Hn3 := Lib.hid hn3
               clear hn3)
            | (refine Mem.wpList_store (o := ⟨none, _, _, _, _, _⟩) rfl 42 (.tmp 10) (.tmp 23) rfl _ #[.int .i64 s0, .int .i64 s1] rfl rfl _ _ Hn3.out.row Spn.size_span rfl (Spn.one_span _ _) ?_
               intro w4 hp4
               have g0 : w4.cell? ⟨wr.heap.size, 0, none⟩ = some (.int .i64 s0) := (cell_of_row _ _ 0 _ _ _ hp4.row).trans rfl
               have g1 : w4.cell? ⟨wr.heap.size, 1, none⟩ = some (.int .i64 s1) := (cell_of_row _ _ 1 _ _ _ hp4.row).trans rfl
               have HRow := Lib.hid hp4.row
               have HO := Lib.hid (Spn.own_keep HR.out.own (w1 := w4) (fun k hk _ => (hp4.other k (by omega)).trans (Hn3.out.old hk)))
               have HB := Lib.hid (HR.out.bel.trans ((Hn3.out.belowB HR.out.bel.size).trans (hp4.below HR.out.bel.size)))
               have Hp4 := Lib.hid hp4
               clear hp4 c0 c1))
        rcases hways with ⟨w1', w2', w3'⟩ | ⟨w1', w4'⟩ | ⟨w1', w4'⟩ | ⟨w1', w2', w4'⟩ | ⟨w1', w2', w3', w4'⟩
        case' inr.inl => go_upto_region 11 with (fail)
        case' inr.inr.inr.inl => go_upto_region 11 with (fail)
        case' inr.inl =>
          go_wp2_with (first
            | (refine Mem.wpList_store_cell (o := ⟨none, _, _, _, _, _⟩) (by rfl) 3 (.tmp 50) (.tmp 49) (by rfl) wr.heap.size 0 (by rfl) (.int .i64 (s0 - N)) (by rfl) rfl Spn.size_int 42 #[.int .i64 s0, .int .i64 s1] HRow.out (by simp) #[.int .i64 (s0 - N), .int .i64 s1] rfl ?_
               intro w8 hp8
               have e0 : w8.cell? ⟨wr.heap.size, 0, none⟩ = some (.int .i64 (s0 - N)) := (cell_of_row _ _ 0 _ _ _ hp8.row).trans rfl
               have e1 : w8.cell? ⟨wr.heap.size, 1, none⟩ = some (.int .i64 s1) := (cell_of_row _ _ 1 _ _ _ hp8.row).trans rfl
               have HOn := Lib.hid (Spn.own_keep HO.out (w1 := w8) (fun k _ hv => hp8.other k (fun e => by have := (Spn.own_lt HR.out.own hv).1; omega)))
               have HBn := Lib.hid (HB.out.trans (hp8.below HR.out.bel.size))
               clear hp8 g0 g1 HRow HO HB
               have g0 := e0
               have g1 := e1
               have HO := HOn
               have HB := HBn
               clear e0 e1 HOn HBn)
            | (go_at_call 33
               refine (spans_add _ _ _ _ w.heap.size _ HO.out (by have := Hlen.out; omega) (Spn.fits_last HR.out.fits) (by unfold Spn.Mild; simp only; omega) HB.out.size).mono ?_
               rintro e w5 ⟨v5, rfl, ho5, hg5, hat5⟩
               have HO5 := Lib.hid ho5
               have Hg5 := Lib.hid hg5
               clear ho5 hg5 hat5))
        case' inr.inr.inr.inl =>
          go_wp2_with (first
            | (refine Mem.wpList_store_cell (o := ⟨none, _, _, _, _, _⟩) (by rfl) 3 (.tmp 50) (.tmp 49) (by rfl) wr.heap.size 0 (by rfl) (.int .i64 (s0 - N)) (by rfl) rfl Spn.size_int 42 #[.int .i64 s0, .int .i64 s1] HRow.out (by simp) #[.int .i64 (s0 - N), .int .i64 s1] rfl ?_
               intro w8 hp8
               have e0 : w8.cell? ⟨wr.heap.size, 0, none⟩ = some (.int .i64 (s0 - N)) := (cell_of_row _ _ 0 _ _ _ hp8.row).trans rfl
               have e1 : w8.cell? ⟨wr.heap.size, 1, none⟩ = some (.int .i64 s1) := (cell_of_row _ _ 1 _ _ _ hp8.row).trans rfl
               have HOn := Lib.hid (Spn.own_keep HO.out (w1 := w8) (fun k _ hv => hp8.other k (fun e => by have := (Spn.own_lt HR.out.own hv).1; omega)))
               have HBn := Lib.hid (HB.out.trans (hp8.below HR.out.bel.size))
               clear hp8 g0 g1 HRow HO HB
               have g0 := e0
               have g1 := e1
               have HO := HOn
               have HB := HBn
               clear e0 e1 HOn HBn)
            | (go_at_call 33
               refine (spans_add _ _ _ _ w.heap.size _ HO.out (by have := Hlen.out; omega) (Spn.fits_last HR.out.fits) (by unfold Spn.Mild; simp only; omega) HB.out.size).mono ?_
               rintro e w5 ⟨v5, rfl, ho5, hg5, hat5⟩
               have HO5 := Lib.hid ho5
               have Hg5 := Lib.hid hg5
               clear ho5 hg5 hat5))
        case' inr.inr.inl =>
          go_wp2_with (first
            | (go_at_call 33
               refine (spans_add _ _ _ _ w.heap.size _ HO.out (by have := Hlen.out; omega) (Spn.fits_last HR.out.fits) (by unfold Spn.Mild; simp only; omega) HB.out.size).mono ?_
               rintro e w5 ⟨v5, rfl, ho5, hg5, hat5⟩
               have HO5 := Lib.hid ho5
               have Hg5 := Lib.hid hg5
               clear ho5 hg5 hat5))
        case' inr.inr.inr.inr =>
          go_wp2_with (first
            | (go_at_call 30
               refine (spans_fin s0 s1 HMs.out _).mono ?_
               rintro e w7 ⟨rfl, hb7⟩
               have e0 := Mem.keep hb7 g0
               have e1 := Mem.keep hb7 g1
               have HRown := Lib.hid ((hb7.block wr.heap.size (block_lt_of_cell g0)).trans HRow.out)
               have HOn := Lib.hid (Spn.own_below HO.out hb7)
               have HBn := Lib.hid (Mem.then_ HB.out hb7)
               clear hb7 g0 g1 HRow HO HB
               have g0 := e0
               have g1 := e1
               have HRow := HRown
               have HO := HOn
               have HB := HBn
               clear e0 e1 HRown HOn HBn)
            | (go_at_call 33
               refine (spans_add _ _ _ _ w.heap.size _ HO.out (by have := Hlen.out; omega) (Spn.fits_last HR.out.fits) (by unfold Spn.Mild; simp only; omega) HB.out.size).mono ?_
               rintro e w5 ⟨v5, rfl, ho5, hg5, hat5⟩
               have HO5 := Lib.hid ho5
               have Hg5 := Lib.hid hg5
               clear ho5 hg5 hat5))
        case' inl =>
          go_wp2_with (first
            | (go_at_call 30
               refine (spans_fin s0 s1 HMs.out _).mono ?_
               rintro e w7 ⟨rfl, hb7⟩
               have e0 := Mem.keep hb7 g0
               have e1 := Mem.keep hb7 g1
               have HRown := Lib.hid ((hb7.block wr.heap.size (block_lt_of_cell g0)).trans HRow.out)
               have HOn := Lib.hid (Spn.own_below HO.out hb7)
               have HBn := Lib.hid (Mem.then_ HB.out hb7)
               clear hb7 g0 g1 HRow HO HB
               have g0 := e0
               have g1 := e1
               have HRow := HRown
               have HO := HOn
               have HB := HBn
               clear e0 e1 HRown HOn HBn))
        case' inr.inl =>
          go_roundw
          case measure => simp [intOf]; omega
          case rel =>
            have hb4 := of_decide_eq_true w4'
            have hbk : Spn.back a N ⟨s0, s1⟩ = ⟨s0 - N, s1⟩ := by unfold Spn.back; simp only; rw [if_pos hb4]
            refine ⟨i + 1, _, _, rfl, by go_num, by rw [HK.out]; omega, HO5.out, HB.out.trans (Spn.grown_base HO.out Hg5.out HB.out.size), by rw [Spn.shuts_next _ _ _ _ _ HS.out, ← HR.out.eq, hbk],
              Spn.fits_add HR.out.fits (by simp only; omega) (by unfold Spn.fin; simp only; omega), Nat.le_trans (Spn.add_len _ _) (by have := HR.out.short; omega), Spn.fine_next HS.out HR.out.fine ?_⟩
            unfold Spn.bad Spn.fin
            simp only
            rw [decide_eq_false_iff_not]
            rintro ⟨q1, q2, q3⟩
            exact absurd q1 (of_decide_eq_false w1')
        case' inr.inr.inr.inl =>
          go_roundw
          case measure => simp [intOf]; omega
          case rel =>
            have hb4 := of_decide_eq_true w4'
            have hbk : Spn.back a N ⟨s0, s1⟩ = ⟨s0 - N, s1⟩ := by unfold Spn.back; simp only; rw [if_pos hb4]
            refine ⟨i + 1, _, _, rfl, by go_num, by rw [HK.out]; omega, HO5.out, HB.out.trans (Spn.grown_base HO.out Hg5.out HB.out.size), by rw [Spn.shuts_next _ _ _ _ _ HS.out, ← HR.out.eq, hbk],
              Spn.fits_add HR.out.fits (by simp only; omega) (by unfold Spn.fin; simp only; omega), Nat.le_trans (Spn.add_len _ _) (by have := HR.out.short; omega), Spn.fine_next HS.out HR.out.fine ?_⟩
            unfold Spn.bad Spn.fin
            simp only
            rw [decide_eq_false_iff_not]
            rintro ⟨q1, q2, q3⟩
            exact absurd q2 (of_decide_eq_false w2')
        case' inr.inr.inl =>
          go_roundw
          case measure => simp [intOf]; omega
          case rel =>
            have hb4 := of_decide_eq_false w4'
            have hbk : Spn.back a N ⟨s0, s1⟩ = ⟨s0, s1⟩ := by unfold Spn.back; simp only; rw [if_neg hb4]
            refine ⟨i + 1, _, _, rfl, by go_num, by rw [HK.out]; omega, HO5.out, HB.out.trans (Spn.grown_base HO.out Hg5.out HB.out.size), by rw [Spn.shuts_next _ _ _ _ _ HS.out, ← HR.out.eq, hbk],
              Spn.fits_add HR.out.fits (by simp only; omega) (by unfold Spn.fin; simp only; omega), Nat.le_trans (Spn.add_len _ _) (by have := HR.out.short; omega), Spn.fine_next HS.out HR.out.fine ?_⟩
            unfold Spn.bad Spn.fin
            simp only
            rw [decide_eq_false_iff_not]
            rintro ⟨q1, q2, q3⟩
            exact absurd q1 (of_decide_eq_false w1')
        case' inr.inr.inr.inr =>
          go_roundw
          case measure => simp [intOf]; omega
          case rel =>
            have hb4 := of_decide_eq_false w4'
            have hbk : Spn.back a N ⟨s0, s1⟩ = ⟨s0, s1⟩ := by unfold Spn.back; simp only; rw [if_neg hb4]
            refine ⟨i + 1, _, _, rfl, by go_num, by rw [HK.out]; omega, HO5.out, HB.out.trans (Spn.grown_base HO.out Hg5.out HB.out.size), by rw [Spn.shuts_next _ _ _ _ _ HS.out, ← HR.out.eq, hbk],
              Spn.fits_add HR.out.fits (by simp only; omega) (by unfold Spn.fin; simp only; omega), Nat.le_trans (Spn.add_len _ _) (by have := HR.out.short; omega), Spn.fine_next HS.out HR.out.fine ?_⟩
            unfold Spn.bad Spn.fin
            simp only
            rw [decide_eq_false_iff_not]
            rintro ⟨q1, q2, q3⟩
            exact absurd q3 (of_decide_eq_false w3')
        case' inl =>
          go_ret2
          refine ⟨_, false, rfl, ?_, Spn.own_nil _ _, HB.out⟩
          have : l.any (Spn.bad a N) = true := by
            rw [List.any_eq_true]
            exact ⟨⟨s0, s1⟩, List.mem_of_getElem? HS.out, decide_eq_true ⟨of_decide_eq_true w1', of_decide_eq_true w2', of_decide_eq_true w3'⟩⟩
          rw [this]; rfl
      · have hiL : i = L := by omega
        have d6 : decide ((i : Int) < (L : Int)) = false := decide_eq_false (by omega)
        clear hKl
        go_wp2
        go_ret2
        have h1 := HR.out.own
        have h2 := HR.out.fine
        rw [HR.out.eq, hiL, ← HK.out, List.take_length] at h1
        rw [hiL, ← HK.out, List.take_length] at h2
        have h3 : l.any (Spn.bad a N) = false := by
          rw [List.any_eq_false]
          intro s hs
          rw [h2 s hs]; simp
        exact ⟨_, true, rfl, by rw [h3]; rfl, h1, HR.out.bel⟩
end Go.Proofs.Ytihdcglkmilckaa
