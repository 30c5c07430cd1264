/- The walk of spans.Norm. -/
import Derived.Test.YtihdcglkmilckaaNrmF
namespace Go.Proofs.Ytihdcglkmilckaa
open Go.RowKit Go.Shelf

namespace Spn
open PSpansOpen Go.Proofs.YtihdcglkmilckaaW.PrintWords
theorem adds_next (l : List Span) (i : Nat) (s : Span) (h : l[i]? = some s) : adds (l.take (i + 1)) = add (adds (l.take i)) s := by
  obtain ⟨hi, rfl⟩ := List.getElem?_eq_some_iff.1 h
  rw [List.take_succ_eq_append_getElem hi, adds_snoc]
theorem all_next {l : List Span} {i : Nat} {s : Span} (h : l[i]? = some s) (hf : ∀ u ∈ l.take i, fitsB u = true) (hb : fitsB s = true) : ∀ u ∈ l.take (i + 1), fitsB u = true := by
  obtain ⟨hi, rfl⟩ := List.getElem?_eq_some_iff.1 h
  rw [List.take_succ_eq_append_getElem hi]
  intro u hu
  rcases List.mem_append.1 hu with hu | hu
  · exact hf u hu
  · obtain rfl : u = l[i] := by simpa using hu
    exact hb
/-- what is added behind i spans of a sorted row -/
structure NormAt (m : List Span) (w : World) (i : Nat) (out : List Span) (v : Value) (wr : World) : Prop where
  hi : i ≤ m.length
  own : Own wr w.heap.size v out
  bel : Below w.heap.size w wr
  eq : out = adds (m.take i)
  fits : Fits out
  short : out.length ≤ i
/-- what spans.Norm gives -/
def NormPost (l : List Span) (w : World) (e : Ending) (w' : World) : Prop :=
  ∃ (v : Value) (X : List Span), e = .returned (.tuple #[v, .int .i64 (if okAll l = true then 0 else 1)]) ∧ Own w' w.heap.size v X ∧ X.length ≤ l.length ∧ (okAll l = true → may X = true ∧ ∀ p, has X p = has l p) ∧ (okAll l = false → X = []) ∧ Below w.heap.size w w'
theorem norm_no {l : List Span} {w w' : World} (h : okAll l = false) (hb : Below w.heap.size w w') : NormPost l w (.returned (.tuple #[.slice none 0 0, .int .i64 1])) w' :=
  ⟨_, [], by rw [h, if_neg (by simp)], own_nil _ _, Nat.zero_le _, fun h2 => (by rw [h] at h2; cases h2), fun _ => rfl, hb⟩
theorem norm_yes {l m : List Span} {v : Value} {w w2 w' : World} (h : okAll l = true) (hm : ∀ s, s ∈ m ↔ s ∈ l) (hlen : m.length = l.length) (hs : m.Pairwise fun a b => a.f0 ≤ b.f0) (hb : Below w.heap.size w w2) (hN : NormAt m w2 m.length (adds m) v w') : NormPost l w (.returned (.tuple #[v, .int .i64 0])) w' := by
  have := sorted_adds h hm hs
  refine ⟨v, adds m, by rw [h, if_pos rfl], own_base hN.own hb.size, by rw [← hlen]; exact adds_len m, fun _ => this, fun h2 => ?_, hb.trans (hN.bel.mono hb.size)⟩
  rw [h] at h2
  cases h2
end Spn
open PSpansOpen

set_option maxRecDepth 100000 in
set_option maxHeartbeats 4000000 in
theorem spans_norm (l : List Spn.Span) (L : Nat) (hL : l.length = L) (A : Option Addr) (c : Nat) (w : World) (hC : Go.Proofs.YtihdcglkmilckaaW.PrintWords.Kd.C k42 w A l.length l) (hc : l.length ≤ c) (hl : l.length ≤ 10000) :
    Calls Try.prog 25 #[.slice A L c] w fun e w' => Spn.NormPost l w e w' := by
  have HC := Lib.hid hC
  have HK := Lib.hid hL
  have hK2 : (L : Int) ≤ 10000 := by omega
  have hcap : (L : Int) ≤ c := by omega
  clear hC hc hl hL
  go_enter Try.func25, Try.ntmps25
  go_wp2
  go_loopw [12] (fun t12 wr => ∃ i : Nat, t12 = .int .i64 i ∧ i ≤ L ∧ Below w.heap.size w wr ∧ ∀ s ∈ l.take i, Spn.fitsB s = true) (fun t12 _ => L - (intOf t12).toNat)
  case atStart => exact ⟨0, rfl, Nat.zero_le _, Below.refl _ _, fun s hs => by simp at hs⟩
  case round =>
    obtain ⟨i, rfl, hi, hb, hfit⟩ := hrel
    by_cases hlt : i < L
    · obtain ⟨s, hs⟩ := Spn.at_lt l i (by have := HK.out; omega)
      obtain ⟨b, off, rfl, hA⟩ := Spn.at_of HC.out (by have := HK.out; omega)
      obtain ⟨s0, s1⟩ := s
      have hcells := Spn.cells_below hA hb (Nat.le_refl _) i _ hs
      have c0 : wr.cell? ⟨b, off + i * 2, none⟩ = some (.int .i64 s0) := hcells.1
      have c1 : wr.cell? ⟨b, off + i * 2 + 1, none⟩ = some (.int .i64 s1) := hcells.2
      have d6 : decide ((i : Int) < (L : Int)) = true := decide_eq_true (by omega)
      have d7 : (i : Int) < (L : Int) := by omega
      have d8 : (0 : Int) ≤ (i : Int) := by omega
      have HS := Lib.hid hs
      have HB := Lib.hid hb
      have HF := Lib.hid hfit
      have hfe := Spn.fits_eval ⟨s0, s1⟩
      have HFE := Lib.hid (show spans_fits.f s0 s1 = some (Spn.fitsB ⟨s0, s1⟩) from hfe)
      clear hA hcells hs hb hfit hfe
      obtain ⟨B, hB⟩ : ∃ B, Spn.fitsB ⟨s0, s1⟩ = B := ⟨_, rfl⟩
      have HBv := Lib.hid hB
      rw [hB] at HFE
      clear hB
      cases B with
      | false =>
        go_wp2_with (go_at_call 39
                     refine (spans_fits.calls s0 s1 false _ HFE.out).mono ?_
                     rintro e w3 ⟨rfl, hb3⟩
                     have HB3 := Lib.hid hb3
                     clear hb3)
        go_ret2
        refine Spn.norm_no ?_ ((HB.out.alloc HB.out.size _).trans (HB3.out.mono (by have := HB.out.size; simp; omega)))
        cases hk : Spn.okAll l with
        | false => rfl
        | true => exact absurd (Spn.okAll_mem.1 hk _ (List.mem_of_getElem? HS.out)) (by rw [HBv.out]; simp)
      | true =>
        go_wp2_with (go_at_call 39
                     refine (spans_fits.calls s0 s1 true _ HFE.out).mono ?_
                     rintro e w3 ⟨rfl, hb3⟩
                     have HB3 := Lib.hid hb3
                     clear hb3)
        go_roundw
        case measure => simp [intOf]; omega
        case rel => exact ⟨i + 1, by go_num, hlt, (HB.out.alloc HB.out.size _).trans (HB3.out.mono (by have := HB.out.size; simp; omega)), Spn.all_next HS.out HF.out HBv.out⟩
    · have hiL : i = L := by omega
      subst hiL
      have hok : Spn.okAll l = true := Spn.okAll_mem.2 (by rw [← HK.out, List.take_length] at hfit; exact hfit)
      have HOK := Lib.hid hok
      have HB := Lib.hid hb
      have d6 : decide ((i : Int) < (i : Int)) = false := decide_eq_false (by omega)
      clear hfit hok hb
      have hvi : ∀ w', Calls Try.prog 41 #[.slice A i c] w' fun e w'' => e = .returned (.func (.func 50) #[] #[.pointer (some ⟨w'.heap.size, 0, none⟩)]) ∧ w'' = w'.alloc (.cells #[.slice A i c] 22) := fun w' => callsIn_wide.1 (values_in 5 A i c w')
      have hLow : ∀ w', Below w.heap.size w w' → Spn.Low w' w.heap.size A l := fun w' h => ⟨by have := HK.out; omega, fun hn => by
        obtain ⟨b, off, hA1, hA2⟩ := Spn.at_of HC.out (by cases l with | nil => exact absurd rfl hn | cons _ _ => simp)
        exact ⟨b, off, hA1, block_lt_of_cell (hA2 0 _ (List.getElem?_eq_getElem (by cases l with | nil => exact absurd rfl hn | cons _ _ => simp))).1, Spn.cells_below hA2 h (Nat.le_refl _)⟩⟩
      have HLow := Lib.hid hLow
      clear hLow
      go_wp2_with (first
        | (go_at_call 41
           refine (hvi _).mono ?_
           rintro e w3 ⟨rfl, hw3⟩
           have HW3 := Lib.hid hw3
           have HB3 := Lib.hid (show Below w.heap.size w w3 by rw [hw3]; exact HB.out.alloc HB.out.size _)
           clear hw3)
        | (go_at_call 40
           refine (sorted_func wr.heap.size w.heap.size c A l w3 (by rw [HK.out, HW3.out]; exact heap_alloc_new _ _) (HLow.out w3 HB3.out) HB3.out.size).mono ?_
           rintro e w4 ⟨v, m, rfl, h1, h2, h3, h4, h5⟩
           obtain ⟨A1, c1, rfl, hc1, -⟩ := Spn.own_form h4
           have H1 := Lib.hid h1
           have H2 := Lib.hid h2
           have H3 := Lib.hid h3
           have H4 := Lib.hid h4
           have HB4 := Lib.hid (HB3.out.trans (h5.mono HB3.out.size))
           obtain ⟨M, hM⟩ : ∃ M, m.length = M := ⟨_, rfl⟩
           rw [hM] at hc1
           rw [hM]
           have HM := Lib.hid hM
           have hM2 : (M : Int) ≤ 10000 := by have := HK.out; omega
           have hcap1 : (M : Int) ≤ c1 := by omega
           clear h1 h2 h3 h4 h5 hM hc1))
      clear hvi HLow
      go_loopw [7, 25] (fun t7 t25 wq => ∃ (k : Nat) (out : List Spn.Span) (v : Value), t7 = v ∧ t25 = .int .i64 k ∧ Spn.NormAt m w4 k out v wq) (fun _ t25 _ => M - (intOf t25).toNat)
      case atStart => exact ⟨0, [], _, rfl, rfl, Nat.zero_le _, Spn.own_nil _ _, Below.refl _ _, rfl, Spn.fits_nil, by simp⟩
      case round =>
        obtain ⟨k, out, v, rfl, rfl, R⟩ := hrel
        have hk := R.hi
        rw [HM.out] at hk
        have HR := Lib.hid R
        clear R
        by_cases hlt : k < M
        · obtain ⟨s, hs⟩ := Spn.at_lt m k (by have := HM.out; omega)
          obtain ⟨s0, s1⟩ := s
          obtain ⟨g, cur, rfl, hg1, hg2, -, hg3, -, -⟩ := Spn.own_at (by have := H4.out; rw [HM.out] at this; exact HM.out ▸ this) (by have := HM.out; omega)
          have hg4 : g < w4.heap.size := (Array.getElem?_eq_some_iff.1 hg2).1
          obtain ⟨e0, e1⟩ := Spn.own_cell hg2 hg3 k _ hs
          have c0 : wr.cell? ⟨g, k * 2, none⟩ = some (.int .i64 s0) := (HR.out.bel.cell (p := ⟨g, k * 2, none⟩) hg4).trans e0
          have c1 : wr.cell? ⟨g, k * 2 + 1, none⟩ = some (.int .i64 s1) := (HR.out.bel.cell (p := ⟨g, k * 2 + 1, none⟩) hg4).trans e1
          have hft := Spn.fitsB_spec (Spn.okAll_mem.1 HOK.out _ ((H2.out _).1 (List.mem_of_getElem? hs)))
          simp only at hft
          have d6 : decide ((k : Int) < (M : Int)) = true := decide_eq_true (by omega)
          have d7 : (k : Int) < (M : Int) := by omega
          have d8 : (0 : Int) ≤ (k : Int) := by omega
          have HS := Lib.hid hs
          have HFt := Lib.hid hft
          have HO := Lib.hid (Spn.own_below HR.out.own ((Below.refl _ wr).alloc (Nat.le_refl _) (.cells #[.int .i64 s0, .int .i64 s1] 42)))
          have HB5 := Lib.hid (HR.out.bel.alloc HR.out.bel.size (.cells #[.int .i64 s0, .int .i64 s1] 42))
          clear hg1 hg2 hg3 hg4 e0 e1 hft hs
          go_wp2_with (go_at_call 33
                       refine (spans_add out s0 s1 u7 w4.heap.size _ HO.out (by have := HR.out.short; omega) (Spn.fits_last HR.out.fits) (by have := HFt.out; unfold Spn.Mild; simp only; omega) HB5.out.size).mono ?_
                       rintro e w5 ⟨v5, rfl, ho5, hg5, hat5⟩
                       have HO5 := Lib.hid ho5
                       have Hg5 := Lib.hid hg5
                       clear ho5 hg5 hat5)
          go_roundw
          case measure => simp [intOf]; omega
          case rel =>
            have := HFt.out
            exact ⟨k + 1, _, _, rfl, by go_num, by rw [HM.out]; omega, HO5.out, HB5.out.trans (Spn.grown_base HO.out Hg5.out HB5.out.size), by rw [Spn.adds_next _ _ _ HS.out, ← HR.out.eq],
              Spn.fits_add HR.out.fits (by simp only; omega) (by unfold Spn.fin; simp only; omega), Nat.le_trans (Spn.add_len _ _) (by have := HR.out.short; omega)⟩
        · have hkM : k = M := by omega
          have d7 : decide ((k : Int) < (M : Int)) = false := decide_eq_false (by omega)
          have hN : Spn.NormAt m w4 m.length (Spn.adds m) u7 wr := by
            have h := HR.out
            have he := h.eq
            rw [hkM, ← HM.out, List.take_length] at he
            rw [hkM, ← HM.out, he] at h
            exact h
          have HN := Lib.hid hN
          clear hN
          go_wp2
          go_ret2
          exact Spn.norm_yes HOK.out H2.out H1.out H3.out HB4.out HN.out
end Go.Proofs.Ytihdcglkmilckaa
