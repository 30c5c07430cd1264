/- The walk of law07.SpansAsk. -/
import Derived.Test.YtihdcglkmilckaaSpnH
import Derived.Test.YtihdcglkmilckaaSpnZ
namespace Go.Proofs.Ytihdcglkmilckaa
open Go.RowKit

open PSpansOpen
namespace Spn
open Go.Proofs.YtihdcglkmilckaaW.PrintWords
theorem contracts_total (l : List Span) (L : Nat) (hL : l.length = L) (A : Option Addr) (c : Nat) (w : World) (hC : Kd.C k42 w A l.length l) (hc : l.length ≤ c) (hl : l.length ≤ 100000) :
    Calls Try.prog 11 #[.slice A L c] w fun e w' => e = .returned (.int .i64 (if may l then total l else 0)) ∧ Below w.heap.size w w' := by
  have := spans_Total.calls _ A c l _ w hC hc (spans_total l hl (l.length + 1) (by omega))
  rw [hL] at this; exact this
theorem contracts_ahead (l : List Span) (L : Nat) (hL : l.length = L) (A : Option Addr) (c : Nat) (p : Int) (w : World) (hC : Kd.C k42 w A l.length l) (hc : l.length ≤ c) (hl : l.length ≤ 100000) :
    Calls Try.prog 13 #[.slice A L c, .int .i64 p] w fun e w' => e = .returned (.int .i64 (if may l then ahead l p else 0)) ∧ Below w.heap.size w w' := by
  have := spans_Ahead.calls _ A c l p _ w hC hc (spans_ahead l hl p (l.length + 1) (by omega))
  rw [hL] at this; exact this
theorem contracts_refmay (l : List Span) (L : Nat) (hL : l.length = L) (A : Option Addr) (c : Nat) (w : World) (hC : Kd.C k42 w A l.length l) (hc : l.length ≤ c) (hl : l.length ≤ 100000) :
    Calls Try.prog 10 #[.slice A L c] w fun e w' => e = .returned (.bool (may l)) ∧ Below w.heap.size w w' := by
  have := foolscapref07_May.calls _ A c l _ w hC hc (ref_may l hl (l.length + 1) (by omega))
  rw [hL] at this
  exact this.mono fun e w' ⟨he, ⟨k, hk⟩⟩ => ⟨he, by rw [hk]; exact Mem.below_drewN (Below.refl _ _) _⟩
end Spn

set_option maxRecDepth 100000 in
set_option maxHeartbeats 2000000 in
theorem spansAsk_main (l : List Spn.Span) (L : Nat) (A : Option Addr) (c : Nat) (p : Int) (w : World) (hC : Go.Proofs.YtihdcglkmilckaaW.PrintWords.Kd.C k42 w A l.length l) (hc : l.length ≤ c) (hL : l.length = L) :
    Calls Try.prog 3 #[.slice A L c, .int .i64 p] w fun e w' => e = .returned (.bool true) ∧ Below w.heap.size w w' := by
  have HC := Lib.hid hC
  have hG := fun w1 => law_great l A c w1
  rw [hL] at hG
  by_cases hbig : 60 < L
  · rw [decide_eq_true hbig] at hG
    have HG := Lib.hid hG
    clear hC hc hL hG
    go_enter Try.func3, Try.ntmps3
    go_wp2_with (first
      | (go_at_call 8
         refine (law_alive _).mono ?_
         rintro e w1 ⟨rfl, hb1⟩
         have HB := Lib.hid hb1
         clear hb1)
      | (go_at_call 9
         refine (HG.out _).mono ?_
         rintro e w2 ⟨rfl, rfl⟩))
    go_ret
    exact ⟨rfl, HB.out⟩
  · rw [decide_eq_false hbig] at hG
    have hs : l.length ≤ 100000 := by omega
    have hs2 : L ≤ 100000 := by omega
    have hT := fun w1 h1 => Spn.contracts_total l L hL A c w1 h1 hc hs
    have hA := fun w1 h1 => Spn.contracts_ahead l L hL A c p w1 h1 hc hs
    have hH := fun w1 h1 => spans_has l L hL A c p w1 h1 hc hs
    have hM := fun w1 h1 => Spn.contracts_refmay l L hL A c w1 h1 hc hs
    have hRA := fun q w1 h1 hm => ref_ahead l L hL A c q w1 h1 hc hs hm
    have hRH := fun w1 h1 hm => ref_has l L hL A c p w1 h1 hm hs2
    have HG := Lib.hid hG
    cases hm : Spn.may l with
    | false =>
      rw [hm] at hT hA hH hM
      simp only [Bool.false_eq_true, if_false, Bool.false_and] at hT hA hH
      have HT := Lib.hid hT
      have HA := Lib.hid hA
      have HH := Lib.hid hH
      have HM := Lib.hid hM
      clear hC hc hL hG hs hs2 hT hA hH hM hRA hRH hm
      go_enter Try.func3, Try.ntmps3
      go_wp2_with (first
        | (go_at_call 8
           refine (law_alive _).mono ?_
           rintro e w1 ⟨rfl, hb1⟩
           have HB := Lib.hid hb1
           clear hb1)
        | (go_at_call 9
           refine (HG.out _).mono ?_
           rintro e w2 ⟨rfl, rfl⟩)
        | (go_at_call 10
           with_reducible refine (HM.out _ (Go.Proofs.YtihdcglkmilckaaW.PrintWords.Kd.C_below HC.out HB.out)).mono ?_
           rintro e w2 ⟨rfl, hb2⟩
           have HBn := Lib.hid (Mem.then_ HB.out hb2)
           clear hb2 HB
           have HB := HBn
           clear HBn)
        | (go_at_call 11
           with_reducible refine (HT.out _ (Go.Proofs.YtihdcglkmilckaaW.PrintWords.Kd.C_below HC.out HB.out)).mono ?_
           rintro e w2 ⟨rfl, hb2⟩
           have HBn := Lib.hid (Mem.then_ HB.out hb2)
           clear hb2 HB
           have HB := HBn
           clear HBn)
        | (go_at_call 12
           with_reducible refine (HH.out _ (Go.Proofs.YtihdcglkmilckaaW.PrintWords.Kd.C_below HC.out HB.out)).mono ?_
           rintro e w2 ⟨rfl, hb2⟩
           have HBn := Lib.hid (Mem.then_ HB.out hb2)
           clear hb2 HB
           have HB := HBn
           clear HBn)
        | (go_at_call 13
           with_reducible refine (HA.out _ (Go.Proofs.YtihdcglkmilckaaW.PrintWords.Kd.C_below HC.out HB.out)).mono ?_
           rintro e w2 ⟨rfl, hb2⟩
           have HBn := Lib.hid (Mem.then_ HB.out hb2)
           clear hb2 HB
           have HB := HBn
           clear HBn))
      go_ret
      exact ⟨rfl, HB.out⟩
    | true =>
      rw [hm] at hT hA hH hM
      simp only [if_true, Bool.true_and] at hT hA hH
      have hRA1 := fun w1 h1 => hRA 20000 w1 h1 hm
      have hRA2 := fun w1 h1 => hRA p w1 h1 hm
      have hRH1 := fun w1 h1 => hRH w1 h1 hm
      rw [Spn.ahead_total (last := -1) hm (by omega)] at hRA1
      have HT := Lib.hid hT
      have HA := Lib.hid hA
      have HH := Lib.hid hH
      have HM := Lib.hid hM
      have HRA1 := Lib.hid hRA1
      have HRA2 := Lib.hid hRA2
      have HRH1 := Lib.hid hRH1
      clear hC hc hL hG hs hs2 hT hA hH hM hRA hRH hm hRA1 hRA2 hRH1
      go_enter Try.func3, Try.ntmps3
      go_wp2_with (first
        | (go_at_call 8
           refine (law_alive _).mono ?_
           rintro e w1 ⟨rfl, hb1⟩
           have HB := Lib.hid hb1
           clear hb1)
        | (go_at_call 9
           refine (HG.out _).mono ?_
           rintro e w2 ⟨rfl, rfl⟩)
        | (go_at_call 10
           with_reducible refine (HM.out _ (Go.Proofs.YtihdcglkmilckaaW.PrintWords.Kd.C_below HC.out HB.out)).mono ?_
           rintro e w2 ⟨rfl, hb2⟩
           have HBn := Lib.hid (Mem.then_ HB.out hb2)
           clear hb2 HB
           have HB := HBn
           clear HBn)
        | (go_at_call 11
           with_reducible refine (HT.out _ (Go.Proofs.YtihdcglkmilckaaW.PrintWords.Kd.C_below HC.out HB.out)).mono ?_
           rintro e w2 ⟨rfl, hb2⟩
           have HBn := Lib.hid (Mem.then_ HB.out hb2)
           clear hb2 HB
           have HB := HBn
           clear HBn)
        | (go_at_call 14
           with_reducible refine (HRA1.out _ (Go.Proofs.YtihdcglkmilckaaW.PrintWords.Kd.C_below HC.out HB.out)).mono ?_
           rintro e w2 ⟨rfl, hb2⟩
           have HBn := Lib.hid (Mem.then_ HB.out hb2)
           clear hb2 HB
           have HB := HBn
           clear HBn)
        | (go_at_call 12
           with_reducible refine (HH.out _ (Go.Proofs.YtihdcglkmilckaaW.PrintWords.Kd.C_below HC.out HB.out)).mono ?_
           rintro e w2 ⟨rfl, hb2⟩
           have HBn := Lib.hid (Mem.then_ HB.out hb2)
           clear hb2 HB
           have HB := HBn
           clear HBn)
        | (go_at_call 15
           with_reducible refine (HRH1.out _ (Go.Proofs.YtihdcglkmilckaaW.PrintWords.Kd.C_below HC.out HB.out)).mono ?_
           rintro e w2 ⟨rfl, rfl⟩)
        | (go_at_call 13
           with_reducible refine (HA.out _ (Go.Proofs.YtihdcglkmilckaaW.PrintWords.Kd.C_below HC.out HB.out)).mono ?_
           rintro e w2 ⟨rfl, hb2⟩
           have HBn := Lib.hid (Mem.then_ HB.out hb2)
           clear hb2 HB
           have HB := HBn
           clear HBn)
        | (go_at_call 14
           with_reducible refine (HRA2.out _ (Go.Proofs.YtihdcglkmilckaaW.PrintWords.Kd.C_below HC.out HB.out)).mono ?_
           rintro e w2 ⟨rfl, hb2⟩
           have HBn := Lib.hid (Mem.then_ HB.out hb2)
           clear hb2 HB
           have HB := HBn
           clear HBn))
      go_ret
      exact ⟨rfl, HB.out⟩

theorem spansAsk_walk (a0 : Option Addr) (len0 cap0 : Nat) (a1 : Int) (w : World) (_wa1 : (Lit.int .i64 a1).wf = true) (h0 : ∃ (H : Type) (enc : TypeId × Value → H) (d : DataW H) (p : List MemPlace), DataW.Trod enc Try.prog w 0 (fun _ => true) true 22 (.slice a0 len0 cap0) d p) :
    Calls Try.prog 3 #[.slice a0 len0 cap0, .int .i64 a1] w fun e w' => e = .returned (.bool true) ∧ Below w.heap.size w w' := by
  obtain ⟨H, enc, d, p, h⟩ := h0
  obtain ⟨l, hl, hc, hC⟩ := Spn.arg_spans h
  exact spansAsk_main l len0 a0 cap0 a1 w hC (by omega) hl
end Go.Proofs.Ytihdcglkmilckaa
