/- The walk of law07.SpansNorm. -/
import Derived.Test.YtihdcglkmilckaaNrmH
import Derived.Test.YtihdcglkmilckaaNrmG
import Derived.Test.YtihdcglkmilckaaSpnZ
namespace Go.Proofs.Ytihdcglkmilckaa
open Go.RowKit

namespace Spn
open PSpansOpen Go.Proofs.YtihdcglkmilckaaW.PrintWords
theorem norm_may (l : List Span) (L : Nat) (hL : l.length = L) (A : Option Addr) (c : Nat) (w : World) (hC : Kd.C k42 w A l.length l) (hc : l.length ≤ c) (hl : l.length ≤ 100000) :
    Calls Try.prog 27 #[.slice A L c] w fun e w' => e = .returned (.bool (may l)) ∧ Below w.heap.size w w' := by
  have := spans_May.calls _ A c l _ w hC hc (spans_may l hl (l.length + 1) (by omega))
  rw [hL] at this; exact this
theorem norm_refmay (l : List Span) (L : Nat) (hL : l.length = L) (A : Option Addr) (c : Nat) (w : World) (hC : Kd.C k42 w A l.length l) (hc : l.length ≤ c) (hl : l.length ≤ 100000) :
    Calls Try.prog 10 #[.slice A L c] w fun e w' => e = .returned (.bool (may l)) ∧ Below w.heap.size w w' := by
  have := foolscapref07_May.calls _ A c l _ w hC hc (ref_may l hl (l.length + 1) (by omega))
  rw [hL] at this
  exact this.mono fun e w' ⟨he, ⟨k, hk⟩⟩ => ⟨he, by rw [hk]; exact Mem.below_drewN (Below.refl _ _) _⟩
/-- the reference's Norm -/
theorem ref_norm (l : List Span) (A : Option Addr) (c : Nat) (w : World) (hC : Kd.C k42 w A l.length l) (hc : l.length ≤ c) (hl : l.length ≤ 100000) :
    Calls Try.prog 26 #[.slice A l.length c] w fun e w' =>
      ∃ (v : Value) (Y : List Span), e = .returned (.tuple #[v, .bool (okAll l)]) ∧ Own w' w.heap.size v Y ∧ (okAll l = true → may Y = true ∧ ∀ p, has Y p = has l p) ∧ (okAll l = false → Y = []) ∧ Below w.heap.size w w' := by
  obtain ⟨K1, out, h1, h2⟩ := marks_all l hl
  cases hB : okAll l with
  | false =>
    rw [hB] at h1
    have hf : foolscapref07_Norm.f K1 l = some ([], false) := by
      unfold foolscapref07_Norm.f
      have := h1 0
      rw [Nat.zero_add] at this
      rw [this]
      rfl
    refine (foolscapref07_Norm.calls K1 A c l _ _ w hC hc hf).mono ?_
    rintro e w' ⟨v, he, hr, hb⟩
    exact ⟨v, [], he, own_of_R hr, fun h => (by cases h), fun _ => rfl, hb⟩
  | true =>
    obtain ⟨hm, hp⟩ := h2 hB
    rw [hB] at h1
    obtain ⟨K2, r, h3, h4, h5⟩ := made_all l hB out hm hp
    have hf : foolscapref07_Norm.f (K2 + K1) l = some (r, true) := by
      unfold foolscapref07_Norm.f
      rw [h1 K2]
      have := h3 K1
      rw [Nat.add_comm] at this
      simp only [Option.bind_some, if_true]
      rw [this]
      rfl
    refine (foolscapref07_Norm.calls (K2 + K1) A c l _ _ w hC hc hf).mono ?_
    rintro e w' ⟨v, he, hr, hb⟩
    exact ⟨v, r, he, own_of_R hr, fun _ => ⟨h4, h5⟩, fun h => (by cases h), hb⟩
end Spn
open PSpansOpen

set_option maxRecDepth 100000 in
set_option maxHeartbeats 4000000 in
theorem spansNorm_main (l : List Spn.Span) (L : Nat) (A : Option Addr) (c : Nat) (w : World) (hC : Go.Proofs.YtihdcglkmilckaaW.PrintWords.Kd.C k42 w A l.length l) (hc : l.length ≤ c) (hL : l.length = L) :
    Calls Try.prog 7 #[.slice A L c] w fun e w' => e = .returned (.bool true) ∧ Below w.heap.size w w' := by
  have HF := Lib.hid (Spn.All.one hC)
  have HL := Lib.hid hL
  have Hc := Lib.hid hc
  have hG := fun w1 => law_great l A c w1
  rw [hL] at hG
  by_cases hbig : 60 < L
  · rw [decide_eq_true hbig] at hG
    have HG := Lib.hid hG
    clear hC hc hL hG
    go_enter Try.func7, Try.ntmps7
    go_wp2_with (first
      | (go_at_call 8
         refine (law_alive _).mono ?_
         rintro e w1 ⟨rfl, hb1⟩
         have HB := Lib.hid hb1
         clear hb1)
      | (go_at_call 9
         refine (HG.out _).mono ?_
         rintro e w2 ⟨rfl, rfl⟩))
    go_ret
    exact ⟨rfl, HB.out⟩
  · rw [decide_eq_false hbig] at hG
    have HG := Lib.hid hG
    have hsmall : l.length ≤ 60 := by omega
    have Hs := Lib.hid hsmall
    have hN1 := fun w1 h1 => spans_norm l L hL A c w1 h1 hc (by omega)
    have hN2 := fun w1 h1 => Spn.ref_norm l A c w1 h1 hc (by omega)
    have hM1 := fun w1 h1 => Spn.norm_may l L hL A c w1 h1 hc (by omega)
    have hM2 := fun w1 h1 => Spn.norm_refmay l L hL A c w1 h1 hc (by omega)
    unfold Spn.NormPost at hN1
    rw [hL] at hN2
    obtain ⟨B, hB⟩ : ∃ B, Spn.okAll l = B := ⟨_, rfl⟩
    rw [hB] at hN1 hN2
    obtain ⟨Y, hY⟩ : ∃ Y, Spn.may l = Y := ⟨_, rfl⟩
    rw [hY] at hM1 hM2
    have HY := Lib.hid hY
    have HM1 := Lib.hid hM1
    have HM2 := Lib.hid hM2
    clear hY hM1 hM2 hB hC hG hc hsmall
    cases B with
    | false =>
      have HN1 := Lib.hid (fun w1 h1 => (hN1 w1 h1).mono (R' := fun e w' => ∃ v : Value, e = .returned (.tuple #[v, .int .i64 1]) ∧ Spn.Own w' w1.heap.size v [] ∧ Below w1.heap.size w1 w') (by
        rintro e w' ⟨v, X, he, ho, -, -, hx, hb⟩
        obtain rfl := hx rfl
        exact ⟨v, he, ho, hb⟩))
      have HN2 := Lib.hid (fun w1 h1 => (hN2 w1 h1).mono (R' := fun e w' => ∃ v : Value, e = .returned (.tuple #[v, .bool false]) ∧ Spn.Own w' w1.heap.size v [] ∧ Below w1.heap.size w1 w') (by
        rintro e w' ⟨v, X, he, ho, -, hx, hb⟩
        obtain rfl := hx rfl
        exact ⟨v, he, ho, hb⟩))
      clear hN1 hN2 hL
      go_enter Try.func7, Try.ntmps7
      go_wp2_with (first
        | (go_at_call 8
           refine (law_alive _).mono ?_
           rintro e w1 ⟨rfl, hb1⟩
           have HF1 := Lib.hid (HF.out.below hb1)
           have HB := Lib.hid hb1
           clear hb1 HF)
        | (go_at_call 9
           refine (HG.out _).mono ?_
           rintro e w2 ⟨rfl, rfl⟩)
        | (go_at_call 25
           refine (HN1.out _ (HF1.out.get (A := A) (l := l) (by simp))).mono ?_
           rintro e w2 ⟨v2, rfl, ho2, hb2⟩
           obtain ⟨A2, c2, rfl, hc2, _⟩ := Spn.own_form ho2
           have HF2 := Lib.hid (HF1.out.more hb2 ho2)
           have HBn := Lib.hid (Mem.then_ HB.out hb2)
           clear ho2 hb2 hc2 HF1 HB
           have HB := HBn
           clear HBn)
        | (go_at_call 26
           refine (HN2.out _ (by have h := HF2.out.get (A := A) (l := l) (by simp); rw [HL.out] at h; exact h)).mono ?_
           rintro e w3 ⟨v3, rfl, ho3, hb3⟩
           obtain ⟨A3, c3, rfl, hc3, _⟩ := Spn.own_form ho3
           have HF3 := Lib.hid (HF2.out.more hb3 ho3)
           have HBn := Lib.hid (Mem.then_ HB.out hb3)
           clear ho3 hb3 hc3 HF2 HB
           have HB := HBn
           clear HBn)
        | (go_at_call 27
           refine (HM1.out _ (HF3.out.get (A := A) (l := l) (by simp))).mono ?_
           rintro e w4 ⟨rfl, hb4⟩
           have HF4 := Lib.hid (HF3.out.below hb4)
           have HBn := Lib.hid (Mem.then_ HB.out hb4)
           clear hb4 HF3 HB
           have HB := HBn
           clear HBn)
        | (go_at_call 10
           refine (HM2.out _ (HF4.out.get (A := A) (l := l) (by simp))).mono ?_
           rintro e w5 ⟨rfl, hb5⟩
           have HF5 := Lib.hid (HF4.out.below hb5)
           have HBn := Lib.hid (Mem.then_ HB.out hb5)
           clear hb5 HF4 HB
           have HB := HBn
           clear HBn)
        | (go_at_call 20
           refine (ref_same [] [] A2 A3 c2 c3 _ (HF5.out.get (by simp)) (HF5.out.get (by simp)) (by simp)).mono ?_
           rw [decide_eq_true rfl]
           rintro e w6 ⟨rfl, hd6⟩
           have HBn := Lib.hid (HB.out.trans (hd6.below _))
           clear hd6 HF5 HB
           have HB := HBn
           clear HBn))
      go_ret
      exact ⟨rfl, HB.out⟩
    | true =>
      have HN1 := Lib.hid (fun w1 h1 => (hN1 w1 h1).mono (R' := fun e w' => ∃ (v : Value) (X : List Spn.Span), e = .returned (.tuple #[v, .int .i64 0]) ∧ Spn.Own w' w1.heap.size v X ∧ X.length ≤ l.length ∧ Spn.may X = true ∧ (∀ p, Spn.has X p = Spn.has l p) ∧ Below w1.heap.size w1 w') (by
        rintro e w' ⟨v, X, he, ho, hx, hm, -, hb⟩
        exact ⟨v, X, he, ho, hx, (hm rfl).1, (hm rfl).2, hb⟩))
      have HN2 := Lib.hid (fun w1 h1 => (hN2 w1 h1).mono (R' := fun e w' => ∃ (v : Value) (X : List Spn.Span), e = .returned (.tuple #[v, .bool true]) ∧ Spn.Own w' w1.heap.size v X ∧ Spn.may X = true ∧ (∀ p, Spn.has X p = Spn.has l p) ∧ Below w1.heap.size w1 w') (by
        rintro e w' ⟨v, X, he, ho, hm, -, hb⟩
        exact ⟨v, X, he, ho, (hm rfl).1, (hm rfl).2, hb⟩))
      clear hN1 hN2 hL
      cases Y with
      | true =>
        go_enter Try.func7, Try.ntmps7
        go_wp2_with (first
          | (go_at_call 8
             refine (law_alive _).mono ?_
             rintro e w1 ⟨rfl, hb1⟩
             have HF1 := Lib.hid (HF.out.below hb1)
             have HB := Lib.hid hb1
             clear hb1 HF)
          | (go_at_call 9
             refine (HG.out _).mono ?_
             rintro e w2 ⟨rfl, rfl⟩)
          | (go_at_call 25
             refine (HN1.out _ (HF1.out.get (A := A) (l := l) (by simp))).mono ?_
             rintro e w2 ⟨v2, X, rfl, ho2, hxl, hxm, hxh, hb2⟩
             obtain ⟨A2, c2, rfl, hc2, _⟩ := Spn.own_form ho2
             have HF2 := Lib.hid (HF1.out.more hb2 ho2)
             have HXl := Lib.hid hxl
             have HXm := Lib.hid hxm
             have HXh := Lib.hid hxh
             have Hc2 := Lib.hid hc2
             have HBn := Lib.hid (Mem.then_ HB.out hb2)
             clear ho2 hb2 hc2 hxl hxm hxh HF1 HB
             have HB := HBn
             clear HBn)
          | (go_at_call 26
             refine (HN2.out _ (by have h := HF2.out.get (A := A) (l := l) (by simp); rw [HL.out] at h; exact h)).mono ?_
             rintro e w3 ⟨v3, X3, rfl, ho3, hym, hyh, hb3⟩
             obtain rfl : X3 = X := Spn.told (last := -1) (last' := -1) hym HXm.out (fun p => (hyh p).trans (HXh.out p).symm)
             obtain ⟨A3, c3, rfl, hc3, _⟩ := Spn.own_form ho3
             have HF3 := Lib.hid (HF2.out.more hb3 ho3)
             have HBn := Lib.hid (Mem.then_ HB.out hb3)
             clear ho3 hb3 hc3 hym hyh HF2 HB
             have HB := HBn
             clear HBn)
          | (go_at_call 27
             with_reducible refine (HM1.out _ (HF3.out.get (A := A) (l := l) (by simp))).mono ?_
             rintro e w4 ⟨rfl, hb4⟩
             have HF4 := Lib.hid (HF3.out.below hb4)
             have HBn := Lib.hid (Mem.then_ HB.out hb4)
             clear hb4 HF3 HB
             have HB := HBn
             clear HBn)
          | (go_at_call 10
             with_reducible refine (HM2.out _ (HF4.out.get (A := A) (l := l) (by simp))).mono ?_
             rintro e w5 ⟨rfl, hb5⟩
             have HF5 := Lib.hid (HF4.out.below hb5)
             have HBn := Lib.hid (Mem.then_ HB.out hb5)
             clear hb5 HF4 HB
             have HB := HBn
             clear HBn)
          | (go_at_call 20
             with_reducible refine (ref_same X3 X3 A2 A3 c2 c3 _ (HF5.out.get (by simp)) (HF5.out.get (by simp)) (by have := HXl.out; have := Hs.out; omega)).mono ?_
             rw [decide_eq_true rfl]
             rintro e w6 ⟨rfl, hd6⟩
             have HF6 := Lib.hid (HF5.out.drawn hd6)
             have HBn := Lib.hid (HB.out.trans (hd6.below _))
             clear hd6 HF5 HB
             have HB := HBn
             clear HBn)
          | (go_at_call 27
             with_reducible refine (Spn.norm_may X3 _ rfl A2 c2 _ (HF6.out.get (by simp)) Hc2.out (by have := HXl.out; have := Hs.out; omega)).mono ?_
             rw [HXm.out]
             rintro e w7 ⟨rfl, hb7⟩
             have HF7 := Lib.hid (HF6.out.below hb7)
             have HBn := Lib.hid (Mem.then_ HB.out hb7)
             clear hb7 HF6 HB
             have HB := HBn
             clear HBn)
          | (go_at_call 10
             with_reducible refine (HM2.out _ (HF7.out.get (A := A) (l := l) (by simp))).mono ?_
             rintro e w8 ⟨rfl, hb8⟩
             have HF8 := Lib.hid (HF7.out.below hb8)
             have HBn := Lib.hid (Mem.then_ HB.out hb8)
             clear hb8 HF7 HB
             have HB := HBn
             clear HBn)
          | (go_at_call 20
             have hXL : X3 = l := Spn.told (last := -1) (last' := -1) HXm.out HY.out HXh.out
             refine (show Calls Try.prog 20 #[.slice A2 X3.length c2, .slice A L c] _ _ by
               have h := ref_same X3 l A2 A c2 c _ (HF8.out.get (by simp)) (HF8.out.get (by simp)) (by have := HXl.out; have := Hs.out; omega)
               rw [decide_eq_true hXL] at h
               rw [HL.out] at h
               exact h).mono ?_
             rintro e w9 ⟨rfl, hd9⟩
             have HBn := Lib.hid (HB.out.trans (hd9.below _))
             clear hd9 HF8 HB hXL
             have HB := HBn
             clear HBn))
        go_ret
        exact ⟨rfl, HB.out⟩
      | false =>
        go_enter Try.func7, Try.ntmps7
        go_wp2_with (first
          | (go_at_call 8
             refine (law_alive _).mono ?_
             rintro e w1 ⟨rfl, hb1⟩
             have HF1 := Lib.hid (HF.out.below hb1)
             have HB := Lib.hid hb1
             clear hb1 HF)
          | (go_at_call 9
             refine (HG.out _).mono ?_
             rintro e w2 ⟨rfl, rfl⟩)
          | (go_at_call 25
             refine (HN1.out _ (HF1.out.get (A := A) (l := l) (by simp))).mono ?_
             rintro e w2 ⟨v2, X, rfl, ho2, hxl, hxm, hxh, hb2⟩
             obtain ⟨A2, c2, rfl, hc2, _⟩ := Spn.own_form ho2
             have HF2 := Lib.hid (HF1.out.more hb2 ho2)
             have HXl := Lib.hid hxl
             have HXm := Lib.hid hxm
             have HXh := Lib.hid hxh
             have Hc2 := Lib.hid hc2
             have HBn := Lib.hid (Mem.then_ HB.out hb2)
             clear ho2 hb2 hc2 hxl hxm hxh HF1 HB
             have HB := HBn
             clear HBn)
          | (go_at_call 26
             refine (HN2.out _ (by have h := HF2.out.get (A := A) (l := l) (by simp); rw [HL.out] at h; exact h)).mono ?_
             rintro e w3 ⟨v3, X3, rfl, ho3, hym, hyh, hb3⟩
             obtain rfl : X3 = X := Spn.told (last := -1) (last' := -1) hym HXm.out (fun p => (hyh p).trans (HXh.out p).symm)
             obtain ⟨A3, c3, rfl, hc3, _⟩ := Spn.own_form ho3
             have HF3 := Lib.hid (HF2.out.more hb3 ho3)
             have HBn := Lib.hid (Mem.then_ HB.out hb3)
             clear ho3 hb3 hc3 hym hyh HF2 HB
             have HB := HBn
             clear HBn)
          | (go_at_call 27
             with_reducible refine (HM1.out _ (HF3.out.get (A := A) (l := l) (by simp))).mono ?_
             rintro e w4 ⟨rfl, hb4⟩
             have HF4 := Lib.hid (HF3.out.below hb4)
             have HBn := Lib.hid (Mem.then_ HB.out hb4)
             clear hb4 HF3 HB
             have HB := HBn
             clear HBn)
          | (go_at_call 10
             with_reducible refine (HM2.out _ (HF4.out.get (A := A) (l := l) (by simp))).mono ?_
             rintro e w5 ⟨rfl, hb5⟩
             have HF5 := Lib.hid (HF4.out.below hb5)
             have HBn := Lib.hid (Mem.then_ HB.out hb5)
             clear hb5 HF4 HB
             have HB := HBn
             clear HBn)
          | (go_at_call 20
             with_reducible refine (ref_same X3 X3 A2 A3 c2 c3 _ (HF5.out.get (by simp)) (HF5.out.get (by simp)) (by have := HXl.out; have := Hs.out; omega)).mono ?_
             rw [decide_eq_true rfl]
             rintro e w6 ⟨rfl, hd6⟩
             have HF6 := Lib.hid (HF5.out.drawn hd6)
             have HBn := Lib.hid (HB.out.trans (hd6.below _))
             clear hd6 HF5 HB
             have HB := HBn
             clear HBn)
          | (go_at_call 27
             with_reducible refine (Spn.norm_may X3 _ rfl A2 c2 _ (HF6.out.get (by simp)) Hc2.out (by have := HXl.out; have := Hs.out; omega)).mono ?_
             rw [HXm.out]
             rintro e w7 ⟨rfl, hb7⟩
             have HF7 := Lib.hid (HF6.out.below hb7)
             have HBn := Lib.hid (Mem.then_ HB.out hb7)
             clear hb7 HF6 HB
             have HB := HBn
             clear HBn)
          | (go_at_call 10
             with_reducible refine (HM2.out _ (HF7.out.get (A := A) (l := l) (by simp))).mono ?_
             rintro e w8 ⟨rfl, hb8⟩
             have HF8 := Lib.hid (HF7.out.below hb8)
             have HBn := Lib.hid (Mem.then_ HB.out hb8)
             clear hb8 HF7 HB
             have HB := HBn
             clear HBn))
        go_ret
        exact ⟨rfl, HB.out⟩

theorem spansNorm_walk (a0 : Option Addr) (len0 cap0 : Nat) (w : World) (h0 : ∃ (H : Type) (enc : TypeId × Value → H) (d : DataW H) (p : List MemPlace), DataW.Trod enc Try.prog w 0 (fun _ => true) true 22 (.slice a0 len0 cap0) d p) :
    Calls Try.prog 7 #[.slice a0 len0 cap0] w fun e w' => e = .returned (.bool true) ∧ Below w.heap.size w w' := by
  obtain ⟨H, enc, d, p, h⟩ := h0
  obtain ⟨l, hl, hc, hC⟩ := Spn.arg_spans h
  exact spansNorm_main l len0 a0 cap0 w hC (by omega) hl
end Go.Proofs.Ytihdcglkmilckaa
