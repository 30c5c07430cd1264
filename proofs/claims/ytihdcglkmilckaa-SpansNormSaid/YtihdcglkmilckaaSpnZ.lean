/- The walk of law07.SpansOpen. -/
import Derived.Test.YtihdcglkmilckaaSpnX
import Derived.Test.YtihdcglkmilckaaSpnY
namespace Go.Proofs.Ytihdcglkmilckaa
open Go.RowKit

namespace Spn
open PSpansOpen Go.Proofs.YtihdcglkmilckaaW.PrintWords
/-- lists that are read, in a world -/
def All (fs : List (Option Addr × List Span)) (w : World) : Prop := ∀ f ∈ fs, Kd.C k42 w f.1 f.2.length f.2
theorem All.below {fs : List (Option Addr × List Span)} {w w1 : World} (h : All fs w) (hb : Below w.heap.size w w1) : All fs w1 := fun f hf => Kd.C_below (h f hf) hb
theorem All.drawn {fs : List (Option Addr × List Span)} {w w1 : World} (h : All fs w) (hb : Mem.Drawn w w1) : All fs w1 := h.below (hb.below _)
theorem All.more {fs : List (Option Addr × List Span)} {w w1 : World} {A : Option Addr} {c base : Nat} {l : List Span} (h : All fs w) (hb : Below w.heap.size w w1) (ho : Own w1 base (.slice A l.length c) l) : All ((A, l) :: fs) w1 := by
  intro f hf
  rcases List.mem_cons.1 hf with rfl | hf
  · exact own_reads ho
  · exact h.below hb f hf
theorem All.one {w : World} {A : Option Addr} {l : List Span} (h : Kd.C k42 w A l.length l) : All [(A, l)] w := by
  intro f hf
  obtain rfl : f = (A, l) := by simpa using hf
  exact h
theorem All.get {fs : List (Option Addr × List Span)} {w : World} (h : All fs w) {A : Option Addr} {l : List Span} (hm : (A, l) ∈ fs) : Kd.C k42 w A l.length l := h _ hm
theorem wf_i64 {n : Int} (h : (Lit.int .i64 n).wf = true) : -9223372036854775808 ≤ n ∧ n ≤ 9223372036854775807 := by simpa [Lit.wf, IntKind.min, IntKind.max, IntKind.signed, IntKind.bits] using h
theorem openL_len (l : List Span) (a n : Int) : (openL l a n).length ≤ 2 * l.length := by
  have key : ∀ (m : List Span) (o : List Span), (m.foldl (openStep a n) o).length ≤ o.length + 2 * m.length := by
    intro m
    induction m with
    | nil => intro o; simp
    | cons s m ih =>
      intro o
      rw [List.foldl_cons]
      refine Nat.le_trans (ih _) ?_
      have : (openStep a n o s).length ≤ o.length + 2 := by
        unfold openStep
        split
        · exact Nat.le_trans (add_len _ _) (Nat.succ_le_succ (add_len _ _))
        · exact Nat.le_trans (add_len _ _) (by omega)
      simp only [List.length_cons]; omega
  unfold openL
  split
  · have := key l []; unfold opens; simpa using this
  · simp
theorem shutL_len (l : List Span) (a n : Int) : (shutL l a n).length ≤ l.length := by
  have key : ∀ (m : List Span) (o : List Span), (m.foldl (shutStep a (min n 20000)) o).length ≤ o.length + m.length := by
    intro m
    induction m with
    | nil => intro o; simp
    | cons s m ih =>
      intro o
      rw [List.foldl_cons]
      refine Nat.le_trans (ih _) ?_
      have : (shutStep a (min n 20000) o s).length ≤ o.length + 1 := by unfold shutStep; exact add_len _ _
      simp only [List.length_cons]; omega
  unfold shutL
  split
  · have := key l []; unfold shuts; simpa using this
  · simp
end Spn
open PSpansOpen

set_option maxRecDepth 100000 in
set_option maxHeartbeats 4000000 in
theorem spansOpen_main (l : List Spn.Span) (L : Nat) (A : Option Addr) (c : Nat) (a n : Int) (w : World) (hC : Go.Proofs.YtihdcglkmilckaaW.PrintWords.Kd.C k42 w A l.length l) (hc : l.length ≤ c) (hL : l.length = L) (hn2 : n ≤ 9223372036854775807) :
    Calls Try.prog 4 #[.slice A L c, .int .i64 a, .int .i64 n] w fun e w' => e = .returned (.bool true) ∧ Below w.heap.size w w' := by
  have HF := Lib.hid (Spn.All.one hC)
  have HL := Lib.hid hL
  have Hc := Lib.hid hc
  have hG := fun w1 => law_great l A c w1
  rw [hL] at hG
  have Hn := Lib.hid hn2
  by_cases hbig : 60 < L
  · rw [decide_eq_true hbig] at hG
    have HG := Lib.hid hG
    clear hC hc hL hG hn2
    go_enter Try.func4, Try.ntmps4
    go_wp2_with (first
      | (go_at_call 8
         refine (law_alive _).mono ?_
         rintro e w1 ⟨rfl, hb1⟩
         have HB := Lib.hid hb1
         clear hb1)
      | (go_at_call 9
         refine (HG.out _).mono ?_
         rintro e w2 ⟨rfl, rfl⟩))
    go_ret
    exact ⟨rfl, HB.out⟩
  · rw [decide_eq_false hbig] at hG
    have HG := Lib.hid hG
    have hsmall : l.length ≤ 60 := by omega
    have Hs := Lib.hid hsmall
    have hXl : (Spn.openL l a n).length ≤ 120 := Nat.le_trans (Spn.openL_len l a n) (by omega)
    obtain ⟨E, hE⟩ : ∃ E, Spn.openE l a n = E := ⟨_, rfl⟩
    obtain ⟨X, hX⟩ : ∃ X, Spn.openL l a n = X := ⟨_, rfl⟩
    obtain ⟨U, hU⟩ : ∃ U, Spn.shutL l a n = U := ⟨_, rfl⟩
    obtain ⟨B, hB⟩ : ∃ B, Spn.shutB l a n = B := ⟨_, rfl⟩
    have hUl : U.length ≤ 60 := by rw [← hU]; exact Nat.le_trans (Spn.shutL_len l a n) hsmall
    have hO1 := fun w1 h1 => spans_open l A c a n w1 h1 hc (by omega)
    have hO2 := fun w1 h1 => ref_open l A c a n w1 h1 hc (by omega) hn2
    have hS1 := fun w1 h1 => spans_shut l A c a n w1 h1 hc (by omega)
    have hS2 := fun w1 h1 => ref_shut l A c a n w1 h1 hc (by omega) hn2
    have hS3 := fun A8 c8 w1 h1 h2 => ref_same l l A8 A c8 c w1 h1 h2 (by omega)
    simp only [decide_true] at hS3
    have hlaw := fun he => Spn.open_shut (l := l) (a := a) (n := n) he
    rw [hX] at hXl hlaw
    rw [hE] at hlaw
    rw [hL, hE, hX] at hO1 hO2
    rw [hL, hU, hB] at hS1 hS2
    have HS3 := Lib.hid (fun A8 c8 w1 (h1 : Go.Proofs.YtihdcglkmilckaaW.PrintWords.Kd.C k42 w1 A8 l.length l) (h2 : Go.Proofs.YtihdcglkmilckaaW.PrintWords.Kd.C k42 w1 A l.length l) => show Calls Try.prog 20 #[.slice A8 L c8, .slice A L c] w1 fun e w' => e = .returned (.bool true) ∧ Mem.Drawn w1 w' by
      have := hS3 A8 c8 w1 h1 h2
      rw [hL] at this
      exact this)
    clear hS3
    have HO1 := Lib.hid hO1
    have HO2 := Lib.hid hO2
    have HS1 := Lib.hid hS1
    have HS2 := Lib.hid hS2
    have HLaw := Lib.hid hlaw
    have HXl := Lib.hid hXl
    have HUl := Lib.hid hUl
    clear hC hL hG hn2 hO1 hO2 hS1 hS2 hlaw hXl hUl hE hX hU hB hsmall
    by_cases hE0 : E = 0
    · subst hE0
      obtain ⟨q1, q2, q3, q4, q5⟩ := HLaw.out rfl
      have HQ1 := Lib.hid q1
      have HQ2 := Lib.hid q2
      have hT1 := Spn.spans_total X (by have := HXl.out; omega) 1000 (by have := HXl.out; omega)
      have hT2 := Spn.spans_total l (by have := Hs.out; omega) 1000 (by have := Hs.out; omega)
      rw [q3, if_pos rfl, q5] at hT1
      rw [q4, if_pos rfl] at hT2
      have HT1 := Lib.hid hT1
      have HT3 := Lib.hid (fun w1 (h1 : Go.Proofs.YtihdcglkmilckaaW.PrintWords.Kd.C k42 w1 A l.length l) => show Calls Try.prog 11 #[.slice A L c] w1 fun e w' => e = .returned (.int .i64 (Spn.total l)) ∧ Below w1.heap.size w1 w' by
        have := spans_Total.calls 1000 A c l _ w1 h1 hc hT2
        rw [HL.out] at this
        exact this)
      clear q1 q2 q3 q4 q5 hT1 hT2 hc
      go_enter Try.func4, Try.ntmps4
      go_wp2_with (first
        | (go_at_call 8
           refine (law_alive _).mono ?_
           rintro e w1 ⟨rfl, hb1⟩
           have HF1 := Lib.hid (HF.out.below hb1)
           have HB := Lib.hid hb1
           clear hb1 HF)
        | (go_at_call 9
           refine (HG.out _).mono ?_
           rintro e w2 ⟨rfl, rfl⟩)
        | (go_at_call 16
           refine (HO1.out _ (by have h := HF1.out.get (A := A) (l := l) (by simp); rw [HL.out] at h; exact h)).mono ?_
           rintro e w2 ⟨v2, rfl, ho2, hb2⟩
           obtain ⟨A2, c2, rfl, hc2, _⟩ := Spn.own_form ho2
           have HF2 := Lib.hid (HF1.out.more hb2 ho2)
           have Hc2 := Lib.hid hc2
           have HBn := Lib.hid (Mem.then_ HB.out hb2)
           clear ho2 hb2 hc2 HF1 HB
           have HB := HBn
           clear HBn)
        | (go_at_call 17
           refine (HO2.out _ (by have h := HF2.out.get (A := A) (l := l) (by simp); rw [HL.out] at h; exact h)).mono ?_
           rintro e w3 ⟨v3, rfl, ho3, hb3⟩
           obtain ⟨A3, c3, rfl, hc3, _⟩ := Spn.own_form ho3
           have HF3 := Lib.hid (HF2.out.more hb3 ho3)
           have HBn := Lib.hid (Mem.then_ HB.out hb3)
           clear ho3 hb3 hc3 HF2 HB
           have HB := HBn
           clear HBn)
        | (go_at_call 18
           with_reducible refine (HS1.out _ (by have h := HF3.out.get (A := A) (l := l) (by simp); rw [HL.out] at h; exact h)).mono ?_
           rintro e w4 ⟨v4, rfl, ho4, hb4⟩
           obtain ⟨A4, c4, rfl, hc4, _⟩ := Spn.own_form ho4
           have HF4 := Lib.hid (HF3.out.more hb4 ho4)
           have HBn := Lib.hid (Mem.then_ HB.out hb4)
           clear ho4 hb4 hc4 HF3 HB
           have HB := HBn
           clear HBn)
        | (go_at_call 19
           refine (HS2.out _ (by have h := HF4.out.get (A := A) (l := l) (by simp); rw [HL.out] at h; exact h)).mono ?_
           rintro e w5 ⟨v5, rfl, ho5, hb5⟩
           obtain ⟨A5, c5, rfl, hc5, _⟩ := Spn.own_form ho5
           have HF5 := Lib.hid (HF4.out.more hb5 ho5)
           have HBn := Lib.hid (Mem.then_ HB.out hb5)
           clear ho5 hb5 hc5 HF4 HB
           have HB := HBn
           clear HBn)
        | (go_at_call 20
           with_reducible refine (ref_same X X A2 A3 c2 c3 _ (HF5.out.get (by simp)) (HF5.out.get (by simp)) (by have := HXl.out; omega)).mono ?_
           rw [decide_eq_true rfl]
           rintro e w6 ⟨rfl, hd6⟩
           have HF6 := Lib.hid (HF5.out.drawn hd6)
           have HBn := Lib.hid (HB.out.trans (hd6.below _))
           clear hd6 HF5 HB
           have HB := HBn
           clear HBn)
        | (go_at_call 20
           with_reducible refine (ref_same U U A4 A5 c4 c5 _ (HF6.out.get (by simp)) (HF6.out.get (by simp)) (by have := HUl.out; omega)).mono ?_
           rw [decide_eq_true rfl]
           rintro e w7 ⟨rfl, hd7⟩
           have HF7 := Lib.hid (HF6.out.drawn hd7)
           have HBn := Lib.hid (HB.out.trans (hd7.below _))
           clear hd7 HF6 HB
           have HB := HBn
           clear HBn)
        | (go_at_call 18
           with_reducible refine (spans_shut X A2 c2 a n _ (HF7.out.get (by simp)) Hc2.out (by have := HXl.out; omega)).mono ?_
           rw [HQ1.out, HQ2.out]
           rintro e w8 ⟨v8, rfl, ho8, hb8⟩
           obtain ⟨A8, c8, rfl, hc8, _⟩ := Spn.own_form ho8
           rw [HL.out]
           have HF8 := Lib.hid (HF7.out.more hb8 ho8)
           have HBn := Lib.hid (Mem.then_ HB.out hb8)
           clear ho8 hb8 hc8 HF7 HB
           have HB := HBn
           clear HBn)
        | (go_at_call 20
           with_reducible refine (HS3.out A8 c8 _ (HF8.out.get (by simp)) (HF8.out.get (by simp))).mono ?_
           rintro e w9 ⟨rfl, hd9⟩
           have HF9 := Lib.hid (HF8.out.drawn hd9)
           have HBn := Lib.hid (HB.out.trans (hd9.below _))
           clear hd9 HF8 HB
           have HB := HBn
           clear HBn)
        | (go_at_call 11
           with_reducible refine (spans_Total.calls 1000 A2 c2 X _ _ (HF9.out.get (by simp)) Hc2.out HT1.out).mono ?_
           rintro e w10 ⟨rfl, hb10⟩
           have HF10 := Lib.hid (HF9.out.below hb10)
           have HBn := Lib.hid (Mem.then_ HB.out hb10)
           clear hb10 HF9 HB
           have HB := HBn
           clear HBn)
        | (go_at_call 11
           with_reducible refine (HT3.out _ (HF10.out.get (by simp))).mono ?_
           rintro e w11 ⟨rfl, hb11⟩
           have HBn := Lib.hid (Mem.then_ HB.out hb11)
           clear hb11 HF10 HB
           have HB := HBn
           clear HBn))
      go_ret
      exact ⟨rfl, HB.out⟩
    · have e1 : (E == 0) = false := beq_eq_false_iff_ne.2 hE0
      have e2 : (E != 0) = true := bne_iff_ne.2 hE0
      clear hE0 hc
      go_enter Try.func4, Try.ntmps4
      go_wp2_with (first
        | (go_at_call 8
           refine (law_alive _).mono ?_
           rintro e w1 ⟨rfl, hb1⟩
           have HF1 := Lib.hid (HF.out.below hb1)
           have HB := Lib.hid hb1
           clear hb1 HF)
        | (go_at_call 9
           refine (HG.out _).mono ?_
           rintro e w2 ⟨rfl, rfl⟩)
        | (go_at_call 16
           refine (HO1.out _ (by have h := HF1.out.get (A := A) (l := l) (by simp); rw [HL.out] at h; exact h)).mono ?_
           rintro e w2 ⟨v2, rfl, ho2, hb2⟩
           obtain ⟨A2, c2, rfl, hc2, _⟩ := Spn.own_form ho2
           have HF2 := Lib.hid (HF1.out.more hb2 ho2)
           have Hc2 := Lib.hid hc2
           have HBn := Lib.hid (Mem.then_ HB.out hb2)
           clear ho2 hb2 hc2 HF1 HB
           have HB := HBn
           clear HBn)
        | (go_at_call 17
           refine (HO2.out _ (by have h := HF2.out.get (A := A) (l := l) (by simp); rw [HL.out] at h; exact h)).mono ?_
           rintro e w3 ⟨v3, rfl, ho3, hb3⟩
           obtain ⟨A3, c3, rfl, hc3, _⟩ := Spn.own_form ho3
           have HF3 := Lib.hid (HF2.out.more hb3 ho3)
           have HBn := Lib.hid (Mem.then_ HB.out hb3)
           clear ho3 hb3 hc3 HF2 HB
           have HB := HBn
           clear HBn)
        | (go_at_call 18
           with_reducible refine (HS1.out _ (by have h := HF3.out.get (A := A) (l := l) (by simp); rw [HL.out] at h; exact h)).mono ?_
           rintro e w4 ⟨v4, rfl, ho4, hb4⟩
           obtain ⟨A4, c4, rfl, hc4, _⟩ := Spn.own_form ho4
           have HF4 := Lib.hid (HF3.out.more hb4 ho4)
           have HBn := Lib.hid (Mem.then_ HB.out hb4)
           clear ho4 hb4 hc4 HF3 HB
           have HB := HBn
           clear HBn)
        | (go_at_call 19
           refine (HS2.out _ (by have h := HF4.out.get (A := A) (l := l) (by simp); rw [HL.out] at h; exact h)).mono ?_
           rintro e w5 ⟨v5, rfl, ho5, hb5⟩
           obtain ⟨A5, c5, rfl, hc5, _⟩ := Spn.own_form ho5
           have HF5 := Lib.hid (HF4.out.more hb5 ho5)
           have HBn := Lib.hid (Mem.then_ HB.out hb5)
           clear ho5 hb5 hc5 HF4 HB
           have HB := HBn
           clear HBn)
        | (go_at_call 20
           with_reducible refine (ref_same X X A2 A3 c2 c3 _ (HF5.out.get (by simp)) (HF5.out.get (by simp)) (by have := HXl.out; omega)).mono ?_
           rw [decide_eq_true rfl]
           rintro e w6 ⟨rfl, hd6⟩
           have HF6 := Lib.hid (HF5.out.drawn hd6)
           have HBn := Lib.hid (HB.out.trans (hd6.below _))
           clear hd6 HF5 HB
           have HB := HBn
           clear HBn)
        | (go_at_call 20
           with_reducible refine (ref_same U U A4 A5 c4 c5 _ (HF6.out.get (by simp)) (HF6.out.get (by simp)) (by have := HUl.out; omega)).mono ?_
           rw [decide_eq_true rfl]
           rintro e w7 ⟨rfl, hd7⟩
           have HF7 := Lib.hid (HF6.out.drawn hd7)
           have HBn := Lib.hid (HB.out.trans (hd7.below _))
           clear hd7 HF6 HB
           have HB := HBn
           clear HBn))
      go_ret
      exact ⟨rfl, HB.out⟩

theorem spansOpen_walk (a0 : Option Addr) (len0 cap0 : Nat) (a1 : Int) (a2 : Int) (w : World) (_wa1 : (Lit.int .i64 a1).wf = true) (wa2 : (Lit.int .i64 a2).wf = true) (h0 : ∃ (H : Type) (enc : TypeId × Value → H) (d : DataW H) (p : List MemPlace), DataW.Trod enc Try.prog w 0 (fun _ => true) true 22 (.slice a0 len0 cap0) d p) :
    Calls Try.prog 4 #[.slice a0 len0 cap0, .int .i64 a1, .int .i64 a2] w fun e w' => e = .returned (.bool true) ∧ Below w.heap.size w w' := by
  obtain ⟨H, enc, d, p, h⟩ := h0
  obtain ⟨l, hl, hc, hC⟩ := Spn.arg_spans h
  exact spansOpen_main l len0 a0 cap0 a1 a2 w hC (by omega) hl (Spn.wf_i64 wa2).2
end Go.Proofs.Ytihdcglkmilckaa
