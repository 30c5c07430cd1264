/- The walk of law07.SpansTwo. (Printed by wip/gen_two.py.) -/
import Derived.Test.YtihdcglkmilckaaWlkF
import Derived.Test.YtihdcglkmilckaaWlkG
import Derived.Test.YtihdcglkmilckaaWlkP
import Derived.Test.YtihdcglkmilckaaSpnZ
namespace Go.Proofs.Ytihdcglkmilckaa
open Go.RowKit Go.Shelf

namespace Wlk
open Spn PSpansOpen Go.Proofs.YtihdcglkmilckaaW.PrintWords
theorem sweep_len (what : Bool → Bool → Bool) : ∀ (es : List Edge) (F : St × List Edge), (sweep what F es).1.out.length + (sweep what F es).2.length ≤ F.1.out.length + F.2.length + es.length := by
  intro es
  induction es with
  | nil => intro F; simp [sweep]
  | cons e es ih =>
    intro F
    have h1 := ih (step what F e)
    have h2 := step_len what F e
    have : sweep what F (e :: es) = sweep what (step what F e) es := rfl
    rw [this]
    simp only [List.length_cons]
    omega
theorem walked_len (what : Bool → Bool → Bool) (la lb : List Span) : (walked what la lb).length ≤ 2 * la.length + 2 * lb.length := by
  unfold walked
  have h1 := turn_len what 20000 (sweep what (⟨[], 0, false, false⟩, edgesOf lb) (edgesOf la)).2 (sweep what (⟨[], 0, false, false⟩, edgesOf lb) (edgesOf la)).1
  have h2 := sweep_len what (edgesOf la) (⟨[], 0, false, false⟩, edgesOf lb)
  simp only [edgesOf_length, List.length_nil] at h2
  omega
theorem res_len (what : Bool → Bool → Bool) (la lb : List Span) : (res what la lb).length ≤ 2 * la.length + 2 * lb.length := by
  unfold res
  split
  · exact walked_len what la lb
  · simp
/-- what the reference's Two hands back is the same list -/
theorem two_res (la lb : List Span) (Aa Ab : Option Addr) (ca cb : Nat) (wh : Int) (what : Bool → Bool → Bool) (hwh : (wh = 0 ∧ what = fun x y => x || y) ∨ (wh = 1 ∧ what = fun x y => x && y) ∨ (wh = 2 ∧ what = fun x y => x && !y)) (h00 : what false false = false) (w : World)
    (hCa : Kd.C k42 w Aa la.length la) (hca : la.length ≤ ca) (hla : la.length ≤ 100000) (hCb : Kd.C k42 w Ab lb.length lb) (hcb : lb.length ≤ cb) (hlb : lb.length ≤ 100000) :
    Calls Try.prog 24 #[.slice Aa la.length ca, .slice Ab lb.length cb, .int .i64 wh] w fun e w' => ∃ v, e = .returned (.tuple #[v, .bool (may la && may lb)]) ∧ Spn.Own w' w.heap.size v (res what la lb) ∧ Below w.heap.size w w' := by
  refine (ref_two la lb Aa Ab ca cb wh what hwh w hCa hca hla hCb hcb hlb).mono ?_
  rintro e w' ⟨v, r, rfl, ho, hb, h1, h2⟩
  have : res what la lb = r := by
    unfold res
    cases hm : (may la && may lb) with
    | false => rw [if_neg (by simp), h1 hm]
    | true =>
      obtain ⟨h3, h4⟩ := h2 hm
      rw [Bool.and_eq_true] at hm
      rw [if_pos rfl]
      exact walked_told h00 hm.1 hm.2 h3 h4
  rw [this]
  exact ⟨v, rfl, ho, hb⟩
end Wlk
open PSpansOpen

set_option maxRecDepth 100000 in
set_option maxHeartbeats 1000000 in
theorem spansTwo_great (la lb : List Spn.Span) (La Lb : Nat) (Aa Ab : Option Addr) (ca cb : Nat) (w : World) (hLa : la.length = La) (hLb : lb.length = Lb) (hbig : 60 < La ∨ (¬ 60 < La ∧ 60 < Lb)) :
    Calls Try.prog 5 #[.slice Aa La ca, .slice Ab Lb cb] w fun e w' => e = .returned (.bool true) ∧ Below w.heap.size w w' := by
  have hGa := fun w1 => law_great la Aa ca w1
  have hGb := fun w1 => law_great lb Ab cb w1
  rw [hLa] at hGa
  rw [hLb] at hGb
  rcases hbig with h1 | ⟨h1, h2⟩
  · rw [decide_eq_true h1] at hGa
    have HGa := Lib.hid hGa
    clear hGa hGb hLa hLb h1
    go_enter Try.func5, Try.ntmps5
    go_wp2_with (first
      | (go_at_call 8
         refine (law_alive _).mono ?_
         rintro e w1 ⟨rfl, hb1⟩
         have HB := Lib.hid hb1
         clear hb1)
      | (go_at_call 9
         with_reducible refine (HGa.out _).mono ?_
         rintro e w2 ⟨rfl, rfl⟩))
    go_ret
    exact ⟨rfl, HB.out⟩
  · rw [decide_eq_false h1] at hGa
    rw [decide_eq_true h2] at hGb
    have HGa := Lib.hid hGa
    have HGb := Lib.hid hGb
    clear hGa hGb hLa hLb h1 h2
    go_enter Try.func5, Try.ntmps5
    go_wp2_with (first
      | (go_at_call 8
         refine (law_alive _).mono ?_
         rintro e w1 ⟨rfl, hb1⟩
         have HB := Lib.hid hb1
         clear hb1)
      | (go_at_call 9
         with_reducible refine (HGa.out _).mono ?_
         rintro e w2 ⟨rfl, rfl⟩)
      | (go_at_call 9
         with_reducible refine (HGb.out _).mono ?_
         rintro e w3 ⟨rfl, rfl⟩))
    go_ret
    exact ⟨rfl, HB.out⟩

set_option maxRecDepth 100000 in
set_option maxHeartbeats 4000000 in
theorem spansTwo_yes (la lb : List Spn.Span) (La Lb : Nat) (Aa Ab : Option Addr) (ca cb : Nat) (w : World) (hCa : Go.Proofs.YtihdcglkmilckaaW.PrintWords.Kd.C k42 w Aa la.length la) (hca : la.length ≤ ca) (hCb : Go.Proofs.YtihdcglkmilckaaW.PrintWords.Kd.C k42 w Ab lb.length lb) (hcb : lb.length ≤ cb) (hLa : la.length = La) (hLb : lb.length = Lb)
    (hsa : ¬ 60 < La) (hsb : ¬ 60 < Lb) (hK : (Spn.may la && Spn.may lb) = true) :
    Calls Try.prog 5 #[.slice Aa La ca, .slice Ab Lb cb] w fun e w' => e = .returned (.bool true) ∧ Below w.heap.size w w' := by
  have hGa := fun w1 => law_great la Aa ca w1
  have hGb := fun w1 => law_great lb Ab cb w1
  rw [hLa, decide_eq_false hsa] at hGa
  rw [hLb, decide_eq_false hsb] at hGb
  have HGa := Lib.hid hGa
  have HGb := Lib.hid hGb
  have HF := Lib.hid (show Spn.All [(Aa, la), (Ab, lb)] w from fun f hf => by
    rcases List.mem_cons.1 hf with rfl | hf
    · exact hCa
    · obtain rfl : f = (Ab, lb) := by simpa using hf
      exact hCb)
  have hE : Wlk.err la lb = 0 := by unfold Wlk.err; rw [hK]; rfl
  obtain ⟨X, hX⟩ : ∃ X, Wlk.res (fun x y => x || y) la lb = X := ⟨_, rfl⟩
  obtain ⟨Y, hY⟩ : ∃ X, Wlk.res (fun x y => x && y) la lb = X := ⟨_, rfl⟩
  obtain ⟨Z, hZ⟩ : ∃ X, Wlk.res (fun x y => x && !y) la lb = X := ⟨_, rfl⟩
  have HAny := Lib.hid (fun w1 (h1 : Go.Proofs.YtihdcglkmilckaaW.PrintWords.Kd.C k42 w1 Aa La la) (h2 : Go.Proofs.YtihdcglkmilckaaW.PrintWords.Kd.C k42 w1 Ab Lb lb) => show Calls Try.prog 21 #[.slice Aa La ca, .slice Ab Lb cb] w1 fun e w' => ∃ v, e = .returned (.tuple #[v, .int .i64 0]) ∧ Spn.Own w' w1.heap.size v X ∧ Below w1.heap.size w1 w' by
    subst hLa
    subst hLb
    subst hX
    have := spans_Any la lb Aa Ab ca cb w1 h1 hca h2 hcb (by omega)
    unfold Wlk.Gives at this
    rw [hE] at this
    exact this)
  have HBoth := Lib.hid (fun w1 (h1 : Go.Proofs.YtihdcglkmilckaaW.PrintWords.Kd.C k42 w1 Aa La la) (h2 : Go.Proofs.YtihdcglkmilckaaW.PrintWords.Kd.C k42 w1 Ab Lb lb) => show Calls Try.prog 22 #[.slice Aa La ca, .slice Ab Lb cb] w1 fun e w' => ∃ v, e = .returned (.tuple #[v, .int .i64 0]) ∧ Spn.Own w' w1.heap.size v Y ∧ Below w1.heap.size w1 w' by
    subst hLa
    subst hLb
    subst hY
    have := spans_Both la lb Aa Ab ca cb w1 h1 hca h2 hcb (by omega)
    unfold Wlk.Gives at this
    rw [hE] at this
    exact this)
  have HLess := Lib.hid (fun w1 (h1 : Go.Proofs.YtihdcglkmilckaaW.PrintWords.Kd.C k42 w1 Aa La la) (h2 : Go.Proofs.YtihdcglkmilckaaW.PrintWords.Kd.C k42 w1 Ab Lb lb) => show Calls Try.prog 23 #[.slice Aa La ca, .slice Ab Lb cb] w1 fun e w' => ∃ v, e = .returned (.tuple #[v, .int .i64 0]) ∧ Spn.Own w' w1.heap.size v Z ∧ Below w1.heap.size w1 w' by
    subst hLa
    subst hLb
    subst hZ
    have := spans_Less la lb Aa Ab ca cb w1 h1 hca h2 hcb (by omega)
    unfold Wlk.Gives at this
    rw [hE] at this
    exact this)
  have HT0 := Lib.hid (fun w1 (h1 : Go.Proofs.YtihdcglkmilckaaW.PrintWords.Kd.C k42 w1 Aa La la) (h2 : Go.Proofs.YtihdcglkmilckaaW.PrintWords.Kd.C k42 w1 Ab Lb lb) => show Calls Try.prog 24 #[.slice Aa La ca, .slice Ab Lb cb, .int .i64 0] w1 fun e w' => ∃ v, e = .returned (.tuple #[v, .bool true]) ∧ Spn.Own w' w1.heap.size v X ∧ Below w1.heap.size w1 w' by
    subst hLa
    subst hLb
    subst hX
    have := Wlk.two_res la lb Aa Ab ca cb 0 (fun x y => x || y) (.inl ⟨rfl, rfl⟩) rfl w1 h1 hca (by omega) h2 hcb (by omega)
    rw [hK] at this
    exact this)
  have HT1 := Lib.hid (fun w1 (h1 : Go.Proofs.YtihdcglkmilckaaW.PrintWords.Kd.C k42 w1 Aa La la) (h2 : Go.Proofs.YtihdcglkmilckaaW.PrintWords.Kd.C k42 w1 Ab Lb lb) => show Calls Try.prog 24 #[.slice Aa La ca, .slice Ab Lb cb, .int .i64 1] w1 fun e w' => ∃ v, e = .returned (.tuple #[v, .bool true]) ∧ Spn.Own w' w1.heap.size v Y ∧ Below w1.heap.size w1 w' by
    subst hLa
    subst hLb
    subst hY
    have := Wlk.two_res la lb Aa Ab ca cb 1 (fun x y => x && y) (.inr (.inl ⟨rfl, rfl⟩)) rfl w1 h1 hca (by omega) h2 hcb (by omega)
    rw [hK] at this
    exact this)
  have HT2 := Lib.hid (fun w1 (h1 : Go.Proofs.YtihdcglkmilckaaW.PrintWords.Kd.C k42 w1 Aa La la) (h2 : Go.Proofs.YtihdcglkmilckaaW.PrintWords.Kd.C k42 w1 Ab Lb lb) => show Calls Try.prog 24 #[.slice Aa La ca, .slice Ab Lb cb, .int .i64 2] w1 fun e w' => ∃ v, e = .returned (.tuple #[v, .bool true]) ∧ Spn.Own w' w1.heap.size v Z ∧ Below w1.heap.size w1 w' by
    subst hLa
    subst hLb
    subst hZ
    have := Wlk.two_res la lb Aa Ab ca cb 2 (fun x y => x && !y) (.inr (.inr ⟨rfl, rfl⟩)) rfl w1 h1 hca (by omega) h2 hcb (by omega)
    rw [hK] at this
    exact this)
  have HXl := Lib.hid (show X.length ≤ 1000 by rw [← hX]; exact Nat.le_trans (Wlk.res_len _ la lb) (by omega))
  have HYl := Lib.hid (show Y.length ≤ 1000 by rw [← hY]; exact Nat.le_trans (Wlk.res_len _ la lb) (by omega))
  have HZl := Lib.hid (show Z.length ≤ 1000 by rw [← hZ]; exact Nat.le_trans (Wlk.res_len _ la lb) (by omega))
  have HLa := Lib.hid hLa
  have HLb := Lib.hid hLb
  clear hGa hGb hCa hCb hca hcb hsa hsb hK hE hX hY hZ hLa hLb
  go_enter Try.func5, Try.ntmps5
  go_wp2_with (first
      | (go_at_call 8
         refine (law_alive _).mono ?_
         rintro e w1 ⟨rfl, hb1⟩
         have HF1 := Lib.hid (HF.out.below hb1)
         have HB := Lib.hid hb1
         clear hb1 HF)
      | (go_at_call 9
         with_reducible refine (HGa.out _).mono ?_
         rintro e w2 ⟨rfl, rfl⟩)
      | (go_at_call 9
         with_reducible refine (HGb.out _).mono ?_
         rintro e w3 ⟨rfl, rfl⟩)
      | (go_at_call 21
         with_reducible refine (HAny.out _ (by have h := HF1.out.get (A := Aa) (l := la) (by simp); rw [HLa.out] at h; exact h) (by have h := HF1.out.get (A := Ab) (l := lb) (by simp); rw [HLb.out] at h; exact h)).mono ?_
         rintro e w2 ⟨v2, rfl, ho2, hb2⟩
         obtain ⟨A2, c2, rfl, hc2, _⟩ := Spn.own_form ho2
         have HF2 := Lib.hid (HF1.out.more hb2 ho2)
         have HBn := Lib.hid (Mem.then_ HB.out hb2)
         clear ho2 hb2 hc2 HF1 HB
         have HB := HBn
         clear HBn)
      | (go_at_call 22
         with_reducible refine (HBoth.out _ (by have h := HF2.out.get (A := Aa) (l := la) (by simp); rw [HLa.out] at h; exact h) (by have h := HF2.out.get (A := Ab) (l := lb) (by simp); rw [HLb.out] at h; exact h)).mono ?_
         rintro e w3 ⟨v3, rfl, ho3, hb3⟩
         obtain ⟨A3, c3, rfl, hc3, _⟩ := Spn.own_form ho3
         have HF3 := Lib.hid (HF2.out.more hb3 ho3)
         have HBn := Lib.hid (Mem.then_ HB.out hb3)
         clear ho3 hb3 hc3 HF2 HB
         have HB := HBn
         clear HBn)
      | (go_at_call 23
         with_reducible refine (HLess.out _ (by have h := HF3.out.get (A := Aa) (l := la) (by simp); rw [HLa.out] at h; exact h) (by have h := HF3.out.get (A := Ab) (l := lb) (by simp); rw [HLb.out] at h; exact h)).mono ?_
         rintro e w4 ⟨v4, rfl, ho4, hb4⟩
         obtain ⟨A4, c4, rfl, hc4, _⟩ := Spn.own_form ho4
         have HF4 := Lib.hid (HF3.out.more hb4 ho4)
         have HBn := Lib.hid (Mem.then_ HB.out hb4)
         clear ho4 hb4 hc4 HF3 HB
         have HB := HBn
         clear HBn)
      | (go_at_call 24
         with_reducible refine (HT0.out _ (by have h := HF4.out.get (A := Aa) (l := la) (by simp); rw [HLa.out] at h; exact h) (by have h := HF4.out.get (A := Ab) (l := lb) (by simp); rw [HLb.out] at h; exact h)).mono ?_
         rintro e w5 ⟨v5, rfl, ho5, hb5⟩
         obtain ⟨A5, c5, rfl, hc5, _⟩ := Spn.own_form ho5
         have HF5 := Lib.hid (HF4.out.more hb5 ho5)
         have HBn := Lib.hid (Mem.then_ HB.out hb5)
         clear ho5 hb5 hc5 HF4 HB
         have HB := HBn
         clear HBn)
      | (go_at_call 24
         with_reducible refine (HT1.out _ (by have h := HF5.out.get (A := Aa) (l := la) (by simp); rw [HLa.out] at h; exact h) (by have h := HF5.out.get (A := Ab) (l := lb) (by simp); rw [HLb.out] at h; exact h)).mono ?_
         rintro e w6 ⟨v6, rfl, ho6, hb6⟩
         obtain ⟨A6, c6, rfl, hc6, _⟩ := Spn.own_form ho6
         have HF6 := Lib.hid (HF5.out.more hb6 ho6)
         have HBn := Lib.hid (Mem.then_ HB.out hb6)
         clear ho6 hb6 hc6 HF5 HB
         have HB := HBn
         clear HBn)
      | (go_at_call 24
         with_reducible refine (HT2.out _ (by have h := HF6.out.get (A := Aa) (l := la) (by simp); rw [HLa.out] at h; exact h) (by have h := HF6.out.get (A := Ab) (l := lb) (by simp); rw [HLb.out] at h; exact h)).mono ?_
         rintro e w7 ⟨v7, rfl, ho7, hb7⟩
         obtain ⟨A7, c7, rfl, hc7, _⟩ := Spn.own_form ho7
         have HF7 := Lib.hid (HF6.out.more hb7 ho7)
         have HBn := Lib.hid (Mem.then_ HB.out hb7)
         clear ho7 hb7 hc7 HF6 HB
         have HB := HBn
         clear HBn)
      | (go_at_call 20
         with_reducible refine (ref_same X X A2 A5 c2 c5 _ (HF7.out.get (by simp)) (HF7.out.get (by simp)) (by have := HXl.out; omega)).mono ?_
         rw [decide_eq_true rfl]
         rintro e w8 ⟨rfl, hd8⟩
         have HF8 := Lib.hid (HF7.out.drawn hd8)
         have HBn := Lib.hid (HB.out.trans (hd8.below _))
         clear hd8 HF7 HB
         have HB := HBn
         clear HBn)
      | (go_at_call 20
         with_reducible refine (ref_same Y Y A3 A6 c3 c6 _ (HF8.out.get (by simp)) (HF8.out.get (by simp)) (by have := HYl.out; omega)).mono ?_
         rw [decide_eq_true rfl]
         rintro e w9 ⟨rfl, hd9⟩
         have HF9 := Lib.hid (HF8.out.drawn hd9)
         have HBn := Lib.hid (HB.out.trans (hd9.below _))
         clear hd9 HF8 HB
         have HB := HBn
         clear HBn)
      | (go_at_call 20
         with_reducible refine (ref_same Z Z A4 A7 c4 c7 _ (HF9.out.get (by simp)) (HF9.out.get (by simp)) (by have := HZl.out; omega)).mono ?_
         rw [decide_eq_true rfl]
         rintro e w10 ⟨rfl, hd10⟩
         have HF10 := Lib.hid (HF9.out.drawn hd10)
         have HBn := Lib.hid (HB.out.trans (hd10.below _))
         clear hd10 HF9 HB
         have HB := HBn
         clear HBn))
  go_ret
  exact ⟨rfl, HB.out⟩

set_option maxRecDepth 100000 in
set_option maxHeartbeats 4000000 in
theorem spansTwo_no (la lb : List Spn.Span) (La Lb : Nat) (Aa Ab : Option Addr) (ca cb : Nat) (w : World) (hCa : Go.Proofs.YtihdcglkmilckaaW.PrintWords.Kd.C k42 w Aa la.length la) (hca : la.length ≤ ca) (hCb : Go.Proofs.YtihdcglkmilckaaW.PrintWords.Kd.C k42 w Ab lb.length lb) (hcb : lb.length ≤ cb) (hLa : la.length = La) (hLb : lb.length = Lb)
    (hsa : ¬ 60 < La) (hsb : ¬ 60 < Lb) (hK : (Spn.may la && Spn.may lb) = false) :
    Calls Try.prog 5 #[.slice Aa La ca, .slice Ab Lb cb] w fun e w' => e = .returned (.bool true) ∧ Below w.heap.size w w' := by
  have hGa := fun w1 => law_great la Aa ca w1
  have hGb := fun w1 => law_great lb Ab cb w1
  rw [hLa, decide_eq_false hsa] at hGa
  rw [hLb, decide_eq_false hsb] at hGb
  have HGa := Lib.hid hGa
  have HGb := Lib.hid hGb
  have HF := Lib.hid (show Spn.All [(Aa, la), (Ab, lb)] w from fun f hf => by
    rcases List.mem_cons.1 hf with rfl | hf
    · exact hCa
    · obtain rfl : f = (Ab, lb) := by simpa using hf
      exact hCb)
  have hE : Wlk.err la lb = 1 := by unfold Wlk.err; rw [hK]; rfl
  obtain ⟨X, hX⟩ : ∃ X, Wlk.res (fun x y => x || y) la lb = X := ⟨_, rfl⟩
  obtain ⟨Y, hY⟩ : ∃ X, Wlk.res (fun x y => x && y) la lb = X := ⟨_, rfl⟩
  obtain ⟨Z, hZ⟩ : ∃ X, Wlk.res (fun x y => x && !y) la lb = X := ⟨_, rfl⟩
  have HAny := Lib.hid (fun w1 (h1 : Go.Proofs.YtihdcglkmilckaaW.PrintWords.Kd.C k42 w1 Aa La la) (h2 : Go.Proofs.YtihdcglkmilckaaW.PrintWords.Kd.C k42 w1 Ab Lb lb) => show Calls Try.prog 21 #[.slice Aa La ca, .slice Ab Lb cb] w1 fun e w' => ∃ v, e = .returned (.tuple #[v, .int .i64 1]) ∧ Spn.Own w' w1.heap.size v X ∧ Below w1.heap.size w1 w' by
    subst hLa
    subst hLb
    subst hX
    have := spans_Any la lb Aa Ab ca cb w1 h1 hca h2 hcb (by omega)
    unfold Wlk.Gives at this
    rw [hE] at this
    exact this)
  have HBoth := Lib.hid (fun w1 (h1 : Go.Proofs.YtihdcglkmilckaaW.PrintWords.Kd.C k42 w1 Aa La la) (h2 : Go.Proofs.YtihdcglkmilckaaW.PrintWords.Kd.C k42 w1 Ab Lb lb) => show Calls Try.prog 22 #[.slice Aa La ca, .slice Ab Lb cb] w1 fun e w' => ∃ v, e = .returned (.tuple #[v, .int .i64 1]) ∧ Spn.Own w' w1.heap.size v Y ∧ Below w1.heap.size w1 w' by
    subst hLa
    subst hLb
    subst hY
    have := spans_Both la lb Aa Ab ca cb w1 h1 hca h2 hcb (by omega)
    unfold Wlk.Gives at this
    rw [hE] at this
    exact this)
  have HLess := Lib.hid (fun w1 (h1 : Go.Proofs.YtihdcglkmilckaaW.PrintWords.Kd.C k42 w1 Aa La la) (h2 : Go.Proofs.YtihdcglkmilckaaW.PrintWords.Kd.C k42 w1 Ab Lb lb) => show Calls Try.prog 23 #[.slice Aa La ca, .slice Ab Lb cb] w1 fun e w' => ∃ v, e = .returned (.tuple #[v, .int .i64 1]) ∧ Spn.Own w' w1.heap.size v Z ∧ Below w1.heap.size w1 w' by
    subst hLa
    subst hLb
    subst hZ
    have := spans_Less la lb Aa Ab ca cb w1 h1 hca h2 hcb (by omega)
    unfold Wlk.Gives at this
    rw [hE] at this
    exact this)
  have HT0 := Lib.hid (fun w1 (h1 : Go.Proofs.YtihdcglkmilckaaW.PrintWords.Kd.C k42 w1 Aa La la) (h2 : Go.Proofs.YtihdcglkmilckaaW.PrintWords.Kd.C k42 w1 Ab Lb lb) => show Calls Try.prog 24 #[.slice Aa La ca, .slice Ab Lb cb, .int .i64 0] w1 fun e w' => ∃ v, e = .returned (.tuple #[v, .bool false]) ∧ Spn.Own w' w1.heap.size v X ∧ Below w1.heap.size w1 w' by
    subst hLa
    subst hLb
    subst hX
    have := Wlk.two_res la lb Aa Ab ca cb 0 (fun x y => x || y) (.inl ⟨rfl, rfl⟩) rfl w1 h1 hca (by omega) h2 hcb (by omega)
    rw [hK] at this
    exact this)
  have HT1 := Lib.hid (fun w1 (h1 : Go.Proofs.YtihdcglkmilckaaW.PrintWords.Kd.C k42 w1 Aa La la) (h2 : Go.Proofs.YtihdcglkmilckaaW.PrintWords.Kd.C k42 w1 Ab Lb lb) => show Calls Try.prog 24 #[.slice Aa La ca, .slice Ab Lb cb, .int .i64 1] w1 fun e w' => ∃ v, e = .returned (.tuple #[v, .bool false]) ∧ Spn.Own w' w1.heap.size v Y ∧ Below w1.heap.size w1 w' by
    subst hLa
    subst hLb
    subst hY
    have := Wlk.two_res la lb Aa Ab ca cb 1 (fun x y => x && y) (.inr (.inl ⟨rfl, rfl⟩)) rfl w1 h1 hca (by omega) h2 hcb (by omega)
    rw [hK] at this
    exact this)
  have HT2 := Lib.hid (fun w1 (h1 : Go.Proofs.YtihdcglkmilckaaW.PrintWords.Kd.C k42 w1 Aa La la) (h2 : Go.Proofs.YtihdcglkmilckaaW.PrintWords.Kd.C k42 w1 Ab Lb lb) => show Calls Try.prog 24 #[.slice Aa La ca, .slice Ab Lb cb, .int .i64 2] w1 fun e w' => ∃ v, e = .returned (.tuple #[v, .bool false]) ∧ Spn.Own w' w1.heap.size v Z ∧ Below w1.heap.size w1 w' by
    subst hLa
    subst hLb
    subst hZ
    have := Wlk.two_res la lb Aa Ab ca cb 2 (fun x y => x && !y) (.inr (.inr ⟨rfl, rfl⟩)) rfl w1 h1 hca (by omega) h2 hcb (by omega)
    rw [hK] at this
    exact this)
  have HXl := Lib.hid (show X.length ≤ 1000 by rw [← hX]; exact Nat.le_trans (Wlk.res_len _ la lb) (by omega))
  have HYl := Lib.hid (show Y.length ≤ 1000 by rw [← hY]; exact Nat.le_trans (Wlk.res_len _ la lb) (by omega))
  have HZl := Lib.hid (show Z.length ≤ 1000 by rw [← hZ]; exact Nat.le_trans (Wlk.res_len _ la lb) (by omega))
  have HLa := Lib.hid hLa
  have HLb := Lib.hid hLb
  clear hGa hGb hCa hCb hca hcb hsa hsb hK hE hX hY hZ hLa hLb
  go_enter Try.func5, Try.ntmps5
  go_wp2_with (first
      | (go_at_call 8
         refine (law_alive _).mono ?_
         rintro e w1 ⟨rfl, hb1⟩
         have HF1 := Lib.hid (HF.out.below hb1)
         have HB := Lib.hid hb1
         clear hb1 HF)
      | (go_at_call 9
         with_reducible refine (HGa.out _).mono ?_
         rintro e w2 ⟨rfl, rfl⟩)
      | (go_at_call 9
         with_reducible refine (HGb.out _).mono ?_
         rintro e w3 ⟨rfl, rfl⟩)
      | (go_at_call 21
         with_reducible refine (HAny.out _ (by have h := HF1.out.get (A := Aa) (l := la) (by simp); rw [HLa.out] at h; exact h) (by have h := HF1.out.get (A := Ab) (l := lb) (by simp); rw [HLb.out] at h; exact h)).mono ?_
         rintro e w2 ⟨v2, rfl, ho2, hb2⟩
         obtain ⟨A2, c2, rfl, hc2, _⟩ := Spn.own_form ho2
         have HF2 := Lib.hid (HF1.out.more hb2 ho2)
         have HBn := Lib.hid (Mem.then_ HB.out hb2)
         clear ho2 hb2 hc2 HF1 HB
         have HB := HBn
         clear HBn)
      | (go_at_call 22
         with_reducible refine (HBoth.out _ (by have h := HF2.out.get (A := Aa) (l := la) (by simp); rw [HLa.out] at h; exact h) (by have h := HF2.out.get (A := Ab) (l := lb) (by simp); rw [HLb.out] at h; exact h)).mono ?_
         rintro e w3 ⟨v3, rfl, ho3, hb3⟩
         obtain ⟨A3, c3, rfl, hc3, _⟩ := Spn.own_form ho3
         have HF3 := Lib.hid (HF2.out.more hb3 ho3)
         have HBn := Lib.hid (Mem.then_ HB.out hb3)
         clear ho3 hb3 hc3 HF2 HB
         have HB := HBn
         clear HBn)
      | (go_at_call 23
         with_reducible refine (HLess.out _ (by have h := HF3.out.get (A := Aa) (l := la) (by simp); rw [HLa.out] at h; exact h) (by have h := HF3.out.get (A := Ab) (l := lb) (by simp); rw [HLb.out] at h; exact h)).mono ?_
         rintro e w4 ⟨v4, rfl, ho4, hb4⟩
         obtain ⟨A4, c4, rfl, hc4, _⟩ := Spn.own_form ho4
         have HF4 := Lib.hid (HF3.out.more hb4 ho4)
         have HBn := Lib.hid (Mem.then_ HB.out hb4)
         clear ho4 hb4 hc4 HF3 HB
         have HB := HBn
         clear HBn)
      | (go_at_call 24
         with_reducible refine (HT0.out _ (by have h := HF4.out.get (A := Aa) (l := la) (by simp); rw [HLa.out] at h; exact h) (by have h := HF4.out.get (A := Ab) (l := lb) (by simp); rw [HLb.out] at h; exact h)).mono ?_
         rintro e w5 ⟨v5, rfl, ho5, hb5⟩
         obtain ⟨A5, c5, rfl, hc5, _⟩ := Spn.own_form ho5
         have HF5 := Lib.hid (HF4.out.more hb5 ho5)
         have HBn := Lib.hid (Mem.then_ HB.out hb5)
         clear ho5 hb5 hc5 HF4 HB
         have HB := HBn
         clear HBn)
      | (go_at_call 24
         with_reducible refine (HT1.out _ (by have h := HF5.out.get (A := Aa) (l := la) (by simp); rw [HLa.out] at h; exact h) (by have h := HF5.out.get (A := Ab) (l := lb) (by simp); rw [HLb.out] at h; exact h)).mono ?_
         rintro e w6 ⟨v6, rfl, ho6, hb6⟩
         obtain ⟨A6, c6, rfl, hc6, _⟩ := Spn.own_form ho6
         have HF6 := Lib.hid (HF5.out.more hb6 ho6)
         have HBn := Lib.hid (Mem.then_ HB.out hb6)
         clear ho6 hb6 hc6 HF5 HB
         have HB := HBn
         clear HBn)
      | (go_at_call 24
         with_reducible refine (HT2.out _ (by have h := HF6.out.get (A := Aa) (l := la) (by simp); rw [HLa.out] at h; exact h) (by have h := HF6.out.get (A := Ab) (l := lb) (by simp); rw [HLb.out] at h; exact h)).mono ?_
         rintro e w7 ⟨v7, rfl, ho7, hb7⟩
         obtain ⟨A7, c7, rfl, hc7, _⟩ := Spn.own_form ho7
         have HF7 := Lib.hid (HF6.out.more hb7 ho7)
         have HBn := Lib.hid (Mem.then_ HB.out hb7)
         clear ho7 hb7 hc7 HF6 HB
         have HB := HBn
         clear HBn)
      | (go_at_call 20
         with_reducible refine (ref_same X X A2 A5 c2 c5 _ (HF7.out.get (by simp)) (HF7.out.get (by simp)) (by have := HXl.out; omega)).mono ?_
         rw [decide_eq_true rfl]
         rintro e w8 ⟨rfl, hd8⟩
         have HF8 := Lib.hid (HF7.out.drawn hd8)
         have HBn := Lib.hid (HB.out.trans (hd8.below _))
         clear hd8 HF7 HB
         have HB := HBn
         clear HBn)
      | (go_at_call 20
         with_reducible refine (ref_same Y Y A3 A6 c3 c6 _ (HF8.out.get (by simp)) (HF8.out.get (by simp)) (by have := HYl.out; omega)).mono ?_
         rw [decide_eq_true rfl]
         rintro e w9 ⟨rfl, hd9⟩
         have HF9 := Lib.hid (HF8.out.drawn hd9)
         have HBn := Lib.hid (HB.out.trans (hd9.below _))
         clear hd9 HF8 HB
         have HB := HBn
         clear HBn)
      | (go_at_call 20
         with_reducible refine (ref_same Z Z A4 A7 c4 c7 _ (HF9.out.get (by simp)) (HF9.out.get (by simp)) (by have := HZl.out; omega)).mono ?_
         rw [decide_eq_true rfl]
         rintro e w10 ⟨rfl, hd10⟩
         have HF10 := Lib.hid (HF9.out.drawn hd10)
         have HBn := Lib.hid (HB.out.trans (hd10.below _))
         clear hd10 HF9 HB
         have HB := HBn
         clear HBn))
  go_ret
  exact ⟨rfl, HB.out⟩

theorem spansTwo_walk (a0 : Option Addr) (len0 cap0 : Nat) (a1 : Option Addr) (len1 cap1 : Nat) (w : World) (h0 : ∃ (H : Type) (enc : TypeId × Value → H) (d : DataW H) (p : List MemPlace), DataW.Trod enc Try.prog w 0 (fun _ => true) true 22 (.slice a0 len0 cap0) d p) (h1 : ∃ (H : Type) (enc : TypeId × Value → H) (d : DataW H) (p : List MemPlace), DataW.Trod enc Try.prog w 0 (fun _ => true) true 22 (.slice a1 len1 cap1) d p) :
    Calls Try.prog 5 #[.slice a0 len0 cap0, .slice a1 len1 cap1] w fun e w' => e = .returned (.bool true) ∧ Below w.heap.size w w' := by
  obtain ⟨H, enc, d, p, h⟩ := h0
  obtain ⟨la, hla, hca, hCa⟩ := Spn.arg_spans h
  obtain ⟨H', enc', d', p', h'⟩ := h1
  obtain ⟨lb, hlb, hcb, hCb⟩ := Spn.arg_spans h'
  by_cases h1 : 60 < len0
  · exact spansTwo_great la lb len0 len1 a0 a1 cap0 cap1 w hla hlb (.inl h1)
  · by_cases h2 : 60 < len1
    · exact spansTwo_great la lb len0 len1 a0 a1 cap0 cap1 w hla hlb (.inr ⟨h1, h2⟩)
    · cases hK : (Spn.may la && Spn.may lb) with
      | false => exact spansTwo_no la lb len0 len1 a0 a1 cap0 cap1 w hCa (by omega) hCb (by omega) hla hlb h1 h2 hK
      | true => exact spansTwo_yes la lb len0 len1 a0 a1 cap0 cap1 w hCa (by omega) hCb (by omega) hla hlb h1 h2 hK
end Go.Proofs.Ytihdcglkmilckaa
