/- The walk of law07.SpansParts. (Printed by wip/gen_parts.py.) -/
import Derived.Test.YtihdcglkmilckaaWlkT
import Derived.Test.YtihdcglkmilckaaWlkP
import Derived.Test.YtihdcglkmilckaaSpnI
namespace Go.Proofs.Ytihdcglkmilckaa
open Go.RowKit Go.Shelf

namespace Wlk
open Spn PSpansOpen Go.Proofs.YtihdcglkmilckaaW.PrintWords
theorem gives_yes {what : Bool → Bool → Bool} {la lb X : List Span} (hma : may la = true) (hmb : may lb = true) (hX : walked what la lb = X) {w : World} {e : Ending} {w' : World} (h : Gives what la lb w e w') :
    ∃ v, e = .returned (.tuple #[v, .int .i64 0]) ∧ Spn.Own w' w.heap.size v X ∧ Below w.heap.size w w' := by
  obtain ⟨v, h1, h2, h3⟩ := h
  have e1 : err la lb = 0 := by unfold err; rw [hma, hmb]; rfl
  have e2 : res what la lb = X := by unfold res; rw [hma, hmb]; exact hX
  rw [e1] at h1
  rw [e2] at h2
  exact ⟨v, h1, h2, h3⟩
theorem total_bd {l : List Span} (h : may l = true) : 0 ≤ total l ∧ total l ≤ 20001 := by
  rw [← ahead_total (last := -1) h (by omega)]
  have := ahead_bd (last := -1) h (by omega) (by omega) 20000
  omega
theorem wf_u8 {n : Int} (h : (Lit.int .u8 n).wf = true) : 0 ≤ n ∧ n ≤ 255 := by simpa [Lit.wf, IntKind.min, IntKind.max, IntKind.signed, IntKind.bits] using h
end Wlk
open PSpansOpen

set_option maxRecDepth 100000 in
set_option maxHeartbeats 2000000 in
theorem spansParts_out (la lb : List Spn.Span) (La Lb : Nat) (Aa Ab : Option Addr) (ca cb : Nat) (h0 h1 h2 : Int) (w : World) (hCa : Go.Proofs.YtihdcglkmilckaaW.PrintWords.Kd.C k42 w Aa la.length la) (hca : la.length ≤ ca) (hCb : Go.Proofs.YtihdcglkmilckaaW.PrintWords.Kd.C k42 w Ab lb.length lb) (hcb : lb.length ≤ cb) (hLa : la.length = La) (hLb : lb.length = Lb)
    (hways : 60 < La ∨ (¬ 60 < La ∧ 60 < Lb) ∨ (¬ 60 < La ∧ ¬ 60 < Lb ∧ Spn.may la = false) ∨ (¬ 60 < La ∧ ¬ 60 < Lb ∧ Spn.may la = true ∧ Spn.may lb = false)) :
    Calls Try.prog 6 #[.slice Aa La ca, .slice Ab Lb cb, .agg #[.int .u8 h0, .int .u8 h1, .int .u8 h2]] w fun e w' => e = .returned (.bool true) ∧ Below w.heap.size w w' := by
  have HF := Lib.hid (show Spn.All [(Aa, la), (Ab, lb)] w from fun f hf => by
    rcases List.mem_cons.1 hf with rfl | hf
    · exact hCa
    · obtain rfl : f = (Ab, lb) := by simpa using hf
      exact hCb)
  have HLa := Lib.hid hLa
  have HLb := Lib.hid hLb
  have hGa := fun w1 => law_great la Aa ca w1
  have hGb := fun w1 => law_great lb Ab cb w1
  rw [hLa] at hGa
  rw [hLb] at hGb
  rcases hways with q1 | ⟨q1, q2⟩ | ⟨q1, q2, q3⟩ | ⟨q1, q2, q3, q4⟩
  · rw [decide_eq_true q1] at hGa
    have HGa := Lib.hid hGa
    clear hGa hGb hCa hCb hca hcb hLa hLb q1
    go_enter Try.func6, Try.ntmps6
    go_upto_region 1 with
    (refine Mem.wpList_box (o := ⟨some 5, _, _, _, _, _⟩) rfl 37 _ rfl (.agg #[.int .u8 h0, .int .u8 h1, .int .u8 h2]) rfl ?_
     intro w0 hn0
     have Hn0 := Lib.hid hn0
     have HF0 := Lib.hid (HF.out.below hn0.below)
     clear hn0 HF)
    go_wp2_with (first
      | (go_at_call 8
         refine (law_alive _).mono ?_
         rintro e w1 ⟨rfl, hb1⟩
         have HF1 := Lib.hid (HF0.out.below hb1)
         have HX := Lib.hid hb1
         clear hb1 HF0)
      | (go_at_call 9
         with_reducible refine (HGa.out _).mono ?_
         rintro e wg ⟨rfl, rfl⟩))
    go_ret
    exact ⟨rfl, Hn0.out.below.trans (HX.out.mono Hn0.out.below.size)⟩
  · rw [decide_eq_false q1] at hGa
    rw [decide_eq_true q2] at hGb
    have HGa := Lib.hid hGa
    have HGb := Lib.hid hGb
    clear hGa hGb hCa hCb hca hcb hLa hLb q1 q2
    go_enter Try.func6, Try.ntmps6
    go_upto_region 1 with
    (refine Mem.wpList_box (o := ⟨some 5, _, _, _, _, _⟩) rfl 37 _ rfl (.agg #[.int .u8 h0, .int .u8 h1, .int .u8 h2]) rfl ?_
     intro w0 hn0
     have Hn0 := Lib.hid hn0
     have HF0 := Lib.hid (HF.out.below hn0.below)
     clear hn0 HF)
    go_wp2_with (first
      | (go_at_call 8
         refine (law_alive _).mono ?_
         rintro e w1 ⟨rfl, hb1⟩
         have HF1 := Lib.hid (HF0.out.below hb1)
         have HX := Lib.hid hb1
         clear hb1 HF0)
      | (go_at_call 9
         with_reducible refine (HGa.out _).mono ?_
         rintro e wg ⟨rfl, rfl⟩)
      | (go_at_call 9
         with_reducible refine (HGb.out _).mono ?_
         rintro e wg ⟨rfl, rfl⟩))
    go_ret
    exact ⟨rfl, Hn0.out.below.trans (HX.out.mono Hn0.out.below.size)⟩
  · rw [decide_eq_false q1] at hGa
    rw [decide_eq_false q2] at hGb
    have HGa := Lib.hid hGa
    have HGb := Lib.hid hGb
    have HMa := Lib.hid (fun w1 (hC : Go.Proofs.YtihdcglkmilckaaW.PrintWords.Kd.C k42 w1 Aa La la) => show Calls Try.prog 10 #[.slice Aa La ca] w1 fun e w' => e = .returned (.bool false) ∧ Below w1.heap.size w1 w' by
      subst hLa
      have := Spn.contracts_refmay la la.length rfl Aa ca w1 hC hca (by omega)
      rw [q3] at this
      exact this)
    clear hGa hGb hCa hCb hca hcb hLa hLb q1 q2 q3
    go_enter Try.func6, Try.ntmps6
    go_upto_region 1 with
    (refine Mem.wpList_box (o := ⟨some 5, _, _, _, _, _⟩) rfl 37 _ rfl (.agg #[.int .u8 h0, .int .u8 h1, .int .u8 h2]) rfl ?_
     intro w0 hn0
     have Hn0 := Lib.hid hn0
     have HF0 := Lib.hid (HF.out.below hn0.below)
     clear hn0 HF)
    go_wp2_with (first
      | (go_at_call 8
         refine (law_alive _).mono ?_
         rintro e w1 ⟨rfl, hb1⟩
         have HF1 := Lib.hid (HF0.out.below hb1)
         have HX := Lib.hid hb1
         clear hb1 HF0)
      | (go_at_call 9
         with_reducible refine (HGa.out _).mono ?_
         rintro e wg ⟨rfl, rfl⟩)
      | (go_at_call 9
         with_reducible refine (HGb.out _).mono ?_
         rintro e wg ⟨rfl, rfl⟩)
      | (go_at_call 10
         with_reducible refine (HMa.out _ (by have h := HF1.out.get (A := Aa) (l := la) (by simp); rw [HLa.out] at h; exact h)).mono ?_
         rintro e w2 ⟨rfl, hb2⟩
         have HF2 := Lib.hid (HF1.out.below hb2)
         have HBn := Lib.hid (Mem.then_ HX.out hb2)
         clear hb2 HF1 HX
         have HX := HBn
         clear HBn))
    go_ret
    exact ⟨rfl, Hn0.out.below.trans (HX.out.mono Hn0.out.below.size)⟩
  · rw [decide_eq_false q1] at hGa
    rw [decide_eq_false q2] at hGb
    have HGa := Lib.hid hGa
    have HGb := Lib.hid hGb
    have HMa := Lib.hid (fun w1 (hC : Go.Proofs.YtihdcglkmilckaaW.PrintWords.Kd.C k42 w1 Aa La la) => show Calls Try.prog 10 #[.slice Aa La ca] w1 fun e w' => e = .returned (.bool true) ∧ Below w1.heap.size w1 w' by
      subst hLa
      have := Spn.contracts_refmay la la.length rfl Aa ca w1 hC hca (by omega)
      rw [q3] at this
      exact this)
    have HMb := Lib.hid (fun w1 (hC : Go.Proofs.YtihdcglkmilckaaW.PrintWords.Kd.C k42 w1 Ab Lb lb) => show Calls Try.prog 10 #[.slice Ab Lb cb] w1 fun e w' => e = .returned (.bool false) ∧ Below w1.heap.size w1 w' by
      subst hLb
      have := Spn.contracts_refmay lb lb.length rfl Ab cb w1 hC hcb (by omega)
      rw [q4] at this
      exact this)
    clear hGa hGb hCa hCb hca hcb hLa hLb q1 q2 q3 q4
    go_enter Try.func6, Try.ntmps6
    go_upto_region 1 with
    (refine Mem.wpList_box (o := ⟨some 5, _, _, _, _, _⟩) rfl 37 _ rfl (.agg #[.int .u8 h0, .int .u8 h1, .int .u8 h2]) rfl ?_
     intro w0 hn0
     have Hn0 := Lib.hid hn0
     have HF0 := Lib.hid (HF.out.below hn0.below)
     clear hn0 HF)
    go_wp2_with (first
      | (go_at_call 8
         refine (law_alive _).mono ?_
         rintro e w1 ⟨rfl, hb1⟩
         have HF1 := Lib.hid (HF0.out.below hb1)
         have HX := Lib.hid hb1
         clear hb1 HF0)
      | (go_at_call 9
         with_reducible refine (HGa.out _).mono ?_
         rintro e wg ⟨rfl, rfl⟩)
      | (go_at_call 9
         with_reducible refine (HGb.out _).mono ?_
         rintro e wg ⟨rfl, rfl⟩)
      | (go_at_call 10
         with_reducible refine (HMa.out _ (by have h := HF1.out.get (A := Aa) (l := la) (by simp); rw [HLa.out] at h; exact h)).mono ?_
         rintro e w2 ⟨rfl, hb2⟩
         have HF2 := Lib.hid (HF1.out.below hb2)
         have HBn := Lib.hid (Mem.then_ HX.out hb2)
         clear hb2 HF1 HX
         have HX := HBn
         clear HBn)
      | (go_at_call 10
         with_reducible refine (HMb.out _ (by have h := HF2.out.get (A := Ab) (l := lb) (by simp); rw [HLb.out] at h; exact h)).mono ?_
         rintro e w3 ⟨rfl, hb3⟩
         have HF3 := Lib.hid (HF2.out.below hb3)
         have HBn := Lib.hid (Mem.then_ HX.out hb3)
         clear hb3 HF2 HX
         have HX := HBn
         clear HBn))
    go_ret
    exact ⟨rfl, Hn0.out.below.trans (HX.out.mono Hn0.out.below.size)⟩

set_option maxRecDepth 100000 in
set_option maxHeartbeats 4000000 in
theorem spansParts_yes (la lb : List Spn.Span) (La Lb : Nat) (Aa Ab : Option Addr) (ca cb : Nat) (h0 h1 h2 : Int) (w : World) (hCa : Go.Proofs.YtihdcglkmilckaaW.PrintWords.Kd.C k42 w Aa la.length la) (hca : la.length ≤ ca) (hCb : Go.Proofs.YtihdcglkmilckaaW.PrintWords.Kd.C k42 w Ab lb.length lb) (hcb : lb.length ≤ cb) (hLa : la.length = La) (hLb : lb.length = Lb)
    (q1 : ¬ 60 < La) (q2 : ¬ 60 < Lb) (q3 : Spn.may la = true) (q4 : Spn.may lb = true) (b0 : 0 ≤ h0 ∧ h0 ≤ 255) (b1 : 0 ≤ h1 ∧ h1 ≤ 255) (b2 : 0 ≤ h2 ∧ h2 ≤ 255) :
    Calls Try.prog 6 #[.slice Aa La ca, .slice Ab Lb cb, .agg #[.int .u8 h0, .int .u8 h1, .int .u8 h2]] w fun e w' => e = .returned (.bool true) ∧ Below w.heap.size w w' := by
  have HF := Lib.hid (show Spn.All [(Aa, la), (Ab, lb)] w from fun f hf => by
    rcases List.mem_cons.1 hf with rfl | hf
    · exact hCa
    · obtain rfl : f = (Ab, lb) := by simpa using hf
      exact hCb)
  have HLa := Lib.hid hLa
  have HLb := Lib.hid hLb
  have hGa := fun w1 => law_great la Aa ca w1
  have hGb := fun w1 => law_great lb Ab cb w1
  rw [hLa, decide_eq_false q1] at hGa
  rw [hLb, decide_eq_false q2] at hGb
  have HGa := Lib.hid hGa
  have HGb := Lib.hid hGb
  have HMa := Lib.hid (fun w1 (hC : Go.Proofs.YtihdcglkmilckaaW.PrintWords.Kd.C k42 w1 Aa La la) => show Calls Try.prog 10 #[.slice Aa La ca] w1 fun e w' => e = .returned (.bool true) ∧ Below w1.heap.size w1 w' by
    subst hLa
    have := Spn.contracts_refmay la la.length rfl Aa ca w1 hC hca (by omega)
    rw [q3] at this
    exact this)
  have HMb := Lib.hid (fun w1 (hC : Go.Proofs.YtihdcglkmilckaaW.PrintWords.Kd.C k42 w1 Ab Lb lb) => show Calls Try.prog 10 #[.slice Ab Lb cb] w1 fun e w' => e = .returned (.bool true) ∧ Below w1.heap.size w1 w' by
    subst hLb
    have := Spn.contracts_refmay lb lb.length rfl Ab cb w1 hC hcb (by omega)
    rw [q4] at this
    exact this)
  obtain ⟨X, hX⟩ : ∃ R0, Wlk.walked (fun x y => x && !y) la lb = R0 := ⟨_, rfl⟩
  obtain ⟨Y, hY⟩ : ∃ R0, Wlk.walked (fun x y => x && !y) lb la = R0 := ⟨_, rfl⟩
  obtain ⟨Z, hZ⟩ : ∃ R0, Wlk.walked (fun x y => x && y) la lb = R0 := ⟨_, rfl⟩
  obtain ⟨A, hA⟩ : ∃ R0, Wlk.walked (fun x y => x || y) la lb = R0 := ⟨_, rfl⟩
  obtain ⟨P, hP⟩ : ∃ R0, Wlk.walked (fun x y => x || y) X Y = R0 := ⟨_, rfl⟩
  obtain ⟨Q, hQ⟩ : ∃ R0, Wlk.walked (fun x y => x || y) P Z = R0 := ⟨_, rfl⟩
  obtain ⟨mX, mY, mZ, mA, mP, hQA, hsum⟩ := Wlk.parts_law q3 q4 hX hY hZ hA hP hQ
  have lX : X.length ≤ 240 := by rw [← hX]; exact Nat.le_trans (Wlk.walked_len _ _ _) (by omega)
  have lY : Y.length ≤ 240 := by rw [← hY]; exact Nat.le_trans (Wlk.walked_len _ _ _) (by omega)
  have lZ : Z.length ≤ 240 := by rw [← hZ]; exact Nat.le_trans (Wlk.walked_len _ _ _) (by omega)
  have lA : A.length ≤ 240 := by rw [← hA]; exact Nat.le_trans (Wlk.walked_len _ _ _) (by omega)
  have lP : P.length ≤ 960 := by rw [← hP]; exact Nat.le_trans (Wlk.walked_len _ _ _) (by omega)
  have bX := Wlk.total_bd mX
  have bY := Wlk.total_bd mY
  have bZ := Wlk.total_bd mZ
  rw [hQA] at hQ
  have H4 := Lib.hid (fun w1 (k1 : Go.Proofs.YtihdcglkmilckaaW.PrintWords.Kd.C k42 w1 Aa La la) (k2 : Go.Proofs.YtihdcglkmilckaaW.PrintWords.Kd.C k42 w1 Ab Lb lb) => show Calls Try.prog 23 #[.slice Aa La ca, .slice Ab Lb cb] w1 fun e w' => ∃ v, e = .returned (.tuple #[v, .int .i64 0]) ∧ Spn.Own w' w1.heap.size v X ∧ Below w1.heap.size w1 w' by
    subst hLa
    subst hLb
    exact (spans_Less la lb Aa Ab ca cb w1 k1 (by omega) k2 (by omega) (by omega)).mono fun e w' h => Wlk.gives_yes q3 q4 hX h)
  have H5 := Lib.hid (fun w1 (k1 : Go.Proofs.YtihdcglkmilckaaW.PrintWords.Kd.C k42 w1 Ab Lb lb) (k2 : Go.Proofs.YtihdcglkmilckaaW.PrintWords.Kd.C k42 w1 Aa La la) => show Calls Try.prog 23 #[.slice Ab Lb cb, .slice Aa La ca] w1 fun e w' => ∃ v, e = .returned (.tuple #[v, .int .i64 0]) ∧ Spn.Own w' w1.heap.size v Y ∧ Below w1.heap.size w1 w' by
    subst hLa
    subst hLb
    exact (spans_Less lb la Ab Aa cb ca w1 k1 (by omega) k2 (by omega) (by omega)).mono fun e w' h => Wlk.gives_yes q4 q3 hY h)
  have H6 := Lib.hid (fun w1 (k1 : Go.Proofs.YtihdcglkmilckaaW.PrintWords.Kd.C k42 w1 Aa La la) (k2 : Go.Proofs.YtihdcglkmilckaaW.PrintWords.Kd.C k42 w1 Ab Lb lb) => show Calls Try.prog 22 #[.slice Aa La ca, .slice Ab Lb cb] w1 fun e w' => ∃ v, e = .returned (.tuple #[v, .int .i64 0]) ∧ Spn.Own w' w1.heap.size v Z ∧ Below w1.heap.size w1 w' by
    subst hLa
    subst hLb
    exact (spans_Both la lb Aa Ab ca cb w1 k1 (by omega) k2 (by omega) (by omega)).mono fun e w' h => Wlk.gives_yes q3 q4 hZ h)
  have H7 := Lib.hid (fun w1 (k1 : Go.Proofs.YtihdcglkmilckaaW.PrintWords.Kd.C k42 w1 Aa La la) (k2 : Go.Proofs.YtihdcglkmilckaaW.PrintWords.Kd.C k42 w1 Ab Lb lb) => show Calls Try.prog 21 #[.slice Aa La ca, .slice Ab Lb cb] w1 fun e w' => ∃ v, e = .returned (.tuple #[v, .int .i64 0]) ∧ Spn.Own w' w1.heap.size v A ∧ Below w1.heap.size w1 w' by
    subst hLa
    subst hLb
    exact (spans_Any la lb Aa Ab ca cb w1 k1 (by omega) k2 (by omega) (by omega)).mono fun e w' h => Wlk.gives_yes q3 q4 hA h)
  have H8 := Lib.hid (fun A1 A2 c1 c2 w1 (k1 : Go.Proofs.YtihdcglkmilckaaW.PrintWords.Kd.C k42 w1 A1 X.length X) (g1 : X.length ≤ c1) (k2 : Go.Proofs.YtihdcglkmilckaaW.PrintWords.Kd.C k42 w1 A2 Y.length Y) (g2 : Y.length ≤ c2) => show Calls Try.prog 21 #[.slice A1 X.length c1, .slice A2 Y.length c2] w1 fun e w' => ∃ v, e = .returned (.tuple #[v, .int .i64 0]) ∧ Spn.Own w' w1.heap.size v P ∧ Below w1.heap.size w1 w' by
    exact (spans_Any X Y A1 A2 c1 c2 w1 k1 g1 k2 g2 (by omega)).mono fun e w' h => Wlk.gives_yes mX mY hP h)
  have H9 := Lib.hid (fun A1 A2 c1 c2 w1 (k1 : Go.Proofs.YtihdcglkmilckaaW.PrintWords.Kd.C k42 w1 A1 P.length P) (g1 : P.length ≤ c1) (k2 : Go.Proofs.YtihdcglkmilckaaW.PrintWords.Kd.C k42 w1 A2 Z.length Z) (g2 : Z.length ≤ c2) => show Calls Try.prog 21 #[.slice A1 P.length c1, .slice A2 Z.length c2] w1 fun e w' => ∃ v, e = .returned (.tuple #[v, .int .i64 0]) ∧ Spn.Own w' w1.heap.size v A ∧ Below w1.heap.size w1 w' by
    exact (spans_Any P Z A1 A2 c1 c2 w1 k1 g1 k2 g2 (by omega)).mono fun e w' h => Wlk.gives_yes mP mZ hQ h)
  have HTX := Lib.hid (fun A1 c1 w1 (k1 : Go.Proofs.YtihdcglkmilckaaW.PrintWords.Kd.C k42 w1 A1 X.length X) (g1 : X.length ≤ c1) => show Calls Try.prog 11 #[.slice A1 X.length c1] w1 fun e w' => e = .returned (.int .i64 (Spn.total X)) ∧ Below w1.heap.size w1 w' by
    have := Spn.contracts_total X X.length rfl A1 c1 w1 k1 g1 (by omega)
    rw [mX, if_pos rfl] at this
    exact this)
  have HTY := Lib.hid (fun A1 c1 w1 (k1 : Go.Proofs.YtihdcglkmilckaaW.PrintWords.Kd.C k42 w1 A1 Y.length Y) (g1 : Y.length ≤ c1) => show Calls Try.prog 11 #[.slice A1 Y.length c1] w1 fun e w' => e = .returned (.int .i64 (Spn.total Y)) ∧ Below w1.heap.size w1 w' by
    have := Spn.contracts_total Y Y.length rfl A1 c1 w1 k1 g1 (by omega)
    rw [mY, if_pos rfl] at this
    exact this)
  have HTZ := Lib.hid (fun A1 c1 w1 (k1 : Go.Proofs.YtihdcglkmilckaaW.PrintWords.Kd.C k42 w1 A1 Z.length Z) (g1 : Z.length ≤ c1) => show Calls Try.prog 11 #[.slice A1 Z.length c1] w1 fun e w' => e = .returned (.int .i64 (Spn.total Z)) ∧ Below w1.heap.size w1 w' by
    have := Spn.contracts_total Z Z.length rfl A1 c1 w1 k1 g1 (by omega)
    rw [mZ, if_pos rfl] at this
    exact this)
  have HTA := Lib.hid (fun A1 c1 w1 (k1 : Go.Proofs.YtihdcglkmilckaaW.PrintWords.Kd.C k42 w1 A1 A.length A) (g1 : A.length ≤ c1) => show Calls Try.prog 11 #[.slice A1 A.length c1] w1 fun e w' => e = .returned (.int .i64 (Spn.total X + Spn.total Y + Spn.total Z)) ∧ Below w1.heap.size w1 w' by
    have := Spn.contracts_total A A.length rfl A1 c1 w1 k1 g1 (by omega)
    rw [mA, if_pos rfl, ← hsum] at this
    exact this)
  obtain ⟨mU, hcase⟩ := Wlk.opens_parts q3 (a := h0) (n := h1) (m := h2) b0.1 (by omega) b1.1 b2.1
  have lU : (Spn.openL la h0 h1).length ≤ 120 := Nat.le_trans (Spn.openL_len la h0 h1) (by omega)
  have lV : (Spn.openL (Spn.openL la h0 h1) h0 h2).length ≤ 240 := Nat.le_trans (Spn.openL_len _ h0 h2) (by omega)
  have o1 := fun w1 k1 => spans_open la Aa ca h0 h1 w1 k1 hca (by omega)
  have o3 := fun w1 k1 => spans_open la Aa ca h0 (h1 + h2) w1 k1 hca (by omega)
  have o2 := fun A1 c1 w1 k1 g1 => spans_open (Spn.openL la h0 h1) A1 c1 h0 h2 w1 k1 g1 (by omega)
  obtain ⟨E, hE⟩ : ∃ E, Spn.openE la h0 h1 = E := ⟨_, rfl⟩
  obtain ⟨U, hU⟩ : ∃ E, Spn.openL la h0 h1 = E := ⟨_, rfl⟩
  rw [hLa, hE, hU] at o1
  rw [hU] at o2 hcase lU lV
  rw [hE] at hcase
  obtain ⟨E2, hE2⟩ : ∃ E, Spn.openE U h0 h2 = E := ⟨_, rfl⟩
  obtain ⟨V, hV⟩ : ∃ E, Spn.openL U h0 h2 = E := ⟨_, rfl⟩
  rw [hE2, hV] at o2 hcase
  rw [hV] at lV
  obtain ⟨E3, hE3⟩ : ∃ E, Spn.openE la h0 (h1 + h2) = E := ⟨_, rfl⟩
  obtain ⟨V3, hV3⟩ : ∃ E, Spn.openL la h0 (h1 + h2) = E := ⟨_, rfl⟩
  rw [hLa, hE3, hV3] at o3
  rw [hE3, hV3] at hcase
  have O1 := Lib.hid o1
  have O2 := Lib.hid o2
  have O3 := Lib.hid o3
  have HlA := Lib.hid lA
  have HlV := Lib.hid lV
  have Hcase := Lib.hid hcase
  clear hGa hGb hCa hCb hca hcb hLa hLb q1 q2 q3 q4 hX hY hZ hA hP hQ hQA hsum mX mY mZ mA mP mU lX lY lZ lA lP lU lV o1 o2 o3 hE hU hE2 hV hE3 hV3 hcase
  go_enter Try.func6, Try.ntmps6
  go_upto_region 1 with
    (refine Mem.wpList_box (o := ⟨some 5, _, _, _, _, _⟩) rfl 37 _ rfl (.agg #[.int .u8 h0, .int .u8 h1, .int .u8 h2]) rfl ?_
     intro w0 hn0
     have Hn0 := Lib.hid hn0
     have HF0 := Lib.hid (HF.out.below hn0.below)
     clear hn0 HF)
  go_upto_region 13 with (first
      | (go_at_call 8
         refine (law_alive _).mono ?_
         rintro e w1 ⟨rfl, hb1⟩
         have HF1 := Lib.hid (HF0.out.below hb1)
         have HX := Lib.hid hb1
         clear hb1 HF0)
      | (go_at_call 9
         with_reducible refine (HGa.out _).mono ?_
         rintro e wg ⟨rfl, rfl⟩)
      | (go_at_call 9
         with_reducible refine (HGb.out _).mono ?_
         rintro e wg ⟨rfl, rfl⟩)
      | (go_at_call 10
         with_reducible refine (HMa.out _ (by have h := HF1.out.get (A := Aa) (l := la) (by simp); rw [HLa.out] at h; exact h)).mono ?_
         rintro e w2 ⟨rfl, hb2⟩
         have HF2 := Lib.hid (HF1.out.below hb2)
         have HBn := Lib.hid (Mem.then_ HX.out hb2)
         clear hb2 HF1 HX
         have HX := HBn
         clear HBn)
      | (go_at_call 10
         with_reducible refine (HMb.out _ (by have h := HF2.out.get (A := Ab) (l := lb) (by simp); rw [HLb.out] at h; exact h)).mono ?_
         rintro e w3 ⟨rfl, hb3⟩
         have HF3 := Lib.hid (HF2.out.below hb3)
         have HBn := Lib.hid (Mem.then_ HX.out hb3)
         clear hb3 HF2 HX
         have HX := HBn
         clear HBn)
      | (go_at_call 23
         with_reducible refine (H4.out _ (by have h := HF3.out.get (A := Aa) (l := la) (by simp); rw [HLa.out] at h; exact h) (by have h := HF3.out.get (A := Ab) (l := lb) (by simp); rw [HLb.out] at h; exact h)).mono ?_
         rintro e w4 ⟨v4, rfl, ho4, hb4⟩
         obtain ⟨A4, c4, rfl, hc4, _⟩ := Spn.own_form ho4
         have HF4 := Lib.hid (HF3.out.more hb4 ho4)
         have Hc4 := Lib.hid hc4
         have HBn := Lib.hid (Mem.then_ HX.out hb4)
         clear ho4 hb4 hc4 HF3 HX
         have HX := HBn
         clear HBn)
      | (go_at_call 23
         with_reducible refine (H5.out _ (by have h := HF4.out.get (A := Ab) (l := lb) (by simp); rw [HLb.out] at h; exact h) (by have h := HF4.out.get (A := Aa) (l := la) (by simp); rw [HLa.out] at h; exact h)).mono ?_
         rintro e w5 ⟨v5, rfl, ho5, hb5⟩
         obtain ⟨A5, c5, rfl, hc5, _⟩ := Spn.own_form ho5
         have HF5 := Lib.hid (HF4.out.more hb5 ho5)
         have Hc5 := Lib.hid hc5
         have HBn := Lib.hid (Mem.then_ HX.out hb5)
         clear ho5 hb5 hc5 HF4 HX
         have HX := HBn
         clear HBn)
      | (go_at_call 22
         with_reducible refine (H6.out _ (by have h := HF5.out.get (A := Aa) (l := la) (by simp); rw [HLa.out] at h; exact h) (by have h := HF5.out.get (A := Ab) (l := lb) (by simp); rw [HLb.out] at h; exact h)).mono ?_
         rintro e w6 ⟨v6, rfl, ho6, hb6⟩
         obtain ⟨A6, c6, rfl, hc6, _⟩ := Spn.own_form ho6
         have HF6 := Lib.hid (HF5.out.more hb6 ho6)
         have Hc6 := Lib.hid hc6
         have HBn := Lib.hid (Mem.then_ HX.out hb6)
         clear ho6 hb6 hc6 HF5 HX
         have HX := HBn
         clear HBn)
      | (go_at_call 21
         with_reducible refine (H7.out _ (by have h := HF6.out.get (A := Aa) (l := la) (by simp); rw [HLa.out] at h; exact h) (by have h := HF6.out.get (A := Ab) (l := lb) (by simp); rw [HLb.out] at h; exact h)).mono ?_
         rintro e w7 ⟨v7, rfl, ho7, hb7⟩
         obtain ⟨A7, c7, rfl, hc7, _⟩ := Spn.own_form ho7
         have HF7 := Lib.hid (HF6.out.more hb7 ho7)
         have Hc7 := Lib.hid hc7
         have HBn := Lib.hid (Mem.then_ HX.out hb7)
         clear ho7 hb7 hc7 HF6 HX
         have HX := HBn
         clear HBn)
      | (go_at_call 21
         with_reducible refine (H8.out A4 A5 c4 c5 _ (HF7.out.get (by simp)) Hc4.out (HF7.out.get (by simp)) Hc5.out).mono ?_
         rintro e w8 ⟨v8, rfl, ho8, hb8⟩
         obtain ⟨A8, c8, rfl, hc8, _⟩ := Spn.own_form ho8
         have HF8 := Lib.hid (HF7.out.more hb8 ho8)
         have Hc8 := Lib.hid hc8
         have HBn := Lib.hid (Mem.then_ HX.out hb8)
         clear ho8 hb8 hc8 HF7 HX
         have HX := HBn
         clear HBn)
      | (go_at_call 21
         with_reducible refine (H9.out A8 A6 c8 c6 _ (HF8.out.get (by simp)) Hc8.out (HF8.out.get (by simp)) Hc6.out).mono ?_
         rintro e w9 ⟨v9, rfl, ho9, hb9⟩
         obtain ⟨A9, c9, rfl, hc9, _⟩ := Spn.own_form ho9
         have HF9 := Lib.hid (HF8.out.more hb9 ho9)
         have Hc9 := Lib.hid hc9
         have HBn := Lib.hid (Mem.then_ HX.out hb9)
         clear ho9 hb9 hc9 HF8 HX
         have HX := HBn
         clear HBn)
      | (go_at_call 20
         with_reducible refine (ref_same A A A9 A7 c9 c7 _ (HF9.out.get (by simp)) (HF9.out.get (by simp)) (by have := HlA.out; omega)).mono ?_
         rw [decide_eq_true rfl]
         rintro e w10 ⟨rfl, hd10⟩
         have hb10 : Below w9.heap.size w9 w10 := hd10.below _
         have HF10 := Lib.hid (HF9.out.below hb10)
         have HBn := Lib.hid (Mem.then_ HX.out hb10)
         clear hd10 hb10 HF9 HX
         have HX := HBn
         clear HBn)
      | (go_at_call 11
         with_reducible refine (HTX.out A4 c4 _ (HF10.out.get (by simp)) Hc4.out).mono ?_
         rintro e w11 ⟨rfl, hb11⟩
         have HF11 := Lib.hid (HF10.out.below hb11)
         have HBn := Lib.hid (Mem.then_ HX.out hb11)
         clear hb11 HF10 HX
         have HX := HBn
         clear HBn)
      | (go_at_call 11
         with_reducible refine (HTY.out A5 c5 _ (HF11.out.get (by simp)) Hc5.out).mono ?_
         rintro e w12 ⟨rfl, hb12⟩
         have HF12 := Lib.hid (HF11.out.below hb12)
         have HBn := Lib.hid (Mem.then_ HX.out hb12)
         clear hb12 HF11 HX
         have HX := HBn
         clear HBn)
      | (go_at_call 11
         with_reducible refine (HTZ.out A6 c6 _ (HF12.out.get (by simp)) Hc6.out).mono ?_
         rintro e w13 ⟨rfl, hb13⟩
         have HF13 := Lib.hid (HF12.out.below hb13)
         have HBn := Lib.hid (Mem.then_ HX.out hb13)
         clear hb13 HF12 HX
         have HX := HBn
         clear HBn)
      | (go_at_call 11
         with_reducible refine (HTA.out A7 c7 _ (HF13.out.get (by simp)) Hc7.out).mono ?_
         rintro e w14 ⟨rfl, hb14⟩
         have HF14 := Lib.hid (HF13.out.below hb14)
         have HBn := Lib.hid (Mem.then_ HX.out hb14)
         clear hb14 HF13 HX
         have HX := HBn
         clear HBn))
  have c0 := Hn0.out.cell HX.out 0 (v := .int .u8 h0) rfl
  have c1 := Hn0.out.cell HX.out 1 (v := .int .u8 h1) rfl
  have c2 := Hn0.out.cell HX.out 2 (v := .int .u8 h2) rfl
  have b00 := b0.1
  have b01 := b0.2
  have b10 := b1.1
  have b11 := b1.2
  have b20 := b2.1
  have b21 := b2.2
  go_quiet (fail)
  have HF15 := Lib.hid (HF14.out.drawn (Mem.Drawn.of w14 nq))
  have HY := Lib.hid (HX.out.trans ((Mem.Drawn.of w14 nq).below _))
  clear HF14 HX c0 c1 c2
  have HX := HY
  clear HY
  generalize w14.drewN nq = w15 at HF15 HX ⊢
  rcases Hcase.out with ⟨rfl, rfl, rfl, hvw⟩ | ⟨rfl, rfl, rfl⟩ | ⟨rfl, rfl⟩
  case' inl => subst hvw
  all_goals
    go_wp2_with (first
      | (go_at_call 16
         with_reducible refine (O1.out _ (by have h := HF15.out.get (A := Aa) (l := la) (by simp); rw [HLa.out] at h; exact h)).mono ?_
         rintro e w16 ⟨v16, rfl, ho16, hb16⟩
         obtain ⟨A16, c16, rfl, hc16, _⟩ := Spn.own_form ho16
         have HF16 := Lib.hid (HF15.out.more hb16 ho16)
         have Hc16 := Lib.hid hc16
         have HBn := Lib.hid (Mem.then_ HX.out hb16)
         clear ho16 hb16 hc16 HF15 HX
         have HX := HBn
         clear HBn)
      | (go_at_call 16
         with_reducible refine (O2.out A16 c16 _ (HF16.out.get (by simp)) Hc16.out).mono ?_
         rintro e w17 ⟨v17, rfl, ho17, hb17⟩
         obtain ⟨A17, c17, rfl, hc17, _⟩ := Spn.own_form ho17
         have HF17 := Lib.hid (HF16.out.more hb17 ho17)
         have Hc17 := Lib.hid hc17
         have HBn := Lib.hid (Mem.then_ HX.out hb17)
         clear ho17 hb17 hc17 HF16 HX
         have HX := HBn
         clear HBn)
      | (go_at_call 16
         with_reducible refine (O3.out _ (by have h := HF17.out.get (A := Aa) (l := la) (by simp); rw [HLa.out] at h; exact h)).mono ?_
         rintro e w18 ⟨v18, rfl, ho18, hb18⟩
         obtain ⟨A18, c18, rfl, hc18, _⟩ := Spn.own_form ho18
         have HF18 := Lib.hid (HF17.out.more hb18 ho18)
         have Hc18 := Lib.hid hc18
         have HBn := Lib.hid (Mem.then_ HX.out hb18)
         clear ho18 hb18 hc18 HF17 HX
         have HX := HBn
         clear HBn)
      | (go_at_call 20
         with_reducible refine (ref_same V V A17 A18 c17 c18 _ (HF18.out.get (by simp)) (HF18.out.get (by simp)) (by have := HlV.out; omega)).mono ?_
         rw [decide_eq_true rfl]
         rintro e w19 ⟨rfl, hd19⟩
         have hb19 : Below w18.heap.size w18 w19 := hd19.below _
         have HF19 := Lib.hid (HF18.out.below hb19)
         have HBn := Lib.hid (Mem.then_ HX.out hb19)
         clear hd19 hb19 HF18 HX
         have HX := HBn
         clear HBn))
    go_ret
    exact ⟨rfl, Hn0.out.below.trans (HX.out.mono Hn0.out.below.size)⟩

theorem spansParts_walk (a0 : Option Addr) (len0 cap0 : Nat) (a1 : Option Addr) (len1 cap1 : Nat) (a2_0 : Int) (a2_1 : Int) (a2_2 : Int) (w : World) (wa2_0 : (Lit.int .u8 a2_0).wf = true) (wa2_1 : (Lit.int .u8 a2_1).wf = true) (wa2_2 : (Lit.int .u8 a2_2).wf = true) (h0 : ∃ (H : Type) (enc : TypeId × Value → H) (d : DataW H) (p : List MemPlace), DataW.Trod enc Try.prog w 0 (fun _ => true) true 22 (.slice a0 len0 cap0) d p) (h1 : ∃ (H : Type) (enc : TypeId × Value → H) (d : DataW H) (p : List MemPlace), DataW.Trod enc Try.prog w 0 (fun _ => true) true 22 (.slice a1 len1 cap1) d p) :
    Calls Try.prog 6 #[.slice a0 len0 cap0, .slice a1 len1 cap1, .agg #[.int .u8 a2_0, .int .u8 a2_1, .int .u8 a2_2]] w fun e w' => e = .returned (.bool true) ∧ Below w.heap.size w w' := by
  obtain ⟨H, enc, d, p, h⟩ := h0
  obtain ⟨la, hla, hca, hCa⟩ := Spn.arg_spans h
  obtain ⟨H', enc', d', p', h'⟩ := h1
  obtain ⟨lb, hlb, hcb, hCb⟩ := Spn.arg_spans h'
  by_cases h1 : 60 < len0
  · exact spansParts_out la lb len0 len1 a0 a1 cap0 cap1 _ _ _ w hCa (by omega) hCb (by omega) hla hlb (.inl h1)
  · by_cases h2 : 60 < len1
    · exact spansParts_out la lb len0 len1 a0 a1 cap0 cap1 _ _ _ w hCa (by omega) hCb (by omega) hla hlb (.inr (.inl ⟨h1, h2⟩))
    · cases h3 : Spn.may la with
      | false => exact spansParts_out la lb len0 len1 a0 a1 cap0 cap1 _ _ _ w hCa (by omega) hCb (by omega) hla hlb (.inr (.inr (.inl ⟨h1, h2, h3⟩)))
      | true =>
        cases h4 : Spn.may lb with
        | false => exact spansParts_out la lb len0 len1 a0 a1 cap0 cap1 _ _ _ w hCa (by omega) hCb (by omega) hla hlb (.inr (.inr (.inr ⟨h1, h2, h3, h4⟩)))
        | true => exact spansParts_yes la lb len0 len1 a0 a1 cap0 cap1 _ _ _ w hCa (by omega) hCb (by omega) hla hlb h1 h2 h3 h4 (Wlk.wf_u8 wa2_0) (Wlk.wf_u8 wa2_1) (Wlk.wf_u8 wa2_2)
end Go.Proofs.Ytihdcglkmilckaa
