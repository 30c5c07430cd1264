/- The walk of law19.PaceSteady. -/
import Derived.Test.YtmfaadhclbfhoaaPacN
namespace Go.Proofs.Ytmfaadhclbfhoaa
open Go.RowKit

namespace Pac
/-- the pace behind i answers -/
def steadyRow (x : Nat) (D : Nat → Nat) (i : Nat) : Array Value := #[.float .f64 (if i = 0 then 0 else x), .float .f64 (if i = 0 then 0 else D (i - 1)), .bool (decide (i ≠ 0))]
theorem may_zero : may 0 0 false = true := by decide +kernel
theorem may_of {m d : Nat} (h1 : cnt m = true) (h2 : cnt d = true) : may m d true = true := by unfold may; rw [h1, h2]; rfl
end Pac

theorem steady_first {k x h : Nat} {D : Nat → Nat} {q s c n : Nat} (H : Pac.Steady k x h D q s c n) (w : World) :
    Calls Try.prog 13 #[.agg #[.float .f64 0, .float .f64 0, .bool false], .float .f64 x] w fun e w' =>
      e = .returned (.agg (Pac.steadyRow x D 1)) ∧ Below w.heap.size w w' := by
  have h0 := pace_heard_first 0 0 x h Pac.may_zero H.cx H.hh w
  rw [H.px, H.ph] at h0
  exact h0
theorem steady_next {k x h : Nat} {D : Nat → Nat} {q s c n : Nat} (H : Pac.Steady k x h D q s c n) (i : Nat) (hi : i < 59) (w : World) :
    Calls Try.prog 13 #[.agg #[.float .f64 x, .float .f64 (D i), .bool true], .float .f64 x] w fun e w' =>
      e = .returned (.agg (Pac.steadyRow x D (i + 2))) ∧ Below w.heap.size w w' := by
  obtain ⟨B, hB, hp, _⟩ := H.bD i hi
  have h0 := pace_heard_some x (D i) x 0 B x (Pac.may_of H.cx (H.cD i (by omega))) H.cx H.sx (by rw [Pac.abs_zero]; exact hB) H.bx w
  rw [H.px, hp] at h0
  exact h0
theorem steady_wait {k x h : Nat} {D : Nat → Nat} {q s c n : Nat} (H : Pac.Steady k x h D q s c n) (w : World) :
    Calls Try.prog 15 #[.agg #[.float .f64 x, .float .f64 (D 59), .bool true], .int .i64 0] w fun e w' =>
      e = .returned (.int .i64 n) ∧ Below w.heap.size w w' := by
  have hn : 2 ≤ n ∧ n ≤ 64 := by rcases H.nk with h | h <;> (unfold Pac.clamp at h; omega)
  exact pace_wait_some x (D 59) q s c _ _ n 0 (Pac.may_of H.cx (H.cD 59 (by omega))) H.hq H.hs H.hc H.o1 rfl H.o2 rfl H.hn hn (by omega) w

set_option maxRecDepth 100000 in
set_option maxHeartbeats 1000000 in
theorem paceSteady_main (k : Nat) (hk : k < 256) (w : World) :
    Calls Try.prog 7 #[.int .u8 k] w fun e w' => e = .returned (.bool true) ∧ Below w.heap.size w w' := by
  obtain ⟨x, h, D, q, s, c, n, H⟩ := Pac.steady k hk
  have hx := H.hx
  have HH := Lib.hid H
  clear H
  go_enter Try.func7, Try.ntmps7
  go_wp2_with (first
    | (refine Mem.wpList_alloc (o := ⟨some 4, _, _, _, _, _⟩) rfl 27 rfl _ Pac.zero_pace ?_
       intro w2 hn2
       have Hn2 := Lib.hid hn2
       clear hn2)
    | (go_at_call 8
       refine (pace_alive _).mono ?_
       rintro e w1 ⟨rfl, hb1⟩
       have Hb1 := Lib.hid hb1
       clear hb1))
  go_loopw [5] (fun t5 wr => ∃ i : Nat, i ≤ 60 ∧ t5 = .int .i64 i ∧ Below w.heap.size w wr ∧ wr.heap[w1.heap.size]? = some (.cells (Pac.steadyRow x D i) 27 (0, 0))) (fun t5 _ => 60 - (intOf t5).toNat)
  case atStart => exact ⟨0, by omega, rfl, Mem.then_ Hb1.out Hn2.out.below, Hn2.out.row⟩
  case round =>
    obtain ⟨i, hi, rfl, hbel, hrow⟩ := hrel
    have hsz : w1.heap.size < wr.heap.size := (Array.getElem?_eq_some_iff.1 hrow).1
    have hw1 : w.heap.size ≤ w1.heap.size := Hb1.out.size
    have Hbel := Lib.hid hbel
    have Hrow := Lib.hid hrow
    clear hbel hrow
    have ex : FloatKind.f64.format.order x x = some .eq := HH.out.ex
    by_cases h60 : i < 60
    · have d1 : decide ((i : Int) < 60) = true := decide_eq_true (by omega)
      have d1' : (i : Int) < 60 := by omega
      by_cases h0 : i = 0
      · subst h0
        have e0 : wr.cell? ⟨w1.heap.size, 0, none⟩ = some (.float .f64 0) := (cell_of_row _ _ 0 _ _ _ Hrow.out).trans rfl
        have e1 : wr.cell? ⟨w1.heap.size, 1, none⟩ = some (.float .f64 0) := (cell_of_row _ _ 1 _ _ _ Hrow.out).trans rfl
        have e2 : wr.cell? ⟨w1.heap.size, 2, none⟩ = some (.bool false) := (cell_of_row _ _ 2 _ _ _ Hrow.out).trans rfl
        clear hx hk
        go_wp2_with (first
          | (go_at_call 13
             with_reducible refine (steady_first HH.out _).mono ?_
             rintro e w3 ⟨rfl, hb3⟩
             have Hr3 := Lib.hid ((hb3.block w1.heap.size hsz).trans Hrow.out)
             have Hb3 := Lib.hid (Mem.then_ Hbel.out hb3)
             clear hb3 e0 e1 e2)
          | (refine Mem.wpList_store rfl 27 (.tmp 4) (.tmp 21) rfl _ (Pac.steadyRow x D 1) rfl rfl _ _ Hr3.out Pac.size_pace rfl (Pac.one_pace _ _ _) ?_
             intro w4 hp4
             have g0 := Mem.put_cell1 hp4 0 (v := .float .f64 x) rfl
             have g1 := Mem.put_cell1 hp4 1 (v := .float .f64 (D 0)) rfl
             have Hp4 := Lib.hid hp4
             clear hp4))
        go_roundw
        case rel => exact ⟨1, by omega, rfl, Hb3.out.trans (Hp4.out.below hw1), Hp4.out.row⟩
        case measure => simp [intOf]
      · obtain ⟨j, rfl⟩ : ∃ j, i = j + 1 := ⟨i - 1, by omega⟩
        have e0 : wr.cell? ⟨w1.heap.size, 0, none⟩ = some (.float .f64 x) := (cell_of_row _ _ 0 _ _ _ Hrow.out).trans rfl
        have e1 : wr.cell? ⟨w1.heap.size, 1, none⟩ = some (.float .f64 (D j)) := (cell_of_row _ _ 1 _ _ _ Hrow.out).trans rfl
        have e2 : wr.cell? ⟨w1.heap.size, 2, none⟩ = some (.bool true) := (cell_of_row _ _ 2 _ _ _ Hrow.out).trans rfl
        have d2' : (0 : Int) < (j : Int) + 1 := by omega
        have d2 : decide ((0 : Int) < (j : Int) + 1) = true := decide_eq_true d2'
        have d3' : (j : Int) + 1 < 60 := by omega
        have d3 : decide ((j : Int) + 1 < 60) = true := decide_eq_true d3'
        have gt : (FloatKind.f64.format.order (D (j + 1)) (D j) == some .gt) = false := by
          obtain ⟨_, _, _, h3⟩ := HH.out.bD j (by omega)
          exact h3
        clear hx hk
        go_wp2_with (first
          | (go_at_call 13
             with_reducible refine (steady_next HH.out j (by omega) _).mono ?_
             rintro e w3 ⟨rfl, hb3⟩
             have Hr3 := Lib.hid ((hb3.block w1.heap.size hsz).trans Hrow.out)
             have Hb3 := Lib.hid (Mem.then_ Hbel.out hb3)
             clear hb3 e0 e1 e2)
          | (refine Mem.wpList_store rfl 27 (.tmp 4) (.tmp 21) rfl _ (Pac.steadyRow x D (j + 2)) rfl rfl _ _ Hr3.out Pac.size_pace rfl (Pac.one_pace _ _ _) ?_
             intro w4 hp4
             have g0 := Mem.put_cell1 hp4 0 (v := .float .f64 x) rfl
             have g1 := Mem.put_cell1 hp4 1 (v := .float .f64 (D (j + 1))) rfl
             have Hp4 := Lib.hid hp4
             clear hp4))
        go_roundw
        case rel => exact ⟨j + 2, by omega, by go_num, Hb3.out.trans (Hp4.out.below hw1), Hp4.out.row⟩
        case measure => simp [intOf]; omega
    · have hi60 : i = 60 := by omega
      subst hi60
      have e0 : wr.cell? ⟨w1.heap.size, 0, none⟩ = some (.float .f64 x) := (cell_of_row _ _ 0 _ _ _ Hrow.out).trans rfl
      have e1 : wr.cell? ⟨w1.heap.size, 1, none⟩ = some (.float .f64 (D 59)) := (cell_of_row _ _ 1 _ _ _ Hrow.out).trans rfl
      have e2 : wr.cell? ⟨w1.heap.size, 2, none⟩ = some (.bool true) := (cell_of_row _ _ 2 _ _ _ Hrow.out).trans rfl
      have nk := HH.out.nk
      unfold Pac.clamp at nk
      clear hx
      have hk0 : (k : Int) < 256 := by omega
      go_wp2_with (first
        | (go_at_call 15
           with_reducible refine (steady_wait HH.out _).mono ?_
           rintro e w3 ⟨rfl, hb3⟩
           have Hb3 := Lib.hid (Mem.then_ Hbel.out hb3)
           clear hb3 e0 e1 e2))
      all_goals first
        | (go_ret; exact ⟨rfl, Hb3.out⟩)
        | (exfalso; omega)
        | (rw [show ((n : Int) == 3) = true from beq_iff_eq.2 (by omega)]; go_ret; exact ⟨rfl, Hb3.out⟩)
        | (rw [show ((n : Int) == (k : Int) + 1) = true from beq_iff_eq.2 (by omega)]; go_ret; exact ⟨rfl, Hb3.out⟩)

theorem paceSteady_walk (a0 : Int) (w : World) (wa0 : (Lit.int .u8 a0).wf = true) :
    Calls Try.prog 7 #[.int .u8 a0] w fun e w' => e = .returned (.bool true) ∧ Below w.heap.size w w' := by
  have h : 0 ≤ a0 ∧ a0 ≤ 255 := by simpa [Lit.wf, IntKind.min, IntKind.max, IntKind.signed, IntKind.bits] using wa0
  obtain ⟨k, rfl⟩ : ∃ k : Nat, a0 = (k : Int) := ⟨a0.toNat, by omega⟩
  exact paceSteady_main k (by omega) w
end Go.Proofs.Ytmfaadhclbfhoaa
