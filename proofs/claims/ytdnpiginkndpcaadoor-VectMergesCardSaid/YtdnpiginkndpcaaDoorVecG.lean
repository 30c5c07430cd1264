/- The walk of NameText at the name of the example. -/
import Derived.Test.YtdnpiginkndpcaaDoorVecF
namespace Go.Proofs.YtdnpiginkndpcaaDoor
open Go.RowKit
open PVectAsks

set_option maxRecDepth 100000 in
theorem small_2 (w : World) : Calls Tryd.prog 55 #[.int .i64 2] w fun e w' => e = .returned (.string ⟨#[50]⟩) ∧ w = w' := by
  go_enter Tryd.func55, Tryd.ntmps55
  go_wp2
  go_ret
  exact ⟨rfl, rfl⟩
set_option maxRecDepth 100000 in
theorem small_10 (w : World) : Calls Tryd.prog 55 #[.int .i64 10] w fun e w' => e = .returned (.string ⟨#[49, 48]⟩) ∧ w = w' := by
  go_enter Tryd.func55, Tryd.ntmps55
  go_wp2
  go_ret
  exact ⟨rfl, rfl⟩
set_option maxRecDepth 100000 in
theorem itoa_2 (w : World) : Calls Tryd.prog 45 #[.int .i64 2] w fun e w' => e = .returned (.string ⟨#[50]⟩) ∧ w = w' := by
  have h1 : ∀ w, Calls Tryd.prog 50 #[.int .i64 2, .int .i64 10] w fun e w' => e = .returned (.string ⟨#[50]⟩) ∧ w = w' := by
    intro w
    go_enter Tryd.func50, Tryd.ntmps50
    go_wp2_with (go_at_call 55; refine (small_2 _).mono ?_; rintro e w' ⟨rfl, rfl⟩)
    go_ret
    exact ⟨rfl, rfl⟩
  have h2 : ∀ w, Calls Tryd.prog 48 #[.int .i64 2] w fun e w' => e = .returned (.string ⟨#[50]⟩) ∧ w = w' := by
    intro w
    have H1 := Lib.hid h1
    clear h1
    go_enter Tryd.func48, Tryd.ntmps48
    go_wp2_with (go_at_call 50; refine (H1.out _).mono ?_; rintro e w' ⟨rfl, rfl⟩)
    go_ret
    exact ⟨rfl, rfl⟩
  have H2 := Lib.hid h2
  clear h1 h2
  go_enter Tryd.func45, Tryd.ntmps45
  go_wp2_with (go_at_call 48; refine (H2.out _).mono ?_; rintro e w' ⟨rfl, rfl⟩)
  go_ret
  exact ⟨rfl, rfl⟩
set_option maxRecDepth 100000 in
theorem itoa_10 (w : World) : Calls Tryd.prog 45 #[.int .i64 10] w fun e w' => e = .returned (.string ⟨#[49, 48]⟩) ∧ w = w' := by
  have h1 : ∀ w, Calls Tryd.prog 50 #[.int .i64 10, .int .i64 10] w fun e w' => e = .returned (.string ⟨#[49, 48]⟩) ∧ w = w' := by
    intro w
    go_enter Tryd.func50, Tryd.ntmps50
    go_wp2_with (go_at_call 55; refine (small_10 _).mono ?_; rintro e w' ⟨rfl, rfl⟩)
    go_ret
    exact ⟨rfl, rfl⟩
  have h2 : ∀ w, Calls Tryd.prog 48 #[.int .i64 10] w fun e w' => e = .returned (.string ⟨#[49, 48]⟩) ∧ w = w' := by
    intro w
    have H1 := Lib.hid h1
    clear h1
    go_enter Tryd.func48, Tryd.ntmps48
    go_wp2_with (go_at_call 50; refine (H1.out _).mono ?_; rintro e w' ⟨rfl, rfl⟩)
    go_ret
    exact ⟨rfl, rfl⟩
  have H2 := Lib.hid h2
  clear h1 h2
  go_enter Tryd.func45, Tryd.ntmps45
  go_wp2_with (go_at_call 48; refine (H2.out _).mono ?_; rintro e w' ⟨rfl, rfl⟩)
  go_ret
  exact ⟨rfl, rfl⟩

set_option maxRecDepth 100000 in
set_option maxHeartbeats 1000000 in
theorem nametext_example (w : World) : Calls Tryd.prog 29 #[.agg #[.int .i64 2, .int .i64 10]] w fun e w' => e = .returned (.string ⟨#[50, 46, 49, 48]⟩) ∧ Below w.heap.size w w' := by
  have HNm := Lib.hid (fun w1 => vect_MayName.calls 2 10 true w1 (Vec.mayName_eval 2 10))
  go_enter Tryd.func29, Tryd.ntmps29
  go_upto_region 1 with (
    with_reducible refine Mem.wpList_box (o := ⟨some 1, _, _, _, _, _⟩) ?_ 33 (.tmp 0) ?_ (.agg #[.int .i64 2, .int .i64 10]) ?_ ?_
    · rfl
    · rfl
    · rfl
    intro w1 hn1
    have f0 := hn1.cell1 0 (v := .int .i64 2) rfl
    have f1 := hn1.cell1 1 (v := .int .i64 10) rfl
    have Hn1 := Lib.hid hn1
    clear hn1)
  go_wp2_with (
    go_at_call 30
    with_reducible refine (HNm.out _).mono ?_
    rintro e w2 ⟨rfl, hb2⟩
    have g0 := Mem.keep hb2 f0
    have g1 := Mem.keep hb2 f1
    have HB := Lib.hid (Mem.then_ Hn1.out.below hb2)
    clear hb2 f0 f1)
  go_quiet ((first
    | (go_at_call 45; exact Mem.quiet (itoa_2 _))
    | (go_at_call 45; exact Mem.quiet (itoa_10 _))))
  go_wp2
  go_ret
  exact ⟨rfl, Mem.below_drewN HB.out _⟩
end Go.Proofs.YtdnpiginkndpcaaDoor
