/- The walk of vect.Has. -/
import Derived.Test.YtdnpiginkndpcaaDoorVecE
namespace Go.Proofs.YtdnpiginkndpcaaDoor
open Go.RowKit
open PVectAsks

namespace Vec
def has (l : List Int) (s q : Int) : Bool := may l && mayName s q && decide (q ≤ cnt l s)
/-- a list of numbers in a later world -/
theorem later_reads {w : World} (i : Mem.Later w) {A : Option Addr} {n : Nat} {l : List Int} (h : Go.Proofs.YtdnpiginkndpcaaDoorW.PrintWords.Kd.C (Go.Proofs.YtdnpiginkndpcaaDoorW.PrintWords.Kd.int .i64) w A n l) : Go.Proofs.YtdnpiginkndpcaaDoorW.PrintWords.Kd.C (Go.Proofs.YtdnpiginkndpcaaDoorW.PrintWords.Kd.int .i64) i.w A n l :=
  Go.Proofs.YtdnpiginkndpcaaDoorW.PrintWords.Kd.C_below h i.h
end Vec

set_option maxRecDepth 100000 in
set_option maxHeartbeats 2000000 in
theorem vect_has (la : List Int) (La : Nat) (hLa : la.length = La) (Aa : Option Addr) (ca : Nat) (s q : Int) (w : World)
    (hCa : Go.Proofs.YtdnpiginkndpcaaDoorW.PrintWords.Kd.C (Go.Proofs.YtdnpiginkndpcaaDoorW.PrintWords.Kd.int .i64) w Aa la.length la) (hca : la.length ≤ ca) (hla : La ≤ 1000) :
    Calls Tryd.prog 19 #[.slice Aa La ca, .agg #[.int .i64 s, .int .i64 q]] w fun e w' => e = .returned (.bool (Vec.has la s q)) ∧ Below w.heap.size w w' := by
  have hMa := fun w1 h1 => vect_May.calls _ Aa ca la _ w1 h1 hca (Vec.may_eval la (by omega) (la.length + 1) (by omega))
  have hNm := fun w1 => vect_MayName.calls s q _ w1 (Vec.mayName_eval s q)
  have hCt := fun w1 h1 => vect_count.calls Aa ca la s _ w1 h1 hca (Vec.count_eval la s (by omega))
  rw [hLa] at hMa hCa hCt
  have HMa := Lib.hid hMa
  have HCa := Lib.hid hCa
  have HNm := Lib.hid hNm
  have HCt := Lib.hid hCt
  unfold Vec.has
  obtain ⟨x, hx⟩ : ∃ x, Vec.may la = x := ⟨_, rfl⟩
  obtain ⟨y, hy⟩ : ∃ x, Vec.mayName s q = x := ⟨_, rfl⟩
  obtain ⟨n, hn⟩ : ∃ x, Vec.cnt la s = x := ⟨_, rfl⟩
  rw [hx, hy, hn]
  rw [hx] at HMa
  rw [hy] at HNm
  rw [hn] at HCt
  clear hMa hNm hCt hCa hca hx hy hn hLa
  have hways : x = false ∨ (x = true ∧ y = false) ∨ (x = true ∧ y = true) := by cases x <;> cases y <;> simp
  rcases hways with rfl | ⟨rfl, rfl⟩ | ⟨rfl, rfl⟩
  all_goals
    go_enter Tryd.func19, Tryd.ntmps19
    go_wp2_with (
      with_reducible refine Mem.wpList_box (o := ⟨some 3, _, _, _, _, _⟩) ?_ 33 (.tmp 1) ?_ (.agg #[.int .i64 s, .int .i64 q]) ?_ ?_
      · rfl
      · rfl
      · rfl
      intro w1 hn1
      have f0 := hn1.cell1 0 (v := .int .i64 s) rfl
      have f1 := hn1.cell1 1 (v := .int .i64 q) rfl
      have Hn1 := Lib.hid hn1
      clear hn1)
    have HC1 := Lib.hid (Go.Proofs.YtdnpiginkndpcaaDoorW.PrintWords.Kd.C_below HCa.out Hn1.out.below)
    have j0 : ∀ i : Mem.Later w1, i.w.cell? ⟨w.heap.size, 0, none⟩ = some (.int .i64 s) := fun i => i.cell f0
    have j1 : ∀ i : Mem.Later w1, i.w.cell? ⟨w.heap.size, 1, none⟩ = some (.int .i64 q) := fun i => i.cell f1
    refine Mem.wp_region_later (by kernel_rfl) (by kernel_rfl) ?_
    repeat (go_big_quiet_step (first
      | (go_at_call 16; refine Mem.later_call ((HMa.out _ (Vec.later_reads _ HC1.out)).mono fun e w2 h2 => ⟨h2.1, Vec.drawn_below h2.2⟩))
      | (go_at_call 30; refine Mem.later_call (HNm.out _))
      | (go_at_call 40; refine Mem.later_call ((HCt.out _ (Vec.later_reads _ HC1.out)).mono fun e w2 h2 => ⟨h2.1, Vec.drawn_below h2.2⟩))))
    refine wpQuiet_nil ?_
    rintro _ ⟨⟨wq, hq⟩, rfl⟩
    clear j0 j1
    go_wp2
    go_ret
    exact ⟨rfl, Mem.then_ Hn1.out.below hq⟩

set_option maxRecDepth 100000 in
theorem small_2 (w : World) : Calls Tryd.prog 55 #[.int .i64 2] w fun e w' => e = .returned (.string ⟨#[50]⟩) ∧ w = w' := by
  go_enter Tryd.func55, Tryd.ntmps55
  go_wp2
  go_ret
  exact ⟨rfl, rfl⟩
set_option maxRecDepth 100000 in
theorem small_10 (w : World) : Calls Tryd.prog 55 #[.int .i64 10] w fun e w' => e = .returned (.string ⟨#[49, 48]⟩) ∧ w = w' := by
  go_enter Tryd.func55, Tryd.ntmps55
  go_wp2
  go_ret
  exact ⟨rfl, rfl⟩
set_option maxRecDepth 100000 in
theorem itoa_2 (w : World) : Calls Tryd.prog 45 #[.int .i64 2] w fun e w' => e = .returned (.string ⟨#[50]⟩) ∧ w = w' := by
  have h1 : ∀ w, Calls Tryd.prog 50 #[.int .i64 2, .int .i64 10] w fun e w' => e = .returned (.string ⟨#[50]⟩) ∧ w = w' := by
    intro w
    go_enter Tryd.func50, Tryd.ntmps50
    go_wp2_with (go_at_call 55; refine (small_2 _).mono ?_; rintro e w' ⟨rfl, rfl⟩)
    go_ret
    exact ⟨rfl, rfl⟩
  have h2 : ∀ w, Calls Tryd.prog 48 #[.int .i64 2] w fun e w' => e = .returned (.string ⟨#[50]⟩) ∧ w = w' := by
    intro w
    have H1 := Lib.hid h1
    clear h1
    go_enter Tryd.func48, Tryd.ntmps48
    go_wp2_with (go_at_call 50; refine (H1.out _).mono ?_; rintro e w' ⟨rfl, rfl⟩)
    go_ret
    exact ⟨rfl, rfl⟩
  have H2 := Lib.hid h2
  clear h1 h2
  go_enter Tryd.func45, Tryd.ntmps45
  go_wp2_with (go_at_call 48; refine (H2.out _).mono ?_; rintro e w' ⟨rfl, rfl⟩)
  go_ret
  exact ⟨rfl, rfl⟩
set_option maxRecDepth 100000 in
theorem itoa_10 (w : World) : Calls Tryd.prog 45 #[.int .i64 10] w fun e w' => e = .returned (.string ⟨#[49, 48]⟩) ∧ w = w' := by
  have h1 : ∀ w, Calls Tryd.prog 50 #[.int .i64 10, .int .i64 10] w fun e w' => e = .returned (.string ⟨#[49, 48]⟩) ∧ w = w' := by
    intro w
    go_enter Tryd.func50, Tryd.ntmps50
    go_wp2_with (go_at_call 55; refine (small_10 _).mono ?_; rintro e w' ⟨rfl, rfl⟩)
    go_ret
    exact ⟨rfl, rfl⟩
  have h2 : ∀ w, Calls Tryd.prog 48 #[.int .i64 10] w fun e w' => e = .returned (.string ⟨#[49, 48]⟩) ∧ w = w' := by
    intro w
    have H1 := Lib.hid h1
    clear h1
    go_enter Tryd.func48, Tryd.ntmps48
    go_wp2_with (go_at_call 50; refine (H1.out _).mono ?_; rintro e w' ⟨rfl, rfl⟩)
    go_ret
    exact ⟨rfl, rfl⟩
  have H2 := Lib.hid h2
  clear h1 h2
  go_enter Tryd.func45, Tryd.ntmps45
  go_wp2_with (go_at_call 48; refine (H2.out _).mono ?_; rintro e w' ⟨rfl, rfl⟩)
  go_ret
  exact ⟨rfl, rfl⟩

set_option maxRecDepth 100000 in
set_option maxHeartbeats 1000000 in
theorem nametext_example (w : World) : Calls Tryd.prog 29 #[.agg #[.int .i64 2, .int .i64 10]] w fun e w' => e = .returned (.string ⟨#[50, 46, 49, 48]⟩) ∧ Below w.heap.size w w' := by
  have HNm := Lib.hid (fun w1 => vect_MayName.calls 2 10 true w1 (Vec.mayName_eval 2 10))
  go_enter Tryd.func29, Tryd.ntmps29
  go_upto_region 1 with (
    with_reducible refine Mem.wpList_box (o := ⟨some 1, _, _, _, _, _⟩) ?_ 33 (.tmp 0) ?_ (.agg #[.int .i64 2, .int .i64 10]) ?_ ?_
    · rfl
    · rfl
    · rfl
    intro w1 hn1
    have f0 := hn1.cell1 0 (v := .int .i64 2) rfl
    have f1 := hn1.cell1 1 (v := .int .i64 10) rfl
    have Hn1 := Lib.hid hn1
    clear hn1)
  go_wp2_with (
    go_at_call 30
    with_reducible refine (HNm.out _).mono ?_
    rintro e w2 ⟨rfl, hb2⟩
    have g0 := Mem.keep hb2 f0
    have g1 := Mem.keep hb2 f1
    have HB := Lib.hid (Mem.then_ Hn1.out.below hb2)
    clear hb2 f0 f1)
  go_quiet ((first
    | (go_at_call 45; exact Mem.quiet (itoa_2 _))
    | (go_at_call 45; exact Mem.quiet (itoa_10 _))))
  go_wp2
  go_ret
  exact ⟨rfl, Mem.below_drewN HB.out _⟩
end Go.Proofs.YtdnpiginkndpcaaDoor
