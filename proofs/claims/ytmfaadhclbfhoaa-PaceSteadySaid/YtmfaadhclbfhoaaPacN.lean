/- The laws of chapter 19: the rounds of all times, reckoned by the kernel. -/
import Derived.Test.YtmfaadhclbfhoaaPacK
namespace Go.Proofs.Ytmfaadhclbfhoaa
open Go.RowKit

namespace Pac
set_option maxRecDepth 100000 in
theorem steady_a : ∀ k : Nat, k < 128 → 0 < k → steadyAt k = true := by decide +kernel
set_option maxRecDepth 100000 in
theorem steady_b : ∀ k : Nat, k < 128 → steadyAt (k + 128) = true := by decide +kernel
theorem steady_all (k : Nat) (hk : k < 256) (h0 : 0 < k) : steadyAt k = true := by
  by_cases h : k < 128
  · exact steady_a k h h0
  · have := steady_b (k - 128) (by omega)
    rwa [show k - 128 + 128 = k by omega] at this
/-- what the walk wants of a time: the mean x, the deviations D, the wait n -/
structure Steady (k : Nat) (x h : Nat) (D : Nat → Nat) (q s c n : Nat) : Prop where
  hx : floatOfInt .f64 k = x
  px : plain x = x
  cx : cnt x = true
  ex : ord x x = some .eq
  hh : floatBits .quo .f64 x 4611686018427387904 = some h
  ph : plain h = D 0
  sx : floatBits .sub .f64 x x = some 0
  bx : blend x x 4593671619917905920 = some x
  cD : ∀ i, i < 60 → cnt (D i) = true
  bD : ∀ i, i < 59 → ∃ B, blend (D i) 0 4598175219545276416 = some B ∧ plain B = D (i + 1) ∧ (ord (D (i + 1)) (D i) == some .gt) = false
  hq : floatBits .mul .f64 4616189618054758400 (D 59) = some q
  hs : floatBits .add .f64 x q = some s
  hc : ceilB s = some c
  o1 : ord c 4611686018427387904 ≠ none
  o2 : ord (fmax c 4611686018427387904) 4634204016564240384 ≠ none
  hn : floatToIntVal .f64 (fmin (fmax c 4611686018427387904) 4634204016564240384) .i64 = some (n : Int)
  nk : n = clamp k ∨ n = min (clamp k + 1) 64
theorem isSome_ne {α} {o : Option α} (h : o.isSome = true) : o ≠ none := by
  intro e; rw [e] at h; exact absurd h (by simp)
theorem steady_zero : Steady 0 0 0 (fun _ => 0) 0 0 0 2 := by
  refine ⟨by decide +kernel, by decide +kernel, by decide +kernel, by decide +kernel, by decide +kernel, by decide +kernel, by decide +kernel, by decide +kernel, fun _ _ => by decide +kernel, fun _ _ => ⟨0, by decide +kernel, by decide +kernel, by decide +kernel⟩,
    by decide +kernel, by decide +kernel, by decide +kernel, isSome_ne (by decide +kernel), isSome_ne (by decide +kernel), by decide +kernel, .inl (by decide +kernel)⟩
theorem steady_pos (k : Nat) (hk : k < 256) (h0 : 0 < k) : ∃ x h D q s c n, Steady k x h D q s c n := by
  have H := steady_all k hk h0
  unfold steadyAt at H
  simp only [Bool.and_eq_true, beq_iff_eq] at H
  obtain ⟨⟨⟨⟨⟨px, cx⟩, ex⟩, sx⟩, bx⟩, H⟩ := H
  obtain ⟨x, hx⟩ : ∃ x, floatOfInt .f64 (k : Int) = x := ⟨_, rfl⟩
  rw [hx] at px cx ex sx bx H
  split at H
  · exact absurd H (by simp)
  rename_i h hh
  simp only [Bool.and_eq_true, decide_eq_true_eq] at H
  obtain ⟨⟨hpos, hle⟩, H⟩ := H
  split at H
  · exact absurd H (by simp)
  rename_i d hd
  split at H
  · exact absurd H (by simp)
  rename_i q hq
  split at H
  · exact absurd H (by simp)
  rename_i s hs
  split at H
  · exact absurd H (by simp)
  rename_i c hc
  simp only [Bool.and_eq_true, Bool.or_eq_true, beq_iff_eq] at H
  obtain ⟨⟨o1, o2⟩, hn⟩ := H
  obtain ⟨hit, hst⟩ := go_it 59 h d hd
  have hle2 : ∀ i, i < 60 → it i h ≤ h := by
    intro i
    induction i with
    | zero => intro _; exact Nat.le_refl _
    | succ i ih =>
      intro hi
      have := (hst i (by omega)).2.1
      rw [← it_succ] at this
      exact Nat.le_trans this (ih (by omega))
  have hn' : ∃ n : Nat, floatToIntVal .f64 (fmin (fmax c 4611686018427387904) 4634204016564240384) .i64 = some (n : Int) ∧ (n = clamp k ∨ n = min (clamp k + 1) 64) := by
    rcases hn with hn | hn
    · exact ⟨_, hn, .inl rfl⟩
    · exact ⟨_, hn, .inr rfl⟩
  obtain ⟨n, hn, nk⟩ := hn'
  refine ⟨x, h, fun i => it i h, q, s, c, n, hx, px, cx, ex, hh, plain_pos hpos (by omega), sx, bx, fun i hi => cnt_of (Nat.le_trans (hle2 i hi) hle), fun i hi => ?_, by rw [hit]; exact hq, hs, hc, isSome_ne o1, isSome_ne o2, hn, nk⟩
  obtain ⟨a1, a2, a3⟩ := hst i hi
  have b1 := hle2 i (by omega)
  refine ⟨nx (it i h), blend_nx _ a1 (by omega), ?_, ?_⟩
  · rw [it_succ]; exact plain_pos a3 (by omega)
  · show (ord (it (i + 1) h) (it i h) == some .gt) = false
    rw [it_succ]; exact not_gt a2 (by omega)
theorem steady (k : Nat) (hk : k < 256) : ∃ x h D q s c n, Steady k x h D q s c n := by
  by_cases h : 0 < k
  · exact steady_pos k hk h
  · have : k = 0 := by omega
    subst this
    exact ⟨_, _, _, _, _, _, _, steady_zero⟩
theorem abs_zero : abs 0 = 0 := by decide +kernel
end Pac
end Go.Proofs.Ytmfaadhclbfhoaa
