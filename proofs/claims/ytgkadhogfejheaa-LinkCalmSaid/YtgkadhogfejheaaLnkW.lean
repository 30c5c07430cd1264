/- The pair's Do, whole. -/
import Derived.Test.YtgkadhogfejheaaLnkV
import Derived.Test.YtgkadhogfejheaaLnkR
namespace Go.Proofs.Ytgkadhogfejheaa
open Go.RowKit

theorem pair_do {wt : Nat → Nat → Bool → Nat} {hd : Nat → Nat → Bool → Nat → Nat × Nat × Bool} (law : Lnk.Law wt hd) (B q : Nat) (P : Lnk.Ps) (N : Nat) (hI : Lnk.Inv P N) (hN : N < 1000000)
    (d h k : Nat) (S : List UInt8) (hh : h < 256) (hk : k < 65536) (hS : S.length ≤ 1048576) (w : World) (hat : Lnk.PAt w B q P.1 P.2) :
    Calls Try.prog 10 #[.pointer (some ⟨q, 0, none⟩), Lnk.stepV d h k S] w fun r w' => r = .returned (.tuple #[]) ∧
      Lnk.PAt w' B q (Lnk.doP wt hd d h k S P).1 (Lnk.doP wt hd d h k S P).2 ∧ Below B w w' := by
  have hG := hI.good
  have hN2 : N < 549755813888 := by omega
  have hc : ∀ j, j < 6 → (P.2 j).length ≤ 1000000 := fun j hj => by have := hI.size j hj; omega
  obtain ⟨e, c⟩ := P
  have h61 : ∀ i, i < 2 → ∀ s ∈ c i, s.length < 2 ^ 61 := fun i hi s hs => by
    have hw := (hI.half (1 - i) (by omega)).way
    rw [show 1 - (1 - i) = i by omega] at hw
    exact (hw s hs).1
  have hl := hI.len
  simp only at hG hc hat hl
  have hD9 : d % 9 < 9 := Nat.mod_lt _ (by omega)
  have hi2 : h % 2 = 0 ∨ h % 2 = 1 := by omega
  have hcs : d % 9 = 0 ∨ d % 9 = 1 ∨ d % 9 = 2 ∨ (d % 9 = 3 ∨ d % 9 = 4) ∨ 5 ≤ d % 9 := by omega
  rcases hcs with h0 | h0 | h0 | h0 | h0
  · have e1 : Lnk.doP wt hd d h k S (e, c) = Lnk.tickP wt 1 (Lnk.tickP wt 0 (e, c)) := by unfold Lnk.doP; rw [if_pos h0]
    rw [e1]
    exact pair_do0 (hd := hd) law B q e c N hG hN2 hc d h k S h0 w hat
  · have e1 : Lnk.doP wt hd d h k S (e, c) = Lnk.tickP wt 0 (e, c) := by unfold Lnk.doP; rw [h0]; rfl
    rw [e1]
    exact pair_do1 (hd := hd) law B q e c N hG hN2 hc d h k S h0 w hat
  · have e1 : Lnk.doP wt hd d h k S (e, c) = Lnk.tickP wt 1 (e, c) := by unfold Lnk.doP; rw [h0]; rfl
    rw [e1]
    exact pair_do2 (hd := hd) law B q e c N hG hN2 hc d h k S h0 w hat
  · have e1 : Lnk.doP wt hd d h k S (e, c) = Lnk.giveP (h % 2) S (e, c) := by
      unfold Lnk.doP
      rw [if_neg (by omega), if_neg (by omega), if_pos (by omega)]
    rw [e1]
    rcases hi2 with hi | hi
    · rw [hi]
      exact pair_give0 (hd := hd) law B q e c N hG hN2 hc d h k S h0 hh hi hS (hl 0 (by omega)) w hat
    · rw [hi]
      exact pair_give1 (hd := hd) law B q e c N hG hN2 hc d h k S h0 hh hi hS (hl 1 (by omega)) w hat
  · have e1 : Lnk.doP wt hd d h k S (e, c) = Lnk.wayP hd (d % 9) k (h % 2) (e, c) := by
      unfold Lnk.doP
      rw [if_neg (by omega), if_neg (by omega), if_neg (by omega)]
    rw [e1]
    have hcs : d % 9 = 5 ∨ d % 9 = 6 ∨ d % 9 = 7 ∨ d % 9 = 8 := by omega
    rcases hi2 with hi | hi
    · rw [hi]
      by_cases hno : c 0 = []
      · have e2 : Lnk.wayP hd (d % 9) k 0 (e, c) = (e, c) := if_pos hno
        rw [e2]
        exact pair_none0 (hd := hd) law B q e c N hG hN2 hc d h k S h0 hh hk hi hno w hat
      · rcases hcs with h1 | h1 | h1 | h1
        · have e2 : Lnk.wayP hd (d % 9) k 0 (e, c) = Lnk.comeP hd 0 ((c 0).getD (k % (c 0).length) []) (e, Lnk.sub c 0 ((c 0).take (k % (c 0).length) ++ (c 0).drop (k % (c 0).length + 1))) := by rw [h1]; exact if_neg hno
          rw [e2]
          exact pair_comes5_0 law B q e c N hG hN2 hc d h k S h1 hh hk hi hno (h61 0 (by omega)) w hat
        · have e2 : Lnk.wayP hd (d % 9) k 0 (e, c) = Lnk.comeP hd 0 ((c 0).getD (k % (c 0).length) []) (e, Lnk.sub c 0 ((c 0).take (k % (c 0).length) ++ (c 0).drop (k % (c 0).length + 1))) := by rw [h1]; exact if_neg hno
          rw [e2]
          exact pair_comes6_0 law B q e c N hG hN2 hc d h k S h1 hh hk hi hno (h61 0 (by omega)) w hat
        · have e2 : Lnk.wayP hd (d % 9) k 0 (e, c) = Lnk.comeP hd 0 ((c 0).getD (k % (c 0).length) []) (e, c) := by rw [h1]; exact if_neg hno
          rw [e2]
          exact pair_stays0 law B q e c N hG hN2 hc d h k S h1 hh hk hi hno (h61 0 (by omega)) w hat
        · have e2 : Lnk.wayP hd (d % 9) k 0 (e, c) = (e, Lnk.sub c 0 ((c 0).take (k % (c 0).length) ++ (c 0).drop (k % (c 0).length + 1))) := by rw [h1]; exact if_neg hno
          rw [e2]
          exact pair_lost0 (hd := hd) law B q e c N hG hN2 hc d h k S h1 hh hk hi hno w hat
    · rw [hi]
      by_cases hno : c 1 = []
      · have e2 : Lnk.wayP hd (d % 9) k 1 (e, c) = (e, c) := if_pos hno
        rw [e2]
        exact pair_none1 (hd := hd) law B q e c N hG hN2 hc d h k S h0 hh hk hi hno w hat
      · rcases hcs with h1 | h1 | h1 | h1
        · have e2 : Lnk.wayP hd (d % 9) k 1 (e, c) = Lnk.comeP hd 1 ((c 1).getD (k % (c 1).length) []) (e, Lnk.sub c 1 ((c 1).take (k % (c 1).length) ++ (c 1).drop (k % (c 1).length + 1))) := by rw [h1]; exact if_neg hno
          rw [e2]
          exact pair_comes5_1 law B q e c N hG hN2 hc d h k S h1 hh hk hi hno (h61 1 (by omega)) w hat
        · have e2 : Lnk.wayP hd (d % 9) k 1 (e, c) = Lnk.comeP hd 1 ((c 1).getD (k % (c 1).length) []) (e, Lnk.sub c 1 ((c 1).take (k % (c 1).length) ++ (c 1).drop (k % (c 1).length + 1))) := by rw [h1]; exact if_neg hno
          rw [e2]
          exact pair_comes6_1 law B q e c N hG hN2 hc d h k S h1 hh hk hi hno (h61 1 (by omega)) w hat
        · have e2 : Lnk.wayP hd (d % 9) k 1 (e, c) = Lnk.comeP hd 1 ((c 1).getD (k % (c 1).length) []) (e, c) := by rw [h1]; exact if_neg hno
          rw [e2]
          exact pair_stays1 law B q e c N hG hN2 hc d h k S h1 hh hk hi hno (h61 1 (by omega)) w hat
        · have e2 : Lnk.wayP hd (d % 9) k 1 (e, c) = (e, Lnk.sub c 1 ((c 1).take (k % (c 1).length) ++ (c 1).drop (k % (c 1).length + 1))) := by rw [h1]; exact if_neg hno
          rw [e2]
          exact pair_lost1 (hd := hd) law B q e c N hG hN2 hc d h k S h1 hh hk hi hno w hat
end Go.Proofs.Ytgkadhogfejheaa
