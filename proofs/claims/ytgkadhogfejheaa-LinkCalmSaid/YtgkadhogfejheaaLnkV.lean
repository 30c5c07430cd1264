/- The pair's Do: a frame comes, stays, or is lost. -/
import Derived.Test.YtgkadhogfejheaaLnkO
import Derived.Test.YtgkadhogfejheaaMix
/-! The pair's Do: a frame comes, stays, or is lost. -/
namespace Go.Proofs.Ytgkadhogfejheaa
open Go.RowKit
set_option linter.unusedVariables false

namespace Mem
theorem Row.front {w : World} {base size n cap p off : Nat} {e : TypeId} {xs : List Value} (h : Row w base e size (.slice (some ⟨p, off, none⟩) n cap) n xs) {k : Nat} (hk : k ≤ n) :
    Row w base e size (.slice (some ⟨p, off, none⟩) k cap) k (xs.take (k * size)) := by
  have hks := Nat.mul_le_mul_right size hk
  refine ⟨by rw [List.length_take, h.1]; omega, ?_⟩
  rcases h.2 with ⟨h0, _⟩ | ⟨b, off', cap', cur, h0, h1, h2, h3, h4, h5, h6⟩
  · cases h0
  · cases h0
    refine .inr ⟨p, off, cap, cur, rfl, h1, h2, by omega, h4, h5, fun j u hj => ?_⟩
    rw [List.getElem?_take] at hj
    split at hj
    · exact h6 j u hj
    · cases hj
theorem Row.suffix {w : World} {base size n cap p off : Nat} {e : TypeId} {xs : List Value} (h : Row w base e size (.slice (some ⟨p, off, none⟩) n cap) n xs) {k : Nat} (hk : k ≤ n) :
    Row w base e size (.slice (if cap = k then some ⟨p, off, none⟩ else some ⟨p, off + k * size, none⟩) (n - k) (cap - k)) (n - k) (xs.drop (k * size)) := by
  have hks := Nat.mul_le_mul_right size hk
  have hsub : (n - k) * size = n * size - k * size := Nat.sub_mul n k size
  refine ⟨by rw [List.length_drop, h.1, hsub], ?_⟩
  rcases h.2 with ⟨h0, _⟩ | ⟨b, off', cap', cur, h0, h1, h2, h3, h4, h5, h6⟩
  · cases h0
  · cases h0
    have hsc : (cap - k) * size = cap * size - k * size := Nat.sub_mul cap k size
    have hkc := Nat.mul_le_mul_right size (Nat.le_trans hk h3)
    split
    · rename_i hc
      subst hc
      have hnk : n = cap := by omega
      subst hnk
      refine .inr ⟨p, off, _, cur, rfl, h1, h2, Nat.le_refl _, by omega, by rw [hsub]; omega, fun j u hj => ?_⟩
      rw [List.drop_of_length_le (by rw [h.1]; exact Nat.le_refl _)] at hj
      cases hj
    · refine .inr ⟨p, off + k * size, _, cur, rfl, h1, h2, by omega, by omega, by rw [hsc]; omega, fun j u hj => ?_⟩
      rw [List.getElem?_drop] at hj
      have := h6 _ u hj
      rwa [← Nat.add_assoc] at this
end Mem

namespace Lnk
theorem strs_take (l : List (List UInt8)) (k : Nat) : (strs l).take (k * 1) = strs (l.take k) := by rw [Nat.mul_one]; unfold strs; rw [List.map_take]
theorem strs_drop (l : List (List UInt8)) (k : Nat) : (strs l).drop (k * 1) = strs (l.drop k) := by rw [Nat.mul_one]; unfold strs; rw [List.map_drop]
end Lnk

-- BEGIN way
set_option maxRecDepth 100000 in
set_option maxHeartbeats 1000000 in
theorem pair_none0 {wt : Nat → Nat → Bool → Nat} {hd : Nat → Nat → Bool → Nat → Nat × Nat × Bool} (law : Lnk.Law wt hd) (B q : Nat) (e : Nat → Lnk.St) (c : Nat → List (List UInt8)) (N : Nat) (hG : ∀ i, i < 2 → Lnk.Good (e i) N) (hN : N < 549755813888) (hc : ∀ j, j < 6 → (c j).length ≤ 1000000)
    (d h k : Nat) (S : List UInt8) (hD : 5 ≤ d % 9) (hh : h < 256) (hkb : k < 65536) (hI : h % 2 = 0) (hno : c 0 = []) (w : World) (hat : Lnk.PAt w B q e c) :
    Calls Try.prog 10 #[.pointer (some ⟨q, 0, none⟩), Lnk.stepV d h k S] w fun r w' => r = .returned (.tuple #[]) ∧
      Lnk.PAt w' B q ((e, c)).1 ((e, c)).2 ∧ Below B w w' := by
  have H := Lib.hid hat
  have hB : B ≤ w.heap.size := by obtain ⟨_, _, _, h⟩ := hat; exact h.size
  have HG := Lib.hid hG
  have HC := Lib.hid hc
  have hrem : Int.tmod (d : Int) 9 = ((d % 9 : Nat) : Int) := rfl
  have hD9 : d % 9 < 9 := Nat.mod_lt _ (by omega)
  have hrem2 : Int.tmod (h : Int) 2 = ((h % 2 : Nat) : Int) := rfl
  rw [hI] at hrem2
  clear hat hG hc
  rw [show Lnk.stepV d h k S = .agg #[.int .u8 d, .int .u8 h, .int .u16 k, .string (Mem.str S)] from rfl]
  have hwh : wrap64 (h : Int) = h := by unfold wrap64; omega
  have hwk : wrap64 (k : Int) = k := by unfold wrap64; omega
  have wr0 : IntKind.i64.wrap 0 = 0 := by decide
  have wr1 : IntKind.i64.wrap 1 = 1 := by decide
  obtain ⟨g, F, s, h0⟩ := H.out
  have H0 := Lib.hid h0
  have hr0 : Lnk.Txt w B (s 0) (c 0) := h0.rows 0 (by omega)
  rw [hno] at hr0
  obtain ⟨A, cap, hs, _, _⟩ := hr0.form
  rw [List.length_nil] at hs
  have HS := Lib.hid hs
  clear h0 hr0 hs
  obtain ⟨D, hDD⟩ : ∃ D, d % 9 = D := ⟨_, rfl⟩
  rw [hDD] at hrem hD hD9
  have hD5 : D = 5 ∨ D = 6 ∨ D = 7 ∨ D = 8 := by omega
  clear hDD
  rcases hD5 with rfl | rfl | rfl | rfl
  all_goals
    go_enter Try.func10, Try.ntmps10
    go_wp2_with (first
      | (with_reducible refine Mem.wpList_box (o := ⟨some 3, _, _, _, _, _⟩) ?_ 30 (.tmp 1) ?_ (.agg #[.int .u8 d, .int .u8 h, .int .u16 k, .string (Mem.str S)]) ?_ ?_
         · rfl
         · rfl
         · rfl
         intro w1 hn1
         have x0 := hn1.cell1 0 (v := .int .u8 d) rfl
         have x1 := hn1.cell1 1 (v := .int .u8 h) rfl
         have x2 := hn1.cell1 2 (v := .int .u16 k) rfl
         have Hn1 := Lib.hid hn1
         have HB1 := Lib.hid (hn1.belowB hB)
         have H1 := Lib.hid (H.out.below hn1.below)
         have P1 := Lib.hid (H0.out.below hn1.below)
         have k2 : w1.cell? ⟨q, 2, none⟩ = some (.slice A 0 cap) := (cell_of_row _ _ 2 _ _ _ (H0.out.below hn1.below).row).trans (by rw [← HS.out]; rfl)
         clear hn1))
    refine bodyPost_ret (results_none rfl _ _ _) rfl ?_
    exact ⟨rfl, ⟨_, _, _, P1.out⟩, HB1.out⟩

set_option maxRecDepth 100000 in
set_option maxHeartbeats 1000000 in
theorem pair_none1 {wt : Nat → Nat → Bool → Nat} {hd : Nat → Nat → Bool → Nat → Nat × Nat × Bool} (law : Lnk.Law wt hd) (B q : Nat) (e : Nat → Lnk.St) (c : Nat → List (List UInt8)) (N : Nat) (hG : ∀ i, i < 2 → Lnk.Good (e i) N) (hN : N < 549755813888) (hc : ∀ j, j < 6 → (c j).length ≤ 1000000)
    (d h k : Nat) (S : List UInt8) (hD : 5 ≤ d % 9) (hh : h < 256) (hkb : k < 65536) (hI : h % 2 = 1) (hno : c 1 = []) (w : World) (hat : Lnk.PAt w B q e c) :
    Calls Try.prog 10 #[.pointer (some ⟨q, 0, none⟩), Lnk.stepV d h k S] w fun r w' => r = .returned (.tuple #[]) ∧
      Lnk.PAt w' B q ((e, c)).1 ((e, c)).2 ∧ Below B w w' := by
  have H := Lib.hid hat
  have hB : B ≤ w.heap.size := by obtain ⟨_, _, _, h⟩ := hat; exact h.size
  have HG := Lib.hid hG
  have HC := Lib.hid hc
  have hrem : Int.tmod (d : Int) 9 = ((d % 9 : Nat) : Int) := rfl
  have hD9 : d % 9 < 9 := Nat.mod_lt _ (by omega)
  have hrem2 : Int.tmod (h : Int) 2 = ((h % 2 : Nat) : Int) := rfl
  rw [hI] at hrem2
  clear hat hG hc
  rw [show Lnk.stepV d h k S = .agg #[.int .u8 d, .int .u8 h, .int .u16 k, .string (Mem.str S)] from rfl]
  have hwh : wrap64 (h : Int) = h := by unfold wrap64; omega
  have hwk : wrap64 (k : Int) = k := by unfold wrap64; omega
  have wr0 : IntKind.i64.wrap 0 = 0 := by decide
  have wr1 : IntKind.i64.wrap 1 = 1 := by decide
  obtain ⟨g, F, s, h0⟩ := H.out
  have H0 := Lib.hid h0
  have hr0 : Lnk.Txt w B (s 1) (c 1) := h0.rows 1 (by omega)
  rw [hno] at hr0
  obtain ⟨A, cap, hs, _, _⟩ := hr0.form
  rw [List.length_nil] at hs
  have HS := Lib.hid hs
  clear h0 hr0 hs
  obtain ⟨D, hDD⟩ : ∃ D, d % 9 = D := ⟨_, rfl⟩
  rw [hDD] at hrem hD hD9
  have hD5 : D = 5 ∨ D = 6 ∨ D = 7 ∨ D = 8 := by omega
  clear hDD
  rcases hD5 with rfl | rfl | rfl | rfl
  all_goals
    go_enter Try.func10, Try.ntmps10
    go_wp2_with (first
      | (with_reducible refine Mem.wpList_box (o := ⟨some 3, _, _, _, _, _⟩) ?_ 30 (.tmp 1) ?_ (.agg #[.int .u8 d, .int .u8 h, .int .u16 k, .string (Mem.str S)]) ?_ ?_
         · rfl
         · rfl
         · rfl
         intro w1 hn1
         have x0 := hn1.cell1 0 (v := .int .u8 d) rfl
         have x1 := hn1.cell1 1 (v := .int .u8 h) rfl
         have x2 := hn1.cell1 2 (v := .int .u16 k) rfl
         have Hn1 := Lib.hid hn1
         have HB1 := Lib.hid (hn1.belowB hB)
         have H1 := Lib.hid (H.out.below hn1.below)
         have P1 := Lib.hid (H0.out.below hn1.below)
         have k2 : w1.cell? ⟨q, 3, none⟩ = some (.slice A 0 cap) := (cell_of_row _ _ 3 _ _ _ (H0.out.below hn1.below).row).trans (by rw [← HS.out]; rfl)
         clear hn1))
    refine bodyPost_ret (results_none rfl _ _ _) rfl ?_
    exact ⟨rfl, ⟨_, _, _, P1.out⟩, HB1.out⟩

-- END way
end Go.Proofs.Ytgkadhogfejheaa

/-! The pair's Do: a frame comes, stays, or is lost. -/
namespace Go.Proofs.Ytgkadhogfejheaa
open Go.RowKit
set_option linter.unusedVariables false

namespace Lnk
theorem wrap_small {k : Nat} (h : k ≤ 1000000) : IntKind.i64.wrap ((k : Int) + 1) = (k : Int) + 1 := by rw [IntKind.wrap_i64]; omega
theorem small_a {kk n : Nat} (h : n ≤ 1000000) (hk : kk ≤ n) : 0 + kk ≤ maxLen ∧ (0 + kk) * 16 ≤ 140737488355328 := ⟨by unfold maxLen; omega, by omega⟩
theorem small_b {kk n : Nat} (h : n ≤ 1000000) (hk : kk ≤ n) : 0 + kk + (n - (kk + 1)) ≤ maxLen ∧ (0 + kk + (n - (kk + 1))) * 16 ≤ 140737488355328 := ⟨by unfold maxLen; omega, by omega⟩
theorem no_slice {kk n : Nat} (hk : kk + 1 ≤ n) (h0 : 0 ≤ (kk : Int) + 1 → (n : Int) < (kk : Int) + 1) : False := by
  have := h0 (by omega)
  omega
end Lnk

-- BEGIN way
set_option maxRecDepth 100000 in
set_option maxHeartbeats 1000000 in
theorem pair_lost0 {wt : Nat → Nat → Bool → Nat} {hd : Nat → Nat → Bool → Nat → Nat × Nat × Bool} (law : Lnk.Law wt hd) (B q : Nat) (e : Nat → Lnk.St) (c : Nat → List (List UInt8)) (N : Nat) (hG : ∀ i, i < 2 → Lnk.Good (e i) N) (hN : N < 549755813888) (hc : ∀ j, j < 6 → (c j).length ≤ 1000000)
    (d h k : Nat) (S : List UInt8) (hD : d % 9 = 8) (hh : h < 256) (hkb : k < 65536) (hI : h % 2 = 0) (hno : c 0 ≠ []) (w : World) (hat : Lnk.PAt w B q e c) :
    Calls Try.prog 10 #[.pointer (some ⟨q, 0, none⟩), Lnk.stepV d h k S] w fun r w' => r = .returned (.tuple #[]) ∧
      Lnk.PAt w' B q ((e, Lnk.sub c 0 ((c 0).take (k % (c 0).length) ++ (c 0).drop (k % (c 0).length + 1)))).1 ((e, Lnk.sub c 0 ((c 0).take (k % (c 0).length) ++ (c 0).drop (k % (c 0).length + 1)))).2 ∧ Below B w w' := by
  have H := Lib.hid hat
  have hB : B ≤ w.heap.size := by obtain ⟨_, _, _, h⟩ := hat; exact h.size
  have HG := Lib.hid hG
  have HC := Lib.hid hc
  have hrem : Int.tmod (d : Int) 9 = ((d % 9 : Nat) : Int) := rfl
  rw [hD] at hrem
  have hrem2 : Int.tmod (h : Int) 2 = ((h % 2 : Nat) : Int) := rfl
  rw [hI] at hrem2
  clear hat hG hc
  rw [show Lnk.stepV d h k S = .agg #[.int .u8 d, .int .u8 h, .int .u16 k, .string (Mem.str S)] from rfl]
  have hwh : wrap64 (h : Int) = h := by unfold wrap64; omega
  have hwk : wrap64 (k : Int) = k := by unfold wrap64; omega
  have wr0 : IntKind.i64.wrap 0 = 0 := by decide
  have wr1 : IntKind.i64.wrap 1 = 1 := by decide
  clear hkb hh
  obtain ⟨g, F, s, h0⟩ := H.out
  have H0 := Lib.hid h0
  have hr0 : Lnk.Txt w B (s 0) (c 0) := h0.rows 0 (by omega)
  have hlen : (c 0).length ≤ 1000000 := HC.out 0 (by omega)
  obtain ⟨n, hn⟩ : ∃ n, (c 0).length = n := ⟨_, rfl⟩
  have hn0 : 0 < n := by rw [← hn]; exact List.length_pos_iff.2 hno
  unfold Lnk.Txt at hr0
  rw [hn] at hr0 hlen
  obtain ⟨pp, off, cap, hs⟩ : ∃ pp off cap, s 0 = .slice (some ⟨pp, off, none⟩) n cap := by
    rcases hr0.2 with ⟨_, h1⟩ | ⟨pp, off, cap, _, h1, _⟩
    · omega
    · exact ⟨pp, off, cap, h1⟩
  rw [hs] at hr0
  have hnc : n ≤ cap := by
    obtain ⟨_, _, h1, h2, _⟩ := hr0.form
    injection h1 with _ _ h3
    omega
  obtain ⟨kk, hkk⟩ : ∃ kk, k % n = kk := ⟨_, rfl⟩
  have hremk : Int.tmod (k : Int) (n : Int) = ((k % n : Nat) : Int) := rfl
  rw [hkk] at hremk
  have hkn : kk < n := by rw [← hkk]; exact Nat.mod_lt _ hn0
  obtain ⟨x, hx⟩ : ∃ x, (c 0)[kk]? = some x := ⟨_, List.getElem?_eq_getElem (by omega)⟩
  have hn1 : ((n : Int) == 0) = false := by simp; omega
  have hkni : (kk : Int) < (n : Int) := by omega
  have HR0 := Lib.hid hr0
  have HX := Lib.hid hx
  have HS := Lib.hid hs
  have HKK := Lib.hid hkk
  have HNN := Lib.hid hn
  have HLEN := Lib.hid hlen
  clear h0 hr0 hx hs hkk hn hno hlen
  go_enter Try.func10, Try.ntmps10
  go_wp2_with (first
    | (with_reducible refine Mem.wpList_box (o := ⟨some 3, _, _, _, _, _⟩) ?_ 30 (.tmp 1) ?_ (.agg #[.int .u8 d, .int .u8 h, .int .u16 k, .string (Mem.str S)]) ?_ ?_
       · rfl
       · rfl
       · rfl
       intro w1 hn1
       have x0 := hn1.cell1 0 (v := .int .u8 d) rfl
       have x1 := hn1.cell1 1 (v := .int .u8 h) rfl
       have x2 := hn1.cell1 2 (v := .int .u16 k) rfl
       have Hn1 := Lib.hid hn1
       have HB1 := Lib.hid (hn1.belowB hB)
       have H1 := Lib.hid (H.out.below hn1.below)
       have P1 := Lib.hid (H0.out.below hn1.below)
       have k2 : w1.cell? ⟨q, 2, none⟩ = some (.slice (some ⟨pp, off, none⟩) n cap) := (cell_of_row _ _ 2 _ _ _ (H0.out.below hn1.below).row).trans (by rw [← HS.out]; rfl)
       clear hn1))
  have m2 : ∀ i : Mem.Later w1, i.w.cell? ⟨q, 2, none⟩ = some (.slice (some ⟨pp, off, none⟩) n cap) := fun i => i.cell k2
  have m3 : ∀ i : Mem.Later w1, i.w.cell? ⟨w.heap.size, 2, none⟩ = some (.int .u16 k) := fun i => i.cell x2
  refine Mem.wp_region_later (by kernel_rfl) (by kernel_rfl) ?_
  repeat (go_big_quiet_step (fail))
  refine wpQuiet_nil ?_
  intro w2 hw2
  obtain ⟨i2, hi2⟩ := hw2
  have h2 : Below w1.heap.size w1 w2 := hi2 ▸ i2.h
  have y2 := m2 ⟨w2, h2⟩
  simp only at y2
  clear hi2 i2 m2 m3
  have y0 := Mem.keep h2 x0
  have P2 := Lib.hid (P1.out.below h2)
  have B2 := Lib.hid (HB1.out.trans (h2.mono (Nat.le_trans hB Hn1.out.below.size)))
  have hR2 := Lib.hid (HR0.out.below (Mem.then_ Hn1.out.below h2))
  have z0 : w2.cell? ⟨pp, off + kk, none⟩ = some (.string (Mem.str x)) := by
    obtain ⟨a, ha, hc⟩ := hR2.out.cell rfl (j := kk) (u := .string (Mem.str x)) (by
      unfold Lnk.strs
      rw [List.getElem?_map, HX.out]
      rfl)
    cases ha
    simpa [Addr.add_lit] using hc
  have SZ2 : w.heap.size < w2.heap.size := block_lt_of_cell y0
  clear h2 x0 x1 x2 k2
  go_wp2
  obtain ⟨i, hi, hz, hz1, hz2⟩ := info_parts Lnk.info_str
  have hwk1 : wrap64 ((kk : Int) + 1) = ((kk + 1 : Nat) : Int) := by have := HLEN.out; unfold wrap64; omega
  have hwk2 : IntKind.i64.wrap ((kk : Int) + 1) = (kk : Int) + 1 := Lnk.wrap_small (Nat.le_trans (Nat.le_of_lt hkn) HLEN.out)
  have hk1 : kk + 1 ≤ n := hkn
  have hkn2 : kk ≤ n := Nat.le_of_lt hkn
  have hkc : kk ≤ cap := Nat.le_trans hkn2 hnc
  clear hremk hrem2
  have hq2 : q < w2.heap.size := P2.out.qlt
  have f2 := frozen_of_row w2 q 2 _ _ P2.out.row
  have kB : ∀ o, Below w2.heap.size w2 (w2.alloc o).drew := fun o => ((Below.refl w2.heap.size w2).alloc (Nat.le_refl _) o).drew
  have ca : ∀ o, (w2.alloc o).cell? ⟨q, 2, none⟩ = some (.slice (some ⟨pp, off, none⟩) n cap) := fun o => Mem.keep ((Below.refl w2.heap.size w2).alloc (Nat.le_refl _) o) y2
  have hB2 : B ≤ w2.heap.size := Nat.le_trans hB (Nat.le_of_lt SZ2)
  have hpre := hR2.out.front hkn2
  have hsuf := hR2.out.suffix hk1
  rw [Lnk.strs_take] at hpre
  rw [Lnk.strs_drop] at hsuf
  refine Mem.wp_region_mix 24 [0, 1, 3, 4, 5, 6, 7, 8, 9, 10, 12, 13, 14, 15, 16, 17, 18, 19, 20, 22, 23] [2, 11, 21] (by kernel_rfl) rfl (by kernel_rfl) (fun w' => Below w2.heap.size w2 w') (Below.refl _ _).drew ?_
  refine ⟨_, .pointer (some ⟨q, 0, none⟩), rfl, .inl ⟨rfl, fun w' hw' => by go_simp⟩, ?_⟩
  refine ⟨_, .int .i64 0, rfl, .inl ⟨rfl, fun w' hw' => by go_simp⟩, ?_⟩
  refine ⟨_, .pointer (some ⟨q, 0, none⟩), rfl, .inl ⟨rfl, fun w' hw' => by go_simp⟩, ?_⟩
  refine ⟨_, .int .i64 0, rfl, .inl ⟨rfl, fun w' hw' => by go_simp⟩, ?_⟩
  refine ⟨_, .pointer (some ⟨q, 0, none⟩), rfl, .inl ⟨rfl, fun w' hw' => by go_simp⟩, ?_⟩
  refine ⟨_, .pointer (some ⟨q, 2, none⟩), rfl, .inl ⟨rfl, fun w' hw' => by go_simp⟩, ?_⟩
  refine ⟨_, .pointer (some ⟨q, 2, none⟩), rfl, .inl ⟨rfl, fun w' hw' => by go_simp⟩, ?_⟩
  refine ⟨_, .slice (some ⟨pp, off, none⟩) n cap, rfl, .inl ⟨rfl, fun w' hw' => by have hc := Mem.keep hw' y2; go_simp⟩, ?_⟩
  refine ⟨_, .int .i64 kk, rfl, .inl ⟨rfl, fun w' hw' => by go_simp⟩, ?_⟩
  refine ⟨_, .slice (some ⟨pp, off, none⟩) kk cap, rfl, .inl ⟨rfl, fun w' hw' => by go_simp⟩, ?_⟩
  refine ⟨_, .pointer (some ⟨q, 0, none⟩), rfl, .inl ⟨rfl, fun w' hw' => by go_simp⟩, ?_⟩
  refine ⟨_, .int .i64 0, rfl, .inl ⟨rfl, fun w' hw' => by go_simp⟩, ?_⟩
  refine ⟨_, .pointer (some ⟨q, 0, none⟩), rfl, .inl ⟨rfl, fun w' hw' => by go_simp⟩, ?_⟩
  refine ⟨_, .pointer (some ⟨q, 2, none⟩), rfl, .inl ⟨rfl, fun w' hw' => by go_simp⟩, ?_⟩
  refine ⟨_, .pointer (some ⟨q, 2, none⟩), rfl, .inl ⟨rfl, fun w' hw' => by go_simp⟩, ?_⟩
  refine ⟨_, .slice (some ⟨pp, off, none⟩) n cap, rfl, .inl ⟨rfl, fun w' hw' => by have hc := Mem.keep hw' y2; go_simp⟩, ?_⟩
  refine ⟨_, .int .i64 kk, rfl, .inl ⟨rfl, fun w' hw' => by go_simp⟩, ?_⟩
  refine ⟨_, .int .i64 ((kk + 1 : Nat) : Int), rfl, .inl ⟨rfl, fun w' hw' => by go_simp⟩, ?_⟩
  refine ⟨_, .slice (if cap = kk + 1 then some ⟨pp, off, none⟩ else some ⟨pp, off + (kk + 1) * 1, none⟩) (n - (kk + 1)) (cap - (kk + 1)), rfl, .inl ⟨rfl, fun w' hw' => by go_simp; intro h0; exact (Lnk.no_slice hk1 h0).elim⟩, ?_⟩
  refine ⟨_, .pointer (some ⟨q, 0, none⟩), rfl, .inl ⟨rfl, fun w' hw' => by go_simp⟩, ?_⟩
  refine ⟨_, .pointer (some ⟨q, 2, none⟩), rfl, .inl ⟨rfl, fun w' hw' => by go_simp⟩, ?_⟩
  have hrow0 : Mem.Row (w2.alloc (.cells #[] 9)).drew w2.heap.size 9 1 (.slice (some ⟨w2.heap.size, 0, none⟩) 0 0) 0 [] :=
    ⟨rfl, .inr ⟨w2.heap.size, 0, 0, #[], rfl, Nat.le_refl _, heap_alloc_new w2 _, Nat.le_refl _, by unfold maxLen; omega, by simp, fun j u hj => by simp at hj⟩⟩
  have HROW0 := Lib.hid hrow0
  have HPRE := Lib.hid hpre
  have HSUF := Lib.hid hsuf
  clear hrow0 hpre hsuf
  refine ⟨_, rfl, rfl, ?_⟩
  dsimp only [Act.put]
  simp only [List.setIfInBounds_toArray]
  unfold Oper.wp
  go_simp
  refine ⟨_, rfl, rfl, ?_⟩
  refine Mem.wp_append_rows _ (.tmp 48) (.tmp 56) 32 rfl w2.heap.size 9 i _ 1 16 Try.underlying32 hi hz hz1 hz2 rfl (.slice (some ⟨w2.heap.size, 0, none⟩) 0 0) 0 [] rfl HROW0.out (.slice (some ⟨pp, off, none⟩) kk cap) kk B (Lnk.strs ((c 0).take kk)) rfl (HPRE.out.below (kB _)) (Lnk.one_strs _) (Lnk.small_a HLEN.out hkn2).1 (Lnk.small_a HLEN.out hkn2).2 (by simp) ?_
  intro v1 w3 hown1 hgrow1 hat1
  have b3 : Below w2.heap.size w2 w3 := (kB _).trans ⟨hgrow1.os, hgrow1.tape, hgrow1.output, hgrow1.size, fun b hb => hgrow1.block b (Nat.lt_of_lt_of_le hb (by simp)) (fun e => Nat.ne_of_lt hb (by simpa [Value.ownBlock] using e))⟩
  refine ⟨b3, ?_⟩
  refine ⟨_, rfl, rfl, ?_⟩
  refine Mem.wp_append_rows _ (.tmp 57) (.tmp 66) 32 rfl w2.heap.size 9 i _ 1 16 Try.underlying32 hi hz hz1 hz2 rfl v1 (0 + kk) ([] ++ Lnk.strs ((c 0).take kk)) rfl hown1 (.slice (if cap = kk + 1 then some ⟨pp, off, none⟩ else some ⟨pp, off + (kk + 1) * 1, none⟩) (n - (kk + 1)) (cap - (kk + 1))) (n - (kk + 1)) B (Lnk.strs ((c 0).drop (kk + 1))) (by rw [Nat.mul_one]; rfl) (HSUF.out.below b3) (Lnk.one_strs _) (Lnk.small_b HLEN.out hkn2).1 (Lnk.small_b HLEN.out hkn2).2 b3.size ?_
  intro v2 w4 hown2 hgrow2 hat2
  rw [Nat.zero_add] at hown2
  have hv1 : ∀ b, v1.ownBlock = some b → w2.heap.size ≤ b := fun b hb => (Mem.Row.block hown1 hb).1
  have b4 : Below w2.heap.size w2 w4 := b3.trans ⟨hgrow2.os, hgrow2.tape, hgrow2.output, hgrow2.size, fun b hb => hgrow2.block b (Nat.lt_of_lt_of_le hb b3.size) (fun e => Nat.not_le_of_lt hb (hv1 b e.symm))⟩
  refine ⟨b4, ?_⟩
  obtain ⟨A', cap', hv2, _, _⟩ := hown2.form
  subst hv2
  have k4 := Mem.keep b4 y2
  have f4 := (b4.frozen hq2).trans f2
  have x4 : ∀ u, (w4.setCell ⟨q, 2, none⟩ u).cell? ⟨w.heap.size, 0, none⟩ = some (.int .u8 d) := fun u => (World.cell?_setCell_other _ _ _ _ (fun e => Nat.ne_of_lt H0.out.qlt (congrArg Addr.block e))).trans (Mem.keep b4 y0)
  dsimp only [Act.put, Mem.chain]
  simp only [List.setIfInBounds_toArray]
  clear y2 ca kB
  go_wp2
  all_goals
    refine NoPanic.normal ?_
    have hl4 : ((c 0).take kk ++ (c 0).drop (kk + 1)).length = kk + (n - (kk + 1)) := by
      rw [List.length_append, List.length_take, List.length_drop, HNN.out, Nat.min_eq_left hkn2]
    have ht4 : Lnk.Txt w4 B (.slice A' (kk + (n - (kk + 1))) cap') ((c 0).take kk ++ (c 0).drop (kk + 1)) := by
      unfold Lnk.Txt
      rw [hl4]
      unfold Lnk.strs
      rw [List.map_append]
      exact hown2.mono hB2
    have P4 := Lib.hid (P2.out.text (j := 0) (by decide) (Mem.But.of_below b4) ht4 (fun b hb => .inr (Mem.Row.block hown2 hb).1))
    have bs4 : Below B w4 (w4.setCell ⟨q, 2, none⟩ (.slice A' (kk + (n - (kk + 1))) cap')) := (Below.refl B w4).setCell H0.out.bq _
    have B4 := Lib.hid (B2.out.trans ((b4.mono hB2).trans bs4))
    go_wp2
    refine bodyPost_end (results_none rfl _ _ _) rfl ?_
    rw [HNN.out, HKK.out]
    exact ⟨rfl, ⟨_, _, _, P4.out⟩, B4.out⟩

set_option maxRecDepth 100000 in
set_option maxHeartbeats 1000000 in
theorem pair_lost1 {wt : Nat → Nat → Bool → Nat} {hd : Nat → Nat → Bool → Nat → Nat × Nat × Bool} (law : Lnk.Law wt hd) (B q : Nat) (e : Nat → Lnk.St) (c : Nat → List (List UInt8)) (N : Nat) (hG : ∀ i, i < 2 → Lnk.Good (e i) N) (hN : N < 549755813888) (hc : ∀ j, j < 6 → (c j).length ≤ 1000000)
    (d h k : Nat) (S : List UInt8) (hD : d % 9 = 8) (hh : h < 256) (hkb : k < 65536) (hI : h % 2 = 1) (hno : c 1 ≠ []) (w : World) (hat : Lnk.PAt w B q e c) :
    Calls Try.prog 10 #[.pointer (some ⟨q, 0, none⟩), Lnk.stepV d h k S] w fun r w' => r = .returned (.tuple #[]) ∧
      Lnk.PAt w' B q ((e, Lnk.sub c 1 ((c 1).take (k % (c 1).length) ++ (c 1).drop (k % (c 1).length + 1)))).1 ((e, Lnk.sub c 1 ((c 1).take (k % (c 1).length) ++ (c 1).drop (k % (c 1).length + 1)))).2 ∧ Below B w w' := by
  have H := Lib.hid hat
  have hB : B ≤ w.heap.size := by obtain ⟨_, _, _, h⟩ := hat; exact h.size
  have HG := Lib.hid hG
  have HC := Lib.hid hc
  have hrem : Int.tmod (d : Int) 9 = ((d % 9 : Nat) : Int) := rfl
  rw [hD] at hrem
  have hrem2 : Int.tmod (h : Int) 2 = ((h % 2 : Nat) : Int) := rfl
  rw [hI] at hrem2
  clear hat hG hc
  rw [show Lnk.stepV d h k S = .agg #[.int .u8 d, .int .u8 h, .int .u16 k, .string (Mem.str S)] from rfl]
  have hwh : wrap64 (h : Int) = h := by unfold wrap64; omega
  have hwk : wrap64 (k : Int) = k := by unfold wrap64; omega
  have wr0 : IntKind.i64.wrap 0 = 0 := by decide
  have wr1 : IntKind.i64.wrap 1 = 1 := by decide
  clear hkb hh
  obtain ⟨g, F, s, h0⟩ := H.out
  have H0 := Lib.hid h0
  have hr0 : Lnk.Txt w B (s 1) (c 1) := h0.rows 1 (by omega)
  have hlen : (c 1).length ≤ 1000000 := HC.out 1 (by omega)
  obtain ⟨n, hn⟩ : ∃ n, (c 1).length = n := ⟨_, rfl⟩
  have hn0 : 0 < n := by rw [← hn]; exact List.length_pos_iff.2 hno
  unfold Lnk.Txt at hr0
  rw [hn] at hr0 hlen
  obtain ⟨pp, off, cap, hs⟩ : ∃ pp off cap, s 1 = .slice (some ⟨pp, off, none⟩) n cap := by
    rcases hr0.2 with ⟨_, h1⟩ | ⟨pp, off, cap, _, h1, _⟩
    · omega
    · exact ⟨pp, off, cap, h1⟩
  rw [hs] at hr0
  have hnc : n ≤ cap := by
    obtain ⟨_, _, h1, h2, _⟩ := hr0.form
    injection h1 with _ _ h3
    omega
  obtain ⟨kk, hkk⟩ : ∃ kk, k % n = kk := ⟨_, rfl⟩
  have hremk : Int.tmod (k : Int) (n : Int) = ((k % n : Nat) : Int) := rfl
  rw [hkk] at hremk
  have hkn : kk < n := by rw [← hkk]; exact Nat.mod_lt _ hn0
  obtain ⟨x, hx⟩ : ∃ x, (c 1)[kk]? = some x := ⟨_, List.getElem?_eq_getElem (by omega)⟩
  have hn1 : ((n : Int) == 0) = false := by simp; omega
  have hkni : (kk : Int) < (n : Int) := by omega
  have HR0 := Lib.hid hr0
  have HX := Lib.hid hx
  have HS := Lib.hid hs
  have HKK := Lib.hid hkk
  have HNN := Lib.hid hn
  have HLEN := Lib.hid hlen
  clear h0 hr0 hx hs hkk hn hno hlen
  go_enter Try.func10, Try.ntmps10
  go_wp2_with (first
    | (with_reducible refine Mem.wpList_box (o := ⟨some 3, _, _, _, _, _⟩) ?_ 30 (.tmp 1) ?_ (.agg #[.int .u8 d, .int .u8 h, .int .u16 k, .string (Mem.str S)]) ?_ ?_
       · rfl
       · rfl
       · rfl
       intro w1 hn1
       have x0 := hn1.cell1 0 (v := .int .u8 d) rfl
       have x1 := hn1.cell1 1 (v := .int .u8 h) rfl
       have x2 := hn1.cell1 2 (v := .int .u16 k) rfl
       have Hn1 := Lib.hid hn1
       have HB1 := Lib.hid (hn1.belowB hB)
       have H1 := Lib.hid (H.out.below hn1.below)
       have P1 := Lib.hid (H0.out.below hn1.below)
       have k2 : w1.cell? ⟨q, 3, none⟩ = some (.slice (some ⟨pp, off, none⟩) n cap) := (cell_of_row _ _ 3 _ _ _ (H0.out.below hn1.below).row).trans (by rw [← HS.out]; rfl)
       clear hn1))
  have m2 : ∀ i : Mem.Later w1, i.w.cell? ⟨q, 3, none⟩ = some (.slice (some ⟨pp, off, none⟩) n cap) := fun i => i.cell k2
  have m3 : ∀ i : Mem.Later w1, i.w.cell? ⟨w.heap.size, 2, none⟩ = some (.int .u16 k) := fun i => i.cell x2
  refine Mem.wp_region_later (by kernel_rfl) (by kernel_rfl) ?_
  repeat (go_big_quiet_step (fail))
  refine wpQuiet_nil ?_
  intro w2 hw2
  obtain ⟨i2, hi2⟩ := hw2
  have h2 : Below w1.heap.size w1 w2 := hi2 ▸ i2.h
  have y2 := m2 ⟨w2, h2⟩
  simp only at y2
  clear hi2 i2 m2 m3
  have y0 := Mem.keep h2 x0
  have P2 := Lib.hid (P1.out.below h2)
  have B2 := Lib.hid (HB1.out.trans (h2.mono (Nat.le_trans hB Hn1.out.below.size)))
  have hR2 := Lib.hid (HR0.out.below (Mem.then_ Hn1.out.below h2))
  have z0 : w2.cell? ⟨pp, off + kk, none⟩ = some (.string (Mem.str x)) := by
    obtain ⟨a, ha, hc⟩ := hR2.out.cell rfl (j := kk) (u := .string (Mem.str x)) (by
      unfold Lnk.strs
      rw [List.getElem?_map, HX.out]
      rfl)
    cases ha
    simpa [Addr.add_lit] using hc
  have SZ2 : w.heap.size < w2.heap.size := block_lt_of_cell y0
  clear h2 x0 x1 x2 k2
  go_wp2
  obtain ⟨i, hi, hz, hz1, hz2⟩ := info_parts Lnk.info_str
  have hwk1 : wrap64 ((kk : Int) + 1) = ((kk + 1 : Nat) : Int) := by have := HLEN.out; unfold wrap64; omega
  have hwk2 : IntKind.i64.wrap ((kk : Int) + 1) = (kk : Int) + 1 := Lnk.wrap_small (Nat.le_trans (Nat.le_of_lt hkn) HLEN.out)
  have hk1 : kk + 1 ≤ n := hkn
  have hkn2 : kk ≤ n := Nat.le_of_lt hkn
  have hkc : kk ≤ cap := Nat.le_trans hkn2 hnc
  clear hremk hrem2
  have hq2 : q < w2.heap.size := P2.out.qlt
  have f2 := frozen_of_row w2 q 3 _ _ P2.out.row
  have kB : ∀ o, Below w2.heap.size w2 (w2.alloc o).drew := fun o => ((Below.refl w2.heap.size w2).alloc (Nat.le_refl _) o).drew
  have ca : ∀ o, (w2.alloc o).cell? ⟨q, 3, none⟩ = some (.slice (some ⟨pp, off, none⟩) n cap) := fun o => Mem.keep ((Below.refl w2.heap.size w2).alloc (Nat.le_refl _) o) y2
  have hB2 : B ≤ w2.heap.size := Nat.le_trans hB (Nat.le_of_lt SZ2)
  have hpre := hR2.out.front hkn2
  have hsuf := hR2.out.suffix hk1
  rw [Lnk.strs_take] at hpre
  rw [Lnk.strs_drop] at hsuf
  refine Mem.wp_region_mix 24 [0, 1, 3, 4, 5, 6, 7, 8, 9, 10, 12, 13, 14, 15, 16, 17, 18, 19, 20, 22, 23] [2, 11, 21] (by kernel_rfl) rfl (by kernel_rfl) (fun w' => Below w2.heap.size w2 w') (Below.refl _ _).drew ?_
  refine ⟨_, .pointer (some ⟨q, 0, none⟩), rfl, .inl ⟨rfl, fun w' hw' => by go_simp⟩, ?_⟩
  refine ⟨_, .int .i64 1, rfl, .inl ⟨rfl, fun w' hw' => by go_simp⟩, ?_⟩
  refine ⟨_, .pointer (some ⟨q, 0, none⟩), rfl, .inl ⟨rfl, fun w' hw' => by go_simp⟩, ?_⟩
  refine ⟨_, .int .i64 1, rfl, .inl ⟨rfl, fun w' hw' => by go_simp⟩, ?_⟩
  refine ⟨_, .pointer (some ⟨q, 0, none⟩), rfl, .inl ⟨rfl, fun w' hw' => by go_simp⟩, ?_⟩
  refine ⟨_, .pointer (some ⟨q, 2, none⟩), rfl, .inl ⟨rfl, fun w' hw' => by go_simp⟩, ?_⟩
  refine ⟨_, .pointer (some ⟨q, 3, none⟩), rfl, .inl ⟨rfl, fun w' hw' => by go_simp⟩, ?_⟩
  refine ⟨_, .slice (some ⟨pp, off, none⟩) n cap, rfl, .inl ⟨rfl, fun w' hw' => by have hc := Mem.keep hw' y2; go_simp⟩, ?_⟩
  refine ⟨_, .int .i64 kk, rfl, .inl ⟨rfl, fun w' hw' => by go_simp⟩, ?_⟩
  refine ⟨_, .slice (some ⟨pp, off, none⟩) kk cap, rfl, .inl ⟨rfl, fun w' hw' => by go_simp⟩, ?_⟩
  refine ⟨_, .pointer (some ⟨q, 0, none⟩), rfl, .inl ⟨rfl, fun w' hw' => by go_simp⟩, ?_⟩
  refine ⟨_, .int .i64 1, rfl, .inl ⟨rfl, fun w' hw' => by go_simp⟩, ?_⟩
  refine ⟨_, .pointer (some ⟨q, 0, none⟩), rfl, .inl ⟨rfl, fun w' hw' => by go_simp⟩, ?_⟩
  refine ⟨_, .pointer (some ⟨q, 2, none⟩), rfl, .inl ⟨rfl, fun w' hw' => by go_simp⟩, ?_⟩
  refine ⟨_, .pointer (some ⟨q, 3, none⟩), rfl, .inl ⟨rfl, fun w' hw' => by go_simp⟩, ?_⟩
  refine ⟨_, .slice (some ⟨pp, off, none⟩) n cap, rfl, .inl ⟨rfl, fun w' hw' => by have hc := Mem.keep hw' y2; go_simp⟩, ?_⟩
  refine ⟨_, .int .i64 kk, rfl, .inl ⟨rfl, fun w' hw' => by go_simp⟩, ?_⟩
  refine ⟨_, .int .i64 ((kk + 1 : Nat) : Int), rfl, .inl ⟨rfl, fun w' hw' => by go_simp⟩, ?_⟩
  refine ⟨_, .slice (if cap = kk + 1 then some ⟨pp, off, none⟩ else some ⟨pp, off + (kk + 1) * 1, none⟩) (n - (kk + 1)) (cap - (kk + 1)), rfl, .inl ⟨rfl, fun w' hw' => by go_simp; intro h0; exact (Lnk.no_slice hk1 h0).elim⟩, ?_⟩
  refine ⟨_, .pointer (some ⟨q, 0, none⟩), rfl, .inl ⟨rfl, fun w' hw' => by go_simp⟩, ?_⟩
  refine ⟨_, .pointer (some ⟨q, 2, none⟩), rfl, .inl ⟨rfl, fun w' hw' => by go_simp⟩, ?_⟩
  have hrow0 : Mem.Row (w2.alloc (.cells #[] 9)).drew w2.heap.size 9 1 (.slice (some ⟨w2.heap.size, 0, none⟩) 0 0) 0 [] :=
    ⟨rfl, .inr ⟨w2.heap.size, 0, 0, #[], rfl, Nat.le_refl _, heap_alloc_new w2 _, Nat.le_refl _, by unfold maxLen; omega, by simp, fun j u hj => by simp at hj⟩⟩
  have HROW0 := Lib.hid hrow0
  have HPRE := Lib.hid hpre
  have HSUF := Lib.hid hsuf
  clear hrow0 hpre hsuf
  refine ⟨_, rfl, rfl, ?_⟩
  dsimp only [Act.put]
  simp only [List.setIfInBounds_toArray, List.set_cons_zero, List.set_cons_succ]
  unfold Oper.wp
  go_simp
  refine ⟨_, rfl, rfl, ?_⟩
  refine Mem.wp_append_rows _ (.tmp 48) (.tmp 56) 32 rfl w2.heap.size 9 i _ 1 16 Try.underlying32 hi hz hz1 hz2 rfl (.slice (some ⟨w2.heap.size, 0, none⟩) 0 0) 0 [] rfl HROW0.out (.slice (some ⟨pp, off, none⟩) kk cap) kk B (Lnk.strs ((c 1).take kk)) rfl (HPRE.out.below (kB _)) (Lnk.one_strs _) (Lnk.small_a HLEN.out hkn2).1 (Lnk.small_a HLEN.out hkn2).2 (by simp) ?_
  intro v1 w3 hown1 hgrow1 hat1
  have b3 : Below w2.heap.size w2 w3 := (kB _).trans ⟨hgrow1.os, hgrow1.tape, hgrow1.output, hgrow1.size, fun b hb => hgrow1.block b (Nat.lt_of_lt_of_le hb (by simp)) (fun e => Nat.ne_of_lt hb (by simpa [Value.ownBlock] using e))⟩
  refine ⟨b3, ?_⟩
  refine ⟨_, rfl, rfl, ?_⟩
  refine Mem.wp_append_rows _ (.tmp 57) (.tmp 66) 32 rfl w2.heap.size 9 i _ 1 16 Try.underlying32 hi hz hz1 hz2 rfl v1 (0 + kk) ([] ++ Lnk.strs ((c 1).take kk)) rfl hown1 (.slice (if cap = kk + 1 then some ⟨pp, off, none⟩ else some ⟨pp, off + (kk + 1) * 1, none⟩) (n - (kk + 1)) (cap - (kk + 1))) (n - (kk + 1)) B (Lnk.strs ((c 1).drop (kk + 1))) (by rw [Nat.mul_one]; rfl) (HSUF.out.below b3) (Lnk.one_strs _) (Lnk.small_b HLEN.out hkn2).1 (Lnk.small_b HLEN.out hkn2).2 b3.size ?_
  intro v2 w4 hown2 hgrow2 hat2
  rw [Nat.zero_add] at hown2
  have hv1 : ∀ b, v1.ownBlock = some b → w2.heap.size ≤ b := fun b hb => (Mem.Row.block hown1 hb).1
  have b4 : Below w2.heap.size w2 w4 := b3.trans ⟨hgrow2.os, hgrow2.tape, hgrow2.output, hgrow2.size, fun b hb => hgrow2.block b (Nat.lt_of_lt_of_le hb b3.size) (fun e => Nat.not_le_of_lt hb (hv1 b e.symm))⟩
  refine ⟨b4, ?_⟩
  obtain ⟨A', cap', hv2, _, _⟩ := hown2.form
  subst hv2
  have k4 := Mem.keep b4 y2
  have f4 := (b4.frozen hq2).trans f2
  have x4 : ∀ u, (w4.setCell ⟨q, 3, none⟩ u).cell? ⟨w.heap.size, 0, none⟩ = some (.int .u8 d) := fun u => (World.cell?_setCell_other _ _ _ _ (fun e => Nat.ne_of_lt H0.out.qlt (congrArg Addr.block e))).trans (Mem.keep b4 y0)
  dsimp only [Act.put, Mem.chain]
  simp only [List.setIfInBounds_toArray, List.set_cons_zero, List.set_cons_succ]
  clear y2 ca kB
  go_wp2
  all_goals
    refine NoPanic.normal ?_
    have hl4 : ((c 1).take kk ++ (c 1).drop (kk + 1)).length = kk + (n - (kk + 1)) := by
      rw [List.length_append, List.length_take, List.length_drop, HNN.out, Nat.min_eq_left hkn2]
    have ht4 : Lnk.Txt w4 B (.slice A' (kk + (n - (kk + 1))) cap') ((c 1).take kk ++ (c 1).drop (kk + 1)) := by
      unfold Lnk.Txt
      rw [hl4]
      unfold Lnk.strs
      rw [List.map_append]
      exact hown2.mono hB2
    have P4 := Lib.hid (P2.out.text (j := 1) (by decide) (Mem.But.of_below b4) ht4 (fun b hb => .inr (Mem.Row.block hown2 hb).1))
    have bs4 : Below B w4 (w4.setCell ⟨q, 3, none⟩ (.slice A' (kk + (n - (kk + 1))) cap')) := (Below.refl B w4).setCell H0.out.bq _
    have B4 := Lib.hid (B2.out.trans ((b4.mono hB2).trans bs4))
    go_wp2
    refine bodyPost_end (results_none rfl _ _ _) rfl ?_
    rw [HNN.out, HKK.out]
    exact ⟨rfl, ⟨_, _, _, P4.out⟩, B4.out⟩

set_option maxRecDepth 100000 in
set_option maxHeartbeats 1000000 in
theorem pair_comes5_0 {wt : Nat → Nat → Bool → Nat} {hd : Nat → Nat → Bool → Nat → Nat × Nat × Bool} (law : Lnk.Law wt hd) (B q : Nat) (e : Nat → Lnk.St) (c : Nat → List (List UInt8)) (N : Nat) (hG : ∀ i, i < 2 → Lnk.Good (e i) N) (hN : N < 549755813888) (hc : ∀ j, j < 6 → (c j).length ≤ 1000000)
    (d h k : Nat) (S : List UInt8) (hD : d % 9 = 5) (hh : h < 256) (hkb : k < 65536) (hI : h % 2 = 0) (hno : c 0 ≠ []) (h61 : ∀ s ∈ c 0, s.length < 2 ^ 61) (w : World) (hat : Lnk.PAt w B q e c) :
    Calls Try.prog 10 #[.pointer (some ⟨q, 0, none⟩), Lnk.stepV d h k S] w fun r w' => r = .returned (.tuple #[]) ∧
      Lnk.PAt w' B q (Lnk.comeP hd 0 ((c 0).getD (k % (c 0).length) []) (e, Lnk.sub c 0 ((c 0).take (k % (c 0).length) ++ (c 0).drop (k % (c 0).length + 1)))).1 (Lnk.comeP hd 0 ((c 0).getD (k % (c 0).length) []) (e, Lnk.sub c 0 ((c 0).take (k % (c 0).length) ++ (c 0).drop (k % (c 0).length + 1)))).2 ∧ Below B w w' := by
  have H := Lib.hid hat
  have hB : B ≤ w.heap.size := by obtain ⟨_, _, _, h⟩ := hat; exact h.size
  have HG := Lib.hid hG
  have HC := Lib.hid hc
  have hrem : Int.tmod (d : Int) 9 = ((d % 9 : Nat) : Int) := rfl
  rw [hD] at hrem
  have hrem2 : Int.tmod (h : Int) 2 = ((h % 2 : Nat) : Int) := rfl
  rw [hI] at hrem2
  clear hat hG hc
  rw [show Lnk.stepV d h k S = .agg #[.int .u8 d, .int .u8 h, .int .u16 k, .string (Mem.str S)] from rfl]
  have H61 := Lib.hid h61
  clear h61
  have hwh : wrap64 (h : Int) = h := by unfold wrap64; omega
  have hwk : wrap64 (k : Int) = k := by unfold wrap64; omega
  have wr0 : IntKind.i64.wrap 0 = 0 := by decide
  have wr1 : IntKind.i64.wrap 1 = 1 := by decide
  clear hkb hh
  obtain ⟨g, F, s, h0⟩ := H.out
  have H0 := Lib.hid h0
  have hr0 : Lnk.Txt w B (s 0) (c 0) := h0.rows 0 (by omega)
  have hlen : (c 0).length ≤ 1000000 := HC.out 0 (by omega)
  obtain ⟨n, hn⟩ : ∃ n, (c 0).length = n := ⟨_, rfl⟩
  have hn0 : 0 < n := by rw [← hn]; exact List.length_pos_iff.2 hno
  unfold Lnk.Txt at hr0
  rw [hn] at hr0 hlen
  obtain ⟨pp, off, cap, hs⟩ : ∃ pp off cap, s 0 = .slice (some ⟨pp, off, none⟩) n cap := by
    rcases hr0.2 with ⟨_, h1⟩ | ⟨pp, off, cap, _, h1, _⟩
    · omega
    · exact ⟨pp, off, cap, h1⟩
  rw [hs] at hr0
  have hnc : n ≤ cap := by
    obtain ⟨_, _, h1, h2, _⟩ := hr0.form
    injection h1 with _ _ h3
    omega
  obtain ⟨kk, hkk⟩ : ∃ kk, k % n = kk := ⟨_, rfl⟩
  have hremk : Int.tmod (k : Int) (n : Int) = ((k % n : Nat) : Int) := rfl
  rw [hkk] at hremk
  have hkn : kk < n := by rw [← hkk]; exact Nat.mod_lt _ hn0
  obtain ⟨x, hx⟩ : ∃ x, (c 0)[kk]? = some x := ⟨_, List.getElem?_eq_getElem (by omega)⟩
  have hn1 : ((n : Int) == 0) = false := by simp; omega
  have hkni : (kk : Int) < (n : Int) := by omega
  have HR0 := Lib.hid hr0
  have HX := Lib.hid hx
  have HS := Lib.hid hs
  have HKK := Lib.hid hkk
  have HNN := Lib.hid hn
  have HLEN := Lib.hid hlen
  clear h0 hr0 hx hs hkk hn hno hlen
  go_enter Try.func10, Try.ntmps10
  go_wp2_with (first
    | (with_reducible refine Mem.wpList_box (o := ⟨some 3, _, _, _, _, _⟩) ?_ 30 (.tmp 1) ?_ (.agg #[.int .u8 d, .int .u8 h, .int .u16 k, .string (Mem.str S)]) ?_ ?_
       · rfl
       · rfl
       · rfl
       intro w1 hn1
       have x0 := hn1.cell1 0 (v := .int .u8 d) rfl
       have x1 := hn1.cell1 1 (v := .int .u8 h) rfl
       have x2 := hn1.cell1 2 (v := .int .u16 k) rfl
       have Hn1 := Lib.hid hn1
       have HB1 := Lib.hid (hn1.belowB hB)
       have H1 := Lib.hid (H.out.below hn1.below)
       have P1 := Lib.hid (H0.out.below hn1.below)
       have k2 : w1.cell? ⟨q, 2, none⟩ = some (.slice (some ⟨pp, off, none⟩) n cap) := (cell_of_row _ _ 2 _ _ _ (H0.out.below hn1.below).row).trans (by rw [← HS.out]; rfl)
       clear hn1))
  have m2 : ∀ i : Mem.Later w1, i.w.cell? ⟨q, 2, none⟩ = some (.slice (some ⟨pp, off, none⟩) n cap) := fun i => i.cell k2
  have m3 : ∀ i : Mem.Later w1, i.w.cell? ⟨w.heap.size, 2, none⟩ = some (.int .u16 k) := fun i => i.cell x2
  refine Mem.wp_region_later (by kernel_rfl) (by kernel_rfl) ?_
  repeat (go_big_quiet_step (fail))
  refine wpQuiet_nil ?_
  intro w2 hw2
  obtain ⟨i2, hi2⟩ := hw2
  have h2 : Below w1.heap.size w1 w2 := hi2 ▸ i2.h
  have y2 := m2 ⟨w2, h2⟩
  simp only at y2
  clear hi2 i2 m2 m3
  have y0 := Mem.keep h2 x0
  have P2 := Lib.hid (P1.out.below h2)
  have B2 := Lib.hid (HB1.out.trans (h2.mono (Nat.le_trans hB Hn1.out.below.size)))
  have hR2 := Lib.hid (HR0.out.below (Mem.then_ Hn1.out.below h2))
  have z0 : w2.cell? ⟨pp, off + kk, none⟩ = some (.string (Mem.str x)) := by
    obtain ⟨a, ha, hc⟩ := hR2.out.cell rfl (j := kk) (u := .string (Mem.str x)) (by
      unfold Lnk.strs
      rw [List.getElem?_map, HX.out]
      rfl)
    cases ha
    simpa [Addr.add_lit] using hc
  have SZ2 : w.heap.size < w2.heap.size := block_lt_of_cell y0
  clear h2 x0 x1 x2 k2
  go_wp2
  obtain ⟨i, hi, hz, hz1, hz2⟩ := info_parts Lnk.info_str
  have hwk1 : wrap64 ((kk : Int) + 1) = ((kk + 1 : Nat) : Int) := by have := HLEN.out; unfold wrap64; omega
  have hwk2 : IntKind.i64.wrap ((kk : Int) + 1) = (kk : Int) + 1 := Lnk.wrap_small (Nat.le_trans (Nat.le_of_lt hkn) HLEN.out)
  have hk1 : kk + 1 ≤ n := hkn
  have hkn2 : kk ≤ n := Nat.le_of_lt hkn
  have hkc : kk ≤ cap := Nat.le_trans hkn2 hnc
  clear hremk hrem2
  have hq2 : q < w2.heap.size := P2.out.qlt
  have f2 := frozen_of_row w2 q 2 _ _ P2.out.row
  have kB : ∀ o, Below w2.heap.size w2 (w2.alloc o).drew := fun o => ((Below.refl w2.heap.size w2).alloc (Nat.le_refl _) o).drew
  have ca : ∀ o, (w2.alloc o).cell? ⟨q, 2, none⟩ = some (.slice (some ⟨pp, off, none⟩) n cap) := fun o => Mem.keep ((Below.refl w2.heap.size w2).alloc (Nat.le_refl _) o) y2
  have hB2 : B ≤ w2.heap.size := Nat.le_trans hB (Nat.le_of_lt SZ2)
  have hpre := hR2.out.front hkn2
  have hsuf := hR2.out.suffix hk1
  rw [Lnk.strs_take] at hpre
  rw [Lnk.strs_drop] at hsuf
  refine Mem.wp_region_mix 24 [0, 1, 3, 4, 5, 6, 7, 8, 9, 10, 12, 13, 14, 15, 16, 17, 18, 19, 20, 22, 23] [2, 11, 21] (by kernel_rfl) rfl (by kernel_rfl) (fun w' => Below w2.heap.size w2 w') (Below.refl _ _).drew ?_
  refine ⟨_, .pointer (some ⟨q, 0, none⟩), rfl, .inl ⟨rfl, fun w' hw' => by go_simp⟩, ?_⟩
  refine ⟨_, .int .i64 0, rfl, .inl ⟨rfl, fun w' hw' => by go_simp⟩, ?_⟩
  refine ⟨_, .pointer (some ⟨q, 0, none⟩), rfl, .inl ⟨rfl, fun w' hw' => by go_simp⟩, ?_⟩
  refine ⟨_, .int .i64 0, rfl, .inl ⟨rfl, fun w' hw' => by go_simp⟩, ?_⟩
  refine ⟨_, .pointer (some ⟨q, 0, none⟩), rfl, .inl ⟨rfl, fun w' hw' => by go_simp⟩, ?_⟩
  refine ⟨_, .pointer (some ⟨q, 2, none⟩), rfl, .inl ⟨rfl, fun w' hw' => by go_simp⟩, ?_⟩
  refine ⟨_, .pointer (some ⟨q, 2, none⟩), rfl, .inl ⟨rfl, fun w' hw' => by go_simp⟩, ?_⟩
  refine ⟨_, .slice (some ⟨pp, off, none⟩) n cap, rfl, .inl ⟨rfl, fun w' hw' => by have hc := Mem.keep hw' y2; go_simp⟩, ?_⟩
  refine ⟨_, .int .i64 kk, rfl, .inl ⟨rfl, fun w' hw' => by go_simp⟩, ?_⟩
  refine ⟨_, .slice (some ⟨pp, off, none⟩) kk cap, rfl, .inl ⟨rfl, fun w' hw' => by go_simp⟩, ?_⟩
  refine ⟨_, .pointer (some ⟨q, 0, none⟩), rfl, .inl ⟨rfl, fun w' hw' => by go_simp⟩, ?_⟩
  refine ⟨_, .int .i64 0, rfl, .inl ⟨rfl, fun w' hw' => by go_simp⟩, ?_⟩
  refine ⟨_, .pointer (some ⟨q, 0, none⟩), rfl, .inl ⟨rfl, fun w' hw' => by go_simp⟩, ?_⟩
  refine ⟨_, .pointer (some ⟨q, 2, none⟩), rfl, .inl ⟨rfl, fun w' hw' => by go_simp⟩, ?_⟩
  refine ⟨_, .pointer (some ⟨q, 2, none⟩), rfl, .inl ⟨rfl, fun w' hw' => by go_simp⟩, ?_⟩
  refine ⟨_, .slice (some ⟨pp, off, none⟩) n cap, rfl, .inl ⟨rfl, fun w' hw' => by have hc := Mem.keep hw' y2; go_simp⟩, ?_⟩
  refine ⟨_, .int .i64 kk, rfl, .inl ⟨rfl, fun w' hw' => by go_simp⟩, ?_⟩
  refine ⟨_, .int .i64 ((kk + 1 : Nat) : Int), rfl, .inl ⟨rfl, fun w' hw' => by go_simp⟩, ?_⟩
  refine ⟨_, .slice (if cap = kk + 1 then some ⟨pp, off, none⟩ else some ⟨pp, off + (kk + 1) * 1, none⟩) (n - (kk + 1)) (cap - (kk + 1)), rfl, .inl ⟨rfl, fun w' hw' => by go_simp; intro h0; exact (Lnk.no_slice hk1 h0).elim⟩, ?_⟩
  refine ⟨_, .pointer (some ⟨q, 0, none⟩), rfl, .inl ⟨rfl, fun w' hw' => by go_simp⟩, ?_⟩
  refine ⟨_, .pointer (some ⟨q, 2, none⟩), rfl, .inl ⟨rfl, fun w' hw' => by go_simp⟩, ?_⟩
  have hrow0 : Mem.Row (w2.alloc (.cells #[] 9)).drew w2.heap.size 9 1 (.slice (some ⟨w2.heap.size, 0, none⟩) 0 0) 0 [] :=
    ⟨rfl, .inr ⟨w2.heap.size, 0, 0, #[], rfl, Nat.le_refl _, heap_alloc_new w2 _, Nat.le_refl _, by unfold maxLen; omega, by simp, fun j u hj => by simp at hj⟩⟩
  have HROW0 := Lib.hid hrow0
  have HPRE := Lib.hid hpre
  have HSUF := Lib.hid hsuf
  clear hrow0 hpre hsuf
  refine ⟨_, rfl, rfl, ?_⟩
  dsimp only [Act.put]
  simp only [List.setIfInBounds_toArray, List.set_cons_zero, List.set_cons_succ]
  unfold Oper.wp
  go_simp
  refine ⟨_, rfl, rfl, ?_⟩
  refine Mem.wp_append_rows _ (.tmp 48) (.tmp 56) 32 rfl w2.heap.size 9 i _ 1 16 Try.underlying32 hi hz hz1 hz2 rfl (.slice (some ⟨w2.heap.size, 0, none⟩) 0 0) 0 [] rfl HROW0.out (.slice (some ⟨pp, off, none⟩) kk cap) kk B (Lnk.strs ((c 0).take kk)) rfl (HPRE.out.below (kB _)) (Lnk.one_strs _) (Lnk.small_a HLEN.out hkn2).1 (Lnk.small_a HLEN.out hkn2).2 (by simp) ?_
  intro v1 w3 hown1 hgrow1 hat1
  have b3 : Below w2.heap.size w2 w3 := (kB _).trans ⟨hgrow1.os, hgrow1.tape, hgrow1.output, hgrow1.size, fun b hb => hgrow1.block b (Nat.lt_of_lt_of_le hb (by simp)) (fun e => Nat.ne_of_lt hb (by simpa [Value.ownBlock] using e))⟩
  refine ⟨b3, ?_⟩
  refine ⟨_, rfl, rfl, ?_⟩
  refine Mem.wp_append_rows _ (.tmp 57) (.tmp 66) 32 rfl w2.heap.size 9 i _ 1 16 Try.underlying32 hi hz hz1 hz2 rfl v1 (0 + kk) ([] ++ Lnk.strs ((c 0).take kk)) rfl hown1 (.slice (if cap = kk + 1 then some ⟨pp, off, none⟩ else some ⟨pp, off + (kk + 1) * 1, none⟩) (n - (kk + 1)) (cap - (kk + 1))) (n - (kk + 1)) B (Lnk.strs ((c 0).drop (kk + 1))) (by rw [Nat.mul_one]; rfl) (HSUF.out.below b3) (Lnk.one_strs _) (Lnk.small_b HLEN.out hkn2).1 (Lnk.small_b HLEN.out hkn2).2 b3.size ?_
  intro v2 w4 hown2 hgrow2 hat2
  rw [Nat.zero_add] at hown2
  have hv1 : ∀ b, v1.ownBlock = some b → w2.heap.size ≤ b := fun b hb => (Mem.Row.block hown1 hb).1
  have b4 : Below w2.heap.size w2 w4 := b3.trans ⟨hgrow2.os, hgrow2.tape, hgrow2.output, hgrow2.size, fun b hb => hgrow2.block b (Nat.lt_of_lt_of_le hb b3.size) (fun e => Nat.not_le_of_lt hb (hv1 b e.symm))⟩
  refine ⟨b4, ?_⟩
  obtain ⟨A', cap', hv2, _, _⟩ := hown2.form
  subst hv2
  have k4 := Mem.keep b4 y2
  have f4 := (b4.frozen hq2).trans f2
  have x4 : ∀ u, (w4.setCell ⟨q, 2, none⟩ u).cell? ⟨w.heap.size, 0, none⟩ = some (.int .u8 d) := fun u => (World.cell?_setCell_other _ _ _ _ (fun e => Nat.ne_of_lt H0.out.qlt (congrArg Addr.block e))).trans (Mem.keep b4 y0)
  dsimp only [Act.put, Mem.chain]
  simp only [List.setIfInBounds_toArray, List.set_cons_zero, List.set_cons_succ]
  clear y2 ca kB
  go_wp2
  all_goals
    refine NoPanic.normal ?_
    have hl4 : ((c 0).take kk ++ (c 0).drop (kk + 1)).length = kk + (n - (kk + 1)) := by
      rw [List.length_append, List.length_take, List.length_drop, HNN.out, Nat.min_eq_left hkn2]
    have ht4 : Lnk.Txt w4 B (.slice A' (kk + (n - (kk + 1))) cap') ((c 0).take kk ++ (c 0).drop (kk + 1)) := by
      unfold Lnk.Txt
      rw [hl4]
      unfold Lnk.strs
      rw [List.map_append]
      exact hown2.mono hB2
    have P4 := Lib.hid (P2.out.text (j := 0) (by decide) (Mem.But.of_below b4) ht4 (fun b hb => .inr (Mem.Row.block hown2 hb).1))
    have bs4 : Below B w4 (w4.setCell ⟨q, 2, none⟩ (.slice A' (kk + (n - (kk + 1))) cap')) := (Below.refl B w4).setCell H0.out.bq _
    have B4 := Lib.hid (B2.out.trans ((b4.mono hB2).trans bs4))
    have hcome := fun w1 ha => pair_come law B q 0 (by decide) e (Lnk.sub c 0 ((c 0).take kk ++ (c 0).drop (kk + 1))) N (HG.out 0 (by decide)) hN (by rw [Lnk.sub_other _ _ (by decide)]; exact HC.out (4 + 0) (by decide)) x (H61.out x (List.mem_of_getElem? HX.out)) w1 ha
    have hc4 := hcome _ ⟨_, _, _, P4.out⟩
    clear hcome
    go_wp2_with (go_at_call 30; go_loud (refine hc4.mono ?_; rintro r w5 ⟨rfl, ha5, hb5⟩))
    refine bodyPost_end (results_none rfl _ _ _) rfl ?_
    rw [HNN.out, HKK.out, List.getD_eq_getElem?_getD, HX.out, Option.getD_some]
    exact ⟨rfl, ha5, B4.out.trans hb5⟩

set_option maxRecDepth 100000 in
set_option maxHeartbeats 1000000 in
theorem pair_comes6_0 {wt : Nat → Nat → Bool → Nat} {hd : Nat → Nat → Bool → Nat → Nat × Nat × Bool} (law : Lnk.Law wt hd) (B q : Nat) (e : Nat → Lnk.St) (c : Nat → List (List UInt8)) (N : Nat) (hG : ∀ i, i < 2 → Lnk.Good (e i) N) (hN : N < 549755813888) (hc : ∀ j, j < 6 → (c j).length ≤ 1000000)
    (d h k : Nat) (S : List UInt8) (hD : d % 9 = 6) (hh : h < 256) (hkb : k < 65536) (hI : h % 2 = 0) (hno : c 0 ≠ []) (h61 : ∀ s ∈ c 0, s.length < 2 ^ 61) (w : World) (hat : Lnk.PAt w B q e c) :
    Calls Try.prog 10 #[.pointer (some ⟨q, 0, none⟩), Lnk.stepV d h k S] w fun r w' => r = .returned (.tuple #[]) ∧
      Lnk.PAt w' B q (Lnk.comeP hd 0 ((c 0).getD (k % (c 0).length) []) (e, Lnk.sub c 0 ((c 0).take (k % (c 0).length) ++ (c 0).drop (k % (c 0).length + 1)))).1 (Lnk.comeP hd 0 ((c 0).getD (k % (c 0).length) []) (e, Lnk.sub c 0 ((c 0).take (k % (c 0).length) ++ (c 0).drop (k % (c 0).length + 1)))).2 ∧ Below B w w' := by
  have H := Lib.hid hat
  have hB : B ≤ w.heap.size := by obtain ⟨_, _, _, h⟩ := hat; exact h.size
  have HG := Lib.hid hG
  have HC := Lib.hid hc
  have hrem : Int.tmod (d : Int) 9 = ((d % 9 : Nat) : Int) := rfl
  rw [hD] at hrem
  have hrem2 : Int.tmod (h : Int) 2 = ((h % 2 : Nat) : Int) := rfl
  rw [hI] at hrem2
  clear hat hG hc
  rw [show Lnk.stepV d h k S = .agg #[.int .u8 d, .int .u8 h, .int .u16 k, .string (Mem.str S)] from rfl]
  have H61 := Lib.hid h61
  clear h61
  have hwh : wrap64 (h : Int) = h := by unfold wrap64; omega
  have hwk : wrap64 (k : Int) = k := by unfold wrap64; omega
  have wr0 : IntKind.i64.wrap 0 = 0 := by decide
  have wr1 : IntKind.i64.wrap 1 = 1 := by decide
  clear hkb hh
  obtain ⟨g, F, s, h0⟩ := H.out
  have H0 := Lib.hid h0
  have hr0 : Lnk.Txt w B (s 0) (c 0) := h0.rows 0 (by omega)
  have hlen : (c 0).length ≤ 1000000 := HC.out 0 (by omega)
  obtain ⟨n, hn⟩ : ∃ n, (c 0).length = n := ⟨_, rfl⟩
  have hn0 : 0 < n := by rw [← hn]; exact List.length_pos_iff.2 hno
  unfold Lnk.Txt at hr0
  rw [hn] at hr0 hlen
  obtain ⟨pp, off, cap, hs⟩ : ∃ pp off cap, s 0 = .slice (some ⟨pp, off, none⟩) n cap := by
    rcases hr0.2 with ⟨_, h1⟩ | ⟨pp, off, cap, _, h1, _⟩
    · omega
    · exact ⟨pp, off, cap, h1⟩
  rw [hs] at hr0
  have hnc : n ≤ cap := by
    obtain ⟨_, _, h1, h2, _⟩ := hr0.form
    injection h1 with _ _ h3
    omega
  obtain ⟨kk, hkk⟩ : ∃ kk, k % n = kk := ⟨_, rfl⟩
  have hremk : Int.tmod (k : Int) (n : Int) = ((k % n : Nat) : Int) := rfl
  rw [hkk] at hremk
  have hkn : kk < n := by rw [← hkk]; exact Nat.mod_lt _ hn0
  obtain ⟨x, hx⟩ : ∃ x, (c 0)[kk]? = some x := ⟨_, List.getElem?_eq_getElem (by omega)⟩
  have hn1 : ((n : Int) == 0) = false := by simp; omega
  have hkni : (kk : Int) < (n : Int) := by omega
  have HR0 := Lib.hid hr0
  have HX := Lib.hid hx
  have HS := Lib.hid hs
  have HKK := Lib.hid hkk
  have HNN := Lib.hid hn
  have HLEN := Lib.hid hlen
  clear h0 hr0 hx hs hkk hn hno hlen
  go_enter Try.func10, Try.ntmps10
  go_wp2_with (first
    | (with_reducible refine Mem.wpList_box (o := ⟨some 3, _, _, _, _, _⟩) ?_ 30 (.tmp 1) ?_ (.agg #[.int .u8 d, .int .u8 h, .int .u16 k, .string (Mem.str S)]) ?_ ?_
       · rfl
       · rfl
       · rfl
       intro w1 hn1
       have x0 := hn1.cell1 0 (v := .int .u8 d) rfl
       have x1 := hn1.cell1 1 (v := .int .u8 h) rfl
       have x2 := hn1.cell1 2 (v := .int .u16 k) rfl
       have Hn1 := Lib.hid hn1
       have HB1 := Lib.hid (hn1.belowB hB)
       have H1 := Lib.hid (H.out.below hn1.below)
       have P1 := Lib.hid (H0.out.below hn1.below)
       have k2 : w1.cell? ⟨q, 2, none⟩ = some (.slice (some ⟨pp, off, none⟩) n cap) := (cell_of_row _ _ 2 _ _ _ (H0.out.below hn1.below).row).trans (by rw [← HS.out]; rfl)
       clear hn1))
  have m2 : ∀ i : Mem.Later w1, i.w.cell? ⟨q, 2, none⟩ = some (.slice (some ⟨pp, off, none⟩) n cap) := fun i => i.cell k2
  have m3 : ∀ i : Mem.Later w1, i.w.cell? ⟨w.heap.size, 2, none⟩ = some (.int .u16 k) := fun i => i.cell x2
  refine Mem.wp_region_later (by kernel_rfl) (by kernel_rfl) ?_
  repeat (go_big_quiet_step (fail))
  refine wpQuiet_nil ?_
  intro w2 hw2
  obtain ⟨i2, hi2⟩ := hw2
  have h2 : Below w1.heap.size w1 w2 := hi2 ▸ i2.h
  have y2 := m2 ⟨w2, h2⟩
  simp only at y2
  clear hi2 i2 m2 m3
  have y0 := Mem.keep h2 x0
  have P2 := Lib.hid (P1.out.below h2)
  have B2 := Lib.hid (HB1.out.trans (h2.mono (Nat.le_trans hB Hn1.out.below.size)))
  have hR2 := Lib.hid (HR0.out.below (Mem.then_ Hn1.out.below h2))
  have z0 : w2.cell? ⟨pp, off + kk, none⟩ = some (.string (Mem.str x)) := by
    obtain ⟨a, ha, hc⟩ := hR2.out.cell rfl (j := kk) (u := .string (Mem.str x)) (by
      unfold Lnk.strs
      rw [List.getElem?_map, HX.out]
      rfl)
    cases ha
    simpa [Addr.add_lit] using hc
  have SZ2 : w.heap.size < w2.heap.size := block_lt_of_cell y0
  clear h2 x0 x1 x2 k2
  go_wp2
  obtain ⟨i, hi, hz, hz1, hz2⟩ := info_parts Lnk.info_str
  have hwk1 : wrap64 ((kk : Int) + 1) = ((kk + 1 : Nat) : Int) := by have := HLEN.out; unfold wrap64; omega
  have hwk2 : IntKind.i64.wrap ((kk : Int) + 1) = (kk : Int) + 1 := Lnk.wrap_small (Nat.le_trans (Nat.le_of_lt hkn) HLEN.out)
  have hk1 : kk + 1 ≤ n := hkn
  have hkn2 : kk ≤ n := Nat.le_of_lt hkn
  have hkc : kk ≤ cap := Nat.le_trans hkn2 hnc
  clear hremk hrem2
  have hq2 : q < w2.heap.size := P2.out.qlt
  have f2 := frozen_of_row w2 q 2 _ _ P2.out.row
  have kB : ∀ o, Below w2.heap.size w2 (w2.alloc o).drew := fun o => ((Below.refl w2.heap.size w2).alloc (Nat.le_refl _) o).drew
  have ca : ∀ o, (w2.alloc o).cell? ⟨q, 2, none⟩ = some (.slice (some ⟨pp, off, none⟩) n cap) := fun o => Mem.keep ((Below.refl w2.heap.size w2).alloc (Nat.le_refl _) o) y2
  have hB2 : B ≤ w2.heap.size := Nat.le_trans hB (Nat.le_of_lt SZ2)
  have hpre := hR2.out.front hkn2
  have hsuf := hR2.out.suffix hk1
  rw [Lnk.strs_take] at hpre
  rw [Lnk.strs_drop] at hsuf
  refine Mem.wp_region_mix 24 [0, 1, 3, 4, 5, 6, 7, 8, 9, 10, 12, 13, 14, 15, 16, 17, 18, 19, 20, 22, 23] [2, 11, 21] (by kernel_rfl) rfl (by kernel_rfl) (fun w' => Below w2.heap.size w2 w') (Below.refl _ _).drew ?_
  refine ⟨_, .pointer (some ⟨q, 0, none⟩), rfl, .inl ⟨rfl, fun w' hw' => by go_simp⟩, ?_⟩
  refine ⟨_, .int .i64 0, rfl, .inl ⟨rfl, fun w' hw' => by go_simp⟩, ?_⟩
  refine ⟨_, .pointer (some ⟨q, 0, none⟩), rfl, .inl ⟨rfl, fun w' hw' => by go_simp⟩, ?_⟩
  refine ⟨_, .int .i64 0, rfl, .inl ⟨rfl, fun w' hw' => by go_simp⟩, ?_⟩
  refine ⟨_, .pointer (some ⟨q, 0, none⟩), rfl, .inl ⟨rfl, fun w' hw' => by go_simp⟩, ?_⟩
  refine ⟨_, .pointer (some ⟨q, 2, none⟩), rfl, .inl ⟨rfl, fun w' hw' => by go_simp⟩, ?_⟩
  refine ⟨_, .pointer (some ⟨q, 2, none⟩), rfl, .inl ⟨rfl, fun w' hw' => by go_simp⟩, ?_⟩
  refine ⟨_, .slice (some ⟨pp, off, none⟩) n cap, rfl, .inl ⟨rfl, fun w' hw' => by have hc := Mem.keep hw' y2; go_simp⟩, ?_⟩
  refine ⟨_, .int .i64 kk, rfl, .inl ⟨rfl, fun w' hw' => by go_simp⟩, ?_⟩
  refine ⟨_, .slice (some ⟨pp, off, none⟩) kk cap, rfl, .inl ⟨rfl, fun w' hw' => by go_simp⟩, ?_⟩
  refine ⟨_, .pointer (some ⟨q, 0, none⟩), rfl, .inl ⟨rfl, fun w' hw' => by go_simp⟩, ?_⟩
  refine ⟨_, .int .i64 0, rfl, .inl ⟨rfl, fun w' hw' => by go_simp⟩, ?_⟩
  refine ⟨_, .pointer (some ⟨q, 0, none⟩), rfl, .inl ⟨rfl, fun w' hw' => by go_simp⟩, ?_⟩
  refine ⟨_, .pointer (some ⟨q, 2, none⟩), rfl, .inl ⟨rfl, fun w' hw' => by go_simp⟩, ?_⟩
  refine ⟨_, .pointer (some ⟨q, 2, none⟩), rfl, .inl ⟨rfl, fun w' hw' => by go_simp⟩, ?_⟩
  refine ⟨_, .slice (some ⟨pp, off, none⟩) n cap, rfl, .inl ⟨rfl, fun w' hw' => by have hc := Mem.keep hw' y2; go_simp⟩, ?_⟩
  refine ⟨_, .int .i64 kk, rfl, .inl ⟨rfl, fun w' hw' => by go_simp⟩, ?_⟩
  refine ⟨_, .int .i64 ((kk + 1 : Nat) : Int), rfl, .inl ⟨rfl, fun w' hw' => by go_simp⟩, ?_⟩
  refine ⟨_, .slice (if cap = kk + 1 then some ⟨pp, off, none⟩ else some ⟨pp, off + (kk + 1) * 1, none⟩) (n - (kk + 1)) (cap - (kk + 1)), rfl, .inl ⟨rfl, fun w' hw' => by go_simp; intro h0; exact (Lnk.no_slice hk1 h0).elim⟩, ?_⟩
  refine ⟨_, .pointer (some ⟨q, 0, none⟩), rfl, .inl ⟨rfl, fun w' hw' => by go_simp⟩, ?_⟩
  refine ⟨_, .pointer (some ⟨q, 2, none⟩), rfl, .inl ⟨rfl, fun w' hw' => by go_simp⟩, ?_⟩
  have hrow0 : Mem.Row (w2.alloc (.cells #[] 9)).drew w2.heap.size 9 1 (.slice (some ⟨w2.heap.size, 0, none⟩) 0 0) 0 [] :=
    ⟨rfl, .inr ⟨w2.heap.size, 0, 0, #[], rfl, Nat.le_refl _, heap_alloc_new w2 _, Nat.le_refl _, by unfold maxLen; omega, by simp, fun j u hj => by simp at hj⟩⟩
  have HROW0 := Lib.hid hrow0
  have HPRE := Lib.hid hpre
  have HSUF := Lib.hid hsuf
  clear hrow0 hpre hsuf
  refine ⟨_, rfl, rfl, ?_⟩
  dsimp only [Act.put]
  simp only [List.setIfInBounds_toArray, List.set_cons_zero, List.set_cons_succ]
  unfold Oper.wp
  go_simp
  refine ⟨_, rfl, rfl, ?_⟩
  refine Mem.wp_append_rows _ (.tmp 48) (.tmp 56) 32 rfl w2.heap.size 9 i _ 1 16 Try.underlying32 hi hz hz1 hz2 rfl (.slice (some ⟨w2.heap.size, 0, none⟩) 0 0) 0 [] rfl HROW0.out (.slice (some ⟨pp, off, none⟩) kk cap) kk B (Lnk.strs ((c 0).take kk)) rfl (HPRE.out.below (kB _)) (Lnk.one_strs _) (Lnk.small_a HLEN.out hkn2).1 (Lnk.small_a HLEN.out hkn2).2 (by simp) ?_
  intro v1 w3 hown1 hgrow1 hat1
  have b3 : Below w2.heap.size w2 w3 := (kB _).trans ⟨hgrow1.os, hgrow1.tape, hgrow1.output, hgrow1.size, fun b hb => hgrow1.block b (Nat.lt_of_lt_of_le hb (by simp)) (fun e => Nat.ne_of_lt hb (by simpa [Value.ownBlock] using e))⟩
  refine ⟨b3, ?_⟩
  refine ⟨_, rfl, rfl, ?_⟩
  refine Mem.wp_append_rows _ (.tmp 57) (.tmp 66) 32 rfl w2.heap.size 9 i _ 1 16 Try.underlying32 hi hz hz1 hz2 rfl v1 (0 + kk) ([] ++ Lnk.strs ((c 0).take kk)) rfl hown1 (.slice (if cap = kk + 1 then some ⟨pp, off, none⟩ else some ⟨pp, off + (kk + 1) * 1, none⟩) (n - (kk + 1)) (cap - (kk + 1))) (n - (kk + 1)) B (Lnk.strs ((c 0).drop (kk + 1))) (by rw [Nat.mul_one]; rfl) (HSUF.out.below b3) (Lnk.one_strs _) (Lnk.small_b HLEN.out hkn2).1 (Lnk.small_b HLEN.out hkn2).2 b3.size ?_
  intro v2 w4 hown2 hgrow2 hat2
  rw [Nat.zero_add] at hown2
  have hv1 : ∀ b, v1.ownBlock = some b → w2.heap.size ≤ b := fun b hb => (Mem.Row.block hown1 hb).1
  have b4 : Below w2.heap.size w2 w4 := b3.trans ⟨hgrow2.os, hgrow2.tape, hgrow2.output, hgrow2.size, fun b hb => hgrow2.block b (Nat.lt_of_lt_of_le hb b3.size) (fun e => Nat.not_le_of_lt hb (hv1 b e.symm))⟩
  refine ⟨b4, ?_⟩
  obtain ⟨A', cap', hv2, _, _⟩ := hown2.form
  subst hv2
  have k4 := Mem.keep b4 y2
  have f4 := (b4.frozen hq2).trans f2
  have x4 : ∀ u, (w4.setCell ⟨q, 2, none⟩ u).cell? ⟨w.heap.size, 0, none⟩ = some (.int .u8 d) := fun u => (World.cell?_setCell_other _ _ _ _ (fun e => Nat.ne_of_lt H0.out.qlt (congrArg Addr.block e))).trans (Mem.keep b4 y0)
  dsimp only [Act.put, Mem.chain]
  simp only [List.setIfInBounds_toArray, List.set_cons_zero, List.set_cons_succ]
  clear y2 ca kB
  go_wp2
  all_goals
    refine NoPanic.normal ?_
    have hl4 : ((c 0).take kk ++ (c 0).drop (kk + 1)).length = kk + (n - (kk + 1)) := by
      rw [List.length_append, List.length_take, List.length_drop, HNN.out, Nat.min_eq_left hkn2]
    have ht4 : Lnk.Txt w4 B (.slice A' (kk + (n - (kk + 1))) cap') ((c 0).take kk ++ (c 0).drop (kk + 1)) := by
      unfold Lnk.Txt
      rw [hl4]
      unfold Lnk.strs
      rw [List.map_append]
      exact hown2.mono hB2
    have P4 := Lib.hid (P2.out.text (j := 0) (by decide) (Mem.But.of_below b4) ht4 (fun b hb => .inr (Mem.Row.block hown2 hb).1))
    have bs4 : Below B w4 (w4.setCell ⟨q, 2, none⟩ (.slice A' (kk + (n - (kk + 1))) cap')) := (Below.refl B w4).setCell H0.out.bq _
    have B4 := Lib.hid (B2.out.trans ((b4.mono hB2).trans bs4))
    have hcome := fun w1 ha => pair_come law B q 0 (by decide) e (Lnk.sub c 0 ((c 0).take kk ++ (c 0).drop (kk + 1))) N (HG.out 0 (by decide)) hN (by rw [Lnk.sub_other _ _ (by decide)]; exact HC.out (4 + 0) (by decide)) x (H61.out x (List.mem_of_getElem? HX.out)) w1 ha
    have hc4 := hcome _ ⟨_, _, _, P4.out⟩
    clear hcome
    go_wp2_with (go_at_call 30; go_loud (refine hc4.mono ?_; rintro r w5 ⟨rfl, ha5, hb5⟩))
    refine bodyPost_end (results_none rfl _ _ _) rfl ?_
    rw [HNN.out, HKK.out, List.getD_eq_getElem?_getD, HX.out, Option.getD_some]
    exact ⟨rfl, ha5, B4.out.trans hb5⟩

set_option maxRecDepth 100000 in
set_option maxHeartbeats 1000000 in
theorem pair_comes5_1 {wt : Nat → Nat → Bool → Nat} {hd : Nat → Nat → Bool → Nat → Nat × Nat × Bool} (law : Lnk.Law wt hd) (B q : Nat) (e : Nat → Lnk.St) (c : Nat → List (List UInt8)) (N : Nat) (hG : ∀ i, i < 2 → Lnk.Good (e i) N) (hN : N < 549755813888) (hc : ∀ j, j < 6 → (c j).length ≤ 1000000)
    (d h k : Nat) (S : List UInt8) (hD : d % 9 = 5) (hh : h < 256) (hkb : k < 65536) (hI : h % 2 = 1) (hno : c 1 ≠ []) (h61 : ∀ s ∈ c 1, s.length < 2 ^ 61) (w : World) (hat : Lnk.PAt w B q e c) :
    Calls Try.prog 10 #[.pointer (some ⟨q, 0, none⟩), Lnk.stepV d h k S] w fun r w' => r = .returned (.tuple #[]) ∧
      Lnk.PAt w' B q (Lnk.comeP hd 1 ((c 1).getD (k % (c 1).length) []) (e, Lnk.sub c 1 ((c 1).take (k % (c 1).length) ++ (c 1).drop (k % (c 1).length + 1)))).1 (Lnk.comeP hd 1 ((c 1).getD (k % (c 1).length) []) (e, Lnk.sub c 1 ((c 1).take (k % (c 1).length) ++ (c 1).drop (k % (c 1).length + 1)))).2 ∧ Below B w w' := by
  have H := Lib.hid hat
  have hB : B ≤ w.heap.size := by obtain ⟨_, _, _, h⟩ := hat; exact h.size
  have HG := Lib.hid hG
  have HC := Lib.hid hc
  have hrem : Int.tmod (d : Int) 9 = ((d % 9 : Nat) : Int) := rfl
  rw [hD] at hrem
  have hrem2 : Int.tmod (h : Int) 2 = ((h % 2 : Nat) : Int) := rfl
  rw [hI] at hrem2
  clear hat hG hc
  rw [show Lnk.stepV d h k S = .agg #[.int .u8 d, .int .u8 h, .int .u16 k, .string (Mem.str S)] from rfl]
  have H61 := Lib.hid h61
  clear h61
  have hwh : wrap64 (h : Int) = h := by unfold wrap64; omega
  have hwk : wrap64 (k : Int) = k := by unfold wrap64; omega
  have wr0 : IntKind.i64.wrap 0 = 0 := by decide
  have wr1 : IntKind.i64.wrap 1 = 1 := by decide
  clear hkb hh
  obtain ⟨g, F, s, h0⟩ := H.out
  have H0 := Lib.hid h0
  have hr0 : Lnk.Txt w B (s 1) (c 1) := h0.rows 1 (by omega)
  have hlen : (c 1).length ≤ 1000000 := HC.out 1 (by omega)
  obtain ⟨n, hn⟩ : ∃ n, (c 1).length = n := ⟨_, rfl⟩
  have hn0 : 0 < n := by rw [← hn]; exact List.length_pos_iff.2 hno
  unfold Lnk.Txt at hr0
  rw [hn] at hr0 hlen
  obtain ⟨pp, off, cap, hs⟩ : ∃ pp off cap, s 1 = .slice (some ⟨pp, off, none⟩) n cap := by
    rcases hr0.2 with ⟨_, h1⟩ | ⟨pp, off, cap, _, h1, _⟩
    · omega
    · exact ⟨pp, off, cap, h1⟩
  rw [hs] at hr0
  have hnc : n ≤ cap := by
    obtain ⟨_, _, h1, h2, _⟩ := hr0.form
    injection h1 with _ _ h3
    omega
  obtain ⟨kk, hkk⟩ : ∃ kk, k % n = kk := ⟨_, rfl⟩
  have hremk : Int.tmod (k : Int) (n : Int) = ((k % n : Nat) : Int) := rfl
  rw [hkk] at hremk
  have hkn : kk < n := by rw [← hkk]; exact Nat.mod_lt _ hn0
  obtain ⟨x, hx⟩ : ∃ x, (c 1)[kk]? = some x := ⟨_, List.getElem?_eq_getElem (by omega)⟩
  have hn1 : ((n : Int) == 0) = false := by simp; omega
  have hkni : (kk : Int) < (n : Int) := by omega
  have HR0 := Lib.hid hr0
  have HX := Lib.hid hx
  have HS := Lib.hid hs
  have HKK := Lib.hid hkk
  have HNN := Lib.hid hn
  have HLEN := Lib.hid hlen
  clear h0 hr0 hx hs hkk hn hno hlen
  go_enter Try.func10, Try.ntmps10
  go_wp2_with (first
    | (with_reducible refine Mem.wpList_box (o := ⟨some 3, _, _, _, _, _⟩) ?_ 30 (.tmp 1) ?_ (.agg #[.int .u8 d, .int .u8 h, .int .u16 k, .string (Mem.str S)]) ?_ ?_
       · rfl
       · rfl
       · rfl
       intro w1 hn1
       have x0 := hn1.cell1 0 (v := .int .u8 d) rfl
       have x1 := hn1.cell1 1 (v := .int .u8 h) rfl
       have x2 := hn1.cell1 2 (v := .int .u16 k) rfl
       have Hn1 := Lib.hid hn1
       have HB1 := Lib.hid (hn1.belowB hB)
       have H1 := Lib.hid (H.out.below hn1.below)
       have P1 := Lib.hid (H0.out.below hn1.below)
       have k2 : w1.cell? ⟨q, 3, none⟩ = some (.slice (some ⟨pp, off, none⟩) n cap) := (cell_of_row _ _ 3 _ _ _ (H0.out.below hn1.below).row).trans (by rw [← HS.out]; rfl)
       clear hn1))
  have m2 : ∀ i : Mem.Later w1, i.w.cell? ⟨q, 3, none⟩ = some (.slice (some ⟨pp, off, none⟩) n cap) := fun i => i.cell k2
  have m3 : ∀ i : Mem.Later w1, i.w.cell? ⟨w.heap.size, 2, none⟩ = some (.int .u16 k) := fun i => i.cell x2
  refine Mem.wp_region_later (by kernel_rfl) (by kernel_rfl) ?_
  repeat (go_big_quiet_step (fail))
  refine wpQuiet_nil ?_
  intro w2 hw2
  obtain ⟨i2, hi2⟩ := hw2
  have h2 : Below w1.heap.size w1 w2 := hi2 ▸ i2.h
  have y2 := m2 ⟨w2, h2⟩
  simp only at y2
  clear hi2 i2 m2 m3
  have y0 := Mem.keep h2 x0
  have P2 := Lib.hid (P1.out.below h2)
  have B2 := Lib.hid (HB1.out.trans (h2.mono (Nat.le_trans hB Hn1.out.below.size)))
  have hR2 := Lib.hid (HR0.out.below (Mem.then_ Hn1.out.below h2))
  have z0 : w2.cell? ⟨pp, off + kk, none⟩ = some (.string (Mem.str x)) := by
    obtain ⟨a, ha, hc⟩ := hR2.out.cell rfl (j := kk) (u := .string (Mem.str x)) (by
      unfold Lnk.strs
      rw [List.getElem?_map, HX.out]
      rfl)
    cases ha
    simpa [Addr.add_lit] using hc
  have SZ2 : w.heap.size < w2.heap.size := block_lt_of_cell y0
  clear h2 x0 x1 x2 k2
  go_wp2
  obtain ⟨i, hi, hz, hz1, hz2⟩ := info_parts Lnk.info_str
  have hwk1 : wrap64 ((kk : Int) + 1) = ((kk + 1 : Nat) : Int) := by have := HLEN.out; unfold wrap64; omega
  have hwk2 : IntKind.i64.wrap ((kk : Int) + 1) = (kk : Int) + 1 := Lnk.wrap_small (Nat.le_trans (Nat.le_of_lt hkn) HLEN.out)
  have hk1 : kk + 1 ≤ n := hkn
  have hkn2 : kk ≤ n := Nat.le_of_lt hkn
  have hkc : kk ≤ cap := Nat.le_trans hkn2 hnc
  clear hremk hrem2
  have hq2 : q < w2.heap.size := P2.out.qlt
  have f2 := frozen_of_row w2 q 3 _ _ P2.out.row
  have kB : ∀ o, Below w2.heap.size w2 (w2.alloc o).drew := fun o => ((Below.refl w2.heap.size w2).alloc (Nat.le_refl _) o).drew
  have ca : ∀ o, (w2.alloc o).cell? ⟨q, 3, none⟩ = some (.slice (some ⟨pp, off, none⟩) n cap) := fun o => Mem.keep ((Below.refl w2.heap.size w2).alloc (Nat.le_refl _) o) y2
  have hB2 : B ≤ w2.heap.size := Nat.le_trans hB (Nat.le_of_lt SZ2)
  have hpre := hR2.out.front hkn2
  have hsuf := hR2.out.suffix hk1
  rw [Lnk.strs_take] at hpre
  rw [Lnk.strs_drop] at hsuf
  refine Mem.wp_region_mix 24 [0, 1, 3, 4, 5, 6, 7, 8, 9, 10, 12, 13, 14, 15, 16, 17, 18, 19, 20, 22, 23] [2, 11, 21] (by kernel_rfl) rfl (by kernel_rfl) (fun w' => Below w2.heap.size w2 w') (Below.refl _ _).drew ?_
  refine ⟨_, .pointer (some ⟨q, 0, none⟩), rfl, .inl ⟨rfl, fun w' hw' => by go_simp⟩, ?_⟩
  refine ⟨_, .int .i64 1, rfl, .inl ⟨rfl, fun w' hw' => by go_simp⟩, ?_⟩
  refine ⟨_, .pointer (some ⟨q, 0, none⟩), rfl, .inl ⟨rfl, fun w' hw' => by go_simp⟩, ?_⟩
  refine ⟨_, .int .i64 1, rfl, .inl ⟨rfl, fun w' hw' => by go_simp⟩, ?_⟩
  refine ⟨_, .pointer (some ⟨q, 0, none⟩), rfl, .inl ⟨rfl, fun w' hw' => by go_simp⟩, ?_⟩
  refine ⟨_, .pointer (some ⟨q, 2, none⟩), rfl, .inl ⟨rfl, fun w' hw' => by go_simp⟩, ?_⟩
  refine ⟨_, .pointer (some ⟨q, 3, none⟩), rfl, .inl ⟨rfl, fun w' hw' => by go_simp⟩, ?_⟩
  refine ⟨_, .slice (some ⟨pp, off, none⟩) n cap, rfl, .inl ⟨rfl, fun w' hw' => by have hc := Mem.keep hw' y2; go_simp⟩, ?_⟩
  refine ⟨_, .int .i64 kk, rfl, .inl ⟨rfl, fun w' hw' => by go_simp⟩, ?_⟩
  refine ⟨_, .slice (some ⟨pp, off, none⟩) kk cap, rfl, .inl ⟨rfl, fun w' hw' => by go_simp⟩, ?_⟩
  refine ⟨_, .pointer (some ⟨q, 0, none⟩), rfl, .inl ⟨rfl, fun w' hw' => by go_simp⟩, ?_⟩
  refine ⟨_, .int .i64 1, rfl, .inl ⟨rfl, fun w' hw' => by go_simp⟩, ?_⟩
  refine ⟨_, .pointer (some ⟨q, 0, none⟩), rfl, .inl ⟨rfl, fun w' hw' => by go_simp⟩, ?_⟩
  refine ⟨_, .pointer (some ⟨q, 2, none⟩), rfl, .inl ⟨rfl, fun w' hw' => by go_simp⟩, ?_⟩
  refine ⟨_, .pointer (some ⟨q, 3, none⟩), rfl, .inl ⟨rfl, fun w' hw' => by go_simp⟩, ?_⟩
  refine ⟨_, .slice (some ⟨pp, off, none⟩) n cap, rfl, .inl ⟨rfl, fun w' hw' => by have hc := Mem.keep hw' y2; go_simp⟩, ?_⟩
  refine ⟨_, .int .i64 kk, rfl, .inl ⟨rfl, fun w' hw' => by go_simp⟩, ?_⟩
  refine ⟨_, .int .i64 ((kk + 1 : Nat) : Int), rfl, .inl ⟨rfl, fun w' hw' => by go_simp⟩, ?_⟩
  refine ⟨_, .slice (if cap = kk + 1 then some ⟨pp, off, none⟩ else some ⟨pp, off + (kk + 1) * 1, none⟩) (n - (kk + 1)) (cap - (kk + 1)), rfl, .inl ⟨rfl, fun w' hw' => by go_simp; intro h0; exact (Lnk.no_slice hk1 h0).elim⟩, ?_⟩
  refine ⟨_, .pointer (some ⟨q, 0, none⟩), rfl, .inl ⟨rfl, fun w' hw' => by go_simp⟩, ?_⟩
  refine ⟨_, .pointer (some ⟨q, 2, none⟩), rfl, .inl ⟨rfl, fun w' hw' => by go_simp⟩, ?_⟩
  have hrow0 : Mem.Row (w2.alloc (.cells #[] 9)).drew w2.heap.size 9 1 (.slice (some ⟨w2.heap.size, 0, none⟩) 0 0) 0 [] :=
    ⟨rfl, .inr ⟨w2.heap.size, 0, 0, #[], rfl, Nat.le_refl _, heap_alloc_new w2 _, Nat.le_refl _, by unfold maxLen; omega, by simp, fun j u hj => by simp at hj⟩⟩
  have HROW0 := Lib.hid hrow0
  have HPRE := Lib.hid hpre
  have HSUF := Lib.hid hsuf
  clear hrow0 hpre hsuf
  refine ⟨_, rfl, rfl, ?_⟩
  dsimp only [Act.put]
  simp only [List.setIfInBounds_toArray, List.set_cons_zero, List.set_cons_succ]
  unfold Oper.wp
  go_simp
  refine ⟨_, rfl, rfl, ?_⟩
  refine Mem.wp_append_rows _ (.tmp 48) (.tmp 56) 32 rfl w2.heap.size 9 i _ 1 16 Try.underlying32 hi hz hz1 hz2 rfl (.slice (some ⟨w2.heap.size, 0, none⟩) 0 0) 0 [] rfl HROW0.out (.slice (some ⟨pp, off, none⟩) kk cap) kk B (Lnk.strs ((c 1).take kk)) rfl (HPRE.out.below (kB _)) (Lnk.one_strs _) (Lnk.small_a HLEN.out hkn2).1 (Lnk.small_a HLEN.out hkn2).2 (by simp) ?_
  intro v1 w3 hown1 hgrow1 hat1
  have b3 : Below w2.heap.size w2 w3 := (kB _).trans ⟨hgrow1.os, hgrow1.tape, hgrow1.output, hgrow1.size, fun b hb => hgrow1.block b (Nat.lt_of_lt_of_le hb (by simp)) (fun e => Nat.ne_of_lt hb (by simpa [Value.ownBlock] using e))⟩
  refine ⟨b3, ?_⟩
  refine ⟨_, rfl, rfl, ?_⟩
  refine Mem.wp_append_rows _ (.tmp 57) (.tmp 66) 32 rfl w2.heap.size 9 i _ 1 16 Try.underlying32 hi hz hz1 hz2 rfl v1 (0 + kk) ([] ++ Lnk.strs ((c 1).take kk)) rfl hown1 (.slice (if cap = kk + 1 then some ⟨pp, off, none⟩ else some ⟨pp, off + (kk + 1) * 1, none⟩) (n - (kk + 1)) (cap - (kk + 1))) (n - (kk + 1)) B (Lnk.strs ((c 1).drop (kk + 1))) (by rw [Nat.mul_one]; rfl) (HSUF.out.below b3) (Lnk.one_strs _) (Lnk.small_b HLEN.out hkn2).1 (Lnk.small_b HLEN.out hkn2).2 b3.size ?_
  intro v2 w4 hown2 hgrow2 hat2
  rw [Nat.zero_add] at hown2
  have hv1 : ∀ b, v1.ownBlock = some b → w2.heap.size ≤ b := fun b hb => (Mem.Row.block hown1 hb).1
  have b4 : Below w2.heap.size w2 w4 := b3.trans ⟨hgrow2.os, hgrow2.tape, hgrow2.output, hgrow2.size, fun b hb => hgrow2.block b (Nat.lt_of_lt_of_le hb b3.size) (fun e => Nat.not_le_of_lt hb (hv1 b e.symm))⟩
  refine ⟨b4, ?_⟩
  obtain ⟨A', cap', hv2, _, _⟩ := hown2.form
  subst hv2
  have k4 := Mem.keep b4 y2
  have f4 := (b4.frozen hq2).trans f2
  have x4 : ∀ u, (w4.setCell ⟨q, 3, none⟩ u).cell? ⟨w.heap.size, 0, none⟩ = some (.int .u8 d) := fun u => (World.cell?_setCell_other _ _ _ _ (fun e => Nat.ne_of_lt H0.out.qlt (congrArg Addr.block e))).trans (Mem.keep b4 y0)
  dsimp only [Act.put, Mem.chain]
  simp only [List.setIfInBounds_toArray, List.set_cons_zero, List.set_cons_succ]
  clear y2 ca kB
  go_wp2
  all_goals
    refine NoPanic.normal ?_
    have hl4 : ((c 1).take kk ++ (c 1).drop (kk + 1)).length = kk + (n - (kk + 1)) := by
      rw [List.length_append, List.length_take, List.length_drop, HNN.out, Nat.min_eq_left hkn2]
    have ht4 : Lnk.Txt w4 B (.slice A' (kk + (n - (kk + 1))) cap') ((c 1).take kk ++ (c 1).drop (kk + 1)) := by
      unfold Lnk.Txt
      rw [hl4]
      unfold Lnk.strs
      rw [List.map_append]
      exact hown2.mono hB2
    have P4 := Lib.hid (P2.out.text (j := 1) (by decide) (Mem.But.of_below b4) ht4 (fun b hb => .inr (Mem.Row.block hown2 hb).1))
    have bs4 : Below B w4 (w4.setCell ⟨q, 3, none⟩ (.slice A' (kk + (n - (kk + 1))) cap')) := (Below.refl B w4).setCell H0.out.bq _
    have B4 := Lib.hid (B2.out.trans ((b4.mono hB2).trans bs4))
    have hcome := fun w1 ha => pair_come law B q 1 (by decide) e (Lnk.sub c 1 ((c 1).take kk ++ (c 1).drop (kk + 1))) N (HG.out 1 (by decide)) hN (by rw [Lnk.sub_other _ _ (by decide)]; exact HC.out (4 + 1) (by decide)) x (H61.out x (List.mem_of_getElem? HX.out)) w1 ha
    have hc4 := hcome _ ⟨_, _, _, P4.out⟩
    clear hcome
    go_wp2_with (go_at_call 30; go_loud (refine hc4.mono ?_; rintro r w5 ⟨rfl, ha5, hb5⟩))
    refine bodyPost_end (results_none rfl _ _ _) rfl ?_
    rw [HNN.out, HKK.out, List.getD_eq_getElem?_getD, HX.out, Option.getD_some]
    exact ⟨rfl, ha5, B4.out.trans hb5⟩

set_option maxRecDepth 100000 in
set_option maxHeartbeats 1000000 in
theorem pair_comes6_1 {wt : Nat → Nat → Bool → Nat} {hd : Nat → Nat → Bool → Nat → Nat × Nat × Bool} (law : Lnk.Law wt hd) (B q : Nat) (e : Nat → Lnk.St) (c : Nat → List (List UInt8)) (N : Nat) (hG : ∀ i, i < 2 → Lnk.Good (e i) N) (hN : N < 549755813888) (hc : ∀ j, j < 6 → (c j).length ≤ 1000000)
    (d h k : Nat) (S : List UInt8) (hD : d % 9 = 6) (hh : h < 256) (hkb : k < 65536) (hI : h % 2 = 1) (hno : c 1 ≠ []) (h61 : ∀ s ∈ c 1, s.length < 2 ^ 61) (w : World) (hat : Lnk.PAt w B q e c) :
    Calls Try.prog 10 #[.pointer (some ⟨q, 0, none⟩), Lnk.stepV d h k S] w fun r w' => r = .returned (.tuple #[]) ∧
      Lnk.PAt w' B q (Lnk.comeP hd 1 ((c 1).getD (k % (c 1).length) []) (e, Lnk.sub c 1 ((c 1).take (k % (c 1).length) ++ (c 1).drop (k % (c 1).length + 1)))).1 (Lnk.comeP hd 1 ((c 1).getD (k % (c 1).length) []) (e, Lnk.sub c 1 ((c 1).take (k % (c 1).length) ++ (c 1).drop (k % (c 1).length + 1)))).2 ∧ Below B w w' := by
  have H := Lib.hid hat
  have hB : B ≤ w.heap.size := by obtain ⟨_, _, _, h⟩ := hat; exact h.size
  have HG := Lib.hid hG
  have HC := Lib.hid hc
  have hrem : Int.tmod (d : Int) 9 = ((d % 9 : Nat) : Int) := rfl
  rw [hD] at hrem
  have hrem2 : Int.tmod (h : Int) 2 = ((h % 2 : Nat) : Int) := rfl
  rw [hI] at hrem2
  clear hat hG hc
  rw [show Lnk.stepV d h k S = .agg #[.int .u8 d, .int .u8 h, .int .u16 k, .string (Mem.str S)] from rfl]
  have H61 := Lib.hid h61
  clear h61
  have hwh : wrap64 (h : Int) = h := by unfold wrap64; omega
  have hwk : wrap64 (k : Int) = k := by unfold wrap64; omega
  have wr0 : IntKind.i64.wrap 0 = 0 := by decide
  have wr1 : IntKind.i64.wrap 1 = 1 := by decide
  clear hkb hh
  obtain ⟨g, F, s, h0⟩ := H.out
  have H0 := Lib.hid h0
  have hr0 : Lnk.Txt w B (s 1) (c 1) := h0.rows 1 (by omega)
  have hlen : (c 1).length ≤ 1000000 := HC.out 1 (by omega)
  obtain ⟨n, hn⟩ : ∃ n, (c 1).length = n := ⟨_, rfl⟩
  have hn0 : 0 < n := by rw [← hn]; exact List.length_pos_iff.2 hno
  unfold Lnk.Txt at hr0
  rw [hn] at hr0 hlen
  obtain ⟨pp, off, cap, hs⟩ : ∃ pp off cap, s 1 = .slice (some ⟨pp, off, none⟩) n cap := by
    rcases hr0.2 with ⟨_, h1⟩ | ⟨pp, off, cap, _, h1, _⟩
    · omega
    · exact ⟨pp, off, cap, h1⟩
  rw [hs] at hr0
  have hnc : n ≤ cap := by
    obtain ⟨_, _, h1, h2, _⟩ := hr0.form
    injection h1 with _ _ h3
    omega
  obtain ⟨kk, hkk⟩ : ∃ kk, k % n = kk := ⟨_, rfl⟩
  have hremk : Int.tmod (k : Int) (n : Int) = ((k % n : Nat) : Int) := rfl
  rw [hkk] at hremk
  have hkn : kk < n := by rw [← hkk]; exact Nat.mod_lt _ hn0
  obtain ⟨x, hx⟩ : ∃ x, (c 1)[kk]? = some x := ⟨_, List.getElem?_eq_getElem (by omega)⟩
  have hn1 : ((n : Int) == 0) = false := by simp; omega
  have hkni : (kk : Int) < (n : Int) := by omega
  have HR0 := Lib.hid hr0
  have HX := Lib.hid hx
  have HS := Lib.hid hs
  have HKK := Lib.hid hkk
  have HNN := Lib.hid hn
  have HLEN := Lib.hid hlen
  clear h0 hr0 hx hs hkk hn hno hlen
  go_enter Try.func10, Try.ntmps10
  go_wp2_with (first
    | (with_reducible refine Mem.wpList_box (o := ⟨some 3, _, _, _, _, _⟩) ?_ 30 (.tmp 1) ?_ (.agg #[.int .u8 d, .int .u8 h, .int .u16 k, .string (Mem.str S)]) ?_ ?_
       · rfl
       · rfl
       · rfl
       intro w1 hn1
       have x0 := hn1.cell1 0 (v := .int .u8 d) rfl
       have x1 := hn1.cell1 1 (v := .int .u8 h) rfl
       have x2 := hn1.cell1 2 (v := .int .u16 k) rfl
       have Hn1 := Lib.hid hn1
       have HB1 := Lib.hid (hn1.belowB hB)
       have H1 := Lib.hid (H.out.below hn1.below)
       have P1 := Lib.hid (H0.out.below hn1.below)
       have k2 : w1.cell? ⟨q, 3, none⟩ = some (.slice (some ⟨pp, off, none⟩) n cap) := (cell_of_row _ _ 3 _ _ _ (H0.out.below hn1.below).row).trans (by rw [← HS.out]; rfl)
       clear hn1))
  have m2 : ∀ i : Mem.Later w1, i.w.cell? ⟨q, 3, none⟩ = some (.slice (some ⟨pp, off, none⟩) n cap) := fun i => i.cell k2
  have m3 : ∀ i : Mem.Later w1, i.w.cell? ⟨w.heap.size, 2, none⟩ = some (.int .u16 k) := fun i => i.cell x2
  refine Mem.wp_region_later (by kernel_rfl) (by kernel_rfl) ?_
  repeat (go_big_quiet_step (fail))
  refine wpQuiet_nil ?_
  intro w2 hw2
  obtain ⟨i2, hi2⟩ := hw2
  have h2 : Below w1.heap.size w1 w2 := hi2 ▸ i2.h
  have y2 := m2 ⟨w2, h2⟩
  simp only at y2
  clear hi2 i2 m2 m3
  have y0 := Mem.keep h2 x0
  have P2 := Lib.hid (P1.out.below h2)
  have B2 := Lib.hid (HB1.out.trans (h2.mono (Nat.le_trans hB Hn1.out.below.size)))
  have hR2 := Lib.hid (HR0.out.below (Mem.then_ Hn1.out.below h2))
  have z0 : w2.cell? ⟨pp, off + kk, none⟩ = some (.string (Mem.str x)) := by
    obtain ⟨a, ha, hc⟩ := hR2.out.cell rfl (j := kk) (u := .string (Mem.str x)) (by
      unfold Lnk.strs
      rw [List.getElem?_map, HX.out]
      rfl)
    cases ha
    simpa [Addr.add_lit] using hc
  have SZ2 : w.heap.size < w2.heap.size := block_lt_of_cell y0
  clear h2 x0 x1 x2 k2
  go_wp2
  obtain ⟨i, hi, hz, hz1, hz2⟩ := info_parts Lnk.info_str
  have hwk1 : wrap64 ((kk : Int) + 1) = ((kk + 1 : Nat) : Int) := by have := HLEN.out; unfold wrap64; omega
  have hwk2 : IntKind.i64.wrap ((kk : Int) + 1) = (kk : Int) + 1 := Lnk.wrap_small (Nat.le_trans (Nat.le_of_lt hkn) HLEN.out)
  have hk1 : kk + 1 ≤ n := hkn
  have hkn2 : kk ≤ n := Nat.le_of_lt hkn
  have hkc : kk ≤ cap := Nat.le_trans hkn2 hnc
  clear hremk hrem2
  have hq2 : q < w2.heap.size := P2.out.qlt
  have f2 := frozen_of_row w2 q 3 _ _ P2.out.row
  have kB : ∀ o, Below w2.heap.size w2 (w2.alloc o).drew := fun o => ((Below.refl w2.heap.size w2).alloc (Nat.le_refl _) o).drew
  have ca : ∀ o, (w2.alloc o).cell? ⟨q, 3, none⟩ = some (.slice (some ⟨pp, off, none⟩) n cap) := fun o => Mem.keep ((Below.refl w2.heap.size w2).alloc (Nat.le_refl _) o) y2
  have hB2 : B ≤ w2.heap.size := Nat.le_trans hB (Nat.le_of_lt SZ2)
  have hpre := hR2.out.front hkn2
  have hsuf := hR2.out.suffix hk1
  rw [Lnk.strs_take] at hpre
  rw [Lnk.strs_drop] at hsuf
  refine Mem.wp_region_mix 24 [0, 1, 3, 4, 5, 6, 7, 8, 9, 10, 12, 13, 14, 15, 16, 17, 18, 19, 20, 22, 23] [2, 11, 21] (by kernel_rfl) rfl (by kernel_rfl) (fun w' => Below w2.heap.size w2 w') (Below.refl _ _).drew ?_
  refine ⟨_, .pointer (some ⟨q, 0, none⟩), rfl, .inl ⟨rfl, fun w' hw' => by go_simp⟩, ?_⟩
  refine ⟨_, .int .i64 1, rfl, .inl ⟨rfl, fun w' hw' => by go_simp⟩, ?_⟩
  refine ⟨_, .pointer (some ⟨q, 0, none⟩), rfl, .inl ⟨rfl, fun w' hw' => by go_simp⟩, ?_⟩
  refine ⟨_, .int .i64 1, rfl, .inl ⟨rfl, fun w' hw' => by go_simp⟩, ?_⟩
  refine ⟨_, .pointer (some ⟨q, 0, none⟩), rfl, .inl ⟨rfl, fun w' hw' => by go_simp⟩, ?_⟩
  refine ⟨_, .pointer (some ⟨q, 2, none⟩), rfl, .inl ⟨rfl, fun w' hw' => by go_simp⟩, ?_⟩
  refine ⟨_, .pointer (some ⟨q, 3, none⟩), rfl, .inl ⟨rfl, fun w' hw' => by go_simp⟩, ?_⟩
  refine ⟨_, .slice (some ⟨pp, off, none⟩) n cap, rfl, .inl ⟨rfl, fun w' hw' => by have hc := Mem.keep hw' y2; go_simp⟩, ?_⟩
  refine ⟨_, .int .i64 kk, rfl, .inl ⟨rfl, fun w' hw' => by go_simp⟩, ?_⟩
  refine ⟨_, .slice (some ⟨pp, off, none⟩) kk cap, rfl, .inl ⟨rfl, fun w' hw' => by go_simp⟩, ?_⟩
  refine ⟨_, .pointer (some ⟨q, 0, none⟩), rfl, .inl ⟨rfl, fun w' hw' => by go_simp⟩, ?_⟩
  refine ⟨_, .int .i64 1, rfl, .inl ⟨rfl, fun w' hw' => by go_simp⟩, ?_⟩
  refine ⟨_, .pointer (some ⟨q, 0, none⟩), rfl, .inl ⟨rfl, fun w' hw' => by go_simp⟩, ?_⟩
  refine ⟨_, .pointer (some ⟨q, 2, none⟩), rfl, .inl ⟨rfl, fun w' hw' => by go_simp⟩, ?_⟩
  refine ⟨_, .pointer (some ⟨q, 3, none⟩), rfl, .inl ⟨rfl, fun w' hw' => by go_simp⟩, ?_⟩
  refine ⟨_, .slice (some ⟨pp, off, none⟩) n cap, rfl, .inl ⟨rfl, fun w' hw' => by have hc := Mem.keep hw' y2; go_simp⟩, ?_⟩
  refine ⟨_, .int .i64 kk, rfl, .inl ⟨rfl, fun w' hw' => by go_simp⟩, ?_⟩
  refine ⟨_, .int .i64 ((kk + 1 : Nat) : Int), rfl, .inl ⟨rfl, fun w' hw' => by go_simp⟩, ?_⟩
  refine ⟨_, .slice (if cap = kk + 1 then some ⟨pp, off, none⟩ else some ⟨pp, off + (kk + 1) * 1, none⟩) (n - (kk + 1)) (cap - (kk + 1)), rfl, .inl ⟨rfl, fun w' hw' => by go_simp; intro h0; exact (Lnk.no_slice hk1 h0).elim⟩, ?_⟩
  refine ⟨_, .pointer (some ⟨q, 0, none⟩), rfl, .inl ⟨rfl, fun w' hw' => by go_simp⟩, ?_⟩
  refine ⟨_, .pointer (some ⟨q, 2, none⟩), rfl, .inl ⟨rfl, fun w' hw' => by go_simp⟩, ?_⟩
  have hrow0 : Mem.Row (w2.alloc (.cells #[] 9)).drew w2.heap.size 9 1 (.slice (some ⟨w2.heap.size, 0, none⟩) 0 0) 0 [] :=
    ⟨rfl, .inr ⟨w2.heap.size, 0, 0, #[], rfl, Nat.le_refl _, heap_alloc_new w2 _, Nat.le_refl _, by unfold maxLen; omega, by simp, fun j u hj => by simp at hj⟩⟩
  have HROW0 := Lib.hid hrow0
  have HPRE := Lib.hid hpre
  have HSUF := Lib.hid hsuf
  clear hrow0 hpre hsuf
  refine ⟨_, rfl, rfl, ?_⟩
  dsimp only [Act.put]
  simp only [List.setIfInBounds_toArray, List.set_cons_zero, List.set_cons_succ]
  unfold Oper.wp
  go_simp
  refine ⟨_, rfl, rfl, ?_⟩
  refine Mem.wp_append_rows _ (.tmp 48) (.tmp 56) 32 rfl w2.heap.size 9 i _ 1 16 Try.underlying32 hi hz hz1 hz2 rfl (.slice (some ⟨w2.heap.size, 0, none⟩) 0 0) 0 [] rfl HROW0.out (.slice (some ⟨pp, off, none⟩) kk cap) kk B (Lnk.strs ((c 1).take kk)) rfl (HPRE.out.below (kB _)) (Lnk.one_strs _) (Lnk.small_a HLEN.out hkn2).1 (Lnk.small_a HLEN.out hkn2).2 (by simp) ?_
  intro v1 w3 hown1 hgrow1 hat1
  have b3 : Below w2.heap.size w2 w3 := (kB _).trans ⟨hgrow1.os, hgrow1.tape, hgrow1.output, hgrow1.size, fun b hb => hgrow1.block b (Nat.lt_of_lt_of_le hb (by simp)) (fun e => Nat.ne_of_lt hb (by simpa [Value.ownBlock] using e))⟩
  refine ⟨b3, ?_⟩
  refine ⟨_, rfl, rfl, ?_⟩
  refine Mem.wp_append_rows _ (.tmp 57) (.tmp 66) 32 rfl w2.heap.size 9 i _ 1 16 Try.underlying32 hi hz hz1 hz2 rfl v1 (0 + kk) ([] ++ Lnk.strs ((c 1).take kk)) rfl hown1 (.slice (if cap = kk + 1 then some ⟨pp, off, none⟩ else some ⟨pp, off + (kk + 1) * 1, none⟩) (n - (kk + 1)) (cap - (kk + 1))) (n - (kk + 1)) B (Lnk.strs ((c 1).drop (kk + 1))) (by rw [Nat.mul_one]; rfl) (HSUF.out.below b3) (Lnk.one_strs _) (Lnk.small_b HLEN.out hkn2).1 (Lnk.small_b HLEN.out hkn2).2 b3.size ?_
  intro v2 w4 hown2 hgrow2 hat2
  rw [Nat.zero_add] at hown2
  have hv1 : ∀ b, v1.ownBlock = some b → w2.heap.size ≤ b := fun b hb => (Mem.Row.block hown1 hb).1
  have b4 : Below w2.heap.size w2 w4 := b3.trans ⟨hgrow2.os, hgrow2.tape, hgrow2.output, hgrow2.size, fun b hb => hgrow2.block b (Nat.lt_of_lt_of_le hb b3.size) (fun e => Nat.not_le_of_lt hb (hv1 b e.symm))⟩
  refine ⟨b4, ?_⟩
  obtain ⟨A', cap', hv2, _, _⟩ := hown2.form
  subst hv2
  have k4 := Mem.keep b4 y2
  have f4 := (b4.frozen hq2).trans f2
  have x4 : ∀ u, (w4.setCell ⟨q, 3, none⟩ u).cell? ⟨w.heap.size, 0, none⟩ = some (.int .u8 d) := fun u => (World.cell?_setCell_other _ _ _ _ (fun e => Nat.ne_of_lt H0.out.qlt (congrArg Addr.block e))).trans (Mem.keep b4 y0)
  dsimp only [Act.put, Mem.chain]
  simp only [List.setIfInBounds_toArray, List.set_cons_zero, List.set_cons_succ]
  clear y2 ca kB
  go_wp2
  all_goals
    refine NoPanic.normal ?_
    have hl4 : ((c 1).take kk ++ (c 1).drop (kk + 1)).length = kk + (n - (kk + 1)) := by
      rw [List.length_append, List.length_take, List.length_drop, HNN.out, Nat.min_eq_left hkn2]
    have ht4 : Lnk.Txt w4 B (.slice A' (kk + (n - (kk + 1))) cap') ((c 1).take kk ++ (c 1).drop (kk + 1)) := by
      unfold Lnk.Txt
      rw [hl4]
      unfold Lnk.strs
      rw [List.map_append]
      exact hown2.mono hB2
    have P4 := Lib.hid (P2.out.text (j := 1) (by decide) (Mem.But.of_below b4) ht4 (fun b hb => .inr (Mem.Row.block hown2 hb).1))
    have bs4 : Below B w4 (w4.setCell ⟨q, 3, none⟩ (.slice A' (kk + (n - (kk + 1))) cap')) := (Below.refl B w4).setCell H0.out.bq _
    have B4 := Lib.hid (B2.out.trans ((b4.mono hB2).trans bs4))
    have hcome := fun w1 ha => pair_come law B q 1 (by decide) e (Lnk.sub c 1 ((c 1).take kk ++ (c 1).drop (kk + 1))) N (HG.out 1 (by decide)) hN (by rw [Lnk.sub_other _ _ (by decide)]; exact HC.out (4 + 1) (by decide)) x (H61.out x (List.mem_of_getElem? HX.out)) w1 ha
    have hc4 := hcome _ ⟨_, _, _, P4.out⟩
    clear hcome
    go_wp2_with (go_at_call 30; go_loud (refine hc4.mono ?_; rintro r w5 ⟨rfl, ha5, hb5⟩))
    refine bodyPost_end (results_none rfl _ _ _) rfl ?_
    rw [HNN.out, HKK.out, List.getD_eq_getElem?_getD, HX.out, Option.getD_some]
    exact ⟨rfl, ha5, B4.out.trans hb5⟩

-- END way
end Go.Proofs.Ytgkadhogfejheaa

/-! The pair's Do: a frame comes, stays, or is lost. -/
namespace Go.Proofs.Ytgkadhogfejheaa
open Go.RowKit
set_option linter.unusedVariables false

-- BEGIN way
set_option maxRecDepth 100000 in
set_option maxHeartbeats 1000000 in
theorem pair_stays0 {wt : Nat → Nat → Bool → Nat} {hd : Nat → Nat → Bool → Nat → Nat × Nat × Bool} (law : Lnk.Law wt hd) (B q : Nat) (e : Nat → Lnk.St) (c : Nat → List (List UInt8)) (N : Nat) (hG : ∀ i, i < 2 → Lnk.Good (e i) N) (hN : N < 549755813888) (hc : ∀ j, j < 6 → (c j).length ≤ 1000000)
    (d h k : Nat) (S : List UInt8) (hD : d % 9 = 7) (hh : h < 256) (hkb : k < 65536) (hI : h % 2 = 0) (hno : c 0 ≠ []) (h61 : ∀ s ∈ c 0, s.length < 2 ^ 61) (w : World) (hat : Lnk.PAt w B q e c) :
    Calls Try.prog 10 #[.pointer (some ⟨q, 0, none⟩), Lnk.stepV d h k S] w fun r w' => r = .returned (.tuple #[]) ∧
      Lnk.PAt w' B q (Lnk.comeP hd 0 ((c 0).getD (k % (c 0).length) []) (e, c)).1 (Lnk.comeP hd 0 ((c 0).getD (k % (c 0).length) []) (e, c)).2 ∧ Below B w w' := by
  have H := Lib.hid hat
  have hB : B ≤ w.heap.size := by obtain ⟨_, _, _, h⟩ := hat; exact h.size
  have HG := Lib.hid hG
  have HC := Lib.hid hc
  have hrem : Int.tmod (d : Int) 9 = ((d % 9 : Nat) : Int) := rfl
  rw [hD] at hrem
  have hrem2 : Int.tmod (h : Int) 2 = ((h % 2 : Nat) : Int) := rfl
  rw [hI] at hrem2
  clear hat hG hc
  rw [show Lnk.stepV d h k S = .agg #[.int .u8 d, .int .u8 h, .int .u16 k, .string (Mem.str S)] from rfl]
  have H61 := Lib.hid h61
  clear h61
  have hwh : wrap64 (h : Int) = h := by unfold wrap64; omega
  have hwk : wrap64 (k : Int) = k := by unfold wrap64; omega
  have wr0 : IntKind.i64.wrap 0 = 0 := by decide
  have wr1 : IntKind.i64.wrap 1 = 1 := by decide
  clear hkb hh
  obtain ⟨g, F, s, h0⟩ := H.out
  have H0 := Lib.hid h0
  have hr0 : Lnk.Txt w B (s 0) (c 0) := h0.rows 0 (by omega)
  have hlen : (c 0).length ≤ 1000000 := HC.out 0 (by omega)
  obtain ⟨n, hn⟩ : ∃ n, (c 0).length = n := ⟨_, rfl⟩
  have hn0 : 0 < n := by rw [← hn]; exact List.length_pos_iff.2 hno
  unfold Lnk.Txt at hr0
  rw [hn] at hr0 hlen
  obtain ⟨pp, off, cap, hs⟩ : ∃ pp off cap, s 0 = .slice (some ⟨pp, off, none⟩) n cap := by
    rcases hr0.2 with ⟨_, h1⟩ | ⟨pp, off, cap, _, h1, _⟩
    · omega
    · exact ⟨pp, off, cap, h1⟩
  rw [hs] at hr0
  have hnc : n ≤ cap := by
    obtain ⟨_, _, h1, h2, _⟩ := hr0.form
    injection h1 with _ _ h3
    omega
  obtain ⟨kk, hkk⟩ : ∃ kk, k % n = kk := ⟨_, rfl⟩
  have hremk : Int.tmod (k : Int) (n : Int) = ((k % n : Nat) : Int) := rfl
  rw [hkk] at hremk
  have hkn : kk < n := by rw [← hkk]; exact Nat.mod_lt _ hn0
  obtain ⟨x, hx⟩ : ∃ x, (c 0)[kk]? = some x := ⟨_, List.getElem?_eq_getElem (by omega)⟩
  have hn1 : ((n : Int) == 0) = false := by simp; omega
  have hkni : (kk : Int) < (n : Int) := by omega
  have HR0 := Lib.hid hr0
  have HX := Lib.hid hx
  have HS := Lib.hid hs
  have HKK := Lib.hid hkk
  have HNN := Lib.hid hn
  have HLEN := Lib.hid hlen
  clear h0 hr0 hx hs hkk hn hno hlen
  go_enter Try.func10, Try.ntmps10
  go_wp2_with (first
    | (with_reducible refine Mem.wpList_box (o := ⟨some 3, _, _, _, _, _⟩) ?_ 30 (.tmp 1) ?_ (.agg #[.int .u8 d, .int .u8 h, .int .u16 k, .string (Mem.str S)]) ?_ ?_
       · rfl
       · rfl
       · rfl
       intro w1 hn1
       have x0 := hn1.cell1 0 (v := .int .u8 d) rfl
       have x1 := hn1.cell1 1 (v := .int .u8 h) rfl
       have x2 := hn1.cell1 2 (v := .int .u16 k) rfl
       have Hn1 := Lib.hid hn1
       have HB1 := Lib.hid (hn1.belowB hB)
       have H1 := Lib.hid (H.out.below hn1.below)
       have P1 := Lib.hid (H0.out.below hn1.below)
       have k2 : w1.cell? ⟨q, 2, none⟩ = some (.slice (some ⟨pp, off, none⟩) n cap) := (cell_of_row _ _ 2 _ _ _ (H0.out.below hn1.below).row).trans (by rw [← HS.out]; rfl)
       clear hn1))
  have m2 : ∀ i : Mem.Later w1, i.w.cell? ⟨q, 2, none⟩ = some (.slice (some ⟨pp, off, none⟩) n cap) := fun i => i.cell k2
  have m3 : ∀ i : Mem.Later w1, i.w.cell? ⟨w.heap.size, 2, none⟩ = some (.int .u16 k) := fun i => i.cell x2
  refine Mem.wp_region_later (by kernel_rfl) (by kernel_rfl) ?_
  repeat (go_big_quiet_step (fail))
  refine wpQuiet_nil ?_
  intro w2 hw2
  obtain ⟨i2, hi2⟩ := hw2
  have h2 : Below w1.heap.size w1 w2 := hi2 ▸ i2.h
  have y2 := m2 ⟨w2, h2⟩
  simp only at y2
  clear hi2 i2 m2 m3
  have y0 := Mem.keep h2 x0
  have P2 := Lib.hid (P1.out.below h2)
  have B2 := Lib.hid (HB1.out.trans (h2.mono (Nat.le_trans hB Hn1.out.below.size)))
  have hR2 := Lib.hid (HR0.out.below (Mem.then_ Hn1.out.below h2))
  have z0 : w2.cell? ⟨pp, off + kk, none⟩ = some (.string (Mem.str x)) := by
    obtain ⟨a, ha, hc⟩ := hR2.out.cell rfl (j := kk) (u := .string (Mem.str x)) (by
      unfold Lnk.strs
      rw [List.getElem?_map, HX.out]
      rfl)
    cases ha
    simpa [Addr.add_lit] using hc
  have SZ2 : w.heap.size < w2.heap.size := block_lt_of_cell y0
  clear h2 x0 x1 x2 k2
  have hcome := fun w1 ha => pair_come law B q 0 (by decide) e c N (HG.out 0 (by decide)) hN (HC.out (4 + 0) (by decide)) x (H61.out x (List.mem_of_getElem? HX.out)) w1 ha
  have hc4 := hcome _ ⟨_, _, _, P2.out⟩
  clear hcome hremk hrem2
  go_wp2_with (go_at_call 30; go_loud (refine hc4.mono ?_; rintro r w5 ⟨rfl, ha5, hb5⟩))
  refine bodyPost_end (results_none rfl _ _ _) rfl ?_
  rw [HNN.out, HKK.out, List.getD_eq_getElem?_getD, HX.out, Option.getD_some]
  exact ⟨rfl, ha5, B2.out.trans hb5⟩

set_option maxRecDepth 100000 in
set_option maxHeartbeats 1000000 in
theorem pair_stays1 {wt : Nat → Nat → Bool → Nat} {hd : Nat → Nat → Bool → Nat → Nat × Nat × Bool} (law : Lnk.Law wt hd) (B q : Nat) (e : Nat → Lnk.St) (c : Nat → List (List UInt8)) (N : Nat) (hG : ∀ i, i < 2 → Lnk.Good (e i) N) (hN : N < 549755813888) (hc : ∀ j, j < 6 → (c j).length ≤ 1000000)
    (d h k : Nat) (S : List UInt8) (hD : d % 9 = 7) (hh : h < 256) (hkb : k < 65536) (hI : h % 2 = 1) (hno : c 1 ≠ []) (h61 : ∀ s ∈ c 1, s.length < 2 ^ 61) (w : World) (hat : Lnk.PAt w B q e c) :
    Calls Try.prog 10 #[.pointer (some ⟨q, 0, none⟩), Lnk.stepV d h k S] w fun r w' => r = .returned (.tuple #[]) ∧
      Lnk.PAt w' B q (Lnk.comeP hd 1 ((c 1).getD (k % (c 1).length) []) (e, c)).1 (Lnk.comeP hd 1 ((c 1).getD (k % (c 1).length) []) (e, c)).2 ∧ Below B w w' := by
  have H := Lib.hid hat
  have hB : B ≤ w.heap.size := by obtain ⟨_, _, _, h⟩ := hat; exact h.size
  have HG := Lib.hid hG
  have HC := Lib.hid hc
  have hrem : Int.tmod (d : Int) 9 = ((d % 9 : Nat) : Int) := rfl
  rw [hD] at hrem
  have hrem2 : Int.tmod (h : Int) 2 = ((h % 2 : Nat) : Int) := rfl
  rw [hI] at hrem2
  clear hat hG hc
  rw [show Lnk.stepV d h k S = .agg #[.int .u8 d, .int .u8 h, .int .u16 k, .string (Mem.str S)] from rfl]
  have H61 := Lib.hid h61
  clear h61
  have hwh : wrap64 (h : Int) = h := by unfold wrap64; omega
  have hwk : wrap64 (k : Int) = k := by unfold wrap64; omega
  have wr0 : IntKind.i64.wrap 0 = 0 := by decide
  have wr1 : IntKind.i64.wrap 1 = 1 := by decide
  clear hkb hh
  obtain ⟨g, F, s, h0⟩ := H.out
  have H0 := Lib.hid h0
  have hr0 : Lnk.Txt w B (s 1) (c 1) := h0.rows 1 (by omega)
  have hlen : (c 1).length ≤ 1000000 := HC.out 1 (by omega)
  obtain ⟨n, hn⟩ : ∃ n, (c 1).length = n := ⟨_, rfl⟩
  have hn0 : 0 < n := by rw [← hn]; exact List.length_pos_iff.2 hno
  unfold Lnk.Txt at hr0
  rw [hn] at hr0 hlen
  obtain ⟨pp, off, cap, hs⟩ : ∃ pp off cap, s 1 = .slice (some ⟨pp, off, none⟩) n cap := by
    rcases hr0.2 with ⟨_, h1⟩ | ⟨pp, off, cap, _, h1, _⟩
    · omega
    · exact ⟨pp, off, cap, h1⟩
  rw [hs] at hr0
  have hnc : n ≤ cap := by
    obtain ⟨_, _, h1, h2, _⟩ := hr0.form
    injection h1 with _ _ h3
    omega
  obtain ⟨kk, hkk⟩ : ∃ kk, k % n = kk := ⟨_, rfl⟩
  have hremk : Int.tmod (k : Int) (n : Int) = ((k % n : Nat) : Int) := rfl
  rw [hkk] at hremk
  have hkn : kk < n := by rw [← hkk]; exact Nat.mod_lt _ hn0
  obtain ⟨x, hx⟩ : ∃ x, (c 1)[kk]? = some x := ⟨_, List.getElem?_eq_getElem (by omega)⟩
  have hn1 : ((n : Int) == 0) = false := by simp; omega
  have hkni : (kk : Int) < (n : Int) := by omega
  have HR0 := Lib.hid hr0
  have HX := Lib.hid hx
  have HS := Lib.hid hs
  have HKK := Lib.hid hkk
  have HNN := Lib.hid hn
  have HLEN := Lib.hid hlen
  clear h0 hr0 hx hs hkk hn hno hlen
  go_enter Try.func10, Try.ntmps10
  go_wp2_with (first
    | (with_reducible refine Mem.wpList_box (o := ⟨some 3, _, _, _, _, _⟩) ?_ 30 (.tmp 1) ?_ (.agg #[.int .u8 d, .int .u8 h, .int .u16 k, .string (Mem.str S)]) ?_ ?_
       · rfl
       · rfl
       · rfl
       intro w1 hn1
       have x0 := hn1.cell1 0 (v := .int .u8 d) rfl
       have x1 := hn1.cell1 1 (v := .int .u8 h) rfl
       have x2 := hn1.cell1 2 (v := .int .u16 k) rfl
       have Hn1 := Lib.hid hn1
       have HB1 := Lib.hid (hn1.belowB hB)
       have H1 := Lib.hid (H.out.below hn1.below)
       have P1 := Lib.hid (H0.out.below hn1.below)
       have k2 : w1.cell? ⟨q, 3, none⟩ = some (.slice (some ⟨pp, off, none⟩) n cap) := (cell_of_row _ _ 3 _ _ _ (H0.out.below hn1.below).row).trans (by rw [← HS.out]; rfl)
       clear hn1))
  have m2 : ∀ i : Mem.Later w1, i.w.cell? ⟨q, 3, none⟩ = some (.slice (some ⟨pp, off, none⟩) n cap) := fun i => i.cell k2
  have m3 : ∀ i : Mem.Later w1, i.w.cell? ⟨w.heap.size, 2, none⟩ = some (.int .u16 k) := fun i => i.cell x2
  refine Mem.wp_region_later (by kernel_rfl) (by kernel_rfl) ?_
  repeat (go_big_quiet_step (fail))
  refine wpQuiet_nil ?_
  intro w2 hw2
  obtain ⟨i2, hi2⟩ := hw2
  have h2 : Below w1.heap.size w1 w2 := hi2 ▸ i2.h
  have y2 := m2 ⟨w2, h2⟩
  simp only at y2
  clear hi2 i2 m2 m3
  have y0 := Mem.keep h2 x0
  have P2 := Lib.hid (P1.out.below h2)
  have B2 := Lib.hid (HB1.out.trans (h2.mono (Nat.le_trans hB Hn1.out.below.size)))
  have hR2 := Lib.hid (HR0.out.below (Mem.then_ Hn1.out.below h2))
  have z0 : w2.cell? ⟨pp, off + kk, none⟩ = some (.string (Mem.str x)) := by
    obtain ⟨a, ha, hc⟩ := hR2.out.cell rfl (j := kk) (u := .string (Mem.str x)) (by
      unfold Lnk.strs
      rw [List.getElem?_map, HX.out]
      rfl)
    cases ha
    simpa [Addr.add_lit] using hc
  have SZ2 : w.heap.size < w2.heap.size := block_lt_of_cell y0
  clear h2 x0 x1 x2 k2
  have hcome := fun w1 ha => pair_come law B q 1 (by decide) e c N (HG.out 1 (by decide)) hN (HC.out (4 + 1) (by decide)) x (H61.out x (List.mem_of_getElem? HX.out)) w1 ha
  have hc4 := hcome _ ⟨_, _, _, P2.out⟩
  clear hcome hremk hrem2
  go_wp2_with (go_at_call 30; go_loud (refine hc4.mono ?_; rintro r w5 ⟨rfl, ha5, hb5⟩))
  refine bodyPost_end (results_none rfl _ _ _) rfl ?_
  rw [HNN.out, HKK.out, List.getD_eq_getElem?_getD, HX.out, Option.getD_some]
  exact ⟨rfl, ha5, B2.out.trans hb5⟩

-- END way
end Go.Proofs.Ytgkadhogfejheaa
