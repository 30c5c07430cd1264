/- The pair's Do: ticks, and what is given to send. -/
import Derived.Test.YtgkadhogfejheaaLnkN
namespace Go.Proofs.Ytgkadhogfejheaa
open Go.RowKit
set_option linter.unusedVariables false

namespace Lnk
abbrev Ps := (Nat → St) × (Nat → List (List UInt8))
def tickP (wt : Nat → Nat → Bool → Nat) (i : Nat) (P : Ps) : Ps :=
  (sub P.1 i (tick (wt (P.1 i).mean (P.1 i).dev (P.1 i).any) (P.1 i)).1, sub P.2 (1 - i) (P.2 (1 - i) ++ (tick (wt (P.1 i).mean (P.1 i).dev (P.1 i).any) (P.1 i)).2))
def comeP (hd : Nat → Nat → Bool → Nat → Nat × Nat × Bool) (i : Nat) (x : List UInt8) (P : Ps) : Ps :=
  (sub P.1 i (take hd (P.1 i) x).1, sub P.2 (4 + i) (P.2 (4 + i) ++ (take hd (P.1 i) x).2.1))
def giveP (i : Nat) (S : List UInt8) (P : Ps) : Ps :=
  if (P.1 i).out.length = 64 then P else (sub P.1 i (send (P.1 i) S), sub P.2 (2 + i) (P.2 (2 + i) ++ [S]))
def stepV (d h k : Nat) (S : List UInt8) : Value := .agg #[.int .u8 d, .int .u8 h, .int .u16 k, .string (Mem.str S)]
theorem tick_len (n : Nat) (e : St) : (tick n e).2.length ≤ 9 := by
  unfold tick
  simp only
  split
  · simp
  · exact Nat.le_trans (sentAt_le (Nat.le_refl 8)) (by omega)
end Lnk

namespace Lnk
theorem PAt.below {w w1 : World} {B q : Nat} {e : Nat → St} {c : Nat → List (List UInt8)} (h : PAt w B q e c) (hb : Below w.heap.size w w1) : PAt w1 B q e c := by
  obtain ⟨g, F, s, h⟩ := h
  exact ⟨g, F, s, h.below hb⟩
end Lnk

set_option maxRecDepth 100000 in
set_option maxHeartbeats 1000000 in
theorem pair_do0 {wt : Nat → Nat → Bool → Nat} {hd : Nat → Nat → Bool → Nat → Nat × Nat × Bool} (law : Lnk.Law wt hd) (B q : Nat) (e : Nat → Lnk.St) (c : Nat → List (List UInt8)) (N : Nat) (hG : ∀ i, i < 2 → Lnk.Good (e i) N) (hN : N < 549755813888) (hc : ∀ j, j < 6 → (c j).length ≤ 1000000)
    (d h k : Nat) (S : List UInt8) (hD : d % 9 = 0) (w : World) (hat : Lnk.PAt w B q e c) :
    Calls Try.prog 10 #[.pointer (some ⟨q, 0, none⟩), Lnk.stepV d h k S] w fun r w' => r = .returned (.tuple #[]) ∧
      Lnk.PAt w' B q (Lnk.tickP wt 1 (Lnk.tickP wt 0 (e, c))).1 (Lnk.tickP wt 1 (Lnk.tickP wt 0 (e, c))).2 ∧ Below B w w' := by
  have H := Lib.hid hat
  have hB : B ≤ w.heap.size := by obtain ⟨_, _, _, h⟩ := hat; exact h.size
  have HG := Lib.hid hG
  have HC := Lib.hid hc
  have hrem : Int.tmod (d : Int) 9 = ((d % 9 : Nat) : Int) := rfl
  rw [hD] at hrem
  clear hat hG hc
  rw [show Lnk.stepV d h k S = .agg #[.int .u8 d, .int .u8 h, .int .u16 k, .string (Mem.str S)] from rfl]
  have ht0 := fun w1 ha => pair_tick law B q 0 (by omega) e c N (HG.out 0 (by omega)) hN (HC.out 1 (by omega)) w1 ha
  have ht1 := fun w1 ha => pair_tick law B q 1 (by omega) (Lnk.tickP wt 0 (e, c)).1 (Lnk.tickP wt 0 (e, c)).2 N (HG.out 1 (by omega)) hN (HC.out 0 (by omega)) w1 ha
  go_enter Try.func10, Try.ntmps10
  go_wp2_with (first
    | (with_reducible refine Mem.wpList_box (o := ⟨some 3, _, _, _, _, _⟩) ?_ 30 (.tmp 1) ?_ (.agg #[.int .u8 d, .int .u8 h, .int .u16 k, .string (Mem.str S)]) ?_ ?_
       · rfl
       · rfl
       · rfl
       intro w1 hn1
       have x0 := hn1.cell1 0 (v := .int .u8 d) rfl
       have x1 := hn1.cell1 1 (v := .int .u8 h) rfl
       have Hn1 := Lib.hid hn1
       have HB1 := Lib.hid (hn1.belowB hB)
       have H1 := Lib.hid (H.out.below hn1.below)
       clear hn1)
    | (go_at_call_of 29 (Value.int IntKind.i64 0)
       refine (ht0 _ H1.out).mono ?_
       rintro r w2 ⟨rfl, ha2, hb2⟩
       have H2 := Lib.hid ha2
       have HB2 := Lib.hid hb2
       clear ha2 hb2)
    | (go_at_call_of 29 (Value.int IntKind.i64 1)
       refine (ht1 _ H2.out).mono ?_
       rintro r w3 ⟨rfl, ha3, hb3⟩
       have H3 := Lib.hid ha3
       have HB3 := Lib.hid hb3
       clear ha3 hb3))
  refine bodyPost_end (results_none rfl _ _ _) rfl ?_
  exact ⟨rfl, H3.out, HB1.out.trans (HB2.out.trans HB3.out)⟩

-- BEGIN do12
set_option maxRecDepth 100000 in
set_option maxHeartbeats 1000000 in
theorem pair_do1 {wt : Nat → Nat → Bool → Nat} {hd : Nat → Nat → Bool → Nat → Nat × Nat × Bool} (law : Lnk.Law wt hd) (B q : Nat) (e : Nat → Lnk.St) (c : Nat → List (List UInt8)) (N : Nat) (hG : ∀ i, i < 2 → Lnk.Good (e i) N) (hN : N < 549755813888) (hc : ∀ j, j < 6 → (c j).length ≤ 1000000)
    (d h k : Nat) (S : List UInt8) (hD : d % 9 = 1) (w : World) (hat : Lnk.PAt w B q e c) :
    Calls Try.prog 10 #[.pointer (some ⟨q, 0, none⟩), Lnk.stepV d h k S] w fun r w' => r = .returned (.tuple #[]) ∧
      Lnk.PAt w' B q (Lnk.tickP wt 0 (e, c)).1 (Lnk.tickP wt 0 (e, c)).2 ∧ Below B w w' := by
  have H := Lib.hid hat
  have hB : B ≤ w.heap.size := by obtain ⟨_, _, _, h⟩ := hat; exact h.size
  have HG := Lib.hid hG
  have HC := Lib.hid hc
  have hrem : Int.tmod (d : Int) 9 = ((d % 9 : Nat) : Int) := rfl
  rw [hD] at hrem
  clear hat hG hc
  rw [show Lnk.stepV d h k S = .agg #[.int .u8 d, .int .u8 h, .int .u16 k, .string (Mem.str S)] from rfl]
  have ht0 := fun w1 ha => pair_tick law B q 0 (by omega) e c N (HG.out 0 (by omega)) hN (HC.out 1 (by omega)) w1 ha
  have wr0 : IntKind.i64.wrap 0 = 0 := by decide
  have wr1 : IntKind.i64.wrap 1 = 1 := by decide
  have wr2 : IntKind.i64.wrap 2 = 2 := by decide
  have wz1 : wrap64 1 = 1 := by unfold wrap64; omega
  have wz2 : wrap64 2 = 2 := by unfold wrap64; omega
  go_enter Try.func10, Try.ntmps10
  go_wp2_with (first
    | (with_reducible refine Mem.wpList_box (o := ⟨some 3, _, _, _, _, _⟩) ?_ 30 (.tmp 1) ?_ (.agg #[.int .u8 d, .int .u8 h, .int .u16 k, .string (Mem.str S)]) ?_ ?_
       · rfl
       · rfl
       · rfl
       intro w1 hn1
       have x0 := hn1.cell1 0 (v := .int .u8 d) rfl
       have x1 := hn1.cell1 1 (v := .int .u8 h) rfl
       have Hn1 := Lib.hid hn1
       have HB1 := Lib.hid (hn1.belowB hB)
       have H1 := Lib.hid (H.out.below hn1.below)
       clear hn1)
    | (go_at_call 29
       refine (ht0 _ H1.out).mono ?_
       rintro r w2 ⟨rfl, ha2, hb2⟩
       have H2 := Lib.hid ha2
       have HB2 := Lib.hid hb2
       clear ha2 hb2))
  refine bodyPost_end (results_none rfl _ _ _) rfl ?_
  exact ⟨rfl, H2.out, HB1.out.trans HB2.out⟩

set_option maxRecDepth 100000 in
set_option maxHeartbeats 1000000 in
theorem pair_do2 {wt : Nat → Nat → Bool → Nat} {hd : Nat → Nat → Bool → Nat → Nat × Nat × Bool} (law : Lnk.Law wt hd) (B q : Nat) (e : Nat → Lnk.St) (c : Nat → List (List UInt8)) (N : Nat) (hG : ∀ i, i < 2 → Lnk.Good (e i) N) (hN : N < 549755813888) (hc : ∀ j, j < 6 → (c j).length ≤ 1000000)
    (d h k : Nat) (S : List UInt8) (hD : d % 9 = 2) (w : World) (hat : Lnk.PAt w B q e c) :
    Calls Try.prog 10 #[.pointer (some ⟨q, 0, none⟩), Lnk.stepV d h k S] w fun r w' => r = .returned (.tuple #[]) ∧
      Lnk.PAt w' B q (Lnk.tickP wt 1 (e, c)).1 (Lnk.tickP wt 1 (e, c)).2 ∧ Below B w w' := by
  have H := Lib.hid hat
  have hB : B ≤ w.heap.size := by obtain ⟨_, _, _, h⟩ := hat; exact h.size
  have HG := Lib.hid hG
  have HC := Lib.hid hc
  have hrem : Int.tmod (d : Int) 9 = ((d % 9 : Nat) : Int) := rfl
  rw [hD] at hrem
  clear hat hG hc
  rw [show Lnk.stepV d h k S = .agg #[.int .u8 d, .int .u8 h, .int .u16 k, .string (Mem.str S)] from rfl]
  have ht0 := fun w1 ha => pair_tick law B q 1 (by omega) e c N (HG.out 1 (by omega)) hN (HC.out 0 (by omega)) w1 ha
  have wr0 : IntKind.i64.wrap 0 = 0 := by decide
  have wr1 : IntKind.i64.wrap 1 = 1 := by decide
  have wr2 : IntKind.i64.wrap 2 = 2 := by decide
  have wz1 : wrap64 1 = 1 := by unfold wrap64; omega
  have wz2 : wrap64 2 = 2 := by unfold wrap64; omega
  go_enter Try.func10, Try.ntmps10
  go_wp2_with (first
    | (with_reducible refine Mem.wpList_box (o := ⟨some 3, _, _, _, _, _⟩) ?_ 30 (.tmp 1) ?_ (.agg #[.int .u8 d, .int .u8 h, .int .u16 k, .string (Mem.str S)]) ?_ ?_
       · rfl
       · rfl
       · rfl
       intro w1 hn1
       have x0 := hn1.cell1 0 (v := .int .u8 d) rfl
       have x1 := hn1.cell1 1 (v := .int .u8 h) rfl
       have Hn1 := Lib.hid hn1
       have HB1 := Lib.hid (hn1.belowB hB)
       have H1 := Lib.hid (H.out.below hn1.below)
       clear hn1)
    | (go_at_call 29
       refine (ht0 _ H1.out).mono ?_
       rintro r w2 ⟨rfl, ha2, hb2⟩
       have H2 := Lib.hid ha2
       have HB2 := Lib.hid hb2
       clear ha2 hb2))
  refine bodyPost_end (results_none rfl _ _ _) rfl ?_
  exact ⟨rfl, H2.out, HB1.out.trans HB2.out⟩

set_option maxRecDepth 100000 in
set_option maxHeartbeats 1000000 in
theorem pair_give0 {wt : Nat → Nat → Bool → Nat} {hd : Nat → Nat → Bool → Nat → Nat × Nat × Bool} (law : Lnk.Law wt hd) (B q : Nat) (e : Nat → Lnk.St) (c : Nat → List (List UInt8)) (N : Nat) (hG : ∀ i, i < 2 → Lnk.Good (e i) N) (hN : N < 549755813888) (hc : ∀ j, j < 6 → (c j).length ≤ 1000000)
    (d h k : Nat) (S : List UInt8) (hD : d % 9 = 3 ∨ d % 9 = 4) (hh : h < 256) (hI : h % 2 = 0) (hS : S.length ≤ 1048576) (hl : (e 0).out.length ≤ 64) (w : World) (hat : Lnk.PAt w B q e c) :
    Calls Try.prog 10 #[.pointer (some ⟨q, 0, none⟩), Lnk.stepV d h k S] w fun r w' => r = .returned (.tuple #[]) ∧
      Lnk.PAt w' B q (Lnk.giveP 0 S (e, c)).1 (Lnk.giveP 0 S (e, c)).2 ∧ Below B w w' := by
  have H := Lib.hid hat
  have hB : B ≤ w.heap.size := by obtain ⟨_, _, _, h⟩ := hat; exact h.size
  have HG := Lib.hid hG
  have HC := Lib.hid hc
  have hrem : Int.tmod (d : Int) 9 = ((d % 9 : Nat) : Int) := rfl
  have hrem2 : Int.tmod (h : Int) 2 = ((h % 2 : Nat) : Int) := rfl
  rw [hI] at hrem2
  clear hat hG hc
  rw [show Lnk.stepV d h k S = .agg #[.int .u8 d, .int .u8 h, .int .u16 k, .string (Mem.str S)] from rfl]
  have hwh : wrap64 (h : Int) = h := by unfold wrap64; omega
  have wr0 : IntKind.i64.wrap 0 = 0 := by decide
  have wr1 : IntKind.i64.wrap 1 = 1 := by decide
  obtain ⟨g, F, s, h0⟩ := H.out
  have H0 := Lib.hid h0
  have hsz := HG.out 0 (by omega)
  clear h0
  have HS := Lib.hid hS
  clear hS
  by_cases hfull : (e 0).out.length = 64
  · have hpost : Lnk.giveP 0 S (e, c) = (e, c) := if_pos hfull
    rw [hpost]
    rcases hD with hD | hD
    all_goals
      rw [hD] at hrem
      go_enter Try.func10, Try.ntmps10
      go_wp2_with (first
        | (with_reducible refine Mem.wpList_box (o := ⟨some 3, _, _, _, _, _⟩) ?_ 30 (.tmp 1) ?_ (.agg #[.int .u8 d, .int .u8 h, .int .u16 k, .string (Mem.str S)]) ?_ ?_
           · rfl
           · rfl
           · rfl
           intro w1 hn1
           have x0 := hn1.cell1 0 (v := .int .u8 d) rfl
           have x1 := hn1.cell1 1 (v := .int .u8 h) rfl
           have x3 := hn1.cell1 3 (v := .string (Mem.str S)) rfl
           have Hn1 := Lib.hid hn1
           have HB1 := Lib.hid (hn1.belowB hB)
           have H1 := Lib.hid (H.out.below hn1.below)
           clear hn1
           have P1 := Lib.hid (H0.out.below Hn1.out.below)))
      clear x0 x1
      have m0 : ∀ i : Mem.Later w1, i.w.cell? ⟨q, 0, none⟩ = some (.pointer (some ⟨g 0, 0, none⟩)) := fun i => i.cell ((cell_of_row _ _ 0 _ _ _ P1.out.row).trans rfl)
      have m3 : ∀ i : Mem.Later w1, i.w.cell? ⟨w.heap.size, 3, none⟩ = some (.string (Mem.str S)) := fun i => i.cell x3
      refine Mem.wp_region_later_tail 8 (by kernel_rfl) (by kernel_rfl) ?_
      simp only [List.take_succ_cons, List.take_zero, List.drop_succ_cons, List.drop_zero]
      repeat (go_big_quiet_step (fail))
      refine wpQuiet_nil ?_
      intro w2 hw2
      obtain ⟨i2, hi2⟩ := hw2
      have h2 : Below w1.heap.size w1 w2 := hi2 ▸ i2.h
      have y3 := m3 ⟨w2, h2⟩
      simp only at y3
      clear hi2 i2 m0 m3
      have P2 := Lib.hid (P1.out.below h2)
      have B2 := Lib.hid (HB1.out.trans (h2.mono (Nat.le_trans hB Hn1.out.below.size)))
      have SZ2 : w.heap.size < w2.heap.size := by have := (block_lt_of_cell y3); exact this
      clear h2
      have hsend := send_full (g 0) (F 0) (e 0) (Mem.str S) (by rw [Mem.str_size]; exact HS.out) hfull w2 (P2.out.ends 0 (by omega))
      go_wp2_with (go_at_call 20; refine hsend.mono ?_; rintro r w3 ⟨rfl, rfl⟩)
      refine bodyPost_end (results_none rfl _ _ _) rfl ?_
      exact ⟨rfl, ⟨_, _, _, P2.out⟩, B2.out⟩
  · have hpost : Lnk.giveP 0 S (e, c) = (Lnk.sub e 0 (Lnk.send (e 0) S), Lnk.sub c 2 (c 2 ++ [S])) := if_neg hfull
    rw [hpost]
    have hcO : (c 2).length ≤ 1000000 := HC.out 2 (by omega)
    have hlt : (e 0).out.length < 64 := by omega
    have hgv : (e 0).given < 1099511627776 := by have := hsz.2.1.2.1; omega
    rcases hD with hD | hD
    all_goals
      rw [hD] at hrem
      go_enter Try.func10, Try.ntmps10
      go_wp2_with (first
        | (with_reducible refine Mem.wpList_box (o := ⟨some 3, _, _, _, _, _⟩) ?_ 30 (.tmp 1) ?_ (.agg #[.int .u8 d, .int .u8 h, .int .u16 k, .string (Mem.str S)]) ?_ ?_
           · rfl
           · rfl
           · rfl
           intro w1 hn1
           have x0 := hn1.cell1 0 (v := .int .u8 d) rfl
           have x1 := hn1.cell1 1 (v := .int .u8 h) rfl
           have x3 := hn1.cell1 3 (v := .string (Mem.str S)) rfl
           have Hn1 := Lib.hid hn1
           have HB1 := Lib.hid (hn1.belowB hB)
           have H1 := Lib.hid (H.out.below hn1.below)
           clear hn1
           have P1 := Lib.hid (H0.out.below Hn1.out.below)))
      clear x0 x1
      have m0 : ∀ i : Mem.Later w1, i.w.cell? ⟨q, 0, none⟩ = some (.pointer (some ⟨g 0, 0, none⟩)) := fun i => i.cell ((cell_of_row _ _ 0 _ _ _ P1.out.row).trans rfl)
      have m3 : ∀ i : Mem.Later w1, i.w.cell? ⟨w.heap.size, 3, none⟩ = some (.string (Mem.str S)) := fun i => i.cell x3
      refine Mem.wp_region_later_tail 8 (by kernel_rfl) (by kernel_rfl) ?_
      simp only [List.take_succ_cons, List.take_zero, List.drop_succ_cons, List.drop_zero]
      repeat (go_big_quiet_step (fail))
      refine wpQuiet_nil ?_
      intro w2 hw2
      obtain ⟨i2, hi2⟩ := hw2
      have h2 : Below w1.heap.size w1 w2 := hi2 ▸ i2.h
      have y3 := m3 ⟨w2, h2⟩
      simp only at y3
      clear hi2 i2 m0 m3
      have P2 := Lib.hid (P1.out.below h2)
      have B2 := Lib.hid (HB1.out.trans (h2.mono (Nat.le_trans hB Hn1.out.below.size)))
      have SZ2 : w.heap.size < w2.heap.size := by have := (block_lt_of_cell y3); exact this
      clear h2
      have hsend := send_ok (g 0) (F 0) (e 0) S HS.out hlt hgv w2 (P2.out.ends 0 (by omega))
      go_wp2_with (go_at_call 20; go_loud (
        refine hsend.mono ?_
        rintro r w3 ⟨rfl, hb3, F2, ha3, hf3⟩))
      have P3 := Lib.hid (P2.out.turn (i := 0) (by omega) ha3 hb3 hf3)
      have hr3 : ¬ F 0 w.heap.size := fun hf => by have := Lnk.At.lt (H0.out.ends 0 (by omega)) hf; omega
      have z3 : w3.cell? ⟨w.heap.size, 3, none⟩ = some (.string (Mem.str S)) := (World.cell?_of_block (hb3.block w.heap.size SZ2 hr3)).trans y3
      have B3 := Lib.hid (B2.out.trans (hb3.below (Nat.le_trans hB (Nat.le_of_lt SZ2)) (H0.out.bF 0 (by omega))))
      have SZ3 : w.heap.size < w3.heap.size := Nat.lt_of_lt_of_le SZ2 hb3.size
      have HR3 := Lib.hid hr3
      clear hb3 ha3 hf3 hr3 hsend y3 x3
      obtain ⟨i, hi, hz, hz1, hz2⟩ := info_parts Lnk.info_str
      have hA : some q ≠ (s 2).ownBlock := fun h => (P3.out.sF 2 (by omega) q h.symm).1 rfl
      have hq3 : q < w3.heap.size := P3.out.qlt
      have k2 : w3.cell? ⟨q, 4, none⟩ = some (s 2) := (cell_of_row _ _ 4 _ _ _ P3.out.row).trans rfl
      have f2 := frozen_of_row w3 q 4 _ _ P3.out.row
      have kB : ∀ o, Below w3.heap.size w3 (w3.alloc o).drew := fun o => ((Below.refl w3.heap.size w3).alloc (Nat.le_refl _) o).drew
      have ca : ∀ o, (w3.alloc o).cell? ⟨q, 4, none⟩ = some (s 2) := fun o => Mem.keep ((Below.refl w3.heap.size w3).alloc (Nat.le_refl _) o) k2
      have cz : ∀ o, (w3.alloc o).cell? ⟨w.heap.size, 3, none⟩ = some (.string (Mem.str S)) := fun o => Mem.keep ((Below.refl w3.heap.size w3).alloc (Nat.le_refl _) o) z3
      have hrw : Mem.Row w3 B 9 1 (s 2) (c 2).length (Lnk.strs (c 2)) := P3.out.rows 2 (by omega)
      have hB3 : B ≤ w3.heap.size := Nat.le_trans hB (Nat.le_of_lt SZ3)
      go_region_law (go_loud (
         refine Mem.step_append_row _ rfl (.tmp 115) (.tmp 118) 32 rfl B 9 i _ 1 16 Try.underlying32 hi hz hz1 hz2 rfl (s 2) (c 2).length (Lnk.strs (c 2)) rfl (Mem.Row.drew (Mem.Row.alloc hrw _)) ⟨w3.heap.size, 0, none⟩ 1 1 [.string (Mem.str S)] rfl rfl (World.news_of_block (heap_alloc_new w3 _)) (by intro u hu; simp at hu; subst hu; rfl) (by omega) (by unfold maxLen; omega) (by omega) (by simp; omega) ?_
         intro v' w4 hown hgrow hat
         obtain ⟨A', cap', hv', _, _⟩ := hown.form
         subst hv'
         have fc := (hgrow.cell_far ⟨q, 4, none⟩ (by simp; omega) hA).trans (Mem.keep (kB _) k2)
         have ff := (hgrow.frozen_far ⟨q, 4, none⟩ (by simp; omega) hA).trans (((kB _).frozen hq3).trans f2)))
      all_goals
        clear fc ff ca cz kB
        go_wp2
        refine bodyPost_end (results_none rfl _ _ _) rfl ?_
        have hb4 : Mem.But (fun k => (s 2).ownBlock = some k) w3 w4 := by
          refine ⟨hgrow.os, hgrow.tape, hgrow.output, ?_, fun k hk hn => ?_⟩
          · have := hgrow.size; simp at this; omega
          · exact (hgrow.block k (by simp; omega) (fun e => hn e.symm)).trans ((((Below.refl w3.heap.size w3).alloc (Nat.le_refl _) _).drew).block k hk)
        have hown2 : Mem.Row w4 B 9 1 _ ((c 2).length + [S].length) (Lnk.strs (c 2) ++ Lnk.strs [S]) := hown
        have P4 := P3.out.text (j := 2) (by omega) hb4 (Lnk.txt_app hown2) (fun k hk => by
          rcases hat with h | h
          · exact .inl (h ▸ hk)
          · rw [h] at hk
            simp at hk
            exact .inr (by omega))
        refine ⟨rfl, ⟨_, _, _, P4⟩, ?_⟩
        have b4 : Below B w3 w4 := hb4.below hB3 (fun k hk => (Mem.Row.block hrw hk).1)
        exact B3.out.trans (b4.trans ((Below.refl B w4).setCell H0.out.bq _))

set_option maxRecDepth 100000 in
set_option maxHeartbeats 1000000 in
theorem pair_give1 {wt : Nat → Nat → Bool → Nat} {hd : Nat → Nat → Bool → Nat → Nat × Nat × Bool} (law : Lnk.Law wt hd) (B q : Nat) (e : Nat → Lnk.St) (c : Nat → List (List UInt8)) (N : Nat) (hG : ∀ i, i < 2 → Lnk.Good (e i) N) (hN : N < 549755813888) (hc : ∀ j, j < 6 → (c j).length ≤ 1000000)
    (d h k : Nat) (S : List UInt8) (hD : d % 9 = 3 ∨ d % 9 = 4) (hh : h < 256) (hI : h % 2 = 1) (hS : S.length ≤ 1048576) (hl : (e 1).out.length ≤ 64) (w : World) (hat : Lnk.PAt w B q e c) :
    Calls Try.prog 10 #[.pointer (some ⟨q, 0, none⟩), Lnk.stepV d h k S] w fun r w' => r = .returned (.tuple #[]) ∧
      Lnk.PAt w' B q (Lnk.giveP 1 S (e, c)).1 (Lnk.giveP 1 S (e, c)).2 ∧ Below B w w' := by
  have H := Lib.hid hat
  have hB : B ≤ w.heap.size := by obtain ⟨_, _, _, h⟩ := hat; exact h.size
  have HG := Lib.hid hG
  have HC := Lib.hid hc
  have hrem : Int.tmod (d : Int) 9 = ((d % 9 : Nat) : Int) := rfl
  have hrem2 : Int.tmod (h : Int) 2 = ((h % 2 : Nat) : Int) := rfl
  rw [hI] at hrem2
  clear hat hG hc
  rw [show Lnk.stepV d h k S = .agg #[.int .u8 d, .int .u8 h, .int .u16 k, .string (Mem.str S)] from rfl]
  have hwh : wrap64 (h : Int) = h := by unfold wrap64; omega
  have wr0 : IntKind.i64.wrap 0 = 0 := by decide
  have wr1 : IntKind.i64.wrap 1 = 1 := by decide
  obtain ⟨g, F, s, h0⟩ := H.out
  have H0 := Lib.hid h0
  have hsz := HG.out 1 (by omega)
  clear h0
  have HS := Lib.hid hS
  clear hS
  by_cases hfull : (e 1).out.length = 64
  · have hpost : Lnk.giveP 1 S (e, c) = (e, c) := if_pos hfull
    rw [hpost]
    rcases hD with hD | hD
    all_goals
      rw [hD] at hrem
      go_enter Try.func10, Try.ntmps10
      go_wp2_with (first
        | (with_reducible refine Mem.wpList_box (o := ⟨some 3, _, _, _, _, _⟩) ?_ 30 (.tmp 1) ?_ (.agg #[.int .u8 d, .int .u8 h, .int .u16 k, .string (Mem.str S)]) ?_ ?_
           · rfl
           · rfl
           · rfl
           intro w1 hn1
           have x0 := hn1.cell1 0 (v := .int .u8 d) rfl
           have x1 := hn1.cell1 1 (v := .int .u8 h) rfl
           have x3 := hn1.cell1 3 (v := .string (Mem.str S)) rfl
           have Hn1 := Lib.hid hn1
           have HB1 := Lib.hid (hn1.belowB hB)
           have H1 := Lib.hid (H.out.below hn1.below)
           clear hn1
           have P1 := Lib.hid (H0.out.below Hn1.out.below)))
      clear x0 x1
      have m0 : ∀ i : Mem.Later w1, i.w.cell? ⟨q, 1, none⟩ = some (.pointer (some ⟨g 1, 0, none⟩)) := fun i => i.cell ((cell_of_row _ _ 1 _ _ _ P1.out.row).trans rfl)
      have m3 : ∀ i : Mem.Later w1, i.w.cell? ⟨w.heap.size, 3, none⟩ = some (.string (Mem.str S)) := fun i => i.cell x3
      refine Mem.wp_region_later_tail 8 (by kernel_rfl) (by kernel_rfl) ?_
      simp only [List.take_succ_cons, List.take_zero, List.drop_succ_cons, List.drop_zero]
      repeat (go_big_quiet_step (fail))
      refine wpQuiet_nil ?_
      intro w2 hw2
      obtain ⟨i2, hi2⟩ := hw2
      have h2 : Below w1.heap.size w1 w2 := hi2 ▸ i2.h
      have y3 := m3 ⟨w2, h2⟩
      simp only at y3
      clear hi2 i2 m0 m3
      have P2 := Lib.hid (P1.out.below h2)
      have B2 := Lib.hid (HB1.out.trans (h2.mono (Nat.le_trans hB Hn1.out.below.size)))
      have SZ2 : w.heap.size < w2.heap.size := by have := (block_lt_of_cell y3); exact this
      clear h2
      have hsend := send_full (g 1) (F 1) (e 1) (Mem.str S) (by rw [Mem.str_size]; exact HS.out) hfull w2 (P2.out.ends 1 (by omega))
      go_wp2_with (go_at_call 20; refine hsend.mono ?_; rintro r w3 ⟨rfl, rfl⟩)
      refine bodyPost_end (results_none rfl _ _ _) rfl ?_
      exact ⟨rfl, ⟨_, _, _, P2.out⟩, B2.out⟩
  · have hpost : Lnk.giveP 1 S (e, c) = (Lnk.sub e 1 (Lnk.send (e 1) S), Lnk.sub c 3 (c 3 ++ [S])) := if_neg hfull
    rw [hpost]
    have hcO : (c 3).length ≤ 1000000 := HC.out 3 (by omega)
    have hlt : (e 1).out.length < 64 := by omega
    have hgv : (e 1).given < 1099511627776 := by have := hsz.2.1.2.1; omega
    rcases hD with hD | hD
    all_goals
      rw [hD] at hrem
      go_enter Try.func10, Try.ntmps10
      go_wp2_with (first
        | (with_reducible refine Mem.wpList_box (o := ⟨some 3, _, _, _, _, _⟩) ?_ 30 (.tmp 1) ?_ (.agg #[.int .u8 d, .int .u8 h, .int .u16 k, .string (Mem.str S)]) ?_ ?_
           · rfl
           · rfl
           · rfl
           intro w1 hn1
           have x0 := hn1.cell1 0 (v := .int .u8 d) rfl
           have x1 := hn1.cell1 1 (v := .int .u8 h) rfl
           have x3 := hn1.cell1 3 (v := .string (Mem.str S)) rfl
           have Hn1 := Lib.hid hn1
           have HB1 := Lib.hid (hn1.belowB hB)
           have H1 := Lib.hid (H.out.below hn1.below)
           clear hn1
           have P1 := Lib.hid (H0.out.below Hn1.out.below)))
      clear x0 x1
      have m0 : ∀ i : Mem.Later w1, i.w.cell? ⟨q, 1, none⟩ = some (.pointer (some ⟨g 1, 0, none⟩)) := fun i => i.cell ((cell_of_row _ _ 1 _ _ _ P1.out.row).trans rfl)
      have m3 : ∀ i : Mem.Later w1, i.w.cell? ⟨w.heap.size, 3, none⟩ = some (.string (Mem.str S)) := fun i => i.cell x3
      refine Mem.wp_region_later_tail 8 (by kernel_rfl) (by kernel_rfl) ?_
      simp only [List.take_succ_cons, List.take_zero, List.drop_succ_cons, List.drop_zero]
      repeat (go_big_quiet_step (fail))
      refine wpQuiet_nil ?_
      intro w2 hw2
      obtain ⟨i2, hi2⟩ := hw2
      have h2 : Below w1.heap.size w1 w2 := hi2 ▸ i2.h
      have y3 := m3 ⟨w2, h2⟩
      simp only at y3
      clear hi2 i2 m0 m3
      have P2 := Lib.hid (P1.out.below h2)
      have B2 := Lib.hid (HB1.out.trans (h2.mono (Nat.le_trans hB Hn1.out.below.size)))
      have SZ2 : w.heap.size < w2.heap.size := by have := (block_lt_of_cell y3); exact this
      clear h2
      have hsend := send_ok (g 1) (F 1) (e 1) S HS.out hlt hgv w2 (P2.out.ends 1 (by omega))
      go_wp2_with (go_at_call 20; go_loud (
        refine hsend.mono ?_
        rintro r w3 ⟨rfl, hb3, F2, ha3, hf3⟩))
      have P3 := Lib.hid (P2.out.turn (i := 1) (by omega) ha3 hb3 hf3)
      have hr3 : ¬ F 1 w.heap.size := fun hf => by have := Lnk.At.lt (H0.out.ends 1 (by omega)) hf; omega
      have z3 : w3.cell? ⟨w.heap.size, 3, none⟩ = some (.string (Mem.str S)) := (World.cell?_of_block (hb3.block w.heap.size SZ2 hr3)).trans y3
      have B3 := Lib.hid (B2.out.trans (hb3.below (Nat.le_trans hB (Nat.le_of_lt SZ2)) (H0.out.bF 1 (by omega))))
      have SZ3 : w.heap.size < w3.heap.size := Nat.lt_of_lt_of_le SZ2 hb3.size
      have HR3 := Lib.hid hr3
      clear hb3 ha3 hf3 hr3 hsend y3 x3
      obtain ⟨i, hi, hz, hz1, hz2⟩ := info_parts Lnk.info_str
      have hA : some q ≠ (s 3).ownBlock := fun h => (P3.out.sF 3 (by omega) q h.symm).1 rfl
      have hq3 : q < w3.heap.size := P3.out.qlt
      have k2 : w3.cell? ⟨q, 5, none⟩ = some (s 3) := (cell_of_row _ _ 5 _ _ _ P3.out.row).trans rfl
      have f2 := frozen_of_row w3 q 5 _ _ P3.out.row
      have kB : ∀ o, Below w3.heap.size w3 (w3.alloc o).drew := fun o => ((Below.refl w3.heap.size w3).alloc (Nat.le_refl _) o).drew
      have ca : ∀ o, (w3.alloc o).cell? ⟨q, 5, none⟩ = some (s 3) := fun o => Mem.keep ((Below.refl w3.heap.size w3).alloc (Nat.le_refl _) o) k2
      have cz : ∀ o, (w3.alloc o).cell? ⟨w.heap.size, 3, none⟩ = some (.string (Mem.str S)) := fun o => Mem.keep ((Below.refl w3.heap.size w3).alloc (Nat.le_refl _) o) z3
      have hrw : Mem.Row w3 B 9 1 (s 3) (c 3).length (Lnk.strs (c 3)) := P3.out.rows 3 (by omega)
      have hB3 : B ≤ w3.heap.size := Nat.le_trans hB (Nat.le_of_lt SZ3)
      go_region_law (go_loud (
         refine Mem.step_append_row _ rfl (.tmp 115) (.tmp 118) 32 rfl B 9 i _ 1 16 Try.underlying32 hi hz hz1 hz2 rfl (s 3) (c 3).length (Lnk.strs (c 3)) rfl (Mem.Row.drew (Mem.Row.alloc hrw _)) ⟨w3.heap.size, 0, none⟩ 1 1 [.string (Mem.str S)] rfl rfl (World.news_of_block (heap_alloc_new w3 _)) (by intro u hu; simp at hu; subst hu; rfl) (by omega) (by unfold maxLen; omega) (by omega) (by simp; omega) ?_
         intro v' w4 hown hgrow hat
         obtain ⟨A', cap', hv', _, _⟩ := hown.form
         subst hv'
         have fc := (hgrow.cell_far ⟨q, 5, none⟩ (by simp; omega) hA).trans (Mem.keep (kB _) k2)
         have ff := (hgrow.frozen_far ⟨q, 5, none⟩ (by simp; omega) hA).trans (((kB _).frozen hq3).trans f2)))
      all_goals
        clear fc ff ca cz kB
        go_wp2
        refine bodyPost_end (results_none rfl _ _ _) rfl ?_
        have hb4 : Mem.But (fun k => (s 3).ownBlock = some k) w3 w4 := by
          refine ⟨hgrow.os, hgrow.tape, hgrow.output, ?_, fun k hk hn => ?_⟩
          · have := hgrow.size; simp at this; omega
          · exact (hgrow.block k (by simp; omega) (fun e => hn e.symm)).trans ((((Below.refl w3.heap.size w3).alloc (Nat.le_refl _) _).drew).block k hk)
        have hown2 : Mem.Row w4 B 9 1 _ ((c 3).length + [S].length) (Lnk.strs (c 3) ++ Lnk.strs [S]) := hown
        have P4 := P3.out.text (j := 3) (by omega) hb4 (Lnk.txt_app hown2) (fun k hk => by
          rcases hat with h | h
          · exact .inl (h ▸ hk)
          · rw [h] at hk
            simp at hk
            exact .inr (by omega))
        refine ⟨rfl, ⟨_, _, _, P4⟩, ?_⟩
        have b4 : Below B w3 w4 := hb4.below hB3 (fun k hk => (Mem.Row.block hrw hk).1)
        exact B3.out.trans (b4.trans ((Below.refl B w4).setCell H0.out.bq _))

-- END do12
end Go.Proofs.Ytgkadhogfejheaa
