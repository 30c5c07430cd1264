/- The walk of law19.PaceRuns. -/
import Derived.Test.YtmfaadhclbfhoaaPacF
import Derived.Test.YtmfaadhclbfhoaaPacA
import Derived.Test.YtmfaadhclbfhoaaOpen
import Derived.StillTailTactics
import Derived.Deep.Slices
namespace Go.Proofs.Ytmfaadhclbfhoaa
open Go.RowKit

namespace Pac
/-- the answers, as they lie in memory -/
theorem floats {H : Type} {enc : TypeId × Value → H} {w : World} {a0 : Option Addr} {len cap : Nat} {d : DataW H} {p : List MemPlace} (h : DataW.Trod enc Try.prog w 0 (fun _ => true) true 41 (.slice a0 len cap) d p) (hl : 0 < len) :
    ∃ (b off : Nat) (x : Nat → Nat), a0 = some ⟨b, off, none⟩ ∧ ∀ i, i < len → w.cell? ⟨b, off + i, none⟩ = some (.float .f64 (x i)) ∧ x i < 18446744073709551616 := by
  obtain ⟨fuel, h⟩ := h
  simp only [Value.cells] at h
  rcases Deep.open_slice1 Try.underlying41 cells_float h with ⟨h1, _⟩ | ⟨a, l2, c2, m, n, V, D, Pl, h1, _, h3, _, rfl, _, h6⟩
  · simp only [List.cons.injEq, and_true] at h1
    cases h1
    omega
  · simp only [List.cons.injEq, and_true] at h1
    cases h1
    replace h6 : ∀ i, i < cap → w.cell? (a.add i) = some (V i) ∧ DataW.trod enc Try.prog w 0 (fun _ => true) true n 22 [V i] = some (D i, Pl i) := h6
    obtain ⟨b, off, spot⟩ := a
    have hspot : spot = none := by simpa [Addr.add] using World.cell?_spot (h6 0 (by omega)).1
    subst hspot
    obtain ⟨x, hx⟩ := Deep.choose_lt (n := len) (p := fun i (y : Nat) => w.cell? ⟨b, off + i, none⟩ = some (.float .f64 y) ∧ y < 18446744073709551616) (fun i hi => by
      obtain ⟨g1, g2⟩ := h6 i (by omega)
      obtain ⟨y, e1, _, e3⟩ := Mem.trod_float Try.underlying22 g2
      simp only [List.cons.injEq, and_true] at e1
      rw [e1, Go.WideShapes.add_plain] at g1
      refine ⟨y, g1, ?_⟩
      simpa [Lit.wf] using e3)
    exact ⟨b, off, x, rfl, hx⟩
/-- what was the least, and the greatest, that counted: bounds of the mean -/
structure Within (lo hi X : Nat) : Prop where
  hlo : lo < 18446744073709551616
  hhi : hi < 18446744073709551616
  clo : cnt lo = true
  chi : cnt hi = true
  low : plain lo ≤ X
  high : X ≤ plain hi
/-- how it stands behind k answers -/
structure RunsAt (Bp Bq : Nat) (w : World) (s : Bool) (lo hi X Y : Nat) (wr : World) : Prop where
  bel : Below w.heap.size w wr
  rowp : wr.heap[Bp]? = some (.cells #[.float .f64 X, .float .f64 Y, .bool s] 27 (0, 0))
  rowq : wr.heap[Bq]? = some (.cells #[.float .f64 X, .float .f64 Y, .bool s] 24 (0, 0))
  hX : X ≤ 4696837146684686336
  hY : Y ≤ 4696837146684686336
  h0 : s = false → X = 0 ∧ Y = 0
  within : Within lo hi X
/-- one answer more, as the tests tell it -/
theorem next {t lo hi X X' : Nat} {s Z : Bool} (ht : t < 18446744073709551616) (H : Within lo hi X) (hn : cnt t = false → X' = X ∧ Z = s)
    (hy : cnt t = true → Z = true ∧ (s = false → X' = plain t) ∧ (s = true → min X (plain t) ≤ X' ∧ X' ≤ max X (plain t))) :
    ((FloatKind.f64.format.order t 0 == some .gt || FloatKind.f64.format.order t 0 == some .eq) = false ∧ Z = s ∧ Within lo hi X') ∨
    ((FloatKind.f64.format.order t 0 == some .gt || FloatKind.f64.format.order t 0 == some .eq) = true ∧ (FloatKind.f64.format.order t 4696837146684686336 == some .lt || FloatKind.f64.format.order t 4696837146684686336 == some .eq) = false ∧ Z = s ∧ Within lo hi X') ∨
    ((FloatKind.f64.format.order t 0 == some .gt || FloatKind.f64.format.order t 0 == some .eq) = true ∧ (FloatKind.f64.format.order t 4696837146684686336 == some .lt || FloatKind.f64.format.order t 4696837146684686336 == some .eq) = true ∧ s = false ∧ Z = true ∧ Within t t X') ∨
    ((FloatKind.f64.format.order t 0 == some .gt || FloatKind.f64.format.order t 0 == some .eq) = true ∧ (FloatKind.f64.format.order t 4696837146684686336 == some .lt || FloatKind.f64.format.order t 4696837146684686336 == some .eq) = true ∧ s = true ∧ Z = true ∧
      ∃ bl bg : Bool, (FloatKind.f64.format.order t lo == some .lt) = bl ∧ (FloatKind.f64.format.order t hi == some .gt) = bg ∧ Within (if bl then t else lo) (if bg then t else hi) X') := by
  cases hge : (FloatKind.f64.format.order t 0 == some .gt || FloatKind.f64.format.order t 0 == some .eq) with
  | false =>
    have hc : cnt t = false := by unfold cnt geB ord; rw [hge]; rfl
    obtain ⟨rfl, rfl⟩ := hn hc
    exact .inl ⟨rfl, rfl, H⟩
  | true =>
    cases hle : (FloatKind.f64.format.order t 4696837146684686336 == some .lt || FloatKind.f64.format.order t 4696837146684686336 == some .eq) with
    | false =>
      have hc : cnt t = false := by unfold cnt geB leB ord; rw [hge, hle]; rfl
      obtain ⟨rfl, rfl⟩ := hn hc
      exact .inr (.inl ⟨rfl, rfl, rfl, H⟩)
    | true =>
      have hc : cnt t = true := by unfold cnt geB leB ord; rw [hge, hle]; rfl
      obtain ⟨rfl, h1, h2⟩ := hy hc
      cases s with
      | false =>
        have := h1 rfl
        exact .inr (.inr (.inl ⟨rfl, rfl, rfl, rfl, ht, ht, hc, hc, by omega, by omega⟩))
      | true =>
        obtain ⟨h3, h4⟩ := h2 rfl
        have o1 := ord_cnt ht H.hlo hc H.clo
        have o2 := ord_cnt ht H.hhi hc H.chi
        have l := H.low
        have h := H.high
        refine .inr (.inr (.inr ⟨rfl, rfl, rfl, rfl, _, _, rfl, rfl, ?_⟩))
        have e1 : (FloatKind.f64.format.order t lo == some .lt) = decide (plain t < plain lo) := by
          show (ord t lo == some .lt) = _
          rw [o1, Bool.eq_iff_iff]; simp [Nat.compare_eq_lt]
        have e2 : (FloatKind.f64.format.order t hi == some .gt) = decide (plain hi < plain t) := by
          show (ord t hi == some .gt) = _
          rw [o2, Bool.eq_iff_iff]; simp [Nat.compare_eq_gt]
        rw [e1, e2]
        by_cases g1 : plain t < plain lo
        · by_cases g2 : plain hi < plain t
          · simp only [g1, g2, decide_true, if_true]; exact ⟨ht, ht, hc, hc, by omega, by omega⟩
          · simp only [g1, g2, decide_true, decide_false, if_true, Bool.false_eq_true, if_false]; exact ⟨ht, H.hhi, hc, H.chi, by omega, by omega⟩
        · by_cases g2 : plain hi < plain t
          · simp only [g1, g2, decide_true, decide_false, if_true, Bool.false_eq_true, if_false]; exact ⟨H.hlo, ht, H.clo, hc, by omega, by omega⟩
          · simp only [g1, g2, decide_false, Bool.false_eq_true, if_false]; exact ⟨H.hlo, H.hhi, H.clo, H.chi, by omega, by omega⟩
end Pac

set_option maxRecDepth 100000 in
set_option maxHeartbeats 1000000 in
theorem paceRuns_none (a0 : Option Addr) (cap0 : Nat) (w : World) :
    Calls Try.prog 6 #[.slice a0 0 cap0] w fun e w' => e = .returned (.bool true) ∧ Below w.heap.size w w' := by
  go_enter Try.func6, Try.ntmps6
  go_wp2_with (first
    | (refine Mem.wpList_alloc (o := ⟨some 3, _, _, _, _, _⟩) rfl 27 rfl _ Pac.zero_pace ?_
       intro w2 hn2
       have Hn2 := Lib.hid hn2
       clear hn2)
    | (refine Mem.wpList_alloc (o := ⟨some 4, _, _, _, _, _⟩) rfl 24 rfl _ Pac.zero_ref ?_
       intro w3 hn3
       have Hn3 := Lib.hid hn3
       clear hn3)
    | (go_at_call 8
       refine (pace_alive _).mono ?_
       rintro e w1 ⟨rfl, hb1⟩
       have Hb1 := Lib.hid hb1
       clear hb1))
  go_loop [8] (fun t8 => t8 = .int .i64 0) (fun _ => 0)
  case atStart => rfl
  case round =>
    subst hrel
    go_wp2
    go_ret
    exact ⟨rfl, Mem.then_ Hb1.out (Mem.then_ Hn2.out.below Hn3.out.below)⟩

set_option maxRecDepth 100000 in
set_option maxHeartbeats 1000000 in
theorem paceRuns_main (b off : Nat) (x : Nat → Nat) (len cap : Nat) (w : World) (hx : ∀ i, i < len → w.cell? ⟨b, off + i, none⟩ = some (.float .f64 (x i)) ∧ x i < 18446744073709551616) :
    Calls Try.prog 6 #[.slice (some ⟨b, off, none⟩) len cap] w fun e w' => e = .returned (.bool true) ∧ Below w.heap.size w w' := by
  have HX := Lib.hid hx
  clear hx
  by_cases hbig : 200 < len
  · have d1 : decide ((200 : Int) < len) = true := decide_eq_true (by omega)
    have d1' : (200 : Int) < len := by omega
    go_enter Try.func6, Try.ntmps6
    go_wp2_with (
      go_at_call 8
      refine (pace_alive _).mono ?_
      rintro e w1 ⟨rfl, hb1⟩
      have Hb1 := Lib.hid hb1
      clear hb1)
    go_ret
    exact ⟨rfl, Hb1.out⟩
  have d1 : decide ((200 : Int) < len) = false := decide_eq_false (by omega)
  have d1' : ¬ (200 : Int) < len := by omega
  go_enter Try.func6, Try.ntmps6
  go_wp2_with (first
    | (refine Mem.wpList_alloc (o := ⟨some 3, _, _, _, _, _⟩) rfl 27 rfl _ Pac.zero_pace ?_
       intro w2 hn2
       have Hn2 := Lib.hid hn2
       clear hn2)
    | (refine Mem.wpList_alloc (o := ⟨some 4, _, _, _, _, _⟩) rfl 24 rfl _ Pac.zero_ref ?_
       intro w3 hn3
       have Hn3 := Lib.hid hn3
       clear hn3)
    | (go_at_call 8
       refine (pace_alive _).mono ?_
       rintro e w1 ⟨rfl, hb1⟩
       have Hb1 := Lib.hid hb1
       clear hb1))
  go_loopw [5, 6, 7, 8] (fun t5 t6 t7 t8 wr => ∃ (k : Nat) (s : Bool) (lo hi X Y : Nat), k ≤ len ∧ t5 = .bool s ∧ t6 = .float .f64 lo ∧ t7 = .float .f64 hi ∧ t8 = .int .i64 k ∧ Pac.RunsAt w1.heap.size w2.heap.size w s lo hi X Y wr) (fun _ _ _ t8 _ => len - (intOf t8).toNat)
  case atStart =>
    have h1 := Hn2.out
    have h2 := Hn3.out
    have hs := h1.size
    refine ⟨0, false, 0, 0, 0, 0, by omega, rfl, rfl, rfl, rfl, Mem.then_ Hb1.out (Mem.then_ h1.below h2.below), (h2.old (by omega)).trans h1.row, h2.row, by omega, by omega, fun _ => ⟨rfl, rfl⟩, ?_⟩
    exact ⟨by omega, by omega, by decide +kernel, by decide +kernel, by decide +kernel, by decide +kernel⟩
  case round =>
    obtain ⟨k, s, lo, hi, X, Y, hk, rfl, rfl, rfl, rfl, R⟩ := hrel
    have HR := Lib.hid R
    clear R
    by_cases hlt : k < len
    · have d2 : decide ((k : Int) < len) = true := decide_eq_true (by omega)
      have d2' : (k : Int) < len := by omega
      have d3 : (0 : Int) ≤ (k : Int) := by omega
      obtain ⟨hcell, ht⟩ := HX.out k hlt
      obtain ⟨t, htx⟩ : ∃ t, x k = t := ⟨_, rfl⟩
      rw [htx] at hcell ht
      clear htx
      obtain ⟨X', Y', Z, hA, hB, hX', hY', hZ, hn, hy⟩ := runs_step X Y t s ht HR.out.hX HR.out.hY HR.out.h0
      have HA := Lib.hid hA
      have HB := Lib.hid hB
      have HZ := Lib.hid hZ
      have Hn := Lib.hid hn
      have Hy := Lib.hid hy
      have HX' := Lib.hid hX'
      have HY' := Lib.hid hY'
      have Ht := Lib.hid ht
      clear hA hB hZ hn hy hX' hY' ht
      have e0 : wr.cell? ⟨w1.heap.size, 0, none⟩ = some (.float .f64 X) := (cell_of_row _ _ 0 _ _ _ HR.out.rowp).trans rfl
      have e1 : wr.cell? ⟨w1.heap.size, 1, none⟩ = some (.float .f64 Y) := (cell_of_row _ _ 1 _ _ _ HR.out.rowp).trans rfl
      have e2 : wr.cell? ⟨w1.heap.size, 2, none⟩ = some (.bool s) := (cell_of_row _ _ 2 _ _ _ HR.out.rowp).trans rfl
      have e3 : wr.cell? ⟨b, off + k, none⟩ = some (.float .f64 t) := (HR.out.bel.cell (block_lt_of_cell hcell)).trans hcell
      have Hcell := Lib.hid hcell
      clear hcell
      have hb : b < wr.heap.size := block_lt_of_cell e3
      go_wp2
      have f0 : wr.drew.cell? ⟨w1.heap.size, 0, none⟩ = some (.float .f64 X) := e0
      have f1 : wr.drew.cell? ⟨w1.heap.size, 1, none⟩ = some (.float .f64 Y) := e1
      have f2 : wr.drew.cell? ⟨w1.heap.size, 2, none⟩ = some (.bool s) := e2
      have f3 : wr.drew.cell? ⟨b, off + k, none⟩ = some (.float .f64 t) := e3
      have rp : wr.drew.heap[w1.heap.size]? = some (.cells #[.float .f64 X, .float .f64 Y, .bool s] 27 (0, 0)) := HR.out.rowp
      have rq : wr.drew.heap[w2.heap.size]? = some (.cells #[.float .f64 X, .float .f64 Y, .bool s] 24 (0, 0)) := HR.out.rowq
      have hbel : Below w.heap.size w wr.drew := HR.out.bel.drew
      clear e0 e1 e2 e3
      refine wp_region_still_tail 5 (by kernel_rfl) (by kernel_rfl) ?_
      simp only [List.take_succ_cons, List.take_zero, List.drop_succ_cons, List.drop_zero]
      change wpStill _ _ wr.drew (fun a' => wpList _ _ _ _ a' wr.drew) _ _
      generalize wr.drew = w4 at f0 f1 f2 f3 rp rq hbel ⊢
      have Rp := Lib.hid rp
      have Rq := Lib.hid rq
      have Hbel := Lib.hid hbel
      clear rp rq hbel
      repeat still_step
      refine wpStill_nil ?_
      go_wp2_with (first
        | (go_at_call 13
           with_reducible refine (HA.out _).mono ?_
           rintro e w5 ⟨rfl, hb5⟩
           have g3 := Mem.keep hb5 f3
           have Rp5 := Lib.hid ((hb5.block w1.heap.size (Array.getElem?_eq_some_iff.1 Rp.out).1).trans Rp.out)
           have Rq5 := Lib.hid ((hb5.block w2.heap.size (Array.getElem?_eq_some_iff.1 Rq.out).1).trans Rq.out)
           have Hb5 := Lib.hid (Mem.then_ Hbel.out hb5)
           clear hb5 f0 f1 f2 f3)
        | (refine Mem.wpList_store rfl 27 (.tmp 3) (.tmp 25) rfl _ #[.float .f64 X', .float .f64 Y', .bool Z] rfl rfl _ _ Rp5.out Pac.size_pace rfl (Pac.one_pace _ _ _) ?_
           intro w6 hp6
           have Hp6 := Lib.hid hp6
           clear hp6))
      have hne : w1.heap.size ≠ w2.heap.size := by have := Hn2.out.size; omega
      have f0 : w6.drew.cell? ⟨w2.heap.size, 0, none⟩ = some (.float .f64 X) := (cell_of_row _ _ 0 _ _ _ ((Hp6.out.other _ (Ne.symm hne)).trans Rq5.out)).trans rfl
      have f1 : w6.drew.cell? ⟨w2.heap.size, 1, none⟩ = some (.float .f64 Y) := (cell_of_row _ _ 1 _ _ _ ((Hp6.out.other _ (Ne.symm hne)).trans Rq5.out)).trans rfl
      have f2 : w6.drew.cell? ⟨w2.heap.size, 2, none⟩ = some (.bool s) := (cell_of_row _ _ 2 _ _ _ ((Hp6.out.other _ (Ne.symm hne)).trans Rq5.out)).trans rfl
      have f3 : w6.drew.cell? ⟨b, off + k, none⟩ = some (.float .f64 t) := by
        have h1 := Hb5.out.cell (p := ⟨b, off + k, none⟩) (block_lt_of_cell Hcell.out)
        have h2 : w6.heap[b]? = _ := Hp6.out.other b (by have := block_lt_of_cell Hcell.out; have := Hb1.out.size; intro h; simp at *; omega)
        show w6.cell? _ = _
        unfold World.cell? at g3 ⊢
        rw [h2]; exact g3
      have rp : w6.drew.heap[w1.heap.size]? = some (.cells #[.float .f64 X', .float .f64 Y', .bool Z] 27 (0, 0)) := Hp6.out.row
      have rq : w6.drew.heap[w2.heap.size]? = some (.cells #[.float .f64 X, .float .f64 Y, .bool s] 24 (0, 0)) := (Hp6.out.other _ (Ne.symm hne)).trans Rq5.out
      have hbel : Below w.heap.size w w6.drew := (Hb5.out.trans (Hp6.out.below Hb1.out.size)).drew
      have Hne := Lib.hid hne
      clear g3 hne
      refine wp_region_still_tail 5 (by kernel_rfl) (by kernel_rfl) ?_
      simp only [List.take_succ_cons, List.take_zero, List.drop_succ_cons, List.drop_zero]
      change wpStill _ _ w6.drew (fun a' => wpList _ _ _ _ a' w6.drew) _ _
      generalize w6.drew = w7 at f0 f1 f2 f3 rp rq hbel ⊢
      have Rp7 := Lib.hid rp
      have Rq7 := Lib.hid rq
      have Hbel7 := Lib.hid hbel
      clear rp rq hbel
      repeat still_step
      refine wpStill_nil ?_
      have hmay : Pac.may X' Y' Z = true := Pac.may_ok HX'.out HY'.out HZ.out
      have Hmay := Lib.hid hmay
      have NX := Pac.next Ht.out HR.out.within Hn.out Hy.out
      clear hmay
      rcases NX with ⟨hge, rfl, HN⟩ | ⟨hge, hle, rfl, HN⟩ | ⟨hge, hle, rfl, rfl, HN⟩ | ⟨hge, hle, rfl, rfl, bl, bg, hlt, hgt, HN⟩
      case' inr.inr.inr =>
        cases bl <;> cases bg
        all_goals simp only [Bool.false_eq_true, if_true, if_false] at HN
      all_goals
        obtain ⟨r1, hr1, hn1⟩ := Pac.not_below HN.hlo HN.clo HX'.out HN.low
        obtain ⟨r2, hr2, hn2⟩ := Pac.not_above HN.hhi HN.chi HN.high
        have hsub := fun w => run_float_arith (P := Try.prog) w .sub 22 .f64 _ 4607182418800017408 r1 hr1
        have hadd := fun w => run_float_arith (P := Try.prog) w .add 22 .f64 _ 4607182418800017408 r2 hr2
        have HN' := Lib.hid HN
        clear HN hr1 hr2
      all_goals
        go_wp2_with (first
          | (go_at_call 14
             with_reducible refine (HB.out _).mono ?_
             rintro e w8 ⟨rfl, hb8⟩
             have g3 := Mem.keep hb8 f3
             have Rp8 := Lib.hid ((hb8.block w1.heap.size (Array.getElem?_eq_some_iff.1 Rp7.out).1).trans Rp7.out)
             have Rq8 := Lib.hid ((hb8.block w2.heap.size (Array.getElem?_eq_some_iff.1 Rq7.out).1).trans Rq7.out)
             have Hb8 := Lib.hid (Mem.then_ Hbel7.out hb8)
             clear hb8 f0 f1 f2 f3)
          | (refine Mem.wpList_store rfl 24 (.tmp 4) (.tmp 31) rfl _ #[.float .f64 X', .float .f64 Y', .bool _] rfl rfl _ _ Rq8.out Pac.size_ref rfl (Pac.one_pace _ _ _) ?_
             intro w9 hp9
             have hsz9 := Hb1.out.size
             have f3 : w9.cell? ⟨b, off + k, none⟩ = some (.float .f64 t) := by
               have h2 : w9.heap[b]? = _ := hp9.other b (by have := block_lt_of_cell Hcell.out; have := Hn2.out.size; intro h; simp at *; omega)
               unfold World.cell? at g3 ⊢
               rw [h2]; exact g3
             have e0 : w9.cell? ⟨w1.heap.size, 0, none⟩ = some (.float .f64 X') := (cell_of_row _ _ 0 _ _ _ ((hp9.other _ Hne.out).trans Rp8.out)).trans rfl
             have e1 : w9.cell? ⟨w1.heap.size, 1, none⟩ = some (.float .f64 Y') := (cell_of_row _ _ 1 _ _ _ ((hp9.other _ Hne.out).trans Rp8.out)).trans rfl
             have e2 : w9.cell? ⟨w1.heap.size, 2, none⟩ = some (.bool _) := (cell_of_row _ _ 2 _ _ _ ((hp9.other _ Hne.out).trans Rp8.out)).trans rfl
             have q0 : w9.cell? ⟨w2.heap.size, 0, none⟩ = some (.float .f64 X') := (cell_of_row _ _ 0 _ _ _ hp9.row).trans rfl
             have q1 : w9.cell? ⟨w2.heap.size, 1, none⟩ = some (.float .f64 Y') := (cell_of_row _ _ 1 _ _ _ hp9.row).trans rfl
             have q2 : w9.cell? ⟨w2.heap.size, 2, none⟩ = some (.bool _) := (cell_of_row _ _ 2 _ _ _ hp9.row).trans rfl
             have Rp9 := Lib.hid ((hp9.other _ Hne.out).trans Rp8.out)
             have Rq9 := Lib.hid hp9.row
             have Hb9 := Lib.hid (Hb8.out.trans (hp9.below (show w.heap.size ≤ w2.heap.size by have := Hn2.out.size; omega)))
             clear hp9 g3 hsz9)
          | (go_at_call 9
             refine (pace_may X' Y' _ _).mono ?_
             rw [Hmay.out]
             rintro e w10 ⟨rfl, hb10⟩
             have g0 := Mem.keep hb10 e0
             have g1 := Mem.keep hb10 e1
             have g2 := Mem.keep hb10 e2
             have p0 := Mem.keep hb10 q0
             have p1 := Mem.keep hb10 q1
             have p2 := Mem.keep hb10 q2
             have Rp10 := Lib.hid ((hb10.block w1.heap.size (Array.getElem?_eq_some_iff.1 Rp9.out).1).trans Rp9.out)
             have Rq10 := Lib.hid ((hb10.block w2.heap.size (Array.getElem?_eq_some_iff.1 Rq9.out).1).trans Rq9.out)
             have Hb10 := Lib.hid (Mem.then_ Hb9.out hb10)
             clear hb10 e0 e1 e2 q0 q1 q2 f3)
          | (go_at_call 12
             refine (pace_same X' Y' _ _).mono ?_
             rintro e w11 ⟨rfl, hb11⟩
             have e0 := Mem.keep hb11 g0
             have e1 := Mem.keep hb11 g1
             have e2 := Mem.keep hb11 g2
             have Rp11 := Lib.hid ((hb11.block w1.heap.size (Array.getElem?_eq_some_iff.1 Rp10.out).1).trans Rp10.out)
             have Rq11 := Lib.hid ((hb11.block w2.heap.size (Array.getElem?_eq_some_iff.1 Rq10.out).1).trans Rq10.out)
             have Hb11 := Lib.hid (Mem.then_ Hb10.out hb11)
             clear hb11 g0 g1 g2 p0 p1 p2))
      all_goals
        go_roundw
        case rel => exact ⟨k + 1, _, _, _, X', Y', by omega, rfl, rfl, rfl, by go_num, Hb11.out, Rp11.out, Rq11.out, HX'.out, HY'.out, HZ.out, HN'.out⟩
        case measure => simp [intOf]; omega
    · have hk2 : k = len := by omega
      subst hk2
      have d2 : decide ((k : Int) < k) = false := decide_eq_false (by omega)
      go_wp2
      go_ret
      exact ⟨rfl, HR.out.bel⟩

theorem paceRuns_walk (a0 : Option Addr) (len0 cap0 : Nat) (w : World)  (h0 : ∃ (H : Type) (enc : TypeId × Value → H) (d : DataW H) (p : List MemPlace), DataW.Trod enc Try.prog w 0 (fun _ => true) true 41 (.slice a0 len0 cap0) d p) :
    Calls Try.prog 6 #[.slice a0 len0 cap0] w fun e w' => e = .returned (.bool true) ∧ Below w.heap.size w w' := by
  obtain ⟨H, enc, d, p, h⟩ := h0
  by_cases hl : len0 = 0
  · subst hl; exact paceRuns_none a0 cap0 w
  · obtain ⟨b, off, x, rfl, hx⟩ := Pac.floats h (by omega)
    exact paceRuns_main b off x len0 cap0 w hx
end Go.Proofs.Ytmfaadhclbfhoaa
