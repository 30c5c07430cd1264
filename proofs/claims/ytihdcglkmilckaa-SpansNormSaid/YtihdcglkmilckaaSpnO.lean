/- The walk of spans.Open. -/
import Derived.Test.YtihdcglkmilckaaSpnP
namespace Go.Proofs.Ytihdcglkmilckaa
open Go.RowKit

namespace Spn
open PSpansOpen Go.Proofs.YtihdcglkmilckaaW.PrintWords
/-- a list's cells -/
def At (w : World) (b off : Nat) (l : List Span) : Prop := ∀ i s, l[i]? = some s → w.cell? ⟨b, off + i * 2, none⟩ = some (.int .i64 s.f0) ∧ w.cell? ⟨b, off + i * 2 + 1, none⟩ = some (.int .i64 s.f1)
theorem at_of {w : World} {A : Option Addr} {l : List Span} (h : Kd.C k42 w A l.length l) (hl : 0 < l.length) : ∃ b off, A = some ⟨b, off, none⟩ ∧ At w b off l := by
  obtain ⟨ad, rfl, hc⟩ := h.2.2 hl
  obtain ⟨b, off, spot⟩ := ad
  have hcell : ∀ j p, l[j]? = some p → w.cell? ((⟨b, off, spot⟩ : Addr).add (j * 2)) = some (.int .i64 p.f0) ∧ w.cell? ((⟨b, off, spot⟩ : Addr).add (j * 2 + 1)) = some (.int .i64 p.f1) := by
    intro j p hp
    obtain ⟨c, _, hK, hcc⟩ := hc j p hp
    obtain rfl := k42_open hK
    exact ⟨hcc 0 _ rfl, hcc 1 _ rfl⟩
  have hspot : spot = none := by
    obtain ⟨s, hs⟩ := at_lt l 0 hl
    simpa [Addr.add] using World.cell?_spot (hcell 0 s hs).1
  subst hspot
  refine ⟨b, off, rfl, fun i s hs => ?_⟩
  have := hcell i s hs
  rw [Go.WideShapes.add_plain, Go.WideShapes.add_plain] at this
  exact this
theorem cells_below {w w1 : World} {b off : Nat} {l : List Span} {B : Nat} (h : At w b off l) (hb : Below B w w1) (hB : w.heap.size ≤ B) : At w1 b off l := fun i s hs =>
  ⟨(hb.cell (p := ⟨b, off + i * 2, none⟩) (Nat.lt_of_lt_of_le (block_lt_of_cell (h i s hs).1) hB)).trans (h i s hs).1, (hb.cell (p := ⟨b, off + i * 2 + 1, none⟩) (Nat.lt_of_lt_of_le (block_lt_of_cell (h i s hs).2) hB)).trans (h i s hs).2⟩
theorem own_lt {w : World} {base : Nat} {v : Value} {l : List Span} (h : Own w base v l) {k : Nat} (hk : v.ownBlock = some k) : k < w.heap.size ∧ base ≤ k := by
  rcases h.2 with ⟨rfl, _⟩ | ⟨g, cap, cur, rfl, hg, hh, _⟩
  · simp [Value.ownBlock] at hk
  · have : g = k := by simpa [Value.ownBlock] using hk
    subst this
    exact ⟨(Array.getElem?_eq_some_iff.1 hh).1, hg⟩
theorem grown_cell {w w1 : World} {row : Option Nat} (hg : w.grownBy w1 row) {x : Addr} {v : Value} (h : w.cell? x = some v) (hne : some x.block ≠ row) : w1.cell? x = some v :=
  (World.cell?_of_block (hg.block _ (block_lt_of_cell h) hne)).trans h
theorem grown_base {w w1 : World} {base : Nat} {v : Value} {l : List Span} (h : Own w base v l) (hg : w.grownBy w1 v.ownBlock) (hb : base ≤ w.heap.size) : Below base w w1 :=
  ⟨hg.os, hg.tape, hg.output, hg.size, fun k hk => hg.block k (by omega) fun e => by have := (own_lt h e.symm).2; omega⟩
/-- spans of places that are places -/
def Fits (l : List Span) : Prop := ∀ t ∈ l, 0 ≤ t.f0 ∧ 0 ≤ t.f1 ∧ fin t ≤ 20000
theorem fits_nil : Fits [] := fun t h => by cases h
theorem fits_last {l : List Span} (h : Fits l) (t : Span) (ht : l.getLast? = some t) : Mild t := by
  obtain ⟨h1, h2, h3⟩ := h t (List.mem_of_getLast? ht)
  unfold fin at h3; unfold Mild; omega
theorem fits_add {l : List Span} {s : Span} (h : Fits l) (h0 : 0 ≤ s.f0) (h2 : fin s ≤ 20000) : Fits (add l s) := by
  by_cases h1 : s.f1 < 1
  · rw [add_none l s h1]; exact h
  · rcases List.eq_nil_or_concat l with rfl | ⟨m, t, rfl⟩
    · rw [add_nil s h1]
      intro u hu
      obtain rfl : u = s := by simpa using hu
      omega
    · rw [List.concat_eq_append] at *
      have ht := h t (by simp)
      by_cases hj : s.f0 ≤ fin t
      · rw [add_join m t s h1 hj]
        intro u hu
        rcases List.mem_append.1 hu with hu | hu
        · exact h u (by simp [hu])
        · obtain rfl : u = ⟨t.f0, max (fin t) (fin s) - t.f0⟩ := by simpa using hu
          show 0 ≤ t.f0 ∧ 0 ≤ max (fin t) (fin s) - t.f0 ∧ t.f0 + (max (fin t) (fin s) - t.f0) ≤ 20000
          unfold fin at *; omega
      · rw [add_more m t s h1 hj]
        intro u hu
        rcases List.mem_append.1 hu with hu | hu
        · exact h u hu
        · obtain rfl : u = s := by simpa using hu
          omega
theorem add_len (l : List Span) (s : Span) : (add l s).length ≤ l.length + 1 := by
  by_cases h1 : s.f1 < 1
  · rw [add_none l s h1]; omega
  · rcases List.eq_nil_or_concat l with rfl | ⟨m, t, rfl⟩
    · rw [add_nil s h1]; simp
    · rw [List.concat_eq_append] at *
      by_cases hj : s.f0 ≤ fin t
      · rw [add_join m t s h1 hj]; simp
      · rw [add_more m t s h1 hj]; simp
/-- where a span is cut -/
def cut (a : Int) (s : Span) : Int := min (max a s.f0) (fin s)
def openStep (a n : Int) (out : List Span) (s : Span) : List Span :=
  if cut a s < fin s then add (add out ⟨s.f0, cut a s - s.f0⟩) ⟨cut a s + n, fin s - cut a s⟩ else add out ⟨s.f0, cut a s - s.f0⟩
def opens (a n : Int) (l : List Span) : List Span := l.foldl (openStep a n) []
theorem opens_next (a n : Int) (l : List Span) (i : Nat) (s : Span) (h : l[i]? = some s) : opens a n (l.take (i + 1)) = openStep a n (opens a n (l.take i)) s := by
  obtain ⟨hi, rfl⟩ := List.getElem?_eq_some_iff.1 h
  unfold opens
  rw [List.take_succ_eq_append_getElem hi, List.foldl_append]; rfl
end Spn
open PSpansOpen

set_option maxRecDepth 100000 in
set_option maxHeartbeats 1000000 in
theorem spans_open_no (l : List Spn.Span) (A : Option Addr) (c : Nat) (a n : Int) (w : World) (hC : Go.Proofs.YtihdcglkmilckaaW.PrintWords.Kd.C k42 w A l.length l) (hc : l.length ≤ c) (hl : l.length ≤ 100000) (hno : Spn.asked l a n = false) :
    Calls Try.prog 16 #[.slice A l.length c, .int .i64 a, .int .i64 n] w fun e w' =>
      e = .returned (.tuple #[.slice none 0 0, .int .i64 1]) ∧ Below w.heap.size w w' := by
  have hq := Spn.spans_asked l hl a n (l.length + 1) (by omega)
  rw [hno] at hq
  have HQ := Lib.hid (fun w1 h1 => spans_asked.calls _ A c l a n false w1 h1 hc hq)
  have HC := Lib.hid hC
  clear hq hno hC
  go_enter Try.func16, Try.ntmps16
  go_wp2_with (
    go_at_call 32
    refine (HQ.out _ HC.out).mono ?_
    rintro e w1 ⟨rfl, hb1⟩)
  go_ret2
  exact ⟨rfl, hb1⟩

set_option maxRecDepth 100000 in
set_option maxHeartbeats 1000000 in
theorem spans_open_full (l : List Spn.Span) (K : Nat) (t0 t1 : Int) (hK : l.length = K + 1) (ht : l[K]? = some ⟨t0, t1⟩) (b off c : Nat) (a n : Int) (w : World) (hC : Go.Proofs.YtihdcglkmilckaaW.PrintWords.Kd.C k42 w (some ⟨b, off, none⟩) l.length l) (hA : Spn.At w b off l) (hc : l.length ≤ c) (hl : l.length ≤ 100000)
    (has : Spn.asked l a n = true) (h1 : a < t0 + t1) (h2 : 20000 - (t0 + t1) < n) (hb0 : 0 ≤ t0) (hb1 : 1 ≤ t1) (hb2 : t0 + t1 ≤ 20000) :
    Calls Try.prog 16 #[.slice (some ⟨b, off, none⟩) (K + 1) c, .int .i64 a, .int .i64 n] w fun e w' =>
      e = .returned (.tuple #[.slice none 0 0, .int .i64 4]) ∧ Below w.heap.size w w' := by
  have hq := Spn.spans_asked l hl a n (l.length + 1) (by omega)
  rw [has] at hq
  have HQ := Lib.hid (fun w1 h1 => spans_asked.calls _ (some ⟨b, off, none⟩) c l a n true w1 h1 hc hq)
  rw [hK] at HQ
  have HC := Lib.hid hC
  rw [hK] at HC
  obtain ⟨c0, c1⟩ := hA K _ ht
  have c0' : w.cell? ⟨b, off + K * 2, none⟩ = some (.int .i64 t0) := c0
  have c1' : w.cell? ⟨b, off + K * 2 + 1, none⟩ = some (.int .i64 t1) := c1
  have hfin : Spn.Mild ⟨t0, t1⟩ := by unfold Spn.Mild; simp only; omega
  have HM := Lib.hid hfin
  have d1 : decide ((0 : Int) < (K : Int) + 1) = true := decide_eq_true (by omega)
  have d2 : decide (a < t0 + t1) = true := decide_eq_true h1
  have d3 : decide (20000 - (t0 + t1) < n) = true := decide_eq_true h2
  have d4 : (K : Int) < (K : Int) + 1 := by omega
  have d5 : (0 : Int) ≤ (K : Int) := by omega
  have hK2 : (K : Int) ≤ 100000 := by omega
  have hcap : (K : Int) + 1 ≤ c := by omega
  clear hq has hC c0 c1 hA hc hl hfin ht hK
  go_enter Try.func16, Try.ntmps16
  go_wp2_with (first
    | (go_at_call 32
       refine (HQ.out _ HC.out).mono ?_
       rintro e w1 ⟨rfl, hb1⟩
       have e0 := Mem.keep hb1 c0'
       have e1 := Mem.keep hb1 c1'
       have Hb := Lib.hid hb1
       clear hb1 c0' c1')
    | (go_at_call 30
       refine (spans_fin t0 t1 HM.out _).mono ?_
       rintro e w2 ⟨rfl, hb2⟩
       have f0 := Mem.keep hb2 e0
       have f1 := Mem.keep hb2 e1
       have Hbn := Lib.hid (Mem.then_ Hb.out hb2)
       clear hb2 e0 e1 Hb
       have e0 := f0
       have e1 := f1
       have Hb := Hbn
       clear f0 f1 Hbn))
  go_ret2
  exact ⟨rfl, Hb.out⟩

namespace Spn
theorem zero_span : (Try.prog.info? 42).bind (·.zero) = some (.agg #[.int .i64 0, .int .i64 0]) := by kernel_rfl
theorem size_span : (Try.prog.info? 42).map (·.size) = some 2 := by kernel_rfl
theorem one_span (x y : Int) : (#[Value.int .i64 x, .int .i64 y]).all (·.oneCell') = true := by simp [Value.oneCell']
theorem step_two {a n s0 s1 cutv x z : Int} {out : List Span} (hc : cut a ⟨s0, s1⟩ = cutv) (h : cutv < s0 + s1) (hx : x = cutv - s0) (hz : z = s0 + s1 - cutv) : openStep a n out ⟨s0, s1⟩ = add (add out ⟨s0, x⟩) ⟨cutv + n, z⟩ := by
  subst hx; subst hz
  unfold openStep
  rw [hc, if_pos (show cutv < fin ⟨s0, s1⟩ from h)]; rfl
theorem step_one {a n s0 s1 cutv x : Int} {out : List Span} (hc : cut a ⟨s0, s1⟩ = cutv) (h : ¬ cutv < s0 + s1) (hx : x = cutv - s0) : openStep a n out ⟨s0, s1⟩ = add out ⟨s0, x⟩ := by
  subst hx
  unfold openStep
  rw [hc, if_neg (show ¬ cutv < fin ⟨s0, s1⟩ from h)]
/-- what is opened behind i spans -/
structure OpenAt (l : List Span) (a n : Int) (b off : Nat) (w : World) (i : Nat) (out : List Span) (v : Value) (wr : World) : Prop where
  hi : i ≤ l.length
  own : Own wr w.heap.size v out
  bel : Below w.heap.size w wr
  eq : out = opens a n (l.take i)
  fits : Fits out
  short : out.length ≤ 2 * i
end Spn

set_option maxRecDepth 100000 in
set_option maxHeartbeats 2000000 in
theorem spans_open_yes (l : List Spn.Span) (K : Nat) (t0 t1 : Int) (hK : l.length = K + 1) (ht : l[K]? = some ⟨t0, t1⟩) (b off c : Nat) (a n : Int) (w : World) (hC : Go.Proofs.YtihdcglkmilckaaW.PrintWords.Kd.C k42 w (some ⟨b, off, none⟩) l.length l) (hA : Spn.At w b off l) (hc : l.length ≤ c) (hl : l.length ≤ 10000)
    (has : Spn.asked l a n = true) (hin : ∀ s ∈ l, 0 ≤ s.f0 ∧ 1 ≤ s.f1 ∧ Spn.fin s ≤ 20000) (hfull : ¬ (a < t0 + t1 ∧ 20000 - (t0 + t1) < n)) (hn : ∀ s ∈ l, a < Spn.fin s → n ≤ 20000 - Spn.fin s) (ha0 : 0 ≤ a) (ha2 : a ≤ 20000) (hn0 : 0 ≤ n) :
    Calls Try.prog 16 #[.slice (some ⟨b, off, none⟩) (K + 1) c, .int .i64 a, .int .i64 n] w fun e w' =>
      ∃ v, e = .returned (.tuple #[v, .int .i64 0]) ∧ Spn.Own w' w.heap.size v (Spn.opens a n l) ∧ Below w.heap.size w w' := by
  have hq := Spn.spans_asked l (by omega) a n (l.length + 1) (by omega)
  rw [has] at hq
  have HQ := Lib.hid (fun w1 h1 => spans_asked.calls _ (some ⟨b, off, none⟩) c l a n true w1 h1 hc hq)
  rw [hK] at HQ
  have HC := Lib.hid hC
  rw [hK] at HC
  have HA := Lib.hid hA
  have HK := Lib.hid hK
  have HI := Lib.hid hin
  have HN := Lib.hid hn
  obtain ⟨c0, c1⟩ := hA K _ ht
  have c0' : w.cell? ⟨b, off + K * 2, none⟩ = some (.int .i64 t0) := c0
  have c1' : w.cell? ⟨b, off + K * 2 + 1, none⟩ = some (.int .i64 t1) := c1
  obtain ⟨hb0, hb1, hb2⟩ := hin _ (List.mem_of_getElem? ht)
  have hb2' : t0 + t1 ≤ 20000 := hb2
  have hb0' : 0 ≤ t0 := hb0
  have hb1' : 1 ≤ t1 := hb1
  have hfin : Spn.Mild ⟨t0, t1⟩ := by unfold Spn.Mild; simp only; omega
  have HM := Lib.hid hfin
  have d1 : decide ((0 : Int) < (K : Int) + 1) = true := decide_eq_true (by omega)
  have d4 : (K : Int) < (K : Int) + 1 := by omega
  have d5 : (0 : Int) ≤ (K : Int) := by omega
  have hK2 : (K : Int) ≤ 10000 := by omega
  have hcap : (K : Int) + 1 ≤ c := by omega
  have HL := Lib.hid hl
  clear hq has hC c0 c1 hA hc hl hfin ht hK hin hn hb0 hb1 hb2
  have hways : (decide (a < t0 + t1) = false) ∨ (decide (a < t0 + t1) = true ∧ decide (20000 - (t0 + t1) < n) = false) := by
    by_cases h : a < t0 + t1
    · exact .inr ⟨decide_eq_true h, decide_eq_false (fun h2 => hfull ⟨h, h2⟩)⟩
    · exact .inl (decide_eq_false h)
  clear hfull
  go_enter Try.func16, Try.ntmps16
  rcases hways with d2 | ⟨d2, d3⟩
  all_goals
    go_wp2_with (first
      | (go_at_call 32
         refine (HQ.out _ HC.out).mono ?_
         rintro e w1 ⟨rfl, hb1⟩
         have e0 := Mem.keep hb1 c0'
         have e1 := Mem.keep hb1 c1'
         have Hb := Lib.hid hb1
         clear hb1 c0' c1')
      | (go_at_call 30
         refine (spans_fin t0 t1 HM.out _).mono ?_
         rintro e w2 ⟨rfl, hb2⟩
         have f0 := Mem.keep hb2 e0
         have f1 := Mem.keep hb2 e1
         have Hbn := Lib.hid (Mem.then_ Hb.out hb2)
         clear hb2 e0 e1 Hb
         have e0 := f0
         have e1 := f1
         have Hb := Hbn
         clear f0 f1 Hbn))
    clear e0 e1 d2
    try clear d3
    go_loopw [9, 45] (fun t9 t45 wr => ∃ (i : Nat) (out : List Spn.Span) (v : Value), t9 = v ∧ t45 = .int .i64 i ∧ Spn.OpenAt l a n b off w i out v wr) (fun _ t45 _ => K + 1 - (intOf t45).toNat)
    case atStart => exact ⟨0, [], _, rfl, rfl, by omega, Spn.own_nil _ _, Hb.out, rfl, Spn.fits_nil, by simp⟩
    case round =>
      obtain ⟨i, out, v, rfl, rfl, R⟩ := hrel
      have hi := R.hi
      have HR := Lib.hid R
      clear R
      have hKl := HK.out
      by_cases hlt : i < K + 1
      · obtain ⟨s, hs⟩ := Spn.at_lt l i (by omega)
        obtain ⟨s0, s1⟩ := s
        have hcells := Spn.cells_below HA.out HR.out.bel (Nat.le_refl _) i _ hs
        have c0 : wr.cell? ⟨b, off + i * 2, none⟩ = some (.int .i64 s0) := hcells.1
        have c1 : wr.cell? ⟨b, off + i * 2 + 1, none⟩ = some (.int .i64 s1) := hcells.2
        obtain ⟨hs0, hs1, hs2⟩ := HI.out _ (List.mem_of_getElem? hs)
        have hs0' : 0 ≤ s0 := hs0
        have hs1' : 1 ≤ s1 := hs1
        have hs2' : s0 + s1 ≤ 20000 := hs2
        have hns : a < s0 + s1 → n ≤ 20000 - (s0 + s1) := HN.out _ (List.mem_of_getElem? hs)
        have HS := Lib.hid hs
        have Hns := Lib.hid hns
        have d6 : decide ((i : Int) < (K : Int) + 1) = true := decide_eq_true (by omega)
        have d7 : (i : Int) < (K : Int) + 1 := by omega
        have d8 : (0 : Int) ≤ (i : Int) := by omega
        clear hcells hs hs0 hs1 hs2 hns hKl hi
        go_wp2_with (first
          | (refine Mem.wpList_alloc (o := ⟨some 11, _, _, _, _, _⟩) rfl 42 rfl _ Spn.zero_span ?_
             intro w3 hn3
             have Hn3 := Lib.hid hn3
             clear hn3)
          | (refine Mem.wpList_store rfl 42 (.tmp 11) (.tmp 48) rfl _ #[.int .i64 s0, .int .i64 s1] rfl rfl _ _ Hn3.out.row Spn.size_span rfl (Spn.one_span _ _) ?_
             intro w4 hp4
             have g0 : w4.cell? ⟨wr.heap.size, 0, none⟩ = some (.int .i64 s0) := (cell_of_row _ _ 0 _ _ _ hp4.row).trans rfl
             have g1 : w4.cell? ⟨wr.heap.size, 1, none⟩ = some (.int .i64 s1) := (cell_of_row _ _ 1 _ _ _ hp4.row).trans rfl
             have HO4 := Lib.hid (Spn.own_keep HR.out.own (w1 := w4) (fun k hk _ => (hp4.other k (by omega)).trans (Hn3.out.old hk)))
             have HB4 := Lib.hid (HR.out.bel.trans ((Hn3.out.belowB HR.out.bel.size).trans (hp4.below HR.out.bel.size)))
             have Hz4 := Lib.hid (show wr.heap.size < w4.heap.size by rw [hp4.size, Hn3.out.size]; omega)
             have Hp4 := Lib.hid hp4
             clear hp4 c0 c1))
        have HMs := Lib.hid (show Spn.Mild ⟨s0, s1⟩ by unfold Spn.Mild; simp only; omega)
        have j0 : ∀ i : Mem.Later w4, i.w.cell? ⟨wr.heap.size, 0, none⟩ = some (.int .i64 s0) := fun i => i.cell g0
        have j1 : ∀ i : Mem.Later w4, i.w.cell? ⟨wr.heap.size, 1, none⟩ = some (.int .i64 s1) := fun i => i.cell g1
        have hcut : (a < s0 ∧ ¬ s0 + s1 < s0 ∧ s0 < s0 + s1 ∧ n ≤ 20000 - (s0 + s1)) ∨ (¬ a < s0 ∧ ¬ s0 + s1 < a ∧ a < s0 + s1 ∧ n ≤ 20000 - (s0 + s1)) ∨ (¬ a < s0 ∧ ¬ s0 + s1 < a ∧ ¬ a < s0 + s1) ∨ (¬ a < s0 ∧ s0 + s1 < a) := by have := Hns.out; omega
        simp only [Act.put, List.setIfInBounds_toArray, List.set_cons_zero, List.set_cons_succ]
        refine Mem.wp_region_later (by kernel_rfl) (by kernel_rfl) ?_
        rcases hcut with ⟨hc1, hc2, hc3, hc4⟩ | ⟨hc1, hc2, hc3, hc4⟩ | ⟨hc1, hc2, hc3⟩ | ⟨hc1, hc2⟩
        all_goals
          repeat (go_big_quiet_step ((go_at_call 30; refine Mem.later_call (spans_fin s0 s1 HMs.out _))))
          refine wpQuiet_nil ?_
          rintro _ ⟨⟨wq, hq⟩, rfl⟩
          clear j0 j1
          have g0' := Mem.keep hq g0
          have g1' := Mem.keep hq g1
          have HO := Lib.hid (Spn.own_below HO4.out hq)
          have HB := Lib.hid (Mem.then_ HB4.out hq)
          have Hz := Lib.hid (Nat.lt_of_lt_of_le Hz4.out hq.size)
          clear hq g0 g1
        all_goals
          have hlen := HR.out.short
          have hKl := HL.out
          rw [HK.out] at hKl
          have hlen2 : out.length ≤ 30000 := by omega
          have Hlen := Lib.hid hlen2
          clear hlen hKl hlen2
        all_goals
          go_wp2_with (first
            | (go_at_call 30
               refine (spans_fin s0 s1 HMs.out _).mono ?_
               rintro e w7 ⟨rfl, hb7⟩
               have e0 := Mem.keep hb7 g0'
               have e1 := Mem.keep hb7 g1'
               have HOn := Lib.hid (Spn.own_below HO.out hb7)
               have HBn := Lib.hid (Mem.then_ HB.out hb7)
               have Hzn := Lib.hid (Nat.lt_of_lt_of_le Hz.out hb7.size)
               clear hb7 g0' g1' HO HB Hz
               have g0' := e0
               have g1' := e1
               have HO := HOn
               have HB := HBn
               have Hz := Hzn
               clear e0 e1 HOn HBn Hzn)
            | (go_at_call 33
               refine (spans_add _ _ _ _ w.heap.size _ HO.out (by have := Hlen.out; omega) (Spn.fits_last HR.out.fits) (by unfold Spn.Mild; simp only; omega) HB.out.size).mono ?_
               rintro e w5 ⟨v5, rfl, ho5, hg5, hat5⟩
               have e0 := Spn.grown_cell hg5 g0' (fun e => by have := (Spn.own_lt HR.out.own e.symm).1; simp at this)
               have e1 := Spn.grown_cell hg5 g1' (fun e => by have := (Spn.own_lt HR.out.own e.symm).1; simp at this)
               have HO5 := Lib.hid ho5
               have HB5 := Lib.hid (HB.out.trans (Spn.grown_base HO.out hg5 HB.out.size))
               have Hat5 := Lib.hid hat5
               clear ho5 hg5 hat5 HO HB g0' g1')
            | (go_at_call 30
               refine (spans_fin s0 s1 HMs.out _).mono ?_
               rintro e w7 ⟨rfl, hb7⟩
               have g0' := Mem.keep hb7 e0
               have g1' := Mem.keep hb7 e1
               have HOn := Lib.hid (Spn.own_below HO5.out hb7)
               have HBn := Lib.hid (Mem.then_ HB5.out hb7)
               clear hb7 e0 e1 HO5 HB5
               have e0 := g0'
               have e1 := g1'
               have HO5 := HOn
               have HB5 := HBn
               clear g0' g1' HOn HBn)
            | (go_at_call 33
               refine (spans_add _ _ _ _ w.heap.size _ HO5.out (Nat.le_trans (Spn.add_len _ _) (by have := Hlen.out; omega)) (Spn.fits_last (Spn.fits_add HR.out.fits (by simp only; omega) (by unfold Spn.fin; simp only; omega))) (by unfold Spn.Mild; simp only; omega) HB5.out.size).mono ?_
               rintro e w6 ⟨v6, rfl, ho6, hg6, _⟩
               have HO6 := Lib.hid ho6
               have HB6 := Lib.hid (HB5.out.trans (Spn.grown_base HO5.out hg6 HB5.out.size))
               clear ho6 hg6 HO5 HB5 e0 e1))
        all_goals
          go_roundw
          case measure => simp [intOf]; omega
          case rel =>
            first
              | exact ⟨i + 1, _, _, rfl, by go_num, by rw [HK.out]; omega, HO6.out, HB6.out,
                  by rw [Spn.opens_next _ _ _ _ _ HS.out, ← HR.out.eq]; exact (Spn.step_two (by unfold Spn.cut Spn.fin; simp only; omega) (by omega) (by omega) (by omega)).symm,
                  Spn.fits_add (Spn.fits_add HR.out.fits (by simp only; omega) (by unfold Spn.fin; simp only; omega)) (by simp only; omega) (by unfold Spn.fin; simp only; omega),
                  Nat.le_trans (Spn.add_len _ _) (Nat.le_trans (Nat.succ_le_succ (Spn.add_len _ _)) (by have := HR.out.short; omega))⟩
              | exact ⟨i + 1, _, _, rfl, by go_num, by rw [HK.out]; omega, HO5.out, HB5.out,
                  by rw [Spn.opens_next _ _ _ _ _ HS.out, ← HR.out.eq]; exact (Spn.step_one (cutv := a) (by unfold Spn.cut Spn.fin; simp only; omega) (by omega) (by omega)).symm,
                  Spn.fits_add HR.out.fits (by simp only; omega) (by unfold Spn.fin; simp only; omega), Nat.le_trans (Spn.add_len _ _) (by have := HR.out.short; omega)⟩
              | exact ⟨i + 1, _, _, rfl, by go_num, by rw [HK.out]; omega, HO5.out, HB5.out,
                  by rw [Spn.opens_next _ _ _ _ _ HS.out, ← HR.out.eq]; exact (Spn.step_one (cutv := s0 + s1) (by unfold Spn.cut Spn.fin; simp only; omega) (by omega) (by omega)).symm,
                  Spn.fits_add HR.out.fits (by simp only; omega) (by unfold Spn.fin; simp only; omega), Nat.le_trans (Spn.add_len _ _) (by have := HR.out.short; omega)⟩
      · have hiK : i = K + 1 := by omega
        have d6 : decide ((i : Int) < (K : Int) + 1) = false := decide_eq_false (by omega)
        go_wp2
        go_ret2
        refine ⟨_, rfl, ?_, HR.out.bel⟩
        have h1 := HR.out.own
        rw [HR.out.eq, hiK, ← HK.out, List.take_length] at h1
        exact h1
end Go.Proofs.Ytihdcglkmilckaa
