/- The walk of spans.add. -/
import Derived.Test.YtihdcglkmilckaaSpnM
import Derived.Test.YtihdcglkmilckaaBut
import Derived.Test.YtihdcglkmilckaaTail
import Derived.Test.YtihdcglkmilckaaPSpansOpenx2
import Derived.Deep.RegionHeld3
import Derived.Deep.DeepCutAuto
namespace Go.Proofs.Ytihdcglkmilckaa
open Go.RowKit

namespace Spn
open PSpansOpen Go.Proofs.YtihdcglkmilckaaW.PrintWords
/-- the end of a span, and one joined to the last one -/
def fin (s : Span) : Int := s.f0 + s.f1
def add (l : List Span) (s : Span) : List Span :=
  if s.f1 < 1 then l else
  match l.getLast? with
  | none => [s]
  | some t => if s.f0 ≤ fin t then l.dropLast ++ [⟨t.f0, max (fin t) (fin s) - t.f0⟩] else l ++ [s]
theorem add_none (l : List Span) (s : Span) (h : s.f1 < 1) : add l s = l := by unfold add; rw [if_pos h]
theorem add_nil (s : Span) (h : ¬ s.f1 < 1) : add [] s = [s] := by unfold add; rw [if_neg h]; rfl
theorem add_join (m : List Span) (t s : Span) (h : ¬ s.f1 < 1) (h2 : s.f0 ≤ fin t) : add (m ++ [t]) s = m ++ [⟨t.f0, max (fin t) (fin s) - t.f0⟩] := by
  unfold add; rw [if_neg h, List.getLast?_concat]; simp only []; rw [if_pos h2, List.dropLast_concat]
theorem add_more (m : List Span) (t s : Span) (h : ¬ s.f1 < 1) (h2 : ¬ s.f0 ≤ fin t) : add (m ++ [t]) s = m ++ [t] ++ [s] := by
  unfold add; rw [if_neg h, List.getLast?_concat]; simp only []; rw [if_neg h2]
/-- numbers that stay far from the ends of their kind -/
def Mild (s : Span) : Prop := -1099511627776 ≤ s.f0 ∧ s.f0 ≤ 1099511627776 ∧ -1099511627776 ≤ s.f1 ∧ s.f1 ≤ 1099511627776
theorem wrap_id {x : Int} (h : -9223372036854775808 ≤ x) (h2 : x ≤ 9223372036854775807) : wrap64 x = x := by unfold wrap64; omega
theorem grown_below {w w1 w2 : World} {row : Option Nat} (hb : Below w.heap.size w w1) (hg : w1.grownBy w2 row) : w.grownBy w2 row :=
  ⟨hg.os.trans hb.os, hg.tape.trans hb.tape, hg.output.trans hb.output, Nat.le_trans hb.size hg.size, fun k hk hne => (hg.block k (Nat.lt_of_lt_of_le hk hb.size) hne).trans (hb.block k hk)⟩
theorem at_below {w w1 : World} {v v' : Value} (hb : Below w.heap.size w w1) (h : v'.ownBlock = v.ownBlock ∨ ∃ b, v'.ownBlock = some b ∧ w1.heap.size ≤ b) : v'.ownBlock = v.ownBlock ∨ ∃ b, v'.ownBlock = some b ∧ w.heap.size ≤ b := by
  rcases h with h | ⟨b, h1, h2⟩
  · exact .inl h
  · exact .inr ⟨b, h1, Nat.le_trans hb.size h2⟩
end Spn

open PSpansOpen
theorem spans_fin (a b : Int) (h : Spn.Mild ⟨a, b⟩) (w : World) :
    Calls Try.prog 30 #[.agg #[.int .i64 a, .int .i64 b]] w fun e w' => e = .returned (.int .i64 (a + b)) ∧ Below w.heap.size w w' := by
  obtain ⟨h1, h2, h3, h4⟩ := h
  have h1' : -1099511627776 ≤ a := h1
  have h2' : a ≤ 1099511627776 := h2
  have h3' : -1099511627776 ≤ b := h3
  have h4' : b ≤ 1099511627776 := h4
  exact spans_end.calls a b (a + b) w (by unfold spans_end.f; rw [Spn.wrap_id (by omega) (by omega)])

set_option maxRecDepth 100000 in
set_option maxHeartbeats 1000000 in
theorem spans_add_none (l : List Spn.Span) (f n : Int) (v : Value) (base : Nat) (w : World) (ho : Spn.Own w base v l) (hn : n < 1) (hbase : base ≤ w.heap.size) :
    Calls Try.prog 33 #[v, .agg #[.int .i64 f, .int .i64 n]] w fun e w' => e = .returned v ∧ Below w.heap.size w w' := by
  have d1 : decide (n < 1) = true := decide_eq_true hn
  have Ho := Lib.hid ho
  have Hb := Lib.hid hbase
  clear ho hbase
  go_enter Try.func33, Try.ntmps33
  go_wp2_with (
    refine Mem.wpList_box (o := ⟨some 3, _, _, _, _, _⟩) rfl 42 _ rfl (.agg #[.int .i64 f, .int .i64 n]) rfl ?_
    intro w1 hn1
    have f0 := hn1.cell1 0 (v := .int .i64 f) rfl
    have f1 := hn1.cell1 1 (v := .int .i64 n) rfl
    have Hn1 := Lib.hid hn1
    clear hn1)
  go_ret
  exact ⟨rfl, Hn1.out.below⟩


set_option maxRecDepth 100000 in
set_option maxHeartbeats 1000000 in
theorem spans_add_first (A : Option Addr) (cap : Nat) (f n : Int) (base : Nat) (w : World) (ho : Spn.Own w base (.slice A 0 cap) []) (hn : ¬ n < 1) (hbase : base ≤ w.heap.size) :
    Calls Try.prog 33 #[.slice A 0 cap, .agg #[.int .i64 f, .int .i64 n]] w fun e w' =>
      ∃ v', e = .returned v' ∧ Spn.Own w' base v' [⟨f, n⟩] ∧ w.grownBy w' (Value.slice A 0 cap).ownBlock ∧ (v'.ownBlock = (Value.slice A 0 cap).ownBlock ∨ ∃ b, v'.ownBlock = some b ∧ w.heap.size ≤ b) := by
  have d1 : decide (n < 1) = false := decide_eq_false hn
  have Ho := Lib.hid ho
  have Hb := Lib.hid hbase
  clear ho hbase
  go_enter Try.func33, Try.ntmps33
  go_wp2_with (
    refine Mem.wpList_box (o := ⟨some 3, _, _, _, _, _⟩) rfl 42 _ rfl (.agg #[.int .i64 f, .int .i64 n]) rfl ?_
    intro w1 hn1
    have f0 := hn1.cell1 0 (v := .int .i64 f) rfl
    have f1 := hn1.cell1 1 (v := .int .i64 n) rfl
    have Hn1 := Lib.hid hn1
    clear hn1)
  go_quiet (fail)
  go_wp2_with (
    refine Spn.append_one (o := ⟨some 47, _, _, _, _, _⟩) rfl (.tmp 44) (.tmp 46) rfl base [] ⟨f, n⟩ _ rfl rfl (Spn.own_drew (Spn.own_below Ho.out Hn1.out.below) _) (by simp) (by have := Hn1.out.size; have := Hb.out; simp; omega) ?_
    intro v' w2 ho2 hg2 hat2
    have Ho2 := Lib.hid ho2
    have Hg2 := Lib.hid hg2
    have Hat2 := Lib.hid hat2
    clear ho2 hg2 hat2)
  go_ret
  exact ⟨_, rfl, Ho2.out, Spn.grown_below (Mem.below_drewN Hn1.out.below _) Hg2.out, Spn.at_below (Mem.below_drewN Hn1.out.below _) Hat2.out⟩

set_option maxRecDepth 100000 in
set_option maxHeartbeats 1000000 in
theorem spans_add_more (A : Option Addr) (cap : Nat) (m : List Spn.Span) (t0 t1 f n : Int) (base : Nat) (w : World) (ho : Spn.Own w base (.slice A (m.length + 1) cap) (m ++ [⟨t0, t1⟩])) (hn : ¬ n < 1) (hf : ¬ f ≤ t0 + t1) (ht : Spn.Mild ⟨t0, t1⟩)
    (hm : m.length ≤ 100000) (hbase : base ≤ w.heap.size) :
    Calls Try.prog 33 #[.slice A (m.length + 1) cap, .agg #[.int .i64 f, .int .i64 n]] w fun e w' =>
      ∃ v', e = .returned v' ∧ Spn.Own w' base v' (m ++ [⟨t0, t1⟩] ++ [⟨f, n⟩]) ∧ w.grownBy w' (Value.slice A (m.length + 1) cap).ownBlock ∧ (v'.ownBlock = (Value.slice A (m.length + 1) cap).ownBlock ∨ ∃ b, v'.ownBlock = some b ∧ w.heap.size ≤ b) := by
  have d1 : decide (n < 1) = false := decide_eq_false hn
  have d2 : decide (f ≤ t0 + t1) = false := decide_eq_false hf
  have hl : (m ++ [(⟨t0, t1⟩ : Spn.Span)]).length = m.length + 1 := by simp
  obtain ⟨g, cur, rfl, hg1, hg2, hg3, hg4, hg5, hg6⟩ := Spn.own_at (l := m ++ [⟨t0, t1⟩]) (by rw [hl]; exact ho) (by omega)
  obtain ⟨q0, q1⟩ := Spn.own_cell hg2 hg4 m.length ⟨t0, t1⟩ (by simp)
  rw [hl] at hg5
  have c0 : w.cell? ⟨g, m.length * 2, none⟩ = some (.int .i64 t0) := q0
  have c1 : w.cell? ⟨g, m.length * 2 + 1, none⟩ = some (.int .i64 t1) := q1
  obtain ⟨k, hk⟩ : ∃ k, m.length = k := ⟨_, rfl⟩
  rw [hk] at ho hm c0 c1 hg5 hl ⊢
  have Ho := Lib.hid ho
  have Hb := Lib.hid hbase
  have Hl := Lib.hid hl
  have Ht := Lib.hid ht
  have Hg2 := Lib.hid hg2
  have d3 : decide ((0 : Int) ≤ (k : Int)) = true := decide_eq_true (by omega)
  have d4 : (k : Int) < (k : Int) + 1 := by omega
  have d5 : (0 : Int) ≤ (k : Int) := by omega
  clear ho hbase hl ht hg2 hg3 hg4 q0 q1 hk hf
  go_enter Try.func33, Try.ntmps33
  go_wp2_with (
    refine Mem.wpList_box (o := ⟨some 3, _, _, _, _, _⟩) rfl 42 _ rfl (.agg #[.int .i64 f, .int .i64 n]) rfl ?_
    intro w1 hn1
    have f0 := hn1.cell1 0 (v := .int .i64 f) rfl
    have f1 := hn1.cell1 1 (v := .int .i64 n) rfl
    have e0 := Mem.keep hn1.below c0
    have e1 := Mem.keep hn1.below c1
    have Hn1 := Lib.hid hn1
    clear hn1 c0 c1)
  have j0 : ∀ i : Mem.Later w1, i.w.cell? ⟨w.heap.size, 0, none⟩ = some (.int .i64 f) := fun i => i.cell f0
  have j1 : ∀ i : Mem.Later w1, i.w.cell? ⟨g, k * 2, none⟩ = some (.int .i64 t0) := fun i => i.cell e0
  have j2 : ∀ i : Mem.Later w1, i.w.cell? ⟨g, k * 2 + 1, none⟩ = some (.int .i64 t1) := fun i => i.cell e1
  refine Mem.wp_region_later (by kernel_rfl) (by kernel_rfl) ?_
  repeat (go_big_quiet_step ((go_at_call 30; refine Mem.later_call (spans_fin t0 t1 Ht.out _))))
  refine wpQuiet_nil ?_
  rintro _ ⟨⟨wq, hq⟩, rfl⟩
  clear j0 j1 j2
  have f0 := Mem.keep hq f0
  have f1 := Mem.keep hq f1
  have Hq := Lib.hid (Mem.then_ Hn1.out.below hq)
  clear hq e0 e1
  go_wp2_with (
    refine Spn.append_one (o := ⟨some 47, _, _, _, _, _⟩) rfl (.tmp 44) (.tmp 46) rfl base (m ++ [⟨t0, t1⟩]) ⟨f, n⟩ _ rfl rfl (Spn.own_below Ho.out Hq.out) (by rw [Hl.out]; omega) (by have := Hq.out.size; have := Hb.out; omega) ?_
    intro v' w2 ho2 hg2 hat2
    have Ho2 := Lib.hid ho2
    have Hg3 := Lib.hid hg2
    have Hat2 := Lib.hid hat2
    clear ho2 hg2 hat2)
  go_ret
  exact ⟨_, rfl, Ho2.out, Spn.grown_below Hq.out Hg3.out, Spn.at_below Hq.out Hat2.out⟩

set_option maxRecDepth 100000 in
set_option maxHeartbeats 1000000 in
theorem spans_add_join (A : Option Addr) (cap : Nat) (m : List Spn.Span) (t0 t1 f n : Int) (base : Nat) (w : World) (ho : Spn.Own w base (.slice A (m.length + 1) cap) (m ++ [⟨t0, t1⟩])) (hn : ¬ n < 1) (hf : f ≤ t0 + t1) (ht : Spn.Mild ⟨t0, t1⟩) (hs : Spn.Mild ⟨f, n⟩)
    (hm : m.length ≤ 100000) (hbase : base ≤ w.heap.size) :
    Calls Try.prog 33 #[.slice A (m.length + 1) cap, .agg #[.int .i64 f, .int .i64 n]] w fun e w' =>
      e = .returned (.slice A (m.length + 1) cap) ∧ Spn.Own w' base (.slice A (m.length + 1) cap) (m ++ [⟨t0, max (t0 + t1) (f + n) - t0⟩]) ∧ w.grownBy w' (Value.slice A (m.length + 1) cap).ownBlock := by
  have d1 : decide (n < 1) = false := decide_eq_false hn
  have d2 : decide (f ≤ t0 + t1) = true := decide_eq_true hf
  have hl : (m ++ [(⟨t0, t1⟩ : Spn.Span)]).length = m.length + 1 := by simp
  obtain ⟨g, cur, rfl, hg1, hg2, hg3, hg4, hg5, hg6⟩ := Spn.own_at (l := m ++ [⟨t0, t1⟩]) (by rw [hl]; exact ho) (by omega)
  obtain ⟨q0, q1⟩ := Spn.own_cell hg2 hg4 m.length ⟨t0, t1⟩ (by simp)
  rw [hl] at hg5
  have c0 : w.cell? ⟨g, m.length * 2, none⟩ = some (.int .i64 t0) := q0
  have c1 : w.cell? ⟨g, m.length * 2 + 1, none⟩ = some (.int .i64 t1) := q1
  have Ho := Lib.hid ho
  obtain ⟨k, hk⟩ : ∃ k, m.length = k := ⟨_, rfl⟩
  have Hk := Lib.hid hk
  rw [hk] at hm c0 c1 hg5 hl ⊢
  have Hb := Lib.hid hbase
  have Hl := Lib.hid hl
  have Ht := Lib.hid ht
  have Hs := Lib.hid hs
  have Hg2 := Lib.hid hg2
  have d3 : decide ((0 : Int) ≤ (k : Int)) = true := decide_eq_true (by omega)
  have d4 : (k : Int) < (k : Int) + 1 := by omega
  have d5 : (0 : Int) ≤ (k : Int) := by omega
  clear ho hbase hl hg2 hg3 hg4 q0 q1 hk hf hs ht
  go_enter Try.func33, Try.ntmps33
  go_wp2_with (
    refine Mem.wpList_box (o := ⟨some 3, _, _, _, _, _⟩) rfl 42 _ rfl (.agg #[.int .i64 f, .int .i64 n]) rfl ?_
    intro w1 hn1
    have f0 := hn1.cell1 0 (v := .int .i64 f) rfl
    have f1 := hn1.cell1 1 (v := .int .i64 n) rfl
    have e0 := Mem.keep hn1.below c0
    have e1 := Mem.keep hn1.below c1
    have Hn1 := Lib.hid hn1
    clear hn1 c0 c1)
  have j0 : ∀ i : Mem.Later w1, i.w.cell? ⟨w.heap.size, 0, none⟩ = some (.int .i64 f) := fun i => i.cell f0
  have j1 : ∀ i : Mem.Later w1, i.w.cell? ⟨g, k * 2, none⟩ = some (.int .i64 t0) := fun i => i.cell e0
  have j2 : ∀ i : Mem.Later w1, i.w.cell? ⟨g, k * 2 + 1, none⟩ = some (.int .i64 t1) := fun i => i.cell e1
  refine Mem.wp_region_later (by kernel_rfl) (by kernel_rfl) ?_
  repeat (go_big_quiet_step ((go_at_call 30; refine Mem.later_call (spans_fin t0 t1 Ht.out _))))
  refine wpQuiet_nil ?_
  rintro _ ⟨⟨wq, hq⟩, rfl⟩
  clear j0 j1 j2
  have f0 := Mem.keep hq f0
  have f1 := Mem.keep hq f1
  have e0 := Mem.keep hq e0
  have e1 := Mem.keep hq e1
  have hrow := ((Mem.then_ Hn1.out.below hq).block g (Array.getElem?_eq_some_iff.1 Hg2.out).1).trans Hg2.out
  have Hrow := Lib.hid hrow
  have Hq := Lib.hid (Mem.then_ Hn1.out.below hq)
  have hb1 : -1099511627776 ≤ t0 := Ht.out.1
  have hb2 : t0 ≤ 1099511627776 := Ht.out.2.1
  have hb3 : -1099511627776 ≤ t1 := Ht.out.2.2.1
  have hb4 : t1 ≤ 1099511627776 := Ht.out.2.2.2
  have hb5 : -1099511627776 ≤ f := Hs.out.1
  have hb6 : f ≤ 1099511627776 := Hs.out.2.1
  have hb7 : -1099511627776 ≤ n := Hs.out.2.2.1
  have hb8 : n ≤ 1099511627776 := Hs.out.2.2.2
  clear hq hrow
  go_wp2
  have j0 : ∀ i : Mem.Later _, i.w.cell? ⟨w.heap.size, 0, none⟩ = some (.int .i64 f) := fun i => i.cell f0
  have j1 : ∀ i : Mem.Later _, i.w.cell? ⟨w.heap.size, 1, none⟩ = some (.int .i64 n) := fun i => i.cell f1
  have j2 : ∀ i : Mem.Later _, i.w.cell? ⟨g, k * 2, none⟩ = some (.int .i64 t0) := fun i => i.cell e0
  have j3 : ∀ i : Mem.Later _, i.w.cell? ⟨g, k * 2 + 1, none⟩ = some (.int .i64 t1) := fun i => i.cell e1
  refine Mem.wp_region_later_tail 18 (by kernel_rfl) (by kernel_rfl) ?_
  simp only [List.take_succ_cons, List.take_zero, List.drop_succ_cons, List.drop_zero]
  by_cases hmx : t0 + t1 < f + n
  all_goals
    repeat (go_big_quiet_step ((go_at_call 30; first | (with_reducible refine Mem.later_call (spans_fin t0 t1 Ht.out _)) | (with_reducible refine Mem.later_call (spans_fin f n Hs.out _)))))
  all_goals
    refine wpQuiet_nil ?_
    rintro _ ⟨⟨wr, hr⟩, rfl⟩
    have hrow := (hr.block g (Array.getElem?_eq_some_iff.1 Hrow.out).1).trans Hrow.out
    have e3 := Mem.keep hr e1
    have e4 := frozen_of_row _ g (k * 2 + 1) _ _ hrow
    have Hrow2 := Lib.hid hrow
    have Hr := Lib.hid (Mem.then_ Hq.out hr)
    clear j0 j1 j2 j3 hr hrow f0 f1 e0 e1
    go_wp2
    go_ret
    refine ⟨rfl, ?_, ?_⟩
    · have ho2 := Spn.own_below Ho.out Hr.out
      have hp := fun y : Int => Mem.put_setCell _ g (k * 2 + 1) (.int .i64 y) _ _ Hrow2.out
      rw [← Hk.out] at hp ⊢
      have := fun y : Int => Spn.own_set ho2 Hrow2.out (hp y)
      have hm : ∀ a b : Int, max a b = if a < b then b else a := by intro a b; split <;> omega
      rw [hm]
      first | rw [if_pos hmx] | rw [if_neg (by omega)]
      exact this _
    · exact ⟨Hr.out.os, Hr.out.tape, Hr.out.output, by simp; exact Hr.out.size, fun j hj hne => (heap_setCell_other _ _ j _ (fun e => hne (by rw [e]; rfl))).trans (Hr.out.block j hj)⟩

/-- add, whatever the list -/
theorem spans_add (l : List Spn.Span) (f n : Int) (v : Value) (base : Nat) (w : World) (ho : Spn.Own w base v l) (hl : l.length ≤ 100000) (hm : ∀ t, l.getLast? = some t → Spn.Mild t) (hs : Spn.Mild ⟨f, n⟩) (hbase : base ≤ w.heap.size) :
    Calls Try.prog 33 #[v, .agg #[.int .i64 f, .int .i64 n]] w fun e w' =>
      ∃ v', e = .returned v' ∧ Spn.Own w' base v' (Spn.add l ⟨f, n⟩) ∧ w.grownBy w' v.ownBlock ∧ (v'.ownBlock = v.ownBlock ∨ ∃ b, v'.ownBlock = some b ∧ w.heap.size ≤ b) := by
  by_cases hn : n < 1
  · rw [Spn.add_none l ⟨f, n⟩ hn]
    exact (spans_add_none l f n v base w ho hn hbase).mono fun e w' ⟨he, hb⟩ => ⟨v, he, Spn.own_below ho hb, ⟨hb.os, hb.tape, hb.output, hb.size, fun k hk _ => hb.block k hk⟩, .inl rfl⟩
  · obtain ⟨A, cap, rfl, _, _⟩ := Spn.own_form ho
    rcases List.eq_nil_or_concat l with rfl | ⟨m, t, rfl⟩
    · rw [Spn.add_nil ⟨f, n⟩ hn]
      exact spans_add_first A cap f n base w ho hn hbase
    · rw [List.concat_eq_append] at *
      have ht := hm t (by simp)
      have hl2 : (m ++ [t]).length = m.length + 1 := by simp
      rw [hl2] at ho hl ⊢
      by_cases hf : f ≤ Spn.fin t
      · rw [Spn.add_join m t ⟨f, n⟩ hn hf]
        exact (spans_add_join A cap m t.f0 t.f1 f n base w ho hn hf ht hs (by omega) hbase).mono fun e w' ⟨he, h1, h2⟩ => ⟨_, he, h1, h2, .inl rfl⟩
      · rw [Spn.add_more m t ⟨f, n⟩ hn hf]
        exact spans_add_more A cap m t.f0 t.f1 f n base w ho hn hf ht (by omega) hbase
end Go.Proofs.Ytihdcglkmilckaa
