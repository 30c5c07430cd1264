/- The walks of spans.Has and of what it calls, and of the reference's Has and Ahead. -/
import Derived.Test.YtihdcglkmilckaaSpnX
namespace Go.Proofs.Ytihdcglkmilckaa
open Go.RowKit

open PSpansOpen
/-- the function that Has hands on -/
def Spn.inside (s : Spn.Span) (p : Int) : Bool := decide (s.f0 ≤ p ∧ p < Spn.fin s)

set_option maxRecDepth 100000 in
set_option maxHeartbeats 1000000 in
theorem has_one (f n p : Int) (g : Nat) (w : World) (hg : w.cell? ⟨g, 0, none⟩ = some (.int .i64 p)) (hm : Spn.Mild ⟨f, n⟩) :
    Calls Try.prog 29 #[.agg #[.int .i64 f, .int .i64 n], .pointer (some ⟨g, 0, none⟩)] w fun e w' =>
      e = .returned (.bool (Spn.inside ⟨f, n⟩ p)) ∧ Below w.heap.size w w' := by
  have HM := Lib.hid hm
  obtain ⟨R, hR⟩ : ∃ R, Spn.inside ⟨f, n⟩ p = R := ⟨_, rfl⟩
  rw [hR]
  have HR := Lib.hid hR
  have hways : (decide (f ≤ p) = false ∧ R = false) ∨ (decide (f ≤ p) = true ∧ decide (p < f + n) = R) := by
    rw [← hR]
    unfold Spn.inside Spn.fin
    simp only
    by_cases h1 : f ≤ p
    · right
      refine ⟨decide_eq_true h1, ?_⟩
      rw [Bool.eq_iff_iff]; simp only [decide_eq_true_eq]; omega
    · left
      exact ⟨decide_eq_false h1, decide_eq_false (by omega)⟩
  clear hm hR
  rcases hways with ⟨d1, rfl⟩ | ⟨d1, d2⟩
  all_goals
    go_enter Try.func29, Try.ntmps29
    go_wp2_with (
      refine Mem.wpList_box (o := ⟨some 2, _, _, _, _, _⟩) rfl 42 _ rfl (.agg #[.int .i64 f, .int .i64 n]) rfl ?_
      intro w1 hn1
      have f0 := hn1.cell1 0 (v := .int .i64 f) rfl
      have f1 := hn1.cell1 1 (v := .int .i64 n) rfl
      have e0 := Mem.keep hn1.below hg
      have Hn1 := Lib.hid hn1
      clear hn1 hg)
    have j0 : ∀ i : Mem.Later w1, i.w.cell? ⟨w.heap.size, 0, none⟩ = some (.int .i64 f) := fun i => i.cell f0
    have j1 : ∀ i : Mem.Later w1, i.w.cell? ⟨w.heap.size, 1, none⟩ = some (.int .i64 n) := fun i => i.cell f1
    have j2 : ∀ i : Mem.Later w1, i.w.cell? ⟨g, 0, none⟩ = some (.int .i64 p) := fun i => i.cell e0
    refine Mem.wp_region_later (by kernel_rfl) (by kernel_rfl) ?_
    repeat (go_big_quiet_step ((go_at_call 30; refine Mem.later_call (spans_fin f n HM.out _))))
    refine wpQuiet_nil ?_
    rintro _ ⟨⟨wq, hq⟩, rfl⟩
    clear j0 j1 j2
    go_wp2
    go_ret
    exact ⟨rfl, Mem.then_ Hn1.out.below hq⟩

/-- the place in a list at which a span lies that has the place, or -1 -/
def Spn.find (l : List Spn.Span) (p : Int) (r : Int) : Prop := (r = -1 ∧ ∀ s ∈ l, Spn.inside s p = false) ∨ (0 ≤ r ∧ ∃ s ∈ l, Spn.inside s p = true)

def Spn.FindPost (l : List Spn.Span) (p : Int) (e : Ending) : Prop := ∃ r : Int, e = .returned (.int .i64 r) ∧ Spn.find l p r
theorem Spn.find_has {l : List Spn.Span} {p r : Int} (h : Spn.find l p r) : decide (0 ≤ r) = Spn.has l p := by
  unfold Spn.has
  rcases h with ⟨rfl, h⟩ | ⟨h0, s, hs, h⟩
  · have : (l.any fun s => decide (s.f0 ≤ p ∧ p < Spn.fin s)) = false := by
      rw [List.any_eq_false]; intro s hs
      have := h s hs
      unfold Spn.inside at this
      rw [this]; simp
    rw [this]; rfl
  · have : (l.any fun s => decide (s.f0 ≤ p ∧ p < Spn.fin s)) = true := by
      rw [List.any_eq_true]; exact ⟨s, hs, h⟩
    rw [this, decide_eq_true h0]

set_option maxRecDepth 100000 in
set_option maxHeartbeats 1000000 in
theorem index_func (l : List Spn.Span) (L : Nat) (hL : l.length = L) (b off c g : Nat) (p : Int) (w : World) (hA : Spn.At w b off l) (hg : w.cell? ⟨g, 0, none⟩ = some (.int .i64 p)) (hm : ∀ s ∈ l, Spn.Mild s) (hl : L ≤ 100000) :
    Calls Try.prog 44 #[.slice (some ⟨b, off, none⟩) L c, .func (.func 29) #[] #[.pointer (some ⟨g, 0, none⟩)]] w fun e w' =>
      Spn.FindPost l p e ∧ Below w.heap.size w w' := by
  have HA := Lib.hid hA
  have HK := Lib.hid hL
  have HM := Lib.hid hm
  clear hA hL hm
  go_enter Try.func44, Try.ntmps44
  go_wp2
  go_loopw [8] (fun t8 wr => ∃ i : Nat, i ≤ L ∧ t8 = .int .i64 i ∧ Below w.heap.size w wr ∧ ∀ s ∈ l.take i, Spn.inside s p = false) (fun t8 _ => L - (intOf t8).toNat)
  case atStart => exact ⟨0, by omega, rfl, Below.refl _ _, fun s hs => by simp at hs⟩
  case round =>
    obtain ⟨i, hi, rfl, hB, hno⟩ := hrel
    have HB := Lib.hid hB
    have HNo := Lib.hid hno
    clear hB hno
    by_cases hlt : i < L
    · obtain ⟨s, hs⟩ := Spn.at_lt l i (by have := HK.out; omega)
      obtain ⟨s0, s1⟩ := s
      have hcells := Spn.cells_below HA.out HB.out (Nat.le_refl _) i _ hs
      have c0 : wr.cell? ⟨b, off + i * 2, none⟩ = some (.int .i64 s0) := hcells.1
      have c1 : wr.cell? ⟨b, off + i * 2 + 1, none⟩ = some (.int .i64 s1) := hcells.2
      have cg : wr.cell? ⟨g, 0, none⟩ = some (.int .i64 p) := (HB.out.cell (block_lt_of_cell hg)).trans hg
      have HS := Lib.hid hs
      have HMs := Lib.hid (HM.out _ (List.mem_of_getElem? hs))
      have Hcg := Lib.hid cg
      have Hg := Lib.hid hg
      have d6 : decide ((i : Int) < (L : Int)) = true := decide_eq_true (by omega)
      have d7 : (i : Int) < (L : Int) := by omega
      have d8 : (0 : Int) ≤ (i : Int) := by omega
      clear hcells hs cg hg
      cases hin : Spn.inside ⟨s0, s1⟩ p with
      | true =>
        have Hin := Lib.hid hin
        clear hin
        go_wp2_with (
          go_at_call 29
          with_reducible refine (has_one s0 s1 p g _ Hcg.out HMs.out).mono ?_
          rw [Hin.out]
          rintro e w2 ⟨rfl, hb2⟩)
        go_ret
        exact ⟨⟨_, rfl, .inr ⟨by omega, _, List.mem_of_getElem? HS.out, Hin.out⟩⟩, Mem.then_ HB.out hb2⟩
      | false =>
        have Hin := Lib.hid hin
        clear hin
        go_wp2_with (
          go_at_call 29
          with_reducible refine (has_one s0 s1 p g _ Hcg.out HMs.out).mono ?_
          rw [Hin.out]
          rintro e w2 ⟨rfl, hb2⟩
          have Hb2 := Lib.hid hb2
          clear hb2)
        go_roundw
        case rel => exact ⟨i + 1, by omega, by go_num, Mem.then_ HB.out Hb2.out, by
          obtain ⟨hi1, e1⟩ := List.getElem?_eq_some_iff.1 HS.out
          rw [List.take_succ_eq_append_getElem hi1, e1]
          intro u hu
          rcases List.mem_append.1 hu with hu | hu
          · exact HNo.out u hu
          · obtain rfl : u = ⟨s0, s1⟩ := by simpa using hu
            exact Hin.out⟩
        case measure => simp [intOf]; omega
    · have hiL : i = L := by omega
      have d6 : decide ((i : Int) < (L : Int)) = false := decide_eq_false (by omega)
      go_wp2
      go_ret
      have h := HNo.out
      rw [hiL, ← HK.out, List.take_length] at h
      exact ⟨⟨_, rfl, .inl ⟨rfl, h⟩⟩, HB.out⟩
theorem index_func_nil (A : Option Addr) (c g : Nat) (p : Int) (w : World) :
    Calls Try.prog 44 #[.slice A 0 c, .func (.func 29) #[] #[.pointer (some ⟨g, 0, none⟩)]] w fun e w' =>
      Spn.FindPost [] p e ∧ Below w.heap.size w w' := by
  go_enter Try.func44, Try.ntmps44
  go_wp2
  go_loop [8] (fun t8 => t8 = .int .i64 0) (fun _ => 0)
  case atStart => rfl
  case round =>
    subst hrel
    go_wp2
    go_ret
    exact ⟨⟨_, rfl, .inl ⟨rfl, fun s hs => by cases hs⟩⟩, Below.refl _ _⟩

set_option maxRecDepth 100000 in
set_option maxHeartbeats 1000000 in
theorem contains_func (l : List Spn.Span) (A : Option Addr) (c g : Nat) (p : Int) (w : World) (hC : Go.Proofs.YtihdcglkmilckaaW.PrintWords.Kd.C k42 w A l.length l) (hg : w.cell? ⟨g, 0, none⟩ = some (.int .i64 p)) (hm : ∀ s ∈ l, Spn.Mild s) (hl : l.length ≤ 100000) :
    Calls Try.prog 28 #[.slice A l.length c, .func (.func 29) #[] #[.pointer (some ⟨g, 0, none⟩)]] w fun e w' =>
      e = .returned (.bool (Spn.has l p)) ∧ Below w.heap.size w w' := by
  have HI := Lib.hid (show Calls Try.prog 44 #[.slice A l.length c, .func (.func 29) #[] #[.pointer (some ⟨g, 0, none⟩)]] w fun e w' => Spn.FindPost l p e ∧ Below w.heap.size w w' by
    by_cases h0 : l.length = 0
    · obtain rfl := List.eq_nil_of_length_eq_zero h0
      exact index_func_nil A c g p w
    · obtain ⟨b, off, rfl, hA⟩ := Spn.at_of hC (by omega)
      exact index_func l l.length rfl b off c g p w hA hg hm hl)
  clear hC hg hm hl
  go_enter Try.func28, Try.ntmps28
  go_wp2_with (
    go_at_call 44
    with_reducible refine HI.out.mono ?_
    rintro e w1 ⟨⟨r, rfl, hr⟩, hb⟩
    have hd := Spn.find_has hr
    have Hr := Lib.hid hr
    have Hd := Lib.hid hd
    clear hr hd)
  go_ret
  exact ⟨by rw [← Hd.out]; rfl, hb⟩

set_option maxRecDepth 100000 in
set_option maxHeartbeats 1000000 in
theorem spans_has (l : List Spn.Span) (L : Nat) (hL : l.length = L) (A : Option Addr) (c : Nat) (p : Int) (w : World) (hC : Go.Proofs.YtihdcglkmilckaaW.PrintWords.Kd.C k42 w A l.length l) (hc : l.length ≤ c) (hl : l.length ≤ 100000) :
    Calls Try.prog 12 #[.slice A L c, .int .i64 p] w fun e w' =>
      e = .returned (.bool (Spn.may l && Spn.has l p)) ∧ Below w.heap.size w w' := by
  have hq := Spn.spans_may l hl (l.length + 1) (by omega)
  have hM := fun w1 h1 => spans_May.calls _ A c l _ w1 h1 hc hq
  have hF := fun g w1 h1 hg hm => contains_func l A c g p w1 h1 hg hm hl
  cases hm : Spn.may l with
  | false =>
    rw [hm] at hM
    rw [hL] at hM hC
    have HM := Lib.hid hM
    have HC := Lib.hid hC
    clear hM hF hq hm hC hc hl hL
    go_enter Try.func12, Try.ntmps12
    go_wp2_with (first
      | (refine Mem.wpList_box (o := ⟨some 3, _, _, _, _, _⟩) rfl 3 _ rfl (.int .i64 p) rfl ?_
         intro w1 hn1
         have Hn1 := Lib.hid hn1
         clear hn1)
      | (go_at_call 27
         with_reducible refine (HM.out _ (Go.Proofs.YtihdcglkmilckaaW.PrintWords.Kd.C_below HC.out Hn1.out.below)).mono ?_
         rintro e w2 ⟨rfl, hb2⟩
         have HB := Lib.hid (Mem.then_ Hn1.out.below hb2)
         clear hb2))
    go_ret
    exact ⟨rfl, HB.out⟩
  | true =>
    rw [hm] at hM
    have hmild : ∀ s ∈ l, Spn.Mild s := fun s hs => by
      have := Spn.may_mem (last := -1) hm hs
      unfold Spn.fin at this
      unfold Spn.Mild; omega
    rw [hL] at hM hC hF
    have HM := Lib.hid hM
    have HC := Lib.hid hC
    have HF := Lib.hid hF
    have HMi := Lib.hid hmild
    clear hM hF hq hm hC hc hl hL hmild
    go_enter Try.func12, Try.ntmps12
    go_wp2_with (first
      | (refine Mem.wpList_box (o := ⟨some 3, _, _, _, _, _⟩) rfl 3 _ rfl (.int .i64 p) rfl ?_
         intro w1 hn1
         have f0 := hn1.cell1 0 (v := .int .i64 p) rfl
         have Hf0 := Lib.hid f0
         have Hn1 := Lib.hid hn1
         clear hn1 f0)
      | (go_at_call 27
         with_reducible refine (HM.out _ (Go.Proofs.YtihdcglkmilckaaW.PrintWords.Kd.C_below HC.out Hn1.out.below)).mono ?_
         rintro e w2 ⟨rfl, hb2⟩
         have HC2 := Lib.hid (Go.Proofs.YtihdcglkmilckaaW.PrintWords.Kd.C_below HC.out (Mem.then_ Hn1.out.below hb2))
         have Hg2 := Lib.hid (Mem.keep hb2 Hf0.out)
         have HB := Lib.hid (Mem.then_ Hn1.out.below hb2)
         clear hb2)
      | (go_at_call 28
         with_reducible refine (HF.out _ _ HC2.out Hg2.out HMi.out).mono ?_
         rintro e w3 ⟨rfl, hb3⟩
         have HB3 := Lib.hid (Mem.then_ HB.out hb3)
         clear hb3))
    go_ret
    exact ⟨by simp, HB3.out⟩

namespace Spn
theorem part_next {p last : Int} {s : Span} (h : good last s = true) : part (p + 1) s = part p s + if inside s p then 1 else 0 := by
  have hg := good_spec h
  unfold inside part fin
  by_cases hh : s.f0 ≤ p ∧ p < s.f0 + s.f1
  · rw [if_pos (decide_eq_true hh)]; omega
  · rw [if_neg (by rw [decide_eq_true_eq]; exact hh)]; omega
theorem ahead_next {l : List Span} : ∀ {last : Int}, mayFrom last l = true → ∀ p, ahead l (p + 1) = ahead l p + if has l p then 1 else 0 := by
  induction l with
  | nil => intro last _ p; rw [ahead_nil, ahead_nil, has_nil]; rfl
  | cons s l ih =>
    intro last h p
    simp only [mayFrom, Bool.and_eq_true] at h
    have hg := good_spec h.1
    rw [ahead_cons, ahead_cons, part_next h.1, ih h.2 p, has_cons]
    have e : (decide (s.f0 ≤ p ∧ p < fin s)) = inside s p := rfl
    rw [e]
    cases h1 : inside s p with
    | false => rw [Bool.false_or, if_neg (by simp), Int.add_zero, Int.add_assoc]
    | true =>
      have h2 : has l p = false := by
        cases h3 : has l p with
        | false => rfl
        | true =>
          have := (has_in h.2 h3).1
          have h4 := of_decide_eq_true h1
          omega
      rw [h2]; simp; omega
theorem ahead_low {l : List Span} : ∀ {last : Int}, mayFrom last l = true → -1 ≤ last → ∀ p, p ≤ 0 → ahead l p = 0 := by
  induction l with
  | nil => intro last _ _ p _; rfl
  | cons s l ih =>
    intro last h hl p hp
    simp only [mayFrom, Bool.and_eq_true] at h
    have hg := good_spec h.1
    rw [ahead_cons, ih h.2 (by unfold fin; omega) p hp]
    unfold part fin; omega
theorem ahead_high {l : List Span} : ∀ {last : Int}, mayFrom last l = true → ∀ p, 20000 ≤ p → ahead l p = ahead l 20000 := by
  induction l with
  | nil => intro last _ p _; rfl
  | cons s l ih =>
    intro last h p hp
    simp only [mayFrom, Bool.and_eq_true] at h
    have hg := good_spec h.1
    rw [ahead_cons, ahead_cons, ih h.2 p hp]
    unfold part fin; omega
end Spn

set_option maxRecDepth 100000 in
set_option maxHeartbeats 1000000 in
theorem ref_ahead (l : List Spn.Span) (L : Nat) (hL : l.length = L) (A : Option Addr) (c : Nat) (p : Int) (w : World) (hC : Go.Proofs.YtihdcglkmilckaaW.PrintWords.Kd.C k42 w A l.length l) (hc : l.length ≤ c) (hl : l.length ≤ 100000) (hm : Spn.may l = true) :
    Calls Try.prog 14 #[.slice A L c, .int .i64 p] w fun e w' =>
      e = .returned (.int .i64 (Spn.ahead l p)) ∧ Below w.heap.size w w' := by
  obtain ⟨K1, M, hM1, hM2, hM3⟩ := Spn.marks l hl hm
  have hMk := fun w1 h1 => foolscapref07_Marks.calls _ A c l M true w1 h1 hc (hM1 0)
  rw [hL] at hMk hC
  have HMk := Lib.hid hMk
  have HC := Lib.hid hC
  have HM2 := Lib.hid hM2
  have HM3 := Lib.hid hM3
  have HM := Lib.hid hm
  clear hMk hC hM1 hM2 hM3 hm hc hl hL
  go_enter Try.func14, Try.ntmps14
  go_wp2_with (
    go_at_call 31
    with_reducible refine (HMk.out _ HC.out).mono ?_
    rintro e w2 ⟨v2, rfl, hr2, hb2⟩
    obtain ⟨A2, c2, rfl, hc2, hC2⟩ := Go.Proofs.YtihdcglkmilckaaW.PrintWords.Kd.R_reads hr2
    have HC2 := Lib.hid hC2
    have HB2 := Lib.hid hb2
    clear hr2 hb2 hC2 hc2)
  obtain ⟨b2, off2, rfl, hmat⟩ := Spn.mat_of HC2.out (by rw [HM2.out]; omega)
  have HMat := Lib.hid hmat
  have hlen2 := HM2.out
  rw [hlen2]
  clear hmat hlen2
  go_loop [7, 8] (fun t7 t8 => ∃ (i : Nat) (x : Int), t8 = .int .i64 i ∧ t7 = .int .i64 x ∧ i ≤ 20000 ∧ ((i : Int) ≤ p ∨ i = 0) ∧ x = Spn.ahead l i ∧ 0 ≤ x ∧ x ≤ i) (fun _ t8 => 20000 - (intOf t8).toNat)
  case atStart => exact ⟨0, 0, rfl, rfl, by omega, .inr rfl, (Spn.ahead_low (last := -1) HM.out (by omega) _ (by omega)).symm, by omega, by omega⟩
  case round =>
    obtain ⟨i, x, rfl, rfl, hi, hip, hx, hx0, hx2⟩ := hrel
    have Hx := Lib.hid hx
    clear hx
    by_cases hgo : i < 20000 ∧ (i : Int) < p
    · obtain ⟨h1, h2⟩ := hgo
      have hMi := HM3.out i h1
      have c0 : w2.cell? ⟨b2, off2 + i, none⟩ = some (.bool (Spn.has l i)) := HMat.out i _ hMi
      have hn := Spn.ahead_next (last := -1) HM.out i
      have d6 : decide ((i : Int) < 20000) = true := decide_eq_true (by omega)
      have d7 : (i : Int) < 20000 := by omega
      have d8 : (0 : Int) ≤ (i : Int) := by omega
      have d9 : decide ((i : Int) < p) = true := decide_eq_true h2
      have hx3 : x ≤ 20000 := by omega
      clear hMi hip
      cases hh : Spn.has l i with
      | false =>
        rw [hh, if_neg (by simp), ← Hx.out] at hn
        rw [hh] at c0
        have Hn := Lib.hid hn
        clear hn hh
        go_wp2
        go_round
        case rel => exact ⟨i + 1, x, by go_num, rfl, by omega, .inl (by omega), by rw [show (((i + 1 : Nat)) : Int) = (i : Int) + 1 by omega, Hn.out]; omega, hx0, by omega⟩
        case measure => simp [intOf]; omega
      | true =>
        rw [hh, if_pos rfl, ← Hx.out] at hn
        rw [hh] at c0
        have Hn := Lib.hid hn
        clear hn hh
        go_wp2
        go_round
        case rel => exact ⟨i + 1, x + 1, by go_num, rfl, by omega, .inl (by omega), by rw [show (((i + 1 : Nat)) : Int) = (i : Int) + 1 by omega, Hn.out], by omega, by omega⟩
        case measure => simp [intOf]; omega
    · have hend : x = Spn.ahead l p := by
        rw [Hx.out]
        by_cases h1 : i < 20000
        · have h2 : ¬ (i : Int) < p := fun h => hgo ⟨h1, h⟩
          rcases hip with h3 | h3
          · rw [show (i : Int) = p by omega]
          · subst h3
            rw [Spn.ahead_low (last := -1) HM.out (by omega) _ (by omega), Spn.ahead_low (last := -1) HM.out (by omega) _ (by omega)]
        · rw [show (i : Int) = 20000 by omega, Spn.ahead_high (last := -1) HM.out p (by omega)]
      have Hend := Lib.hid hend
      clear hend
      by_cases h1 : i < 20000
      · have h2 : ¬ (i : Int) < p := fun h => hgo ⟨h1, h⟩
        have d6 : decide ((i : Int) < 20000) = true := decide_eq_true (by omega)
        have d9 : decide ((i : Int) < p) = false := decide_eq_false h2
        clear hgo h2 hip
        go_wp2
        go_ret
        exact ⟨by rw [← Hend.out]; rfl, HB2.out⟩
      · have d6 : decide ((i : Int) < 20000) = false := decide_eq_false (by omega)
        clear hgo hip
        go_wp2
        go_ret
        exact ⟨by rw [← Hend.out]; rfl, HB2.out⟩

set_option maxRecDepth 100000 in
set_option maxHeartbeats 2000000 in
theorem ref_has_loop (l : List Spn.Span) (L : Nat) (hL : l.length = L) (b off c : Nat) (p : Int) (w : World) (hA : Spn.At w b off l) (hm : Spn.may l = true) (hl : L ≤ 100000) :
    Calls Try.prog 15 #[.slice (some ⟨b, off, none⟩) L c, .int .i64 p] w fun e w' => e = .returned (.bool (Spn.has l p)) ∧ w = w' := by
  have HA := Lib.hid hA
  have HK := Lib.hid hL
  have HM := Lib.hid (fun s hs => Spn.may_mem (last := -1) hm (s := s) hs)
  obtain ⟨R, hR⟩ : ∃ R, Spn.has l p = R := ⟨_, rfl⟩
  rw [hR]
  have HR := Lib.hid hR
  clear hA hL hm hR
  go_enter Try.func15, Try.ntmps15
  go_wp2
  go_loop [5, 6] (fun t5 _ => ∃ i : Nat, i ≤ L ∧ t5 = .int .i64 i ∧ ∀ s ∈ l.take i, Spn.inside s p = false) (fun t5 _ => L - (intOf t5).toNat)
  case atStart => exact ⟨0, by omega, rfl, fun s hs => by simp at hs⟩
  case round =>
    obtain ⟨i, hi, rfl, hno⟩ := hrel
    have HNo := Lib.hid hno
    clear hno
    by_cases hlt : i < L
    · obtain ⟨s, hs⟩ := Spn.at_lt l i (by have := HK.out; omega)
      obtain ⟨s0, s1⟩ := s
      have hcells := HA.out i _ hs
      have c0 : w.cell? ⟨b, off + i * 2, none⟩ = some (.int .i64 s0) := hcells.1
      have c1 : w.cell? ⟨b, off + i * 2 + 1, none⟩ = some (.int .i64 s1) := hcells.2
      obtain ⟨q1, q2, q3⟩ := HM.out _ (List.mem_of_getElem? hs)
      have q1' : 0 ≤ s0 := by have : -1 < s0 := q1; omega
      have q2' : 1 ≤ s1 := q2
      have q3' : s0 + s1 ≤ 20000 := q3
      have HS := Lib.hid hs
      have d6 : decide ((i : Int) < (L : Int)) = true := decide_eq_true (by omega)
      have d7 : (i : Int) < (L : Int) := by omega
      have d8 : (0 : Int) ≤ (i : Int) := by omega
      clear hcells hs q1 q2 q3
      go_wp2
      go_loop [6] (fun t6 => ∃ k : Nat, (k : Int) ≤ s1 ∧ t6 = .int .i64 k ∧ (p < s0 ∨ s0 + k ≤ p)) (fun t6 => s1.toNat - (intOf t6).toNat)
      case atStart => exact ⟨0, by omega, rfl, by omega⟩
      case round =>
        obtain ⟨k, hk, rfl, hkp⟩ := hrel
        by_cases hlk : (k : Int) < s1
        · have e6 : decide ((k : Int) < s1) = true := decide_eq_true hlk
          by_cases hkk : s0 + (k : Int) = p
          · have e7 : (s0 + (k : Int) == p) = true := beq_iff_eq.2 hkk
            have hT : Spn.has l p = true := Spn.has_of_mem (List.mem_of_getElem? HS.out) (by show s0 ≤ p ∧ p < s0 + s1; omega)
            rw [HR.out] at hT
            subst hT
            clear hkk hkp
            go_wp2
            go_ret
            exact ⟨rfl, rfl⟩
          · have e7 : (s0 + (k : Int) == p) = false := beq_eq_false_iff_ne.2 hkk
            have Hkk := Lib.hid hkk
            have Hkp := Lib.hid hkp
            clear hkk hkp
            go_wp2
            go_round
            case rel => exact ⟨k + 1, by omega, by go_num, by have := Hkk.out; have := Hkp.out; omega⟩
            case measure => simp [intOf]; omega
        · have e6 : decide ((k : Int) < s1) = false := decide_eq_false hlk
          have Hkp := Lib.hid hkp
          clear hkp
          go_wp2
          go_round
          case rel => exact ⟨i + 1, by omega, by go_num, by
            obtain ⟨hi1, e1⟩ := List.getElem?_eq_some_iff.1 HS.out
            rw [List.take_succ_eq_append_getElem hi1, e1]
            intro u hu
            rcases List.mem_append.1 hu with hu | hu
            · exact HNo.out u hu
            · obtain rfl : u = ⟨s0, s1⟩ := by simpa using hu
              have := Hkp.out
              unfold Spn.inside Spn.fin
              exact decide_eq_false (by simp only; omega)⟩
          case measure => simp [intOf]; omega
    · have hiL : i = L := by omega
      have d6 : decide ((i : Int) < (L : Int)) = false := decide_eq_false (by omega)
      have hF : Spn.has l p = false := by
        have h := HNo.out
        rw [hiL, ← HK.out, List.take_length] at h
        unfold Spn.has
        rw [List.any_eq_false]; intro s hs
        have := h s hs
        unfold Spn.inside at this
        rw [this]; simp
      rw [HR.out] at hF
      subst hF
      go_wp2
      go_ret
      exact ⟨rfl, rfl⟩
theorem ref_has_nil (A : Option Addr) (c : Nat) (p : Int) (w : World) :
    Calls Try.prog 15 #[.slice A 0 c, .int .i64 p] w fun e w' => e = .returned (.bool false) ∧ w = w' := by
  go_enter Try.func15, Try.ntmps15
  go_wp2
  go_loop [5, 6] (fun t5 _ => t5 = .int .i64 0) (fun _ _ => 0)
  case atStart => rfl
  case round =>
    subst hrel
    go_wp2
    go_ret
    exact ⟨rfl, rfl⟩
theorem ref_has (l : List Spn.Span) (L : Nat) (hL : l.length = L) (A : Option Addr) (c : Nat) (p : Int) (w : World) (hC : Go.Proofs.YtihdcglkmilckaaW.PrintWords.Kd.C k42 w A l.length l) (hm : Spn.may l = true) (hl : L ≤ 100000) :
    Calls Try.prog 15 #[.slice A L c, .int .i64 p] w fun e w' => e = .returned (.bool (Spn.has l p)) ∧ w = w' := by
  by_cases h0 : l.length = 0
  · obtain rfl := List.eq_nil_of_length_eq_zero h0
    rw [← hL]
    exact ref_has_nil A c p w
  · obtain ⟨b, off, rfl, hA⟩ := Spn.at_of hC (by omega)
    exact ref_has_loop l L hL b off c p w hA hm hl
end Go.Proofs.Ytihdcglkmilckaa
