/- The walks of spans.Open (whatever the list), of the reference's Same, of Great and the document's example. -/
import Derived.Test.YtihdcglkmilckaaSpnO
import Derived.Laws.StructEq
namespace Go.Proofs.Ytihdcglkmilckaa
open Go.RowKit

namespace Spn
open PSpansOpen Go.Proofs.YtihdcglkmilckaaW.PrintWords
instance : DecidableEq S42 := fun a b => decidable_of_iff (a.f0 = b.f0 ∧ a.f1 = b.f1) ⟨fun h => by obtain ⟨x, y⟩ := a; obtain ⟨z, u⟩ := b; obtain ⟨h1, h2⟩ := h; simp only at h1 h2; rw [h1, h2], fun h => by rw [h]; exact ⟨rfl, rfl⟩⟩
def full (l : List Span) (a n : Int) : Bool := match l.getLast? with
  | none => false
  | some t => decide (a < fin t ∧ 20000 - fin t < n)
def openE (l : List Span) (a n : Int) : Int := if asked l a n then (if full l a n then 4 else 0) else 1
def openL (l : List Span) (a n : Int) : List Span := if asked l a n && !full l a n then opens a n l else []
theorem asked_may {l : List Span} {a n : Int} (h : asked l a n = true) : may l = true ∧ 0 ≤ a ∧ a ≤ 20000 ∧ 0 ≤ n := by
  unfold asked at h
  rw [Bool.and_eq_true, decide_eq_true_eq] at h
  exact h
end Spn
open PSpansOpen

set_option maxRecDepth 100000 in
set_option maxHeartbeats 1000000 in
theorem spans_open_nil (A : Option Addr) (c : Nat) (a n : Int) (w : World) (hC : Go.Proofs.YtihdcglkmilckaaW.PrintWords.Kd.C k42 w A 0 []) (has : Spn.asked [] a n = true) :
    Calls Try.prog 16 #[.slice A 0 c, .int .i64 a, .int .i64 n] w fun e w' =>
      e = .returned (.tuple #[.slice none 0 0, .int .i64 0]) ∧ Below w.heap.size w w' := by
  have hq := Spn.spans_asked [] (by simp) a n 1 (by simp)
  rw [has] at hq
  have HQ := Lib.hid (fun w1 h1 => spans_asked.calls _ A c [] a n true w1 h1 (by simp) hq)
  have HC := Lib.hid hC
  clear hq has hC
  go_enter Try.func16, Try.ntmps16
  go_wp2_with (
    go_at_call 32
    refine (HQ.out _ HC.out).mono ?_
    rintro e w1 ⟨rfl, hb1⟩)
  go_loop [9, 45] (fun t9 t45 => t9 = .slice none 0 0 ∧ t45 = .int .i64 0) (fun _ _ => 0)
  case atStart => exact ⟨rfl, rfl⟩
  case round =>
    obtain ⟨rfl, rfl⟩ := hrel
    go_wp2
    go_ret2
    exact ⟨rfl, hb1⟩

theorem spans_open (l : List Spn.Span) (A : Option Addr) (c : Nat) (a n : Int) (w : World) (hC : Go.Proofs.YtihdcglkmilckaaW.PrintWords.Kd.C k42 w A l.length l) (hc : l.length ≤ c) (hl : l.length ≤ 10000) :
    Calls Try.prog 16 #[.slice A l.length c, .int .i64 a, .int .i64 n] w fun e w' =>
      ∃ v, e = .returned (.tuple #[v, .int .i64 (Spn.openE l a n)]) ∧ Spn.Own w' w.heap.size v (Spn.openL l a n) ∧ Below w.heap.size w w' := by
  cases has : Spn.asked l a n with
  | false =>
    have e1 : Spn.openE l a n = 1 := by unfold Spn.openE; rw [has]; rfl
    have e2 : Spn.openL l a n = [] := by unfold Spn.openL; rw [has]; rfl
    rw [e1, e2]
    exact (spans_open_no l A c a n w hC hc (by omega) has).mono fun e w' ⟨he, hb⟩ => ⟨_, he, Spn.own_nil _ _, hb⟩
  | true =>
    obtain ⟨hm, ha0, ha2, hn0⟩ := Spn.asked_may has
    rcases List.eq_nil_or_concat l with rfl | ⟨m, t, rfl⟩
    · have e1 : Spn.openE [] a n = 0 := by unfold Spn.openE; rw [has]; rfl
      have e2 : Spn.openL [] a n = [] := by unfold Spn.openL; rw [has]; rfl
      rw [e1, e2]
      exact (spans_open_nil A c a n w hC has).mono fun e w' ⟨he, hb⟩ => ⟨_, he, Spn.own_nil _ _, hb⟩
    · rw [List.concat_eq_append] at *
      have hK : (m ++ [t]).length = m.length + 1 := by simp
      obtain ⟨b, off, rfl, hA⟩ := Spn.at_of hC (by omega)
      obtain ⟨t0, t1⟩ := t
      have ht : (m ++ [(⟨t0, t1⟩ : Spn.Span)])[m.length]? = some ⟨t0, t1⟩ := by simp
      have hmem := fun s hs => Spn.may_mem (last := -1) hm (s := s) hs
      have htm : t0 + t1 ≤ 20000 ∧ 1 ≤ t1 ∧ 0 ≤ t0 := by
        have := hmem ⟨t0, t1⟩ (by simp)
        unfold Spn.fin at this
        simp only at this
        omega
      have hfull : Spn.full (m ++ [(⟨t0, t1⟩ : Spn.Span)]) a n = decide (a < t0 + t1 ∧ 20000 - (t0 + t1) < n) := by
        unfold Spn.full; rw [List.getLast?_concat]; rfl
      by_cases hf : a < t0 + t1 ∧ 20000 - (t0 + t1) < n
      · have e1 : Spn.openE (m ++ [(⟨t0, t1⟩ : Spn.Span)]) a n = 4 := by unfold Spn.openE; rw [has, hfull, decide_eq_true hf]; rfl
        have e2 : Spn.openL (m ++ [(⟨t0, t1⟩ : Spn.Span)]) a n = [] := by unfold Spn.openL; rw [has, hfull, decide_eq_true hf]; rfl
        rw [e1, e2]
        have := spans_open_full (m ++ [⟨t0, t1⟩]) m.length t0 t1 hK ht b off c a n w hC hA hc (by omega) has hf.1 hf.2 htm.2.2 htm.2.1 htm.1
        rw [hK]
        exact this.mono fun e w' ⟨he, hb⟩ => ⟨_, he, Spn.own_nil _ _, hb⟩
      · have e1 : Spn.openE (m ++ [(⟨t0, t1⟩ : Spn.Span)]) a n = 0 := by unfold Spn.openE; rw [has, hfull, decide_eq_false hf]; rfl
        have e2 : Spn.openL (m ++ [(⟨t0, t1⟩ : Spn.Span)]) a n = Spn.opens a n (m ++ [⟨t0, t1⟩]) := by unfold Spn.openL; rw [has, hfull, decide_eq_false hf]; rfl
        rw [e1, e2]
        have := spans_open_yes (m ++ [⟨t0, t1⟩]) m.length t0 t1 hK ht b off c a n w hC hA hc hl has (fun s hs => by have := hmem s hs; omega) hf (fun s hs h => by
          have hle : Spn.fin s ≤ t0 + t1 := by
            have h1 := hm
            unfold Spn.may at h1
            have h2 := (Spn.has_in h1 (p := Spn.fin s - 1) (by
              unfold Spn.has
              rw [List.any_eq_true]
              exact ⟨s, hs, decide_eq_true (by have := hmem s hs; unfold Spn.fin at *; omega)⟩)).2
            rw [Spn.endFrom_snoc] at h2
            have : Spn.fin (⟨t0, t1⟩ : Spn.Span) = t0 + t1 := rfl
            omega
          by_cases hn : 20000 - (t0 + t1) < n
          · exact absurd ⟨by omega, hn⟩ hf
          · omega) ha0 ha2 hn0
        rw [hK]
        exact this

namespace Spn
open Go.Proofs.YtihdcglkmilckaaW.PrintWords
theorem eq_spans (x y x' y' : Int) (w : World) : (Op.equalIn 10000 42 (.agg #[.int .i64 x, .int .i64 y]) (.agg #[.int .i64 x', .int .i64 y'])).run Try.prog w = .ok (x == x' && y == y') w := by
  cases h1 : (x == x') <;> cases h2 : (y == y') <;> go_simp
/-- two lists that are read -/
def Two (w : World) (A A' : Option Addr) (l m : List Span) : Prop := Kd.C k42 w A l.length l ∧ Kd.C k42 w A' m.length m
end Spn

set_option maxRecDepth 100000 in
set_option maxHeartbeats 1000000 in
theorem ref_same_len (l m : List Spn.Span) (A A' : Option Addr) (c c' : Nat) (w : World) (hne : l.length ≠ m.length) :
    Calls Try.prog 20 #[.slice A l.length c, .slice A' m.length c'] w fun e w' => e = .returned (.bool false) ∧ Mem.Drawn w w' := by
  have d1 : ((l.length : Int) == (m.length : Int)) = false := beq_eq_false_iff_ne.2 (by omega)
  have d2 : ((l.length : Int) != (m.length : Int)) = true := bne_iff_ne.2 (by omega)
  clear hne
  go_enter Try.func20, Try.ntmps20
  go_wp2
  go_ret
  exact ⟨rfl, Mem.Drawn.refl _⟩

set_option maxRecDepth 100000 in
set_option maxHeartbeats 1000000 in
theorem ref_same_loop (l m : List Spn.Span) (L : Nat) (b off b' off' : Nat) (c c' : Nat) (w : World) (hL : l.length = L) (hM : m.length = L) (h1 : Spn.At w b off l) (h2 : Spn.At w b' off' m) (hlen : L ≤ 100000) :
    Calls Try.prog 20 #[.slice (some ⟨b, off, none⟩) L c, .slice (some ⟨b', off', none⟩) L c'] w fun e w' => e = .returned (.bool (decide (l = m))) ∧ Mem.Drawn w w' := by
  have H1 := Lib.hid h1
  have H2 := Lib.hid h2
  have HL := Lib.hid hL
  have HM := Lib.hid hM
  obtain ⟨R, hR⟩ : ∃ R, decide (l = m) = R := ⟨_, rfl⟩
  rw [hR]
  have HR := Lib.hid hR
  clear h1 h2 hL hM hR
  have heq := Spn.eq_spans
  go_enter Try.func20, Try.ntmps20
  go_wp2
  go_loopw [5] (fun t5 wr => ∃ i : Nat, i ≤ L ∧ t5 = .int .i64 i ∧ Mem.Drawn w wr ∧ l.take i = m.take i) (fun t5 _ => L - (intOf t5).toNat)
  case atStart => exact ⟨0, by omega, rfl, Mem.Drawn.refl _, rfl⟩
  case round =>
    obtain ⟨i, hi, rfl, hD, htake⟩ := hrel
    have HD := Lib.hid hD
    have HT := Lib.hid htake
    clear hD htake
    by_cases hlt : i < L
    · obtain ⟨s, hs⟩ := Spn.at_lt l i (by have := HL.out; omega)
      obtain ⟨u, hu⟩ := Spn.at_lt m i (by have := HM.out; omega)
      obtain ⟨s0, s1⟩ := s
      obtain ⟨u0, u1⟩ := u
      obtain ⟨c0, c1⟩ := H1.out i _ hs
      obtain ⟨d0, d1⟩ := H2.out i _ hu
      have c0' : wr.cell? ⟨b, off + i * 2, none⟩ = some (.int .i64 s0) := (HD.out.cell _).trans c0
      have c1' : wr.cell? ⟨b, off + i * 2 + 1, none⟩ = some (.int .i64 s1) := (HD.out.cell _).trans c1
      have d0' : wr.cell? ⟨b', off' + i * 2, none⟩ = some (.int .i64 u0) := (HD.out.cell _).trans d0
      have d1' : wr.cell? ⟨b', off' + i * 2 + 1, none⟩ = some (.int .i64 u1) := (HD.out.cell _).trans d1
      have HS := Lib.hid hs
      have HU := Lib.hid hu
      have e6 : decide ((i : Int) < (L : Int)) = true := decide_eq_true (by omega)
      have e7 : (i : Int) < (L : Int) := by omega
      have e8 : (0 : Int) ≤ (i : Int) := by omega
      clear hs hu c0 c1 d0 d1
      by_cases hsu : s0 = u0 ∧ s1 = u1
      · obtain ⟨rfl, rfl⟩ := hsu
        have q : (s0 == s0 && s1 == s1) = true := by simp
        go_wp2
        go_quiet (fail)
        go_wp2
        go_roundw
        case rel => exact ⟨i + 1, by omega, by go_num, HD.out.trans (Mem.Drawn.of _ _), by
          obtain ⟨hi1, e1⟩ := List.getElem?_eq_some_iff.1 HS.out
          obtain ⟨hi2, e2⟩ := List.getElem?_eq_some_iff.1 HU.out
          rw [List.take_succ_eq_append_getElem hi1, List.take_succ_eq_append_getElem hi2, HT.out, e1, e2]⟩
        case measure => simp [intOf]; omega
      · have q : (s0 == u0 && s1 == u1) = false := by
          rw [Bool.eq_false_iff]; intro h; apply hsu
          simpa using h
        have hF : decide (l = m) = false := decide_eq_false (fun e => by
          have h1 := HS.out
          rw [e, HU.out] at h1
          simp only [Option.some.injEq, S42.mk.injEq] at h1
          exact hsu ⟨h1.1.symm, h1.2.symm⟩)
        rw [HR.out] at hF
        subst hF
        have HQ := Lib.hid hsu
        clear hsu
        go_wp2
        go_quiet (fail)
        go_wp2
        go_ret
        exact ⟨rfl, HD.out.trans (Mem.Drawn.of _ _)⟩
    · have hiL : i = L := by omega
      have hT : decide (l = m) = true := decide_eq_true (by
        have := HT.out
        rw [hiL] at this
        rwa [← HL.out, List.take_length, HL.out, ← HM.out, List.take_length] at this)
      rw [HR.out] at hT
      subst hT
      have e6 : decide ((i : Int) < (L : Int)) = false := decide_eq_false (by omega)
      go_wp2
      go_ret
      exact ⟨rfl, HD.out⟩

set_option maxRecDepth 100000 in
theorem ref_same_nil (A A' : Option Addr) (c c' : Nat) (w : World) :
    Calls Try.prog 20 #[.slice A 0 c, .slice A' 0 c'] w fun e w' => e = .returned (.bool true) ∧ Mem.Drawn w w' := by
  go_enter Try.func20, Try.ntmps20
  go_wp2
  go_loop [5] (fun t5 => t5 = .int .i64 0) (fun _ => 0)
  case atStart => rfl
  case round =>
    subst hrel
    go_wp2
    go_ret
    exact ⟨rfl, Mem.Drawn.refl _⟩
/-- are two lists the same? -/
theorem ref_same (l m : List Spn.Span) (A A' : Option Addr) (c c' : Nat) (w : World) (h1 : Go.Proofs.YtihdcglkmilckaaW.PrintWords.Kd.C k42 w A l.length l) (h2 : Go.Proofs.YtihdcglkmilckaaW.PrintWords.Kd.C k42 w A' m.length m) (hl : l.length ≤ 100000) :
    Calls Try.prog 20 #[.slice A l.length c, .slice A' m.length c'] w fun e w' => e = .returned (.bool (decide (l = m))) ∧ Mem.Drawn w w' := by
  by_cases hne : l.length = m.length
  · by_cases h0 : l.length = 0
    · rw [← hne, h0]
      have e1 : l = [] := List.eq_nil_of_length_eq_zero h0
      have e2 : m = [] := List.eq_nil_of_length_eq_zero (by omega)
      rw [decide_eq_true (by rw [e1, e2])]
      exact ref_same_nil A A' c c' w
    · obtain ⟨b, off, rfl, hA⟩ := Spn.at_of h1 (by omega)
      obtain ⟨b', off', rfl, hA'⟩ := Spn.at_of h2 (by omega)
      rw [← hne]
      exact ref_same_loop l m l.length b off b' off' c c' w rfl hne.symm hA hA' hl
  · rw [decide_eq_false (fun e => hne (by rw [e]))]
    exact ref_same_len l m A A' c c' w hne

theorem law_great (l : List Spn.Span) (A : Option Addr) (c : Nat) (w : World) :
    Calls Try.prog 9 #[.slice A l.length c] w fun e w' => e = .returned (.bool (decide (60 < l.length))) ∧ w = w' := by
  have h : decide ((60 : Int) < (l.length : Int)) = decide (60 < l.length) := by rw [Bool.eq_iff_iff]; simp; omega
  rw [← h]
  clear h
  go_enter Try.func9, Try.ntmps9
  go_wp2
  go_ret
  exact ⟨rfl, rfl⟩

namespace Spn
open Go.Proofs.YtihdcglkmilckaaW.PrintWords
/-- a row that has just been made -/
theorem reads_new {w1 : World} {l : List Span} {g : Nat} {t : TypeId} {fr : Nat × Nat} (hl : l.length ≤ 100000) (h : w1.heap[g]? = some (.cells (flat l).toArray t fr)) : Kd.C k42 w1 (some ⟨g, 0, none⟩) l.length l := by
  refine ⟨rfl, by omega, fun _ => ⟨_, rfl, fun j p hj => ⟨_, rfl, k42_mk w1 p, fun i u hu => ?_⟩⟩⟩
  obtain ⟨h1, h2⟩ := flat_get l j p hj
  rw [Go.WideShapes.add_plain, Nat.zero_add]
  match i, hu with
  | 0, hu => simp at hu; subst hu; exact (cell_of_row _ _ _ _ _ _ h).trans ((by simp : (flat l).toArray[j * 2]? = (flat l)[j * 2]?).trans h1)
  | 1, hu => simp at hu; subst hu; exact (cell_of_row _ _ _ _ _ _ h).trans ((by simp : (flat l).toArray[j * 2 + 1]? = (flat l)[j * 2 + 1]?).trans h2)
  | i + 2, hu => simp at hu
theorem ex_open : openE [⟨2, 4⟩] 3 3 = 0 ∧ openL [⟨2, 4⟩] 3 3 = [⟨2, 1⟩, ⟨6, 3⟩] := by decide +kernel
theorem ex_total : spans_Total.f 10 [⟨2, 1⟩, ⟨6, 3⟩] = some 4 := by decide +kernel
end Spn

set_option maxRecDepth 100000 in
set_option maxHeartbeats 1000000 in
theorem law_alive (w : World) : Calls Try.prog 8 #[] w fun e w' => e = .returned (.bool true) ∧ Below w.heap.size w w' := by
  go_enter Try.func8, Try.ntmps8
  go_wp2_with (first
    | (go_at_call 16
       refine (spans_open [⟨2, 4⟩] (some ⟨w.heap.size, 0, none⟩) 1 3 3 _ (Spn.reads_new (by simp) (heap_alloc_new _ _)) (by simp) (by simp)).mono ?_
       rw [Spn.ex_open.1, Spn.ex_open.2]
       rintro e w1 ⟨v, rfl, ho, hb1⟩
       obtain ⟨A, cap, rfl, hcap, _⟩ := Spn.own_form ho
       have HC := Lib.hid (Spn.own_reads ho)
       have Hcap := Lib.hid hcap
       have Hb := Lib.hid (Mem.then_ ((Below.refl w.heap.size w).alloc (Nat.le_refl _) _) hb1)
       clear ho hb1 hcap)
    | (go_at_call 20
       refine (ref_same [⟨2, 1⟩, ⟨6, 3⟩] [⟨2, 1⟩, ⟨6, 3⟩] A (some ⟨w1.heap.size, 0, none⟩) cap 2 _ (Go.Proofs.YtihdcglkmilckaaW.PrintWords.Kd.C_below HC.out ((Below.refl _ _).alloc (Nat.le_refl _) _)) (Spn.reads_new (by simp) (heap_alloc_new _ _)) (by simp)).mono ?_
       rw [decide_eq_true rfl]
       rintro e w2 ⟨rfl, hd2⟩
       have HC2 := Lib.hid (Go.Proofs.YtihdcglkmilckaaW.PrintWords.Kd.C_below HC.out (((Below.refl _ _).alloc (Nat.le_refl _) _).trans (hd2.below _)))
       have Hb2 := Lib.hid (Hb.out.trans (((Below.refl _ _).alloc Hb.out.size _).trans (hd2.below _)))
       clear hd2)
    | (go_at_call 11
       refine (spans_Total.calls 10 A cap [⟨2, 1⟩, ⟨6, 3⟩] 4 _ HC2.out Hcap.out Spn.ex_total).mono ?_
       rintro e w3 ⟨rfl, hb3⟩
       have Hb3 := Lib.hid (Mem.then_ Hb2.out hb3)
       clear hb3))
  go_ret
  exact ⟨rfl, Hb3.out⟩
end Go.Proofs.Ytihdcglkmilckaa
