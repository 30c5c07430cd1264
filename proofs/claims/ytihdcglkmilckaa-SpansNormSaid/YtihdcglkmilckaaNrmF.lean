/- Collect, SortedFunc, and the walk of spans.Norm. -/
import Derived.Test.YtihdcglkmilckaaNrmE
import Derived.Test.YtihdcglkmilckaaNrmD
import Derived.Shelf.SlSortCmp.NoneTotal
namespace Go.Proofs.Ytihdcglkmilckaa
open Go.RowKit Go.Shelf

/-- slices.SortFunc at any row, an empty one too -/
theorem sort_any (l : List Spn.Span) (A : Option Addr) (cap base : Nat) (w : World) (h : Spn.Own w base (.slice A l.length cap) l) (hl : l.length ≤ 10000) (hbase : base ≤ w.heap.size) :
    Calls Try.prog 49 #[.slice A l.length cap, .func (.func 42) #[] #[]] w fun e w' =>
      e = .returned (.tuple #[]) ∧ ∃ m : List Spn.Span, m.length = l.length ∧ (∀ s, s ∈ m ↔ s ∈ l) ∧ m.Pairwise (fun a b => a.f0 ≤ b.f0) ∧ Spn.Own w' base (.slice A l.length cap) m ∧ Below base w w' := by
  by_cases h0 : l = []
  · subst h0
    refine (show Calls Try.prog 49 #[.slice A 0 cap, .func (.func 42) #[] #[]] w _ from AnyF.slices_SortFunc_none Try.sortSpans A cap _ w).mono ?_
    rintro e w' ⟨he, rfl⟩
    exact ⟨he, [], rfl, fun s => Iff.rfl, List.Pairwise.nil, h, Below.refl _ _⟩
  · obtain ⟨g, cur, rfl, hg, -⟩ := Spn.own_at h (by cases l with | nil => exact absurd rfl h0 | cons _ _ => simp)
    refine (sort_spans l g cap base w h hl).mono ?_
    rintro e w' ⟨he, m, h1, h2, h3, h4, h5⟩
    exact ⟨he, m, h1, h2, h3, h4, h5.below hbase fun k hk => by rw [hk]; exact hg⟩

set_option maxRecDepth 100000 in
set_option maxHeartbeats 1000000 in
theorem collect_values (Bs n₀ cap : Nat) (A : Option Addr) (L : List Spn.Span) (w : World) (hBs : w.heap[Bs]? = some (.cells #[.slice A L.length cap] 22 (0, 0))) (hL : Spn.Low w n₀ A L) (hn0 : n₀ ≤ w.heap.size) :
    Calls Try.prog 48 #[.func (.func 50) #[] #[.pointer (some ⟨Bs, 0, none⟩)]] w fun e w' => ∃ v, e = .returned v ∧ Spn.Own w' w.heap.size v L ∧ Below w.heap.size w w' := by
  have HA := Lib.hid (append_seq Bs n₀ cap A L w hBs hL hn0)
  clear hBs hL hn0
  go_enter Try.func48, Try.ntmps48
  go_wp2_with (go_at_call 53; refine HA.out.mono ?_; rintro e w1 ⟨v, rfl, ho, hb⟩; have HO := Lib.hid ho; have HB := Lib.hid hb; clear ho hb)
  go_ret
  exact ⟨v, rfl, HO.out, HB.out⟩

set_option maxRecDepth 100000 in
set_option maxHeartbeats 1000000 in
theorem sorted_func (Bs n₀ cap : Nat) (A : Option Addr) (L : List Spn.Span) (w : World) (hBs : w.heap[Bs]? = some (.cells #[.slice A L.length cap] 22 (0, 0))) (hL : Spn.Low w n₀ A L) (hn0 : n₀ ≤ w.heap.size) :
    Calls Try.prog 40 #[.func (.func 50) #[] #[.pointer (some ⟨Bs, 0, none⟩)], .func (.func 42) #[] #[]] w fun e w' =>
      ∃ (v : Value) (m : List Spn.Span), e = .returned v ∧ m.length = L.length ∧ (∀ s, s ∈ m ↔ s ∈ L) ∧ m.Pairwise (fun a b => a.f0 ≤ b.f0) ∧ Spn.Own w' w.heap.size v m ∧ Below w.heap.size w w' := by
  have HA := Lib.hid (collect_values Bs n₀ cap A L w hBs hL hn0)
  have HL := Lib.hid hL.1
  clear hBs hL hn0
  go_enter Try.func40, Try.ntmps40
  go_wp2_with (first
    | (go_at_call 48; refine HA.out.mono ?_; rintro e w1 ⟨v, rfl, ho, hb⟩; have HO := Lib.hid ho; have HB := Lib.hid hb; obtain ⟨A1, c1, rfl, -, -⟩ := Spn.own_form ho; clear ho hb)
    | (go_at_call 49; refine (sort_any L A1 c1 w.heap.size w1 HO.out HL.out HB.out.size).mono ?_; rintro e w2 ⟨rfl, m, h1, h2, h3, h4, h5⟩; have H1 := Lib.hid h1; have H2 := Lib.hid h2; have H3 := Lib.hid h3; have H4 := Lib.hid h4; have H5 := Lib.hid h5; clear h1 h2 h3 h4 h5))
  go_ret
  exact ⟨_, m, rfl, H1.out, H2.out, H3.out, H4.out, HB.out.trans H5.out⟩
end Go.Proofs.Ytihdcglkmilckaa
