/- slices.SortFunc at a row of spans. -/
import Derived.Test.YtihdcglkmilckaaNrmB
import Derived.Test.YtihdcglkmilckaaShelf
import Derived.WalkKit
import Derived.Shelf.Abstract
namespace Go.Proofs.Ytihdcglkmilckaa
open Go.RowKit Go.Shelf Go.Sort

set_option maxHeartbeats 1000000 in
/-- the closure: cmp.Compare of two spans' first places -/
theorem norm_closure (x y : Spn.Span) (W : World) : Calls Try.prog 42 #[.agg #[.int .i64 x.f0, .int .i64 x.f1], .agg #[.int .i64 y.f0, .int .i64 y.f1]] W fun e w' => e = .returned (.int .i64 (Spn.byFrom x y)) ∧ ∃ q os', w' = grow (W.drewN q) os' := by
  have hcon := fun W' => AnyG.cmp_Compare_int Try.cmpInt x.f0 y.f0 W'
  change ∀ W', Calls Try.prog 43 _ _ _ at hcon
  unfold Spn.byFrom
  generalize Lib.compareInt x.f0 y.f0 = r at hcon ⊢
  obtain ⟨a0, ha0⟩ : ∃ a, x.f0 = a := ⟨_, rfl⟩
  obtain ⟨a1, ha1⟩ : ∃ a, x.f1 = a := ⟨_, rfl⟩
  obtain ⟨b0, hb0⟩ : ∃ a, y.f0 = a := ⟨_, rfl⟩
  obtain ⟨b1, hb1⟩ : ∃ a, y.f1 = a := ⟨_, rfl⟩
  rw [ha0, hb0] at hcon
  rw [ha0, ha1, hb0, hb1]
  clear ha0 ha1 hb0 hb1
  go_enter Try.func42, Try.ntmps42
  go_wp2_with (go_at_call 43; refine (hcon _).mono ?_; rintro e w' ⟨rfl, rfl⟩)
  go_ret
  exact ⟨rfl, 0, _, by rw [alloc_eq_grow, alloc_eq_grow, grow_grow]; rfl⟩
theorem norm_cmpLays (blk off size : Nat) (w : World) : CmpLays Try.prog 42 #[] Spn.encS 2 Spn.byFrom blk off size w :=
  fun _ _ _ _ x y => norm_closure x y _

/-- slices.SortFunc: the row holds the same spans, by their first places -/
theorem sort_spans (l : List Spn.Span) (g cap base : Nat) (w : World) (h : Spn.Own w base (.slice (some ⟨g, 0, none⟩) l.length cap) l) (hl : l.length ≤ 10000) :
    Calls Try.prog 49 #[.slice (some ⟨g, 0, none⟩) l.length cap, .func (.func 42) #[] #[]] w fun e w' =>
      e = .returned (.tuple #[]) ∧ ∃ m : List Spn.Span, m.length = l.length ∧ (∀ s, s ∈ m ↔ s ∈ l) ∧ m.Pairwise (fun a b => a.f0 ≤ b.f0) ∧ Spn.Own w' base (.slice (some ⟨g, 0, none⟩) l.length cap) m ∧ Mem.But (· = g) w w' := by
  obtain ⟨hH, hblk, _⟩ := Spn.own_holds h
  have eg : ∀ args w, (callFunc 42 args).run Try.prog w = .ok (.enter 42 args) w := enters_of Try.func42 (by kernel_rfl) rfl
  have hcon := AnyQ.slices_SortFunc Try.sortSpans 2 Try.isAgg42 Try.sizeOf42 Spn.encS Spn.encS_len Spn.encS_one Spn.byFrom Spn.swoFrom 42 #[] g 0 cap l.toArray w eg (norm_cmpLays g 0 l.toArray.size w) hH hblk (by simp; omega)
  refine (show Calls Try.prog 49 #[.slice (some ⟨g, 0, none⟩) l.length cap, .func (.func 42) #[] #[]] w _ from hcon).mono ?_
  rintro e w' ⟨he, d', n, os, hp, hs, rfl⟩
  have hz : d'.size = l.length := hp.1
  obtain ⟨h1, h2⟩ := Spn.sorted_own h d' hz n os
  have hs2 : SortedIn (ltOf Spn.byFrom) 0 d'.size d' := by rw [hz]; exact hs
  exact ⟨he, d'.toList, (Array.length_toList).trans hz, fun s => Spn.perm_mem hp s, Spn.sorted_pair hs2, h1, h2⟩
end Go.Proofs.Ytihdcglkmilckaa
