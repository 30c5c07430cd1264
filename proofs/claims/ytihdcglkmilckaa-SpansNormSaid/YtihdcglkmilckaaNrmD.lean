/- AppendSeq and Collect of a list's values. -/
import Derived.Maps.OwnIn
import Derived.Test.YtihdcglkmilckaaNrmC
namespace Go.Proofs.Ytihdcglkmilckaa
open Go.RowKit Go.Shelf

attribute [local go_sem] Oper.semAt_some

set_option maxRecDepth 100000 in
set_option maxHeartbeats 2000000 in
theorem append_seq (Bs n₀ cap : Nat) (A : Option Addr) (L : List Spn.Span) (w : World) (hBs : w.heap[Bs]? = some (.cells #[.slice A L.length cap] 22 (0, 0))) (hL : Spn.Low w n₀ A L) (hn0 : n₀ ≤ w.heap.size) :
    Calls Try.prog 53 #[.slice none 0 0, .func (.func 50) #[] #[.pointer (some ⟨Bs, 0, none⟩)]] w fun e w' => ∃ v, e = .returned v ∧ Spn.Own w' w.heap.size v L ∧ Below w.heap.size w w' := by
  refine (callsIn_wide (n := 6)).1 ?_
  refine callsIn_of_wp_marks Try.func53 rfl trivial ?_ rfl
  simp only [Try.ntmps53, List.size_toArray, List.length_cons, List.length_nil, Nat.reduceAdd, Nat.reduceSub, Array.replicate_succ, Array.replicate_zero, List.push_toArray, List.append_toArray, List.nil_append, List.cons_append]
  have HL := Lib.hid hL
  have HBs := Lib.hid hBs
  clear hL hBs
  gi_wp2
  have br := Boxed.new w 22 (.slice none 0 0)
  have hb4 : Below w.heap.size w (w.alloc (.cells #[.slice none 0 0] 22)) := (Below.refl _ w).alloc (Nat.le_refl _) _
  have hs4 : (w.alloc (.cells #[.slice none 0 0] 22)).heap.size = w.heap.size + 1 := by simp
  generalize w.alloc (.cells #[.slice none 0 0] 22) = w4 at br hb4 hs4 ⊢
  gi_wp2
  obtain ⟨i0, hi, hz0, hz1, hz2⟩ := info_parts Spn.info_span
  have be : w4.heap[Bs]? = some (.cells #[.slice A L.length cap] 22 (0, 0)) := (hb4.block Bs (Array.getElem?_eq_some_iff.1 HBs.out).1).trans HBs.out
  have HL4 : Spn.Low w4 n₀ A L := ⟨HL.out.1, fun hn => by
    obtain ⟨b, off, h1, h2, h3⟩ := HL.out.2 hn
    exact ⟨b, off, h1, h2, fun i s hi => ⟨(hb4.cell (p := ⟨b, off + i * 2, none⟩) (Nat.lt_of_lt_of_le h2 hn0)).trans (h3 i s hi).1, (hb4.cell (p := ⟨b, off + i * 2 + 1, none⟩) (Nat.lt_of_lt_of_le h2 hn0)).trans (h3 i s hi).2⟩⟩⟩
  have HBn := Lib.hid hn0
  refine wpIn_rangeFunc_ownH rfl (by omega) (gf := 50) (lb := #[.pointer (some ⟨Bs, 0, none⟩)]) rfl trivial (enters_of Try.func50 (by kernel_rfl) rfl)
    (values_stops 5 (by omega) Bs n₀ cap A L w4 be HL4 (by omega)) (fun h k => h.trans k) (belowK_b (by omega)) (Below.refl _ _) (fun _ => rfl)
    (fun pre W => (∃ v, Boxed W w.heap.size 22 v ∧ W.ownsRow w.heap.size 42 2 v pre.length (Spn.flat pre) ∧ True) ∧ Below w.heap.size w W)
    (fun _ _ _ => False)
    (OwnFrom.and (Own.from (holdsRow_own w.heap.size w.heap.size 22 42 2 (fun pre : List Spn.Span => pre.length) (fun pre => Spn.flat pre) (fun _ _ => True)) _) (ownFrom_below (Nat.le_refl _) (by omega)))
    (fun _ _ _ _ _ hs _ _ => hs)
    ⟨⟨_, br, World.ownsRow_nil _ _ _ _, trivial⟩, hb4⟩
    (fun x a' W => ∃ Bx, W.heap[Bx]? = some (.cells #[.int .i64 x.f0, .int .i64 x.f1] 42 (0, 0)) ∧ a' = { tmps := #[.slice none 0 0, .func (.func 50) #[] #[.pointer (some ⟨Bs, 0, none⟩)], .pointer (some ⟨w.heap.size, 0, none⟩), undef, .slice none 0 0, .pointer (some ⟨Bx, 0, none⟩),
        .func (.func 50) #[] #[.pointer (some ⟨Bs, 0, none⟩)], .agg #[.int .i64 x.f0, .int .i64 x.f1], undef, undef, undef, undef, undef], defers := [] })
    (by
      rintro x a' _ X Y row ⟨Bx, h, e⟩ hg hr
      refine ⟨Bx, (hg.block Bx (Array.getElem?_eq_some_iff.1 h).1 (fun e' => ?_)).trans h, e⟩
      obtain ⟨_, o, ho, hc⟩ := hr Bx e'.symm
      rw [h] at ho
      cases ho
      cases hc) ?assign ?body ?done ?stop
  case assign =>
    rintro l pre x W K ⟨⟨v, hv, hrow, _⟩, hB⟩ hK
    gi_wp2
    exact hK _ _ ((KeepsOthers.alloc _ _).from _) ((Below.refl _ W).alloc (by have := HBn.out; have := hB.size; omega) _) ⟨⟨v, hv.alloc _, hrow.alloc _, trivial⟩, hB.alloc hB.size _⟩ ⟨W.heap.size, heap_alloc_new _ _, rfl⟩
  case body =>
    rintro l pre ⟨q, b⟩ a' W hl - ⟨⟨v, hv, hrow, _⟩, hB⟩ ⟨Bx, hbx, rfl⟩ hlt
    have HSN := Lib.hid (Spn.flat_append pre [⟨q, b⟩])
    have HNE := Lib.hid (World.news_of_block (heap_alloc_new W (.cells #[.int .i64 q, .int .i64 b] 42)))
    have HRO := Lib.hid hrow
    have hc := hv.cell
    have hq0 : W.cell? ⟨Bx, 0, none⟩ = some (.int .i64 q) := (cell_of_row _ _ 0 _ _ _ hbx).trans rfl
    have hq1 : W.cell? ⟨Bx, 1, none⟩ = some (.int .i64 b) := (cell_of_row _ _ 1 _ _ _ hbx).trans rfl
    have hlb := HL.out.1
    gi_wp2_with (
      gi_at_builtin
      refine wpListIn_append_own_at _ rfl _ _ 22 rfl w.heap.size 42 i0 (.agg #[.int .i64 0, .int .i64 0]) 2 16 Try.underlying22 hi hz0 hz1 hz2 rfl (by decide) v pre.length (Spn.flat pre) rfl (HRO.out.alloc _) ⟨W.heap.size, 0, none⟩ 1 1 [.int .i64 q, .int .i64 b] rfl rfl HNE.out (fun u hu => by simp at hu; rcases hu with rfl | rfl <;> rfl) (by unfold maxLen; omega) (by omega) (by have := hB.size; simp; omega) ?_
      intro v' w5 hown' hgrow _ hat
      obtain ⟨g', cap', rfl⟩ := ownsRow_succ hown'
      obtain ⟨hv1, hv2, hr2, hk2, hb2⟩ := hv.appended (by decide) hrow hB.size (Nat.le_refl _) hown' hgrow
      have hc1 := hv1.cell
      have hf1 := hv1.frozen)
    have hr3 : (w5.setCell ⟨w.heap.size, 0, none⟩ (.slice (some ⟨g', 0, none⟩) (pre.length + 1) cap')).ownsRow w.heap.size 42 2 (.slice (some ⟨g', 0, none⟩) (pre.length + 1) cap') (pre ++ [(⟨q, b⟩ : Spn.Span)]).length (Spn.flat (pre ++ [⟨q, b⟩])) := by
      rw [List.length_append, HSN.out]
      exact hr2
    exact ⟨hk2.from _, hb2.mono (by have := HBn.out; omega), ⟨_, hv2, hr3⟩, hB.trans hb2⟩
  case done =>
    rintro D ys W hD hys ⟨⟨v, hv, hrow, _⟩, hB⟩ hK
    have hys2 : ys = L := hys
    subst hys2
    have hc := hv.cell
    gi_wp2
    refine ⟨by simp, .inl ⟨_, _, rfl, run_takeDeferred hK, ?_⟩⟩
    refine ⟨_, results_tmp rfl _ _ _, v, rfl, ownsRow_putObj hrow _ hK rfl, ?_⟩
    exact hB.trans (belowK_b (w := w) (Nat.le_refl _) W D _ _ (by omega) hK rfl rfl)
  case stop =>
    rintro D c pre W _ _ h _
    exact h.elim
end Go.Proofs.Ytihdcglkmilckaa
