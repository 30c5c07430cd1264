/- The walk of runes.Len at "ab". -/
import Derived.Test.YtdeopfpabfaopaaOrdS
namespace Go.Proofs.Ytdeopfpabfaopaa
open Go.RowKit Go.Shelf

attribute [local go_sem] Oper.semAt_some

set_option maxRecDepth 100000 in
set_option maxHeartbeats 4000000 in
theorem runes_len_ab (w : World) : Calls Try.prog 39 #[.string ⟨#[97, 98]⟩] w fun e w' => e = .returned (.int .i64 2) ∧ Below w.heap.size w w' := by
  refine (callsIn_wide (n := 6)).1 ?_
  refine callsIn_of_wp_marks Try.func39 rfl trivial ?_ rfl
  simp only [Try.ntmps39, List.size_toArray, List.length_cons, List.length_nil, Nat.reduceAdd, Nat.reduceSub, Array.replicate_succ, Array.replicate_zero, List.push_toArray, List.append_toArray, List.nil_append, List.cons_append]
  gi_wp2_with (
    refine ⟨trivial, ?_⟩
    gi_at_call 42
    refine (steps_in 5 _ _).mono ?_
    rintro e w3 ⟨rfl, rfl⟩)
  have b0 : Boxed (((w.alloc (.cells #[.int .i64 0] 3)).alloc (.cells #[.int .i64 0] 3)).alloc (.cells #[.string ⟨#[97, 98]⟩] 9)) w.heap.size 3 (.int .i64 0) := ((Boxed.new w _ _).alloc _).alloc _
  have b1 : Boxed (((w.alloc (.cells #[.int .i64 0] 3)).alloc (.cells #[.int .i64 0] 3)).alloc (.cells #[.string ⟨#[97, 98]⟩] 9)) (w.heap.size + 1) 3 (.int .i64 (0 : Nat)) := by
    have := (Boxed.new (w.alloc (.cells #[.int .i64 0] 3)) 3 (.int .i64 0)).alloc (.cells #[.string ⟨#[97, 98]⟩] 9)
    rw [World.size_alloc] at this
    exact this
  have b2 : Boxed (((w.alloc (.cells #[.int .i64 0] 3)).alloc (.cells #[.int .i64 0] 3)).alloc (.cells #[.string ⟨#[97, 98]⟩] 9)) (w.heap.size + 1 + 1) 9 (.string ⟨#[97, 98]⟩) := by
    have := Boxed.new ((w.alloc (.cells #[.int .i64 0] 3)).alloc (.cells #[.int .i64 0] 3)) 9 (.string ⟨#[97, 98]⟩)
    rw [World.size_alloc, World.size_alloc] at this
    exact this
  have hb : Below w.heap.size w (((w.alloc (.cells #[.int .i64 0] 3)).alloc (.cells #[.int .i64 0] 3)).alloc (.cells #[.string ⟨#[97, 98]⟩] 9)) :=
    (((Below.refl _ w).alloc (Nat.le_refl _) _).alloc (by simp) _).alloc (by simp; omega) _
  have hz : (((w.alloc (.cells #[.int .i64 0] 3)).alloc (.cells #[.int .i64 0] 3)).alloc (.cells #[.string ⟨#[97, 98]⟩] 9)).heap.size = w.heap.size + 3 := by simp
  generalize ((w.alloc (.cells #[.int .i64 0] 3)).alloc (.cells #[.int .i64 0] 3)).alloc (.cells #[.string ⟨#[97, 98]⟩] 9) = w4 at b0 b1 b2 hb hz ⊢
  refine Rng.wpIn_rounds rfl (by omega) (gf := 43) (lb := #[.pointer (some ⟨w.heap.size + 1 + 1, 0, none⟩)]) rfl trivial (enters_of Try.func43 (by kernel_rfl) rfl)
    (steps1_gives 5 (by omega) (w.heap.size + 1 + 1)) b2 (fun x hx => by simp at hx; rcases hx with rfl | rfl <;> rfl)
    (fun k W => Boxed W w.heap.size 3 (.int .i64 0) ∧ Boxed W (w.heap.size + 1) 3 (.int .i64 k) ∧ Below w.heap.size w W) ?abides ⟨b0, b1, hb⟩
    (fun x => { tmps := #[.string ⟨#[97, 98]⟩, undef, .pointer (some ⟨w.heap.size, 0, none⟩), .pointer (some ⟨w.heap.size + 1, 0, none⟩), x.getD 0 undef, .string ⟨#[97, 98]⟩, .func (.func 43) #[] #[.pointer (some ⟨w.heap.size + 1 + 1, 0, none⟩)],
      x.getD 0 undef, x.getD 1 undef, undef, undef, undef, undef, undef], defers := [] }) ?assign ?body ?done
  case abides =>
    rintro k A B row ⟨i0, i1, i2⟩ hg hr
    refine ⟨i0.kept hg (fun e => ?_), i1.kept hg (fun e => ?_), i2.grown hg i2.size (fun k e => ?_)⟩
    · rcases hr _ e.symm with h | h <;> omega
    · rcases hr _ e.symm with h | h <;> omega
    · rcases hr _ e with h | h <;> omega
  case assign =>
    intro l x W K hx hK
    simp only [List.mem_cons, List.not_mem_nil, or_false] at hx
    rcases hx with rfl | rfl
    · gi_wp2
      exact hK
    · gi_wp2
      exact hK
  case body =>
    rintro l k x W hx ⟨i0, i1, i2⟩
    rcases k with _ | _ | k
    · obtain rfl : _ = x := by simpa using hx
      have c1 : W.cell? ⟨w.heap.size + 1, 0, none⟩ = some (.int .i64 0) := i1.cell
      have f1 := i1.frozen
      have HI := Lib.hid (And.intro i0 (And.intro i1 i2))
      clear i0 i1 i2 hx
      gi_wp2
      refine ⟨(KeepsOthers.setCell _ _ _).from _, Below.heap_setCell _ _ _ _ (by simp), HI.out.1.kept (grownBy_setCell' _ _ _) (by simp), HI.out.2.1.set _, HI.out.2.2.setCell (p := ⟨w.heap.size + 1, 0, none⟩) (by simp) _⟩
    · obtain rfl : _ = x := by simpa using hx
      have c1 : W.cell? ⟨w.heap.size + 1, 0, none⟩ = some (.int .i64 1) := i1.cell
      have f1 := i1.frozen
      have HI := Lib.hid (And.intro i0 (And.intro i1 i2))
      clear i0 i1 i2 hx
      gi_wp2
      refine ⟨(KeepsOthers.setCell _ _ _).from _, Below.heap_setCell _ _ _ _ (by simp), HI.out.1.kept (grownBy_setCell' _ _ _) (by simp), HI.out.2.1.set _, HI.out.2.2.setCell (p := ⟨w.heap.size + 1, 0, none⟩) (by simp) _⟩
    · simp at hx
  case done =>
    rintro D W hD ⟨i0, i1, i2⟩ hK
    have c1 : W.cell? ⟨w.heap.size + 1, 0, none⟩ = some (.int .i64 2) := i1.cell
    have f1 := i0.frozen
    have c0 := i0.cell
    have HI := Lib.hid (And.intro i0 (And.intro i1 i2))
    have HK := Lib.hid hK
    clear i0 i1 i2 hK
    gi_wp2
    have n0 := HI.out.1.set (.int .i64 2)
    have nD : (W.setCell ⟨w.heap.size, 0, none⟩ (.int .i64 2)).heap[D]? = some (.deferred (some [])) := (Below.heap_setCell W ⟨w.heap.size, 0, none⟩ (.int .i64 2) D (by simp only; omega)).trans HK.out
    have hbl := HI.out.2.2.setCell (p := ⟨w.heap.size, 0, none⟩) (Nat.le_refl _) (.int .i64 2)
    have n0' := n0.kept (grownBy_putObj' _ D (.deferred none)) (fun e => by cases e; omega)
    have hbl' := hbl.grown (grownBy_putObj' _ D (.deferred none)) hbl.size (fun k e => by cases e; omega)
    refine ⟨by simp, .inl ⟨_, _, rfl, run_takeDeferred nD, ?_⟩⟩
    exact ⟨_, Mem.results_cell_one rfl _ _ w.heap.size (.int .i64 2) _ rfl Try.underlying3 rfl n0'.cell, rfl, hbl'⟩
end Go.Proofs.Ytdeopfpabfaopaa
