/- The walks of package nums: trying, and what is read by trying. -/
import Derived.Test.YtgkadhogfejheaaNumR
import Derived.Test.YtgkadhogfejheaaBut
import Derived.Tactics
import Derived.Tactics2
import Derived.Defers
namespace Go.Proofs.Ytgkadhogfejheaa
open Go.RowKit

theorem Num.is_fault (v : Value) (xT : TypeId) (w : World) : (Instr.typeAssert (.iface 145 v) xT 145 true).run Try.prog w = .ok (.tuple #[v, .bool true]) w := by
  simp [Instr.typeAssert, run_underlying Try.underlying145]
theorem Num.zero_fault : (Try.prog.info? 145).bind (·.zero) = some (.agg #[.int .i64 0]) := by kernel_rfl

set_option maxRecDepth 100000 in
theorem nums_catch (b g : Nat) (l : List UInt8) (f c : Int) (older : List PanicEntry) (w : World) (hc : w.cell? ⟨b, 0, none⟩ = some (.pointer (some ⟨g, 0, none⟩))) (hrd : Num.Rd w g l f) :
    CallsD Try.prog 89 #[.pointer (some ⟨b, 0, none⟩)] (.panicking ({ v := .iface 145 (.agg #[.int .i64 c]), recovered := false } :: older)) w fun e u' w' =>
      e = .returned (.tuple #[]) ∧ u' = .panicking ({ v := .iface 145 (.agg #[.int .i64 c]), recovered := true } :: older) ∧ Num.Rd w' g l c ∧ Mem.But (· = g) w w' := by
  have h0 := hrd.rest
  have hf := hrd.fault
  have hz := hrd.free
  refine callsD_of_wpS Try.func89 rfl fun c₀ cs hu => ?_
  apply wpS_seq
  apply wpS_region
  simp [wpOpsS, go_sem, recoverD, hu, Try.ntmps89, Exit.thenS]
  simp only [Array.replicate, List.replicate, List.setIfInBounds_toArray, List.set, List.append_toArray, List.cons_append, List.nil_append]
  refine wpS_of_wp ?_
  have hta := Num.is_fault
  have Hrd := Lib.hid hrd
  have Hc := Lib.hid hc
  clear hrd h0 hf hz hc
  have hg := block_lt_of_cell Hrd.out.rest
  have hbb := block_lt_of_cell Hc.out
  simp only at hg hbb
  have Hg := Lib.hid hg
  have hne : ¬ g = w.heap.size := by omega
  have hne2 : ¬ b = w.heap.size := by omega
  have hne3 : ¬ w.heap.size = g := by omega
  have hne4 : ¬ w.heap.size = b := by omega
  have hbel : ∀ w1 cs t, Mem.New w w1 cs t → w1.cell? ⟨b, 0, none⟩ = some (.pointer (some ⟨g, 0, none⟩)) ∧ w1.cell? ⟨g, 0, none⟩ = some (.string (Mem.str l)) ∧ w1.cell? ⟨g, 1, none⟩ = some (.int .i64 f) ∧ w1.frozen? ⟨g, 1, none⟩ = false :=
    fun w1 cs t h => ⟨(h.below.cell hbb).trans Hc.out, (h.below.cell hg).trans Hrd.out.rest, (h.below.cell hg).trans Hrd.out.fault, (h.below.frozen (p := ⟨g, 1, none⟩) hg).trans (Hrd.out.free 1)⟩
  have Hbel := Lib.hid hbel
  clear hg hbb hbel
  go_wp2_with (
    refine Mem.wpList_alloc rfl 145 rfl _ Num.zero_fault ?_
    intro w1 hn1
    have Hn1 := Lib.hid hn1
    have e0 := hn1.cell1 0 (v := .int .i64 0) rfl
    have e1 := hn1.free1 0
    obtain ⟨e2, e3, e4, e5⟩ := Hbel.out w1 _ _ hn1
    clear hn1)
  refine ⟨rfl, _, rfl, .tuple #[], by simp [results, Try.results89], rfl, rfl, ?_, ?_⟩
  · have h1 : (w1.setCell ⟨w.heap.size, 0, none⟩ (.int .i64 c)).heap[g]? = w.heap[g]? := (heap_setCell_other w1 _ g _ hne).trans (Hn1.out.old Hg.out)
    exact Mem.row_setCell _ g 1 _ _ _ _ (h1.trans Hrd.out)
  · exact ((Mem.But.of_new Hn1.out).later (Mem.But.of_setCell (S := (· = w.heap.size)) _ _ rfl) (by intro i hi (h : i = w.heap.size); omega)).later (Mem.But.of_setCell (S := (· = g)) _ _ rfl) (fun i _ h => h)

theorem nums_catch_idle (b : Nat) (w : World) :
    CallsD Try.prog 89 #[.pointer (some ⟨b, 0, none⟩)] .returning w fun e u' w' => e = .returned (.tuple #[]) ∧ u' = .returning ∧ w' = w := by
  refine callsD_of_wpS Try.func89 rfl fun c₀ cs hu => ?_
  obtain ⟨fn, tmps, todo, defers, mode, kind, roundOf⟩ := c₀
  obtain rfl : mode = .returning := hu
  apply wpS_seq
  apply wpS_region
  simp [wpOpsS, go_sem, recoverD, Try.ntmps89, Exit.thenS]
  simp only [Array.replicate, List.replicate, List.setIfInBounds_toArray, List.set, List.append_toArray, List.cons_append, List.nil_append]
  refine wpS_of_wp ?_
  go_wp2
  exact ⟨rfl, _, rfl, .tuple #[], by simp [results, Try.results89], rfl, rfl, rfl⟩
end Go.Proofs.Ytgkadhogfejheaa
