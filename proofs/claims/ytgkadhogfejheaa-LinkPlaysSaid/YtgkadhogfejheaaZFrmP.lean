/- The walks of package frame: which may be. -/
import Derived.Test.YtgkadhogfejheaaQN
import Derived.Test.YtgkadhogfejheaaZCrcW
import Derived.Deep.RegionHeld3
import Derived.Deep.DeepCutAuto
set_option linter.unusedVariables false
set_option linter.unusedSimpArgs false
namespace Go.Proofs.Ytgkadhogfejheaa
open Go.RowKit

namespace Frm
structure F where
  kind : Int
  site : Int
  seq : Int
  ack : Int
  body : List UInt8
def cells (f : F) : Array Value := #[.int .i64 f.kind, .int .i64 f.site, .int .i64 f.seq, .int .i64 f.ack, .string (Mem.str f.body)]
def val (f : F) : Value := .agg (cells f)
/-- may a frame be? -/
def Ok (f : F) : Prop := (1 ≤ f.site ∧ f.site ≤ 16) ∧ (0 ≤ f.ack ∧ f.ack ≤ 1099511627776) ∧
  ((f.kind = 2 ∧ f.seq = 0 ∧ f.body = []) ∨ (f.kind = 1 ∧ (1 ≤ f.seq ∧ f.seq ≤ 1099511627776) ∧ f.body.length ≤ 1048576))
def okB (f : F) : Bool := decide ((1 ≤ f.site ∧ f.site ≤ 16) ∧ (0 ≤ f.ack ∧ f.ack ≤ 1099511627776) ∧
  ((f.kind = 2 ∧ f.seq = 0 ∧ f.body = []) ∨ (f.kind = 1 ∧ (1 ≤ f.seq ∧ f.seq ≤ 1099511627776) ∧ f.body.length ≤ 1048576)))
theorem ok_iff (f : F) : okB f = true ↔ Ok f := by unfold okB Ok; exact decide_eq_true_iff
theorem empty_str (l : List UInt8) : ((Mem.str l).toList == []) = decide (l = []) := by
  rw [ByteArray.toList_eq, Mem.str_toList]; cases l <;> simp
end Frm

theorem frame_within (n a b : Int) (w : World) :
    Calls Try.prog 51 #[.int .i64 n, .int .i64 a, .int .i64 b] w fun e w' => e = .returned (.bool (decide (a ≤ n ∧ n ≤ b))) ∧ w = w' := by
  go_enter Try.func51, Try.ntmps51
  go_wp2
  all_goals (go_ret; refine ⟨congrArg (fun x => Ending.returned (.bool x)) ?_, rfl⟩)
  all_goals first | (simp; done) | (simp; intros; omega) | (simp; omega)

set_option maxRecDepth 100000 in
set_option maxHeartbeats 400000 in
theorem frame_may (f : Frm.F) (w : World) :
    Calls Try.prog 45 #[Frm.val f] w fun e w' => e = .returned (.bool (Frm.okB f)) ∧ Below w.heap.size w w' := by
  obtain ⟨k, s, q, a, b⟩ := f
  have hsz := Mem.str_size b
  have hemp := Frm.empty_str b
  generalize hR : Frm.okB ⟨k, s, q, a, b⟩ = R
  have HR := Lib.hid hR
  clear hR
  unfold Frm.val Frm.cells
  go_enter Try.func45, Try.ntmps45
  go_wp2_with (first
    | (refine Mem.wpList_box rfl 84 _ rfl (.agg #[.int .i64 k, .int .i64 s, .int .i64 q, .int .i64 a, .string (Mem.str b)]) rfl ?_
       intro w1 hn1
       have e0 := hn1.cell1 0 (v := .int .i64 k) rfl
       have e1 := hn1.cell1 1 (v := .int .i64 s) rfl
       have e2 := hn1.cell1 2 (v := .int .i64 q) rfl
       have e3 := hn1.cell1 3 (v := .int .i64 a) rfl
       have e4 := hn1.cell1 4 (v := .string (Mem.str b)) rfl
       have Hn1 := Lib.hid hn1
       clear hn1)
    | (go_at_call 51
       refine (frame_within _ _ _ _).mono ?_
       rintro e w2 ⟨rfl, rfl⟩))
  all_goals (go_ret; refine ⟨congrArg (fun x => Ending.returned (.bool x)) ?_, Hn1.out.below⟩; rw [← HR.out])
  all_goals (clear e0 e1 e2 e3 e4 hsz hemp HR Hn1)
  all_goals (simp only [Frm.okB])
  all_goals first | (symm; rw [decide_eq_false_iff_not]; rintro ⟨h1, h2, h3⟩; omega) | (symm; rw [decide_eq_false_iff_not]; rintro ⟨h1, h2, h3⟩; simp at *; omega) | (simp_all; done) | (simp_all; omega)

set_option maxRecDepth 100000 in
set_option maxHeartbeats 400000 in
theorem frame_refmay (f : Frm.F) (w : World) :
    Calls Try.prog 24 #[Frm.val f] w fun e w' => e = .returned (.bool (Frm.okB f)) ∧ Below w.heap.size w w' := by
  obtain ⟨k, s, q, a, b⟩ := f
  have hsz := Mem.str_size b
  have hemp := Frm.empty_str b
  generalize hR : Frm.okB ⟨k, s, q, a, b⟩ = R
  have HR := Lib.hid hR
  clear hR
  unfold Frm.val Frm.cells
  go_enter Try.func24, Try.ntmps24
  go_wp2_with (
    refine Mem.wpList_box rfl 54 _ rfl (.agg #[.int .i64 k, .int .i64 s, .int .i64 q, .int .i64 a, .string (Mem.str b)]) rfl ?_
    intro w1 hn1
    have e0 := hn1.cell1 0 (v := .int .i64 k) rfl
    have e1 := hn1.cell1 1 (v := .int .i64 s) rfl
    have e2 := hn1.cell1 2 (v := .int .i64 q) rfl
    have e3 := hn1.cell1 3 (v := .int .i64 a) rfl
    have e4 := hn1.cell1 4 (v := .string (Mem.str b)) rfl
    have Hn1 := Lib.hid hn1
    clear hn1)
  all_goals (go_ret; refine ⟨congrArg (fun x => Ending.returned (.bool x)) ?_, Hn1.out.below⟩; rw [← HR.out])
  all_goals (clear e0 e1 e2 e3 e4 hsz hemp HR Hn1)
  all_goals (simp only [Frm.okB])
  all_goals first | (symm; rw [decide_eq_false_iff_not]; rintro ⟨h1, h2, h3⟩; omega) | (symm; rw [decide_eq_false_iff_not]; rintro ⟨h1, h2, h3⟩; simp at *; omega) | (simp_all; done) | (simp_all; omega)
end Go.Proofs.Ytgkadhogfejheaa
