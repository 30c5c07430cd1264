/- The walk of the statement OpsOrder. -/
import Derived.Test.YtdeopfpabfaopaaOrdC
namespace Go.Proofs.Ytdeopfpabfaopaa
open Go.RowKit

set_option maxRecDepth 100000 in
set_option maxHeartbeats 4000000 in
theorem opsOrder_eq (a1 aq an ak ap : Int) (ax : ByteArray) (av : Value) (b1 bq bn bk bp : Int) (bx : ByteArray) (bv : Value) (c1 cq cn ck cp : Int) (cx : ByteArray) (cv : Value) (xab xba xbc xac : Bool) (w : World)
    (haa : ∀ w, Calls Try.prog 5 #[.agg #[.int .i64 a1, .int .i64 aq, .int .i64 an, .int .i64 ak, .int .i64 ap, .string ax, av], .agg #[.int .i64 a1, .int .i64 aq, .int .i64 an, .int .i64 ak, .int .i64 ap, .string ax, av]] w fun e w' => e = .returned (.bool false) ∧ Below w.heap.size w w') (hab : ∀ w, Calls Try.prog 5 #[.agg #[.int .i64 a1, .int .i64 aq, .int .i64 an, .int .i64 ak, .int .i64 ap, .string ax, av], .agg #[.int .i64 b1, .int .i64 bq, .int .i64 bn, .int .i64 bk, .int .i64 bp, .string bx, bv]] w fun e w' => e = .returned (.bool xab) ∧ Below w.heap.size w w') (hba : ∀ w, Calls Try.prog 5 #[.agg #[.int .i64 b1, .int .i64 bq, .int .i64 bn, .int .i64 bk, .int .i64 bp, .string bx, bv], .agg #[.int .i64 a1, .int .i64 aq, .int .i64 an, .int .i64 ak, .int .i64 ap, .string ax, av]] w fun e w' => e = .returned (.bool xba) ∧ Below w.heap.size w w') (hbc : ∀ w, Calls Try.prog 5 #[.agg #[.int .i64 b1, .int .i64 bq, .int .i64 bn, .int .i64 bk, .int .i64 bp, .string bx, bv], .agg #[.int .i64 c1, .int .i64 cq, .int .i64 cn, .int .i64 ck, .int .i64 cp, .string cx, cv]] w fun e w' => e = .returned (.bool xbc) ∧ Below w.heap.size w w') (hac : ∀ w, Calls Try.prog 5 #[.agg #[.int .i64 a1, .int .i64 aq, .int .i64 an, .int .i64 ak, .int .i64 ap, .string ax, av], .agg #[.int .i64 c1, .int .i64 cq, .int .i64 cn, .int .i64 ck, .int .i64 cp, .string cx, cv]] w fun e w' => e = .returned (.bool xac) ∧ Below w.heap.size w w')
    (e1 : a1 = b1) (e2 : aq = bq) (e3 : an = bn) (f1 : (xab && xba) = false) (f2 : ¬ (a1 = b1 ∧ aq = bq ∧ an = bn) → xab = false → xba = true) (f3 : 0 ≤ an → 0 ≤ bn → 0 ≤ cn → xab = true → xbc = true → xac = true) :
    Calls Try.prog 3 #[.agg #[.int .i64 a1, .int .i64 aq, .int .i64 an, .int .i64 ak, .int .i64 ap, .string ax, av], .agg #[.int .i64 b1, .int .i64 bq, .int .i64 bn, .int .i64 bk, .int .i64 bp, .string bx, bv], .agg #[.int .i64 c1, .int .i64 cq, .int .i64 cn, .int .i64 ck, .int .i64 cp, .string cx, cv]] w fun e w' => e = .returned (.bool true) ∧ Below w.heap.size w w' := by
  go_enter Try.func3, Try.ntmps3
  have bl : Below w.heap.size w (((w.alloc (.cells #[.int .i64 a1, .int .i64 aq, .int .i64 an, .int .i64 ak, .int .i64 ap, .string ax, av] 26)).alloc (.cells #[.int .i64 b1, .int .i64 bq, .int .i64 bn, .int .i64 bk, .int .i64 bp, .string bx, bv] 26)).alloc (.cells #[.int .i64 c1, .int .i64 cq, .int .i64 cn, .int .i64 ck, .int .i64 cp, .string cx, cv] 26)) := (((Below.refl _ w).alloc (Nat.le_refl _) _).alloc (by simp) _).alloc (by simp; omega) _
  have ra : (((w.alloc (.cells #[.int .i64 a1, .int .i64 aq, .int .i64 an, .int .i64 ak, .int .i64 ap, .string ax, av] 26)).alloc (.cells #[.int .i64 b1, .int .i64 bq, .int .i64 bn, .int .i64 bk, .int .i64 bp, .string bx, bv] 26)).alloc (.cells #[.int .i64 c1, .int .i64 cq, .int .i64 cn, .int .i64 ck, .int .i64 cp, .string cx, cv] 26)).heap[w.heap.size]? = some (.cells #[.int .i64 a1, .int .i64 aq, .int .i64 an, .int .i64 ak, .int .i64 ap, .string ax, av] 26 (0, 0)) := by
    rw [heap_alloc_old _ _ _ (by simp; omega), heap_alloc_old _ _ _ (by simp)]; exact heap_alloc_new w _
  have rb : (((w.alloc (.cells #[.int .i64 a1, .int .i64 aq, .int .i64 an, .int .i64 ak, .int .i64 ap, .string ax, av] 26)).alloc (.cells #[.int .i64 b1, .int .i64 bq, .int .i64 bn, .int .i64 bk, .int .i64 bp, .string bx, bv] 26)).alloc (.cells #[.int .i64 c1, .int .i64 cq, .int .i64 cn, .int .i64 ck, .int .i64 cp, .string cx, cv] 26)).heap[w.heap.size + 1]? = some (.cells #[.int .i64 b1, .int .i64 bq, .int .i64 bn, .int .i64 bk, .int .i64 bp, .string bx, bv] 26 (0, 0)) := by
    rw [heap_alloc_old _ _ _ (by simp)]
    have := heap_alloc_new (w.alloc (.cells #[.int .i64 a1, .int .i64 aq, .int .i64 an, .int .i64 ak, .int .i64 ap, .string ax, av] 26)) (.cells #[.int .i64 b1, .int .i64 bq, .int .i64 bn, .int .i64 bk, .int .i64 bp, .string bx, bv] 26)
    rw [World.size_alloc] at this
    exact this
  have rc : (((w.alloc (.cells #[.int .i64 a1, .int .i64 aq, .int .i64 an, .int .i64 ak, .int .i64 ap, .string ax, av] 26)).alloc (.cells #[.int .i64 b1, .int .i64 bq, .int .i64 bn, .int .i64 bk, .int .i64 bp, .string bx, bv] 26)).alloc (.cells #[.int .i64 c1, .int .i64 cq, .int .i64 cn, .int .i64 ck, .int .i64 cp, .string cx, cv] 26)).heap[w.heap.size + 1 + 1]? = some (.cells #[.int .i64 c1, .int .i64 cq, .int .i64 cn, .int .i64 ck, .int .i64 cp, .string cx, cv] 26 (0, 0)) := by
    have := heap_alloc_new ((w.alloc (.cells #[.int .i64 a1, .int .i64 aq, .int .i64 an, .int .i64 ak, .int .i64 ap, .string ax, av] 26)).alloc (.cells #[.int .i64 b1, .int .i64 bq, .int .i64 bn, .int .i64 bk, .int .i64 bp, .string bx, bv] 26)) (.cells #[.int .i64 c1, .int .i64 cq, .int .i64 cn, .int .i64 ck, .int .i64 cp, .string cx, cv] 26)
    rw [World.size_alloc, World.size_alloc] at this
    exact this
  have RA := Lib.hid ra
  have RB := Lib.hid rb
  have RC := Lib.hid rc
  have BL := Lib.hid bl
  clear ra rb rc bl
  have HL := Lib.hid alive_true
  have HAA := Lib.hid haa
  have HAB := Lib.hid hab
  have HBA := Lib.hid hba
  have HBC := Lib.hid hbc
  have HAC := Lib.hid hac
  have F2 := Lib.hid f2
  have F3 := Lib.hid f3
  clear haa hab hba hbc hac f2 f3
  subst e1
  subst e2
  subst e3
  go_wp2_with (first
    | (go_at_call 4
       with_reducible refine (HL.out _).mono ?_
       rintro e wn ⟨rfl, hbn⟩
       have hra := (hbn.block _ (Array.getElem?_eq_some_iff.1 RA.out).1).trans RA.out
       have hrb := (hbn.block _ (Array.getElem?_eq_some_iff.1 RB.out).1).trans RB.out
       have hrc := (hbn.block _ (Array.getElem?_eq_some_iff.1 RC.out).1).trans RC.out
       have hbm := Mem.then_ BL.out hbn
       clear RA RB RC BL hbn
       have ca := fun i => cell_of_row _ _ i _ _ _ hra
       have cb := fun i => cell_of_row _ _ i _ _ _ hrb
       have cc := fun i => cell_of_row _ _ i _ _ _ hrc
       have RA := Lib.hid hra
       have RB := Lib.hid hrb
       have RC := Lib.hid hrc
       have BL := Lib.hid hbm
       clear hra hrb hrc hbm)
    | (go_at_call 5
       with_reducible refine (HAA.out _).mono ?_
       rintro e wn ⟨rfl, hbn⟩
       have hra := (hbn.block _ (Array.getElem?_eq_some_iff.1 RA.out).1).trans RA.out
       have hrb := (hbn.block _ (Array.getElem?_eq_some_iff.1 RB.out).1).trans RB.out
       have hrc := (hbn.block _ (Array.getElem?_eq_some_iff.1 RC.out).1).trans RC.out
       have hbm := Mem.then_ BL.out hbn
       clear RA RB RC BL hbn
       have ca := fun i => cell_of_row _ _ i _ _ _ hra
       have cb := fun i => cell_of_row _ _ i _ _ _ hrb
       have cc := fun i => cell_of_row _ _ i _ _ _ hrc
       have RA := Lib.hid hra
       have RB := Lib.hid hrb
       have RC := Lib.hid hrc
       have BL := Lib.hid hbm
       clear hra hrb hrc hbm)
    | (go_at_call 5
       with_reducible refine (HAB.out _).mono ?_
       rintro e wn ⟨rfl, hbn⟩
       have hra := (hbn.block _ (Array.getElem?_eq_some_iff.1 RA.out).1).trans RA.out
       have hrb := (hbn.block _ (Array.getElem?_eq_some_iff.1 RB.out).1).trans RB.out
       have hrc := (hbn.block _ (Array.getElem?_eq_some_iff.1 RC.out).1).trans RC.out
       have hbm := Mem.then_ BL.out hbn
       clear RA RB RC BL hbn
       have ca := fun i => cell_of_row _ _ i _ _ _ hra
       have cb := fun i => cell_of_row _ _ i _ _ _ hrb
       have cc := fun i => cell_of_row _ _ i _ _ _ hrc
       have RA := Lib.hid hra
       have RB := Lib.hid hrb
       have RC := Lib.hid hrc
       have BL := Lib.hid hbm
       clear hra hrb hrc hbm)
    | (go_at_call 5
       with_reducible refine (HBA.out _).mono ?_
       rintro e wn ⟨rfl, hbn⟩
       have hra := (hbn.block _ (Array.getElem?_eq_some_iff.1 RA.out).1).trans RA.out
       have hrb := (hbn.block _ (Array.getElem?_eq_some_iff.1 RB.out).1).trans RB.out
       have hrc := (hbn.block _ (Array.getElem?_eq_some_iff.1 RC.out).1).trans RC.out
       have hbm := Mem.then_ BL.out hbn
       clear RA RB RC BL hbn
       have ca := fun i => cell_of_row _ _ i _ _ _ hra
       have cb := fun i => cell_of_row _ _ i _ _ _ hrb
       have cc := fun i => cell_of_row _ _ i _ _ _ hrc
       have RA := Lib.hid hra
       have RB := Lib.hid hrb
       have RC := Lib.hid hrc
       have BL := Lib.hid hbm
       clear hra hrb hrc hbm)
    | (go_at_call 5
       with_reducible refine (HBC.out _).mono ?_
       rintro e wn ⟨rfl, hbn⟩
       have hra := (hbn.block _ (Array.getElem?_eq_some_iff.1 RA.out).1).trans RA.out
       have hrb := (hbn.block _ (Array.getElem?_eq_some_iff.1 RB.out).1).trans RB.out
       have hrc := (hbn.block _ (Array.getElem?_eq_some_iff.1 RC.out).1).trans RC.out
       have hbm := Mem.then_ BL.out hbn
       clear RA RB RC BL hbn
       have ca := fun i => cell_of_row _ _ i _ _ _ hra
       have cb := fun i => cell_of_row _ _ i _ _ _ hrb
       have cc := fun i => cell_of_row _ _ i _ _ _ hrc
       have RA := Lib.hid hra
       have RB := Lib.hid hrb
       have RC := Lib.hid hrc
       have BL := Lib.hid hbm
       clear hra hrb hrc hbm)
    | (go_at_call 5
       with_reducible refine (HAC.out _).mono ?_
       rintro e wn ⟨rfl, hbn⟩
       have hra := (hbn.block _ (Array.getElem?_eq_some_iff.1 RA.out).1).trans RA.out
       have hrb := (hbn.block _ (Array.getElem?_eq_some_iff.1 RB.out).1).trans RB.out
       have hrc := (hbn.block _ (Array.getElem?_eq_some_iff.1 RC.out).1).trans RC.out
       have hbm := Mem.then_ BL.out hbn
       clear RA RB RC BL hbn
       have ca := fun i => cell_of_row _ _ i _ _ _ hra
       have cb := fun i => cell_of_row _ _ i _ _ _ hrb
       have cc := fun i => cell_of_row _ _ i _ _ _ hrc
       have RA := Lib.hid hra
       have RB := Lib.hid hrb
       have RC := Lib.hid hrc
       have BL := Lib.hid hbm
       clear hra hrb hrc hbm)
    )
  all_goals go_ret
  all_goals refine ⟨?_, BL.out⟩
  all_goals have f2 := F2.out
  all_goals have f3 := F3.out
  all_goals clear F2 F3 RA RB RC HL HAA HAB HBA HBC HAC BL ca cb cc
  all_goals simp_all

set_option maxRecDepth 100000 in
set_option maxHeartbeats 4000000 in
theorem opsOrder_num (a1 aq an ak ap : Int) (ax : ByteArray) (av : Value) (b1 bq bn bk bp : Int) (bx : ByteArray) (bv : Value) (c1 cq cn ck cp : Int) (cx : ByteArray) (cv : Value) (xab xba xbc xac : Bool) (w : World)
    (haa : ∀ w, Calls Try.prog 5 #[.agg #[.int .i64 a1, .int .i64 aq, .int .i64 an, .int .i64 ak, .int .i64 ap, .string ax, av], .agg #[.int .i64 a1, .int .i64 aq, .int .i64 an, .int .i64 ak, .int .i64 ap, .string ax, av]] w fun e w' => e = .returned (.bool false) ∧ Below w.heap.size w w') (hab : ∀ w, Calls Try.prog 5 #[.agg #[.int .i64 a1, .int .i64 aq, .int .i64 an, .int .i64 ak, .int .i64 ap, .string ax, av], .agg #[.int .i64 b1, .int .i64 bq, .int .i64 bn, .int .i64 bk, .int .i64 bp, .string bx, bv]] w fun e w' => e = .returned (.bool xab) ∧ Below w.heap.size w w') (hba : ∀ w, Calls Try.prog 5 #[.agg #[.int .i64 b1, .int .i64 bq, .int .i64 bn, .int .i64 bk, .int .i64 bp, .string bx, bv], .agg #[.int .i64 a1, .int .i64 aq, .int .i64 an, .int .i64 ak, .int .i64 ap, .string ax, av]] w fun e w' => e = .returned (.bool xba) ∧ Below w.heap.size w w') (hbc : ∀ w, Calls Try.prog 5 #[.agg #[.int .i64 b1, .int .i64 bq, .int .i64 bn, .int .i64 bk, .int .i64 bp, .string bx, bv], .agg #[.int .i64 c1, .int .i64 cq, .int .i64 cn, .int .i64 ck, .int .i64 cp, .string cx, cv]] w fun e w' => e = .returned (.bool xbc) ∧ Below w.heap.size w w') (hac : ∀ w, Calls Try.prog 5 #[.agg #[.int .i64 a1, .int .i64 aq, .int .i64 an, .int .i64 ak, .int .i64 ap, .string ax, av], .agg #[.int .i64 c1, .int .i64 cq, .int .i64 cn, .int .i64 ck, .int .i64 cp, .string cx, cv]] w fun e w' => e = .returned (.bool xac) ∧ Below w.heap.size w w')
    (e1 : a1 = b1) (e2 : aq = bq) (e3 : ¬ an = bn) (f1 : (xab && xba) = false) (f2 : ¬ (a1 = b1 ∧ aq = bq ∧ an = bn) → xab = false → xba = true) (f3 : 0 ≤ an → 0 ≤ bn → 0 ≤ cn → xab = true → xbc = true → xac = true) :
    Calls Try.prog 3 #[.agg #[.int .i64 a1, .int .i64 aq, .int .i64 an, .int .i64 ak, .int .i64 ap, .string ax, av], .agg #[.int .i64 b1, .int .i64 bq, .int .i64 bn, .int .i64 bk, .int .i64 bp, .string bx, bv], .agg #[.int .i64 c1, .int .i64 cq, .int .i64 cn, .int .i64 ck, .int .i64 cp, .string cx, cv]] w fun e w' => e = .returned (.bool true) ∧ Below w.heap.size w w' := by
  go_enter Try.func3, Try.ntmps3
  have bl : Below w.heap.size w (((w.alloc (.cells #[.int .i64 a1, .int .i64 aq, .int .i64 an, .int .i64 ak, .int .i64 ap, .string ax, av] 26)).alloc (.cells #[.int .i64 b1, .int .i64 bq, .int .i64 bn, .int .i64 bk, .int .i64 bp, .string bx, bv] 26)).alloc (.cells #[.int .i64 c1, .int .i64 cq, .int .i64 cn, .int .i64 ck, .int .i64 cp, .string cx, cv] 26)) := (((Below.refl _ w).alloc (Nat.le_refl _) _).alloc (by simp) _).alloc (by simp; omega) _
  have ra : (((w.alloc (.cells #[.int .i64 a1, .int .i64 aq, .int .i64 an, .int .i64 ak, .int .i64 ap, .string ax, av] 26)).alloc (.cells #[.int .i64 b1, .int .i64 bq, .int .i64 bn, .int .i64 bk, .int .i64 bp, .string bx, bv] 26)).alloc (.cells #[.int .i64 c1, .int .i64 cq, .int .i64 cn, .int .i64 ck, .int .i64 cp, .string cx, cv] 26)).heap[w.heap.size]? = some (.cells #[.int .i64 a1, .int .i64 aq, .int .i64 an, .int .i64 ak, .int .i64 ap, .string ax, av] 26 (0, 0)) := by
    rw [heap_alloc_old _ _ _ (by simp; omega), heap_alloc_old _ _ _ (by simp)]; exact heap_alloc_new w _
  have rb : (((w.alloc (.cells #[.int .i64 a1, .int .i64 aq, .int .i64 an, .int .i64 ak, .int .i64 ap, .string ax, av] 26)).alloc (.cells #[.int .i64 b1, .int .i64 bq, .int .i64 bn, .int .i64 bk, .int .i64 bp, .string bx, bv] 26)).alloc (.cells #[.int .i64 c1, .int .i64 cq, .int .i64 cn, .int .i64 ck, .int .i64 cp, .string cx, cv] 26)).heap[w.heap.size + 1]? = some (.cells #[.int .i64 b1, .int .i64 bq, .int .i64 bn, .int .i64 bk, .int .i64 bp, .string bx, bv] 26 (0, 0)) := by
    rw [heap_alloc_old _ _ _ (by simp)]
    have := heap_alloc_new (w.alloc (.cells #[.int .i64 a1, .int .i64 aq, .int .i64 an, .int .i64 ak, .int .i64 ap, .string ax, av] 26)) (.cells #[.int .i64 b1, .int .i64 bq, .int .i64 bn, .int .i64 bk, .int .i64 bp, .string bx, bv] 26)
    rw [World.size_alloc] at this
    exact this
  have rc : (((w.alloc (.cells #[.int .i64 a1, .int .i64 aq, .int .i64 an, .int .i64 ak, .int .i64 ap, .string ax, av] 26)).alloc (.cells #[.int .i64 b1, .int .i64 bq, .int .i64 bn, .int .i64 bk, .int .i64 bp, .string bx, bv] 26)).alloc (.cells #[.int .i64 c1, .int .i64 cq, .int .i64 cn, .int .i64 ck, .int .i64 cp, .string cx, cv] 26)).heap[w.heap.size + 1 + 1]? = some (.cells #[.int .i64 c1, .int .i64 cq, .int .i64 cn, .int .i64 ck, .int .i64 cp, .string cx, cv] 26 (0, 0)) := by
    have := heap_alloc_new ((w.alloc (.cells #[.int .i64 a1, .int .i64 aq, .int .i64 an, .int .i64 ak, .int .i64 ap, .string ax, av] 26)).alloc (.cells #[.int .i64 b1, .int .i64 bq, .int .i64 bn, .int .i64 bk, .int .i64 bp, .string bx, bv] 26)) (.cells #[.int .i64 c1, .int .i64 cq, .int .i64 cn, .int .i64 ck, .int .i64 cp, .string cx, cv] 26)
    rw [World.size_alloc, World.size_alloc] at this
    exact this
  have RA := Lib.hid ra
  have RB := Lib.hid rb
  have RC := Lib.hid rc
  have BL := Lib.hid bl
  clear ra rb rc bl
  have HL := Lib.hid alive_true
  have HAA := Lib.hid haa
  have HAB := Lib.hid hab
  have HBA := Lib.hid hba
  have HBC := Lib.hid hbc
  have HAC := Lib.hid hac
  have F2 := Lib.hid f2
  have F3 := Lib.hid f3
  clear haa hab hba hbc hac f2 f3
  subst e1
  subst e2
  go_wp2_with (first
    | (go_at_call 4
       with_reducible refine (HL.out _).mono ?_
       rintro e wn ⟨rfl, hbn⟩
       have hra := (hbn.block _ (Array.getElem?_eq_some_iff.1 RA.out).1).trans RA.out
       have hrb := (hbn.block _ (Array.getElem?_eq_some_iff.1 RB.out).1).trans RB.out
       have hrc := (hbn.block _ (Array.getElem?_eq_some_iff.1 RC.out).1).trans RC.out
       have hbm := Mem.then_ BL.out hbn
       clear RA RB RC BL hbn
       have ca := fun i => cell_of_row _ _ i _ _ _ hra
       have cb := fun i => cell_of_row _ _ i _ _ _ hrb
       have cc := fun i => cell_of_row _ _ i _ _ _ hrc
       have RA := Lib.hid hra
       have RB := Lib.hid hrb
       have RC := Lib.hid hrc
       have BL := Lib.hid hbm
       clear hra hrb hrc hbm)
    | (go_at_call 5
       with_reducible refine (HAA.out _).mono ?_
       rintro e wn ⟨rfl, hbn⟩
       have hra := (hbn.block _ (Array.getElem?_eq_some_iff.1 RA.out).1).trans RA.out
       have hrb := (hbn.block _ (Array.getElem?_eq_some_iff.1 RB.out).1).trans RB.out
       have hrc := (hbn.block _ (Array.getElem?_eq_some_iff.1 RC.out).1).trans RC.out
       have hbm := Mem.then_ BL.out hbn
       clear RA RB RC BL hbn
       have ca := fun i => cell_of_row _ _ i _ _ _ hra
       have cb := fun i => cell_of_row _ _ i _ _ _ hrb
       have cc := fun i => cell_of_row _ _ i _ _ _ hrc
       have RA := Lib.hid hra
       have RB := Lib.hid hrb
       have RC := Lib.hid hrc
       have BL := Lib.hid hbm
       clear hra hrb hrc hbm)
    | (go_at_call 5
       with_reducible refine (HAB.out _).mono ?_
       rintro e wn ⟨rfl, hbn⟩
       have hra := (hbn.block _ (Array.getElem?_eq_some_iff.1 RA.out).1).trans RA.out
       have hrb := (hbn.block _ (Array.getElem?_eq_some_iff.1 RB.out).1).trans RB.out
       have hrc := (hbn.block _ (Array.getElem?_eq_some_iff.1 RC.out).1).trans RC.out
       have hbm := Mem.then_ BL.out hbn
       clear RA RB RC BL hbn
       have ca := fun i => cell_of_row _ _ i _ _ _ hra
       have cb := fun i => cell_of_row _ _ i _ _ _ hrb
       have cc := fun i => cell_of_row _ _ i _ _ _ hrc
       have RA := Lib.hid hra
       have RB := Lib.hid hrb
       have RC := Lib.hid hrc
       have BL := Lib.hid hbm
       clear hra hrb hrc hbm)
    | (go_at_call 5
       with_reducible refine (HBA.out _).mono ?_
       rintro e wn ⟨rfl, hbn⟩
       have hra := (hbn.block _ (Array.getElem?_eq_some_iff.1 RA.out).1).trans RA.out
       have hrb := (hbn.block _ (Array.getElem?_eq_some_iff.1 RB.out).1).trans RB.out
       have hrc := (hbn.block _ (Array.getElem?_eq_some_iff.1 RC.out).1).trans RC.out
       have hbm := Mem.then_ BL.out hbn
       clear RA RB RC BL hbn
       have ca := fun i => cell_of_row _ _ i _ _ _ hra
       have cb := fun i => cell_of_row _ _ i _ _ _ hrb
       have cc := fun i => cell_of_row _ _ i _ _ _ hrc
       have RA := Lib.hid hra
       have RB := Lib.hid hrb
       have RC := Lib.hid hrc
       have BL := Lib.hid hbm
       clear hra hrb hrc hbm)
    | (go_at_call 5
       with_reducible refine (HBC.out _).mono ?_
       rintro e wn ⟨rfl, hbn⟩
       have hra := (hbn.block _ (Array.getElem?_eq_some_iff.1 RA.out).1).trans RA.out
       have hrb := (hbn.block _ (Array.getElem?_eq_some_iff.1 RB.out).1).trans RB.out
       have hrc := (hbn.block _ (Array.getElem?_eq_some_iff.1 RC.out).1).trans RC.out
       have hbm := Mem.then_ BL.out hbn
       clear RA RB RC BL hbn
       have ca := fun i => cell_of_row _ _ i _ _ _ hra
       have cb := fun i => cell_of_row _ _ i _ _ _ hrb
       have cc := fun i => cell_of_row _ _ i _ _ _ hrc
       have RA := Lib.hid hra
       have RB := Lib.hid hrb
       have RC := Lib.hid hrc
       have BL := Lib.hid hbm
       clear hra hrb hrc hbm)
    | (go_at_call 5
       with_reducible refine (HAC.out _).mono ?_
       rintro e wn ⟨rfl, hbn⟩
       have hra := (hbn.block _ (Array.getElem?_eq_some_iff.1 RA.out).1).trans RA.out
       have hrb := (hbn.block _ (Array.getElem?_eq_some_iff.1 RB.out).1).trans RB.out
       have hrc := (hbn.block _ (Array.getElem?_eq_some_iff.1 RC.out).1).trans RC.out
       have hbm := Mem.then_ BL.out hbn
       clear RA RB RC BL hbn
       have ca := fun i => cell_of_row _ _ i _ _ _ hra
       have cb := fun i => cell_of_row _ _ i _ _ _ hrb
       have cc := fun i => cell_of_row _ _ i _ _ _ hrc
       have RA := Lib.hid hra
       have RB := Lib.hid hrb
       have RC := Lib.hid hrc
       have BL := Lib.hid hbm
       clear hra hrb hrc hbm)
    )
  all_goals go_ret
  all_goals refine ⟨?_, BL.out⟩
  all_goals have f2 := F2.out
  all_goals have f3 := F3.out
  all_goals clear F2 F3 RA RB RC HL HAA HAB HBA HBC HAC BL ca cb cc
  all_goals simp_all

set_option maxRecDepth 100000 in
set_option maxHeartbeats 4000000 in
theorem opsOrder_seq (a1 aq an ak ap : Int) (ax : ByteArray) (av : Value) (b1 bq bn bk bp : Int) (bx : ByteArray) (bv : Value) (c1 cq cn ck cp : Int) (cx : ByteArray) (cv : Value) (xab xba xbc xac : Bool) (w : World)
    (haa : ∀ w, Calls Try.prog 5 #[.agg #[.int .i64 a1, .int .i64 aq, .int .i64 an, .int .i64 ak, .int .i64 ap, .string ax, av], .agg #[.int .i64 a1, .int .i64 aq, .int .i64 an, .int .i64 ak, .int .i64 ap, .string ax, av]] w fun e w' => e = .returned (.bool false) ∧ Below w.heap.size w w') (hab : ∀ w, Calls Try.prog 5 #[.agg #[.int .i64 a1, .int .i64 aq, .int .i64 an, .int .i64 ak, .int .i64 ap, .string ax, av], .agg #[.int .i64 b1, .int .i64 bq, .int .i64 bn, .int .i64 bk, .int .i64 bp, .string bx, bv]] w fun e w' => e = .returned (.bool xab) ∧ Below w.heap.size w w') (hba : ∀ w, Calls Try.prog 5 #[.agg #[.int .i64 b1, .int .i64 bq, .int .i64 bn, .int .i64 bk, .int .i64 bp, .string bx, bv], .agg #[.int .i64 a1, .int .i64 aq, .int .i64 an, .int .i64 ak, .int .i64 ap, .string ax, av]] w fun e w' => e = .returned (.bool xba) ∧ Below w.heap.size w w') (hbc : ∀ w, Calls Try.prog 5 #[.agg #[.int .i64 b1, .int .i64 bq, .int .i64 bn, .int .i64 bk, .int .i64 bp, .string bx, bv], .agg #[.int .i64 c1, .int .i64 cq, .int .i64 cn, .int .i64 ck, .int .i64 cp, .string cx, cv]] w fun e w' => e = .returned (.bool xbc) ∧ Below w.heap.size w w') (hac : ∀ w, Calls Try.prog 5 #[.agg #[.int .i64 a1, .int .i64 aq, .int .i64 an, .int .i64 ak, .int .i64 ap, .string ax, av], .agg #[.int .i64 c1, .int .i64 cq, .int .i64 cn, .int .i64 ck, .int .i64 cp, .string cx, cv]] w fun e w' => e = .returned (.bool xac) ∧ Below w.heap.size w w')
    (e1 : a1 = b1) (e2 : ¬ aq = bq) (f1 : (xab && xba) = false) (f2 : ¬ (a1 = b1 ∧ aq = bq ∧ an = bn) → xab = false → xba = true) (f3 : 0 ≤ an → 0 ≤ bn → 0 ≤ cn → xab = true → xbc = true → xac = true) :
    Calls Try.prog 3 #[.agg #[.int .i64 a1, .int .i64 aq, .int .i64 an, .int .i64 ak, .int .i64 ap, .string ax, av], .agg #[.int .i64 b1, .int .i64 bq, .int .i64 bn, .int .i64 bk, .int .i64 bp, .string bx, bv], .agg #[.int .i64 c1, .int .i64 cq, .int .i64 cn, .int .i64 ck, .int .i64 cp, .string cx, cv]] w fun e w' => e = .returned (.bool true) ∧ Below w.heap.size w w' := by
  go_enter Try.func3, Try.ntmps3
  have bl : Below w.heap.size w (((w.alloc (.cells #[.int .i64 a1, .int .i64 aq, .int .i64 an, .int .i64 ak, .int .i64 ap, .string ax, av] 26)).alloc (.cells #[.int .i64 b1, .int .i64 bq, .int .i64 bn, .int .i64 bk, .int .i64 bp, .string bx, bv] 26)).alloc (.cells #[.int .i64 c1, .int .i64 cq, .int .i64 cn, .int .i64 ck, .int .i64 cp, .string cx, cv] 26)) := (((Below.refl _ w).alloc (Nat.le_refl _) _).alloc (by simp) _).alloc (by simp; omega) _
  have ra : (((w.alloc (.cells #[.int .i64 a1, .int .i64 aq, .int .i64 an, .int .i64 ak, .int .i64 ap, .string ax, av] 26)).alloc (.cells #[.int .i64 b1, .int .i64 bq, .int .i64 bn, .int .i64 bk, .int .i64 bp, .string bx, bv] 26)).alloc (.cells #[.int .i64 c1, .int .i64 cq, .int .i64 cn, .int .i64 ck, .int .i64 cp, .string cx, cv] 26)).heap[w.heap.size]? = some (.cells #[.int .i64 a1, .int .i64 aq, .int .i64 an, .int .i64 ak, .int .i64 ap, .string ax, av] 26 (0, 0)) := by
    rw [heap_alloc_old _ _ _ (by simp; omega), heap_alloc_old _ _ _ (by simp)]; exact heap_alloc_new w _
  have rb : (((w.alloc (.cells #[.int .i64 a1, .int .i64 aq, .int .i64 an, .int .i64 ak, .int .i64 ap, .string ax, av] 26)).alloc (.cells #[.int .i64 b1, .int .i64 bq, .int .i64 bn, .int .i64 bk, .int .i64 bp, .string bx, bv] 26)).alloc (.cells #[.int .i64 c1, .int .i64 cq, .int .i64 cn, .int .i64 ck, .int .i64 cp, .string cx, cv] 26)).heap[w.heap.size + 1]? = some (.cells #[.int .i64 b1, .int .i64 bq, .int .i64 bn, .int .i64 bk, .int .i64 bp, .string bx, bv] 26 (0, 0)) := by
    rw [heap_alloc_old _ _ _ (by simp)]
    have := heap_alloc_new (w.alloc (.cells #[.int .i64 a1, .int .i64 aq, .int .i64 an, .int .i64 ak, .int .i64 ap, .string ax, av] 26)) (.cells #[.int .i64 b1, .int .i64 bq, .int .i64 bn, .int .i64 bk, .int .i64 bp, .string bx, bv] 26)
    rw [World.size_alloc] at this
    exact this
  have rc : (((w.alloc (.cells #[.int .i64 a1, .int .i64 aq, .int .i64 an, .int .i64 ak, .int .i64 ap, .string ax, av] 26)).alloc (.cells #[.int .i64 b1, .int .i64 bq, .int .i64 bn, .int .i64 bk, .int .i64 bp, .string bx, bv] 26)).alloc (.cells #[.int .i64 c1, .int .i64 cq, .int .i64 cn, .int .i64 ck, .int .i64 cp, .string cx, cv] 26)).heap[w.heap.size + 1 + 1]? = some (.cells #[.int .i64 c1, .int .i64 cq, .int .i64 cn, .int .i64 ck, .int .i64 cp, .string cx, cv] 26 (0, 0)) := by
    have := heap_alloc_new ((w.alloc (.cells #[.int .i64 a1, .int .i64 aq, .int .i64 an, .int .i64 ak, .int .i64 ap, .string ax, av] 26)).alloc (.cells #[.int .i64 b1, .int .i64 bq, .int .i64 bn, .int .i64 bk, .int .i64 bp, .string bx, bv] 26)) (.cells #[.int .i64 c1, .int .i64 cq, .int .i64 cn, .int .i64 ck, .int .i64 cp, .string cx, cv] 26)
    rw [World.size_alloc, World.size_alloc] at this
    exact this
  have RA := Lib.hid ra
  have RB := Lib.hid rb
  have RC := Lib.hid rc
  have BL := Lib.hid bl
  clear ra rb rc bl
  have HL := Lib.hid alive_true
  have HAA := Lib.hid haa
  have HAB := Lib.hid hab
  have HBA := Lib.hid hba
  have HBC := Lib.hid hbc
  have HAC := Lib.hid hac
  have F2 := Lib.hid f2
  have F3 := Lib.hid f3
  clear haa hab hba hbc hac f2 f3
  subst e1
  go_wp2_with (first
    | (go_at_call 4
       with_reducible refine (HL.out _).mono ?_
       rintro e wn ⟨rfl, hbn⟩
       have hra := (hbn.block _ (Array.getElem?_eq_some_iff.1 RA.out).1).trans RA.out
       have hrb := (hbn.block _ (Array.getElem?_eq_some_iff.1 RB.out).1).trans RB.out
       have hrc := (hbn.block _ (Array.getElem?_eq_some_iff.1 RC.out).1).trans RC.out
       have hbm := Mem.then_ BL.out hbn
       clear RA RB RC BL hbn
       have ca := fun i => cell_of_row _ _ i _ _ _ hra
       have cb := fun i => cell_of_row _ _ i _ _ _ hrb
       have cc := fun i => cell_of_row _ _ i _ _ _ hrc
       have RA := Lib.hid hra
       have RB := Lib.hid hrb
       have RC := Lib.hid hrc
       have BL := Lib.hid hbm
       clear hra hrb hrc hbm)
    | (go_at_call 5
       with_reducible refine (HAA.out _).mono ?_
       rintro e wn ⟨rfl, hbn⟩
       have hra := (hbn.block _ (Array.getElem?_eq_some_iff.1 RA.out).1).trans RA.out
       have hrb := (hbn.block _ (Array.getElem?_eq_some_iff.1 RB.out).1).trans RB.out
       have hrc := (hbn.block _ (Array.getElem?_eq_some_iff.1 RC.out).1).trans RC.out
       have hbm := Mem.then_ BL.out hbn
       clear RA RB RC BL hbn
       have ca := fun i => cell_of_row _ _ i _ _ _ hra
       have cb := fun i => cell_of_row _ _ i _ _ _ hrb
       have cc := fun i => cell_of_row _ _ i _ _ _ hrc
       have RA := Lib.hid hra
       have RB := Lib.hid hrb
       have RC := Lib.hid hrc
       have BL := Lib.hid hbm
       clear hra hrb hrc hbm)
    | (go_at_call 5
       with_reducible refine (HAB.out _).mono ?_
       rintro e wn ⟨rfl, hbn⟩
       have hra := (hbn.block _ (Array.getElem?_eq_some_iff.1 RA.out).1).trans RA.out
       have hrb := (hbn.block _ (Array.getElem?_eq_some_iff.1 RB.out).1).trans RB.out
       have hrc := (hbn.block _ (Array.getElem?_eq_some_iff.1 RC.out).1).trans RC.out
       have hbm := Mem.then_ BL.out hbn
       clear RA RB RC BL hbn
       have ca := fun i => cell_of_row _ _ i _ _ _ hra
       have cb := fun i => cell_of_row _ _ i _ _ _ hrb
       have cc := fun i => cell_of_row _ _ i _ _ _ hrc
       have RA := Lib.hid hra
       have RB := Lib.hid hrb
       have RC := Lib.hid hrc
       have BL := Lib.hid hbm
       clear hra hrb hrc hbm)
    | (go_at_call 5
       with_reducible refine (HBA.out _).mono ?_
       rintro e wn ⟨rfl, hbn⟩
       have hra := (hbn.block _ (Array.getElem?_eq_some_iff.1 RA.out).1).trans RA.out
       have hrb := (hbn.block _ (Array.getElem?_eq_some_iff.1 RB.out).1).trans RB.out
       have hrc := (hbn.block _ (Array.getElem?_eq_some_iff.1 RC.out).1).trans RC.out
       have hbm := Mem.then_ BL.out hbn
       clear RA RB RC BL hbn
       have ca := fun i => cell_of_row _ _ i _ _ _ hra
       have cb := fun i => cell_of_row _ _ i _ _ _ hrb
       have cc := fun i => cell_of_row _ _ i _ _ _ hrc
       have RA := Lib.hid hra
       have RB := Lib.hid hrb
       have RC := Lib.hid hrc
       have BL := Lib.hid hbm
       clear hra hrb hrc hbm)
    | (go_at_call 5
       with_reducible refine (HBC.out _).mono ?_
       rintro e wn ⟨rfl, hbn⟩
       have hra := (hbn.block _ (Array.getElem?_eq_some_iff.1 RA.out).1).trans RA.out
       have hrb := (hbn.block _ (Array.getElem?_eq_some_iff.1 RB.out).1).trans RB.out
       have hrc := (hbn.block _ (Array.getElem?_eq_some_iff.1 RC.out).1).trans RC.out
       have hbm := Mem.then_ BL.out hbn
       clear RA RB RC BL hbn
       have ca := fun i => cell_of_row _ _ i _ _ _ hra
       have cb := fun i => cell_of_row _ _ i _ _ _ hrb
       have cc := fun i => cell_of_row _ _ i _ _ _ hrc
       have RA := Lib.hid hra
       have RB := Lib.hid hrb
       have RC := Lib.hid hrc
       have BL := Lib.hid hbm
       clear hra hrb hrc hbm)
    | (go_at_call 5
       with_reducible refine (HAC.out _).mono ?_
       rintro e wn ⟨rfl, hbn⟩
       have hra := (hbn.block _ (Array.getElem?_eq_some_iff.1 RA.out).1).trans RA.out
       have hrb := (hbn.block _ (Array.getElem?_eq_some_iff.1 RB.out).1).trans RB.out
       have hrc := (hbn.block _ (Array.getElem?_eq_some_iff.1 RC.out).1).trans RC.out
       have hbm := Mem.then_ BL.out hbn
       clear RA RB RC BL hbn
       have ca := fun i => cell_of_row _ _ i _ _ _ hra
       have cb := fun i => cell_of_row _ _ i _ _ _ hrb
       have cc := fun i => cell_of_row _ _ i _ _ _ hrc
       have RA := Lib.hid hra
       have RB := Lib.hid hrb
       have RC := Lib.hid hrc
       have BL := Lib.hid hbm
       clear hra hrb hrc hbm)
    )
  all_goals go_ret
  all_goals refine ⟨?_, BL.out⟩
  all_goals have f2 := F2.out
  all_goals have f3 := F3.out
  all_goals clear F2 F3 RA RB RC HL HAA HAB HBA HBC HAC BL ca cb cc
  all_goals simp_all

set_option maxRecDepth 100000 in
set_option maxHeartbeats 4000000 in
theorem opsOrder_site (a1 aq an ak ap : Int) (ax : ByteArray) (av : Value) (b1 bq bn bk bp : Int) (bx : ByteArray) (bv : Value) (c1 cq cn ck cp : Int) (cx : ByteArray) (cv : Value) (xab xba xbc xac : Bool) (w : World)
    (haa : ∀ w, Calls Try.prog 5 #[.agg #[.int .i64 a1, .int .i64 aq, .int .i64 an, .int .i64 ak, .int .i64 ap, .string ax, av], .agg #[.int .i64 a1, .int .i64 aq, .int .i64 an, .int .i64 ak, .int .i64 ap, .string ax, av]] w fun e w' => e = .returned (.bool false) ∧ Below w.heap.size w w') (hab : ∀ w, Calls Try.prog 5 #[.agg #[.int .i64 a1, .int .i64 aq, .int .i64 an, .int .i64 ak, .int .i64 ap, .string ax, av], .agg #[.int .i64 b1, .int .i64 bq, .int .i64 bn, .int .i64 bk, .int .i64 bp, .string bx, bv]] w fun e w' => e = .returned (.bool xab) ∧ Below w.heap.size w w') (hba : ∀ w, Calls Try.prog 5 #[.agg #[.int .i64 b1, .int .i64 bq, .int .i64 bn, .int .i64 bk, .int .i64 bp, .string bx, bv], .agg #[.int .i64 a1, .int .i64 aq, .int .i64 an, .int .i64 ak, .int .i64 ap, .string ax, av]] w fun e w' => e = .returned (.bool xba) ∧ Below w.heap.size w w') (hbc : ∀ w, Calls Try.prog 5 #[.agg #[.int .i64 b1, .int .i64 bq, .int .i64 bn, .int .i64 bk, .int .i64 bp, .string bx, bv], .agg #[.int .i64 c1, .int .i64 cq, .int .i64 cn, .int .i64 ck, .int .i64 cp, .string cx, cv]] w fun e w' => e = .returned (.bool xbc) ∧ Below w.heap.size w w') (hac : ∀ w, Calls Try.prog 5 #[.agg #[.int .i64 a1, .int .i64 aq, .int .i64 an, .int .i64 ak, .int .i64 ap, .string ax, av], .agg #[.int .i64 c1, .int .i64 cq, .int .i64 cn, .int .i64 ck, .int .i64 cp, .string cx, cv]] w fun e w' => e = .returned (.bool xac) ∧ Below w.heap.size w w')
    (e1 : ¬ a1 = b1) (f1 : (xab && xba) = false) (f2 : ¬ (a1 = b1 ∧ aq = bq ∧ an = bn) → xab = false → xba = true) (f3 : 0 ≤ an → 0 ≤ bn → 0 ≤ cn → xab = true → xbc = true → xac = true) :
    Calls Try.prog 3 #[.agg #[.int .i64 a1, .int .i64 aq, .int .i64 an, .int .i64 ak, .int .i64 ap, .string ax, av], .agg #[.int .i64 b1, .int .i64 bq, .int .i64 bn, .int .i64 bk, .int .i64 bp, .string bx, bv], .agg #[.int .i64 c1, .int .i64 cq, .int .i64 cn, .int .i64 ck, .int .i64 cp, .string cx, cv]] w fun e w' => e = .returned (.bool true) ∧ Below w.heap.size w w' := by
  go_enter Try.func3, Try.ntmps3
  have bl : Below w.heap.size w (((w.alloc (.cells #[.int .i64 a1, .int .i64 aq, .int .i64 an, .int .i64 ak, .int .i64 ap, .string ax, av] 26)).alloc (.cells #[.int .i64 b1, .int .i64 bq, .int .i64 bn, .int .i64 bk, .int .i64 bp, .string bx, bv] 26)).alloc (.cells #[.int .i64 c1, .int .i64 cq, .int .i64 cn, .int .i64 ck, .int .i64 cp, .string cx, cv] 26)) := (((Below.refl _ w).alloc (Nat.le_refl _) _).alloc (by simp) _).alloc (by simp; omega) _
  have ra : (((w.alloc (.cells #[.int .i64 a1, .int .i64 aq, .int .i64 an, .int .i64 ak, .int .i64 ap, .string ax, av] 26)).alloc (.cells #[.int .i64 b1, .int .i64 bq, .int .i64 bn, .int .i64 bk, .int .i64 bp, .string bx, bv] 26)).alloc (.cells #[.int .i64 c1, .int .i64 cq, .int .i64 cn, .int .i64 ck, .int .i64 cp, .string cx, cv] 26)).heap[w.heap.size]? = some (.cells #[.int .i64 a1, .int .i64 aq, .int .i64 an, .int .i64 ak, .int .i64 ap, .string ax, av] 26 (0, 0)) := by
    rw [heap_alloc_old _ _ _ (by simp; omega), heap_alloc_old _ _ _ (by simp)]; exact heap_alloc_new w _
  have rb : (((w.alloc (.cells #[.int .i64 a1, .int .i64 aq, .int .i64 an, .int .i64 ak, .int .i64 ap, .string ax, av] 26)).alloc (.cells #[.int .i64 b1, .int .i64 bq, .int .i64 bn, .int .i64 bk, .int .i64 bp, .string bx, bv] 26)).alloc (.cells #[.int .i64 c1, .int .i64 cq, .int .i64 cn, .int .i64 ck, .int .i64 cp, .string cx, cv] 26)).heap[w.heap.size + 1]? = some (.cells #[.int .i64 b1, .int .i64 bq, .int .i64 bn, .int .i64 bk, .int .i64 bp, .string bx, bv] 26 (0, 0)) := by
    rw [heap_alloc_old _ _ _ (by simp)]
    have := heap_alloc_new (w.alloc (.cells #[.int .i64 a1, .int .i64 aq, .int .i64 an, .int .i64 ak, .int .i64 ap, .string ax, av] 26)) (.cells #[.int .i64 b1, .int .i64 bq, .int .i64 bn, .int .i64 bk, .int .i64 bp, .string bx, bv] 26)
    rw [World.size_alloc] at this
    exact this
  have rc : (((w.alloc (.cells #[.int .i64 a1, .int .i64 aq, .int .i64 an, .int .i64 ak, .int .i64 ap, .string ax, av] 26)).alloc (.cells #[.int .i64 b1, .int .i64 bq, .int .i64 bn, .int .i64 bk, .int .i64 bp, .string bx, bv] 26)).alloc (.cells #[.int .i64 c1, .int .i64 cq, .int .i64 cn, .int .i64 ck, .int .i64 cp, .string cx, cv] 26)).heap[w.heap.size + 1 + 1]? = some (.cells #[.int .i64 c1, .int .i64 cq, .int .i64 cn, .int .i64 ck, .int .i64 cp, .string cx, cv] 26 (0, 0)) := by
    have := heap_alloc_new ((w.alloc (.cells #[.int .i64 a1, .int .i64 aq, .int .i64 an, .int .i64 ak, .int .i64 ap, .string ax, av] 26)).alloc (.cells #[.int .i64 b1, .int .i64 bq, .int .i64 bn, .int .i64 bk, .int .i64 bp, .string bx, bv] 26)) (.cells #[.int .i64 c1, .int .i64 cq, .int .i64 cn, .int .i64 ck, .int .i64 cp, .string cx, cv] 26)
    rw [World.size_alloc, World.size_alloc] at this
    exact this
  have RA := Lib.hid ra
  have RB := Lib.hid rb
  have RC := Lib.hid rc
  have BL := Lib.hid bl
  clear ra rb rc bl
  have HL := Lib.hid alive_true
  have HAA := Lib.hid haa
  have HAB := Lib.hid hab
  have HBA := Lib.hid hba
  have HBC := Lib.hid hbc
  have HAC := Lib.hid hac
  have F2 := Lib.hid f2
  have F3 := Lib.hid f3
  clear haa hab hba hbc hac f2 f3
  go_wp2_with (first
    | (go_at_call 4
       with_reducible refine (HL.out _).mono ?_
       rintro e wn ⟨rfl, hbn⟩
       have hra := (hbn.block _ (Array.getElem?_eq_some_iff.1 RA.out).1).trans RA.out
       have hrb := (hbn.block _ (Array.getElem?_eq_some_iff.1 RB.out).1).trans RB.out
       have hrc := (hbn.block _ (Array.getElem?_eq_some_iff.1 RC.out).1).trans RC.out
       have hbm := Mem.then_ BL.out hbn
       clear RA RB RC BL hbn
       have ca := fun i => cell_of_row _ _ i _ _ _ hra
       have cb := fun i => cell_of_row _ _ i _ _ _ hrb
       have cc := fun i => cell_of_row _ _ i _ _ _ hrc
       have RA := Lib.hid hra
       have RB := Lib.hid hrb
       have RC := Lib.hid hrc
       have BL := Lib.hid hbm
       clear hra hrb hrc hbm)
    | (go_at_call 5
       with_reducible refine (HAA.out _).mono ?_
       rintro e wn ⟨rfl, hbn⟩
       have hra := (hbn.block _ (Array.getElem?_eq_some_iff.1 RA.out).1).trans RA.out
       have hrb := (hbn.block _ (Array.getElem?_eq_some_iff.1 RB.out).1).trans RB.out
       have hrc := (hbn.block _ (Array.getElem?_eq_some_iff.1 RC.out).1).trans RC.out
       have hbm := Mem.then_ BL.out hbn
       clear RA RB RC BL hbn
       have ca := fun i => cell_of_row _ _ i _ _ _ hra
       have cb := fun i => cell_of_row _ _ i _ _ _ hrb
       have cc := fun i => cell_of_row _ _ i _ _ _ hrc
       have RA := Lib.hid hra
       have RB := Lib.hid hrb
       have RC := Lib.hid hrc
       have BL := Lib.hid hbm
       clear hra hrb hrc hbm)
    | (go_at_call 5
       with_reducible refine (HAB.out _).mono ?_
       rintro e wn ⟨rfl, hbn⟩
       have hra := (hbn.block _ (Array.getElem?_eq_some_iff.1 RA.out).1).trans RA.out
       have hrb := (hbn.block _ (Array.getElem?_eq_some_iff.1 RB.out).1).trans RB.out
       have hrc := (hbn.block _ (Array.getElem?_eq_some_iff.1 RC.out).1).trans RC.out
       have hbm := Mem.then_ BL.out hbn
       clear RA RB RC BL hbn
       have ca := fun i => cell_of_row _ _ i _ _ _ hra
       have cb := fun i => cell_of_row _ _ i _ _ _ hrb
       have cc := fun i => cell_of_row _ _ i _ _ _ hrc
       have RA := Lib.hid hra
       have RB := Lib.hid hrb
       have RC := Lib.hid hrc
       have BL := Lib.hid hbm
       clear hra hrb hrc hbm)
    | (go_at_call 5
       with_reducible refine (HBA.out _).mono ?_
       rintro e wn ⟨rfl, hbn⟩
       have hra := (hbn.block _ (Array.getElem?_eq_some_iff.1 RA.out).1).trans RA.out
       have hrb := (hbn.block _ (Array.getElem?_eq_some_iff.1 RB.out).1).trans RB.out
       have hrc := (hbn.block _ (Array.getElem?_eq_some_iff.1 RC.out).1).trans RC.out
       have hbm := Mem.then_ BL.out hbn
       clear RA RB RC BL hbn
       have ca := fun i => cell_of_row _ _ i _ _ _ hra
       have cb := fun i => cell_of_row _ _ i _ _ _ hrb
       have cc := fun i => cell_of_row _ _ i _ _ _ hrc
       have RA := Lib.hid hra
       have RB := Lib.hid hrb
       have RC := Lib.hid hrc
       have BL := Lib.hid hbm
       clear hra hrb hrc hbm)
    | (go_at_call 5
       with_reducible refine (HBC.out _).mono ?_
       rintro e wn ⟨rfl, hbn⟩
       have hra := (hbn.block _ (Array.getElem?_eq_some_iff.1 RA.out).1).trans RA.out
       have hrb := (hbn.block _ (Array.getElem?_eq_some_iff.1 RB.out).1).trans RB.out
       have hrc := (hbn.block _ (Array.getElem?_eq_some_iff.1 RC.out).1).trans RC.out
       have hbm := Mem.then_ BL.out hbn
       clear RA RB RC BL hbn
       have ca := fun i => cell_of_row _ _ i _ _ _ hra
       have cb := fun i => cell_of_row _ _ i _ _ _ hrb
       have cc := fun i => cell_of_row _ _ i _ _ _ hrc
       have RA := Lib.hid hra
       have RB := Lib.hid hrb
       have RC := Lib.hid hrc
       have BL := Lib.hid hbm
       clear hra hrb hrc hbm)
    | (go_at_call 5
       with_reducible refine (HAC.out _).mono ?_
       rintro e wn ⟨rfl, hbn⟩
       have hra := (hbn.block _ (Array.getElem?_eq_some_iff.1 RA.out).1).trans RA.out
       have hrb := (hbn.block _ (Array.getElem?_eq_some_iff.1 RB.out).1).trans RB.out
       have hrc := (hbn.block _ (Array.getElem?_eq_some_iff.1 RC.out).1).trans RC.out
       have hbm := Mem.then_ BL.out hbn
       clear RA RB RC BL hbn
       have ca := fun i => cell_of_row _ _ i _ _ _ hra
       have cb := fun i => cell_of_row _ _ i _ _ _ hrb
       have cc := fun i => cell_of_row _ _ i _ _ _ hrc
       have RA := Lib.hid hra
       have RB := Lib.hid hrb
       have RC := Lib.hid hrc
       have BL := Lib.hid hbm
       clear hra hrb hrc hbm)
    )
  all_goals go_ret
  all_goals refine ⟨?_, BL.out⟩
  all_goals have f2 := F2.out
  all_goals have f3 := F3.out
  all_goals clear F2 F3 RA RB RC HL HAA HAB HBA HBC HAC BL ca cb cc
  all_goals simp_all

theorem opsOrder_core (a1 aq an ak ap : Int) (ax : ByteArray) (av : Value) (b1 bq bn bk bp : Int) (bx : ByteArray) (bv : Value) (c1 cq cn ck cp : Int) (cx : ByteArray) (cv : Value) (xab xba xbc xac : Bool) (w : World)
    (haa : ∀ w, Calls Try.prog 5 #[.agg #[.int .i64 a1, .int .i64 aq, .int .i64 an, .int .i64 ak, .int .i64 ap, .string ax, av], .agg #[.int .i64 a1, .int .i64 aq, .int .i64 an, .int .i64 ak, .int .i64 ap, .string ax, av]] w fun e w' => e = .returned (.bool false) ∧ Below w.heap.size w w') (hab : ∀ w, Calls Try.prog 5 #[.agg #[.int .i64 a1, .int .i64 aq, .int .i64 an, .int .i64 ak, .int .i64 ap, .string ax, av], .agg #[.int .i64 b1, .int .i64 bq, .int .i64 bn, .int .i64 bk, .int .i64 bp, .string bx, bv]] w fun e w' => e = .returned (.bool xab) ∧ Below w.heap.size w w') (hba : ∀ w, Calls Try.prog 5 #[.agg #[.int .i64 b1, .int .i64 bq, .int .i64 bn, .int .i64 bk, .int .i64 bp, .string bx, bv], .agg #[.int .i64 a1, .int .i64 aq, .int .i64 an, .int .i64 ak, .int .i64 ap, .string ax, av]] w fun e w' => e = .returned (.bool xba) ∧ Below w.heap.size w w') (hbc : ∀ w, Calls Try.prog 5 #[.agg #[.int .i64 b1, .int .i64 bq, .int .i64 bn, .int .i64 bk, .int .i64 bp, .string bx, bv], .agg #[.int .i64 c1, .int .i64 cq, .int .i64 cn, .int .i64 ck, .int .i64 cp, .string cx, cv]] w fun e w' => e = .returned (.bool xbc) ∧ Below w.heap.size w w') (hac : ∀ w, Calls Try.prog 5 #[.agg #[.int .i64 a1, .int .i64 aq, .int .i64 an, .int .i64 ak, .int .i64 ap, .string ax, av], .agg #[.int .i64 c1, .int .i64 cq, .int .i64 cn, .int .i64 ck, .int .i64 cp, .string cx, cv]] w fun e w' => e = .returned (.bool xac) ∧ Below w.heap.size w w')
    (f1 : (xab && xba) = false) (f2 : ¬ (a1 = b1 ∧ aq = bq ∧ an = bn) → xab = false → xba = true) (f3 : 0 ≤ an → 0 ≤ bn → 0 ≤ cn → xab = true → xbc = true → xac = true) :
    Calls Try.prog 3 #[.agg #[.int .i64 a1, .int .i64 aq, .int .i64 an, .int .i64 ak, .int .i64 ap, .string ax, av], .agg #[.int .i64 b1, .int .i64 bq, .int .i64 bn, .int .i64 bk, .int .i64 bp, .string bx, bv], .agg #[.int .i64 c1, .int .i64 cq, .int .i64 cn, .int .i64 ck, .int .i64 cp, .string cx, cv]] w fun e w' => e = .returned (.bool true) ∧ Below w.heap.size w w' := by
  by_cases e1 : a1 = b1
  · by_cases e2 : aq = bq
    · by_cases e3 : an = bn
      · exact opsOrder_eq a1 aq an ak ap ax av b1 bq bn bk bp bx bv c1 cq cn ck cp cx cv xab xba xbc xac w haa hab hba hbc hac e1 e2 e3 f1 f2 f3
      · exact opsOrder_num a1 aq an ak ap ax av b1 bq bn bk bp bx bv c1 cq cn ck cp cx cv xab xba xbc xac w haa hab hba hbc hac e1 e2 e3 f1 f2 f3
    · exact opsOrder_seq a1 aq an ak ap ax av b1 bq bn bk bp bx bv c1 cq cn ck cp cx cv xab xba xbc xac w haa hab hba hbc hac e1 e2 f1 f2 f3
  · exact opsOrder_site a1 aq an ak ap ax av b1 bq bn bk bp bx bv c1 cq cn ck cp cx cv xab xba xbc xac w haa hab hba hbc hac e1 f1 f2 f3
end Go.Proofs.Ytdeopfpabfaopaa
