/- The laws of chapter 19: the document's example; PaceBlends. -/
import Derived.Test.YtmfaadhclbfhoaaPacW
namespace Go.Proofs.Ytmfaadhclbfhoaa
open Go.RowKit

theorem pace_p (w : World) : Calls Try.prog 13 #[.agg #[.float .f64 0, .float .f64 0, .bool false], .float .f64 4616189618054758400] w fun e w' =>
    e = .returned (.agg #[.float .f64 4616189618054758400, .float .f64 4611686018427387904, .bool true]) ∧ Below w.heap.size w w' := by
  have h := pace_heard_first 0 0 4616189618054758400 4611686018427387904 (by kernel_rfl) (by kernel_rfl) (by kernel_rfl) w
  rw [show Pac.plain 4616189618054758400 = 4616189618054758400 by kernel_rfl, show Pac.plain 4611686018427387904 = 4611686018427387904 by kernel_rfl] at h
  exact h
theorem pace_q (w : World) : Calls Try.prog 13 #[.agg #[.float .f64 4616189618054758400, .float .f64 4611686018427387904, .bool true], .float .f64 4622945017495814144] w fun e w' =>
    e = .returned (.agg #[.float .f64 4617315517961601024, .float .f64 4615063718147915776, .bool true]) ∧ Below w.heap.size w w' := by
  have h := pace_heard_some 4616189618054758400 4611686018427387904 4622945017495814144 4620693217682128896 4615063718147915776 4617315517961601024 (by kernel_rfl) (by kernel_rfl) (by kernel_rfl) (by kernel_rfl) (by kernel_rfl) w
  rw [show Pac.plain 4617315517961601024 = 4617315517961601024 by kernel_rfl, show Pac.plain 4615063718147915776 = 4615063718147915776 by kernel_rfl] at h
  exact h
theorem pace_wait4 (tries : Int) (htr : tries ≤ 9223372036854775807) (w : World) : Calls Try.prog 15 #[.agg #[.float .f64 4616189618054758400, .float .f64 4611686018427387904, .bool true], .int .i64 tries] w fun e w' =>
    e = .returned (.int .i64 (Pac.dbl 12 tries.toNat)) ∧ Below w.heap.size w w' :=
  pace_wait_some 4616189618054758400 4611686018427387904 4620693217682128896 4622945017495814144 4622945017495814144 4622945017495814144 4622945017495814144 12 tries
    (by kernel_rfl) (by kernel_rfl) (by kernel_rfl) (by kernel_rfl) (by decide +kernel) (by kernel_rfl) (by decide +kernel) (by kernel_rfl) (by kernel_rfl) (by omega) htr w

set_option maxRecDepth 100000 in
set_option maxHeartbeats 1000000 in
theorem pace_alive (w : World) : Calls Try.prog 8 #[] w fun e w' => e = .returned (.bool true) ∧ Below w.heap.size w w' := by
  have o1 : (FloatKind.f64.format.order 4616189618054758400 4616189618054758400 == some .eq) = true := by kernel_rfl
  have o2 : (FloatKind.f64.format.order 4611686018427387904 4611686018427387904 == some .eq) = true := by kernel_rfl
  have o3 : (FloatKind.f64.format.order 4617315517961601024 4617315517961601024 == some .eq) = true := by kernel_rfl
  have o4 : (FloatKind.f64.format.order 4615063718147915776 4615063718147915776 == some .eq) = true := by kernel_rfl
  go_enter Try.func8, Try.ntmps8
  go_wp2_with (first
    | (go_at_call 13
       with_reducible refine (pace_p _).mono ?_
       rintro e w1 ⟨rfl, hb1⟩
       have Hb1 := Lib.hid hb1
       clear hb1)
    | (refine Mem.wpList_alloc (o := ⟨some 1, _, _, _, _, _⟩) rfl 27 rfl _ Pac.zero_pace ?_
       intro w2 hn2
       have Hn2 := Lib.hid hn2
       clear hn2)
    | (refine Mem.wpList_store rfl 27 (.tmp 1) (.tmp 4) rfl _ #[.float .f64 4616189618054758400, .float .f64 4611686018427387904, .bool true] rfl rfl _ _ Hn2.out.row Pac.size_pace rfl (Pac.one_pace _ _ _) ?_
       intro w3 hp3
       have e0 := Mem.put_cell1 hp3 0 (v := .float .f64 4616189618054758400) rfl
       have e1 := Mem.put_cell1 hp3 1 (v := .float .f64 4611686018427387904) rfl
       have e2 := Mem.put_cell1 hp3 2 (v := .bool true) rfl
       have Hp3 := Lib.hid hp3
       clear hp3)
    | (go_at_call 13
       with_reducible refine (pace_q _).mono ?_
       rintro e w4 ⟨rfl, hb4⟩
       have f0 := Mem.keep hb4 e0
       have f1 := Mem.keep hb4 e1
       have f2 := Mem.keep hb4 e2
       have Hb4 := Lib.hid hb4
       clear hb4 e0 e1 e2)
    | (refine Mem.wpList_alloc (o := ⟨some 2, _, _, _, _, _⟩) rfl 27 rfl _ Pac.zero_pace ?_
       intro w5 hn5
       have e0 := Mem.keep hn5.below f0
       have e1 := Mem.keep hn5.below f1
       have e2 := Mem.keep hn5.below f2
       have Hn5 := Lib.hid hn5
       clear hn5 f0 f1 f2)
    | (refine Mem.wpList_store rfl 27 (.tmp 2) (.tmp 6) rfl _ #[.float .f64 4617315517961601024, .float .f64 4615063718147915776, .bool true] rfl rfl _ _ Hn5.out.row Pac.size_pace rfl (Pac.one_pace _ _ _) ?_
       intro w6 hp6
       have hbt := Mem.But.of_put (S := fun i => i = w4.heap.size) hp6 rfl
       have hne : ¬ w1.heap.size = w4.heap.size := by have := Hn2.out.size; have := Hp3.out.size; have := Hb4.out.size; omega
       have f0 := Mem.keep_but hbt hne e0
       have f1 := Mem.keep_but hbt hne e1
       have f2 := Mem.keep_but hbt hne e2
       have q0 := Mem.put_cell1 hp6 0 (v := .float .f64 4617315517961601024) rfl
       have q1 := Mem.put_cell1 hp6 1 (v := .float .f64 4615063718147915776) rfl
       have Hp6 := Lib.hid hp6
       clear hp6 hbt hne e0 e1 e2)
    | (go_at_call 15
       with_reducible refine (pace_wait4 0 (by omega) _).mono ?_
       rw [show Pac.dbl 12 (0 : Int).toNat = 12 from rfl]
       rintro e w7 ⟨rfl, hb7⟩
       have e0 := Mem.keep hb7 f0
       have e1 := Mem.keep hb7 f1
       have e2 := Mem.keep hb7 f2
       have p0 := Mem.keep hb7 q0
       have p1 := Mem.keep hb7 q1
       have Hb7 := Lib.hid hb7
       clear hb7 f0 f1 f2 q0 q1)
    | (go_at_call 15
       with_reducible refine (pace_wait4 1 (by omega) _).mono ?_
       rw [show Pac.dbl 12 (1 : Int).toNat = 24 from rfl]
       rintro e w8 ⟨rfl, hb8⟩
       have q0 := Mem.keep hb8 p0
       have q1 := Mem.keep hb8 p1
       have Hb8 := Lib.hid hb8
       clear hb8 e0 e1 e2 p0 p1))
  go_ret
  refine ⟨rfl, ?_⟩
  have b3 := (Mem.then_ Hb1.out Hn2.out.below).trans (Hp3.out.below Hb1.out.size)
  have b4 := Mem.then_ b3 Hb4.out
  have b6 := (Mem.then_ b4 Hn5.out.below).trans (Hp6.out.below b4.size)
  exact Mem.then_ (Mem.then_ b6 Hb7.out) Hb8.out
end Go.Proofs.Ytmfaadhclbfhoaa
