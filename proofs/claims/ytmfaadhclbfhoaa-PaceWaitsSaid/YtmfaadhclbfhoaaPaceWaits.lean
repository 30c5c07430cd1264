/- Proved: the law PaceWaits of foolscap/foolscaplaw19.PaceWaits returns true for every input, and every argument reads afterwards as before (the given statement PaceWaitsSaid). Conditions: none beyond the row. (The frame around the walk paceWaits_walk, printed by lawframe.py.) -/
import Derived.Test.YtmfaadhclbfhoaaPacV
import Derived.Test.YtmfaadhclbfhoaaOpen
import Derived.ProofKit
import Derived.OpenShut
import Derived.ShutString
import Derived.ChangeOld
import Derived.Below
namespace Go.Proofs.Ytmfaadhclbfhoaa.paceWaits
open Go.ChangeShapes Go.WideShapes Go.ChangeAt Go.RowKit
open Go.ChangeMaps (open_string shut_string)
set_option linter.unusedVariables false

theorem own : ownKnob Try.prog.godebug = none := by kernel_rfl
theorem laidOut : laidOutB Try.prog = true := by kernel_rfl
theorem cells4 : Try.prog.cellsOf 4 = 1 := by kernel_rfl
theorem cells22 : Try.prog.cellsOf 22 = 1 := by kernel_rfl
theorem cells24 : Try.prog.cellsOf 24 = 3 := by kernel_rfl

set_option maxRecDepth 100000 in
theorem lifted (os : Os) (started : os.Started) (H : Type) (enc : TypeId × Value → H) :
    ReturnsInHanded {} Try.checked os 4 .any (Rows.paceWaitsSpec.pre6 enc Try.prog Try.f4 Rows.paceWaitsRow.domain false) (Rows.paceWaitsSpec.post enc Try.prog Try.f4 false true false false) := by
  refine returnsInHanded_of_change (C := Try.checked) own started (by kernel_rfl) Try.func4
    (ChangeSpec.witness6 (enc := enc) (C := Try.checked) false ⟨#[], #[.agg #[.float .f64 0, .float .f64 0, .bool false], .int .i64 0], []⟩ 8 (by kernel_rfl) (by kernel_rfl) (by kernel_rfl) (by kernel_rfl)) ?_
  intro W base args ds gs before hval0 hW hcnd _
  have hval : ∀ (j : Nat) t v, Try.f4.params[j]? = some t → args[j]? = some v → Value.okWide Try.prog W .any base t v := hval0
  have hW' := hW
  obtain ⟨p, q, hA0, hV, rfl, hfz, hnd⟩ := hW
  have hA : DataW.TrodAll enc Try.prog W 0 (fun _ => true) true Try.f4.params.toList args.toList ds p := hA0
  rw [Try.params4] at hA hval
  obtain ⟨v0, vs0, d0, ds0, p0, q0, hargs, rfl, rfl, h0, r0⟩ := trodAll_cons hA
  obtain ⟨v1, vs1, d1, ds1, p1, q1, rfl, rfl, rfl, h1, r1⟩ := trodAll_cons r0
  obtain ⟨rfl, rfl, rfl⟩ := trodAll_nil r1
  obtain rfl : args = #[v0, v1] := by cases args; simp_all
  obtain ⟨rfl, rfl⟩ := trodVars_none hV
  have k0 := h0
  have lt0 : ∀ x ∈ p0, x.block < W.heap.size := by obtain ⟨m, hm⟩ := k0; exact DataW.trod_lt m _ _ _ hm
  obtain ⟨cs0, rfl, hz0⟩ := Mem.okWide_struct Try.underlying24 (hval 0 24 v0 rfl rfl)
  rw [cells24] at hz0
  obtain ⟨c0_0, c0_1, c0_2, rfl⟩ := Mem.array3 hz0
  obtain ⟨fu0, hh0⟩ := h0
  simp only [Value.cells] at hh0
  obtain ⟨ysa0, ma0, _, _, _, hla0, hfa0⟩ := DataW.trod_struct Try.underlying24 hh0
  obtain ⟨ya0_0, ya0_1, ya0_2, rfl⟩ := Mem.list3 hla0
  have ha0_0 : DataW.trod enc Try.prog W 0 (fun _ => true) true ma0 22 [c0_0] = some ya0_0 := by have z : DataW.trod enc Try.prog W 0 (fun _ => true) true ma0 22 (List.take (Try.prog.cellsOf 22) (List.drop 0 [_, _, _])) = [ya0_0, ya0_1, ya0_2][0]? := hfa0 0 _ rfl; rw [cells22] at z; simpa using z
  obtain ⟨a0_0, ea0_0, _, wa0_0⟩ := Mem.trod_float Try.underlying22 ha0_0
  simp only [List.cons.injEq, and_true] at ea0_0
  subst ea0_0
  have ha0_1 : DataW.trod enc Try.prog W 0 (fun _ => true) true ma0 22 [c0_1] = some ya0_1 := by have z : DataW.trod enc Try.prog W 0 (fun _ => true) true ma0 22 (List.take (Try.prog.cellsOf 22) (List.drop 1 [_, _, _])) = [ya0_0, ya0_1, ya0_2][1]? := hfa0 1 _ rfl; rw [cells22] at z; simpa using z
  obtain ⟨a0_1, ea0_1, _, wa0_1⟩ := Mem.trod_float Try.underlying22 ha0_1
  simp only [List.cons.injEq, and_true] at ea0_1
  subst ea0_1
  have ha0_2 : DataW.trod enc Try.prog W 0 (fun _ => true) true ma0 4 [c0_2] = some ya0_2 := by have z : DataW.trod enc Try.prog W 0 (fun _ => true) true ma0 4 (List.take (Try.prog.cellsOf 4) (List.drop 2 [_, _, _])) = [ya0_0, ya0_1, ya0_2][2]? := hfa0 2 _ rfl; rw [cells4] at z; simpa using z
  obtain ⟨a0_2, ea0_2, _⟩ := DataW.trod_bool Try.underlying4 ha0_2
  simp only [List.cons.injEq, and_true] at ea0_2
  subst ea0_2
  have k1 := h1
  have lt1 : ∀ x ∈ p1, x.block < W.heap.size := by obtain ⟨m, hm⟩ := k1; exact DataW.trod_lt m _ _ _ hm
  obtain ⟨a1, rfl, _, _, wa1⟩ := open_int Try.underlying3 (hval 1 3 v1 rfl rfl) h1
  clear hA0 hval0
  refine (paceWaits_walk a0_0 a0_1 a0_2 a1 W wa0_0 wa0_1 wa1).mono fun e W' ⟨he, bel⟩ => ?_
  subst he
  exact ⟨_, rfl, _, _, _, [], _, [], hW', trodAll_mk1 (shut_bool Try.underlying4 _), (trodAll_cons_mk (Below.trod laidOut (by kernel_rfl) (of_decide_eq_true (by kernel_rfl)) k0 bel lt0) (trodAll_cons_mk (Below.trod laidOut (by kernel_rfl) (of_decide_eq_true (by kernel_rfl)) k1 bel lt1) trodAll_mk0)), rfl, bel.frame _, fun h => by cases h⟩

theorem over : Rows.paceWaitsRow.holds Try.pinned (OpenSpec.ofChange Rows.paceWaitsSpec) :=
  OpenClaim.holds_of_wide 4 Try.f4 rfl rfl rfl rfl rfl rfl rfl ⟨rfl, rfl, rfl, rfl, rfl⟩ rfl rfl rfl rfl rfl (by kernel_rfl) Try.func4 (by kernel_rfl)
    (of_decide_eq_true (by kernel_rfl)) (by unfold Func.isWrapper; first | (rw [if_pos (by decide +kernel)]; kernel_rfl) | (rw [if_neg (by decide +kernel)]; exact ⟨rfl, rfl⟩))
    (fun os started H enc _ => lifted os started H enc)

theorem proved : Rows.PaceWaitsSaid := over
#print axioms proved
end Go.Proofs.Ytmfaadhclbfhoaa.paceWaits
