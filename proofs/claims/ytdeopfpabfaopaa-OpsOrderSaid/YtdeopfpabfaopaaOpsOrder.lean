/- Proved: the law OpsOrder of foolscap/foolscaplaw08.OpsOrder returns true for every input, and every argument reads afterwards as before (the given statement OpsOrderSaid). Conditions: none beyond the row. (The frame around the walk opsOrder_walk, printed by lawframe.py.) -/
import Derived.Test.YtdeopfpabfaopaaOrdF
import Derived.Test.YtdeopfpabfaopaaOpen
import Derived.ProofKit
import Derived.OpenShut
import Derived.ShutString
import Derived.ChangeOld
import Derived.Below
namespace Go.Proofs.Ytdeopfpabfaopaa.opsOrder
open Go.ChangeShapes Go.WideShapes Go.ChangeAt Go.RowKit
open Go.ChangeMaps (open_string shut_string)
set_option linter.unusedVariables false

theorem own : ownKnob Try.prog.godebug = none := by kernel_rfl
theorem laidOut : laidOutB Try.prog = true := by kernel_rfl
theorem cells3 : Try.prog.cellsOf 3 = 1 := by kernel_rfl
theorem cells9 : Try.prog.cellsOf 9 = 1 := by kernel_rfl
theorem cells23 : Try.prog.cellsOf 23 = 2 := by kernel_rfl
theorem cells24 : Try.prog.cellsOf 24 = 1 := by kernel_rfl
theorem cells26 : Try.prog.cellsOf 26 = 7 := by kernel_rfl

set_option maxRecDepth 100000 in
theorem lifted (os : Os) (started : os.Started) (H : Type) (enc : TypeId × Value → H) :
    ReturnsInHanded {} Try.checked os 3 .any (Rows.opsOrderSpec.pre6 enc Try.prog Try.f3 Rows.opsOrderRow.domain false) (Rows.opsOrderSpec.post enc Try.prog Try.f3 false true false false) := by
  refine returnsInHanded_of_change (C := Try.checked) own started (by kernel_rfl) Try.func3
    (ChangeSpec.witness6 (enc := enc) (C := Try.checked) false ⟨#[], #[.agg #[.int .i64 0, .int .i64 0, .int .i64 0, .int .i64 0, .int .i64 0, .string ByteArray.empty, .slice none 0 0], .agg #[.int .i64 0, .int .i64 0, .int .i64 0, .int .i64 0, .int .i64 0, .string ByteArray.empty, .slice none 0 0], .agg #[.int .i64 0, .int .i64 0, .int .i64 0, .int .i64 0, .int .i64 0, .string ByteArray.empty, .slice none 0 0]], []⟩ 8 (by kernel_rfl) (by kernel_rfl) (by kernel_rfl) (by kernel_rfl)) ?_
  intro W base args ds gs before hval0 hW hcnd _
  have hval : ∀ (j : Nat) t v, Try.f3.params[j]? = some t → args[j]? = some v → Value.okWide Try.prog W .any base t v := hval0
  have hW' := hW
  obtain ⟨p, q, hA0, hV, rfl, hfz, hnd⟩ := hW
  have hA : DataW.TrodAll enc Try.prog W 0 (fun _ => true) true Try.f3.params.toList args.toList ds p := hA0
  rw [Try.params3] at hA hval
  obtain ⟨v0, vs0, d0, ds0, p0, q0, hargs, rfl, rfl, h0, r0⟩ := trodAll_cons hA
  obtain ⟨v1, vs1, d1, ds1, p1, q1, rfl, rfl, rfl, h1, r1⟩ := trodAll_cons r0
  obtain ⟨v2, vs2, d2, ds2, p2, q2, rfl, rfl, rfl, h2, r2⟩ := trodAll_cons r1
  obtain ⟨rfl, rfl, rfl⟩ := trodAll_nil r2
  obtain rfl : args = #[v0, v1, v2] := by cases args; simp_all
  obtain ⟨rfl, rfl⟩ := trodVars_none hV
  have k0 := h0
  have lt0 : ∀ x ∈ p0, x.block < W.heap.size := by obtain ⟨m, hm⟩ := k0; exact DataW.trod_lt m _ _ _ hm
  obtain ⟨cs0, rfl, hz0⟩ := Mem.okWide_struct Try.underlying26 (hval 0 26 v0 rfl rfl)
  rw [cells26] at hz0
  obtain ⟨c0_0, c0_1, c0_2, c0_3, c0_4, c0_5, c0_6, rfl⟩ := Mem.array7 hz0
  obtain ⟨fu0, hh0⟩ := h0
  simp only [Value.cells] at hh0
  obtain ⟨ysa0, ma0, _, _, _, hla0, hfa0⟩ := DataW.trod_struct Try.underlying26 hh0
  obtain ⟨ya0_0, ya0_1, ya0_2, ya0_3, ya0_4, ya0_5, rfl⟩ := Mem.list6 hla0
  have ha0_0 : DataW.trod enc Try.prog W 0 (fun _ => true) true ma0 23 [c0_0, c0_1] = some ya0_0 := by have z : DataW.trod enc Try.prog W 0 (fun _ => true) true ma0 23 (List.take (Try.prog.cellsOf 23) (List.drop 0 [_, _, _, _, _, _, _])) = [ya0_0, ya0_1, ya0_2, ya0_3, ya0_4, ya0_5][0]? := hfa0 0 _ rfl; rw [cells23] at z; simpa using z
  obtain ⟨ysa0_0, ma0_0, _, _, _, hla0_0, hfa0_0⟩ := DataW.trod_struct Try.underlying23 ha0_0
  obtain ⟨ya0_0_0, ya0_0_1, rfl⟩ := Mem.list2 hla0_0
  have ha0_0_0 : DataW.trod enc Try.prog W 0 (fun _ => true) true ma0_0 3 [c0_0] = some ya0_0_0 := by have z : DataW.trod enc Try.prog W 0 (fun _ => true) true ma0_0 3 (List.take (Try.prog.cellsOf 3) (List.drop 0 [_, _])) = [ya0_0_0, ya0_0_1][0]? := hfa0_0 0 _ rfl; rw [cells3] at z; simpa using z
  obtain ⟨a0_0_0, ea0_0_0, _, wa0_0_0⟩ := DataW.trod_int Try.underlying3 ha0_0_0
  simp only [List.cons.injEq, and_true] at ea0_0_0
  subst ea0_0_0
  have ha0_0_1 : DataW.trod enc Try.prog W 0 (fun _ => true) true ma0_0 3 [c0_1] = some ya0_0_1 := by have z : DataW.trod enc Try.prog W 0 (fun _ => true) true ma0_0 3 (List.take (Try.prog.cellsOf 3) (List.drop 1 [_, _])) = [ya0_0_0, ya0_0_1][1]? := hfa0_0 1 _ rfl; rw [cells3] at z; simpa using z
  obtain ⟨a0_0_1, ea0_0_1, _, wa0_0_1⟩ := DataW.trod_int Try.underlying3 ha0_0_1
  simp only [List.cons.injEq, and_true] at ea0_0_1
  subst ea0_0_1
  have ha0_1 : DataW.trod enc Try.prog W 0 (fun _ => true) true ma0 3 [c0_2] = some ya0_1 := by have z : DataW.trod enc Try.prog W 0 (fun _ => true) true ma0 3 (List.take (Try.prog.cellsOf 3) (List.drop 2 [_, _, _, _, _, _, _])) = [ya0_0, ya0_1, ya0_2, ya0_3, ya0_4, ya0_5][1]? := hfa0 1 _ rfl; rw [cells3] at z; simpa using z
  obtain ⟨a0_1, ea0_1, _, wa0_1⟩ := DataW.trod_int Try.underlying3 ha0_1
  simp only [List.cons.injEq, and_true] at ea0_1
  subst ea0_1
  have ha0_2 : DataW.trod enc Try.prog W 0 (fun _ => true) true ma0 3 [c0_3] = some ya0_2 := by have z : DataW.trod enc Try.prog W 0 (fun _ => true) true ma0 3 (List.take (Try.prog.cellsOf 3) (List.drop 3 [_, _, _, _, _, _, _])) = [ya0_0, ya0_1, ya0_2, ya0_3, ya0_4, ya0_5][2]? := hfa0 2 _ rfl; rw [cells3] at z; simpa using z
  obtain ⟨a0_2, ea0_2, _, wa0_2⟩ := DataW.trod_int Try.underlying3 ha0_2
  simp only [List.cons.injEq, and_true] at ea0_2
  subst ea0_2
  have ha0_3 : DataW.trod enc Try.prog W 0 (fun _ => true) true ma0 3 [c0_4] = some ya0_3 := by have z : DataW.trod enc Try.prog W 0 (fun _ => true) true ma0 3 (List.take (Try.prog.cellsOf 3) (List.drop 4 [_, _, _, _, _, _, _])) = [ya0_0, ya0_1, ya0_2, ya0_3, ya0_4, ya0_5][3]? := hfa0 3 _ rfl; rw [cells3] at z; simpa using z
  obtain ⟨a0_3, ea0_3, _, wa0_3⟩ := DataW.trod_int Try.underlying3 ha0_3
  simp only [List.cons.injEq, and_true] at ea0_3
  subst ea0_3
  have ha0_4 : DataW.trod enc Try.prog W 0 (fun _ => true) true ma0 9 [c0_5] = some ya0_4 := by have z : DataW.trod enc Try.prog W 0 (fun _ => true) true ma0 9 (List.take (Try.prog.cellsOf 9) (List.drop 5 [_, _, _, _, _, _, _])) = [ya0_0, ya0_1, ya0_2, ya0_3, ya0_4, ya0_5][4]? := hfa0 4 _ rfl; rw [cells9] at z; simpa using z
  obtain ⟨a0_4, ea0_4, _, wa0_4⟩ := DataW.trod_string Try.underlying9 ha0_4
  simp only [List.cons.injEq, and_true] at ea0_4
  subst ea0_4
  have ha0_5 : DataW.trod enc Try.prog W 0 (fun _ => true) true ma0 24 [c0_6] = some ya0_5 := by have z : DataW.trod enc Try.prog W 0 (fun _ => true) true ma0 24 (List.take (Try.prog.cellsOf 24) (List.drop 6 [_, _, _, _, _, _, _])) = [ya0_0, ya0_1, ya0_2, ya0_3, ya0_4, ya0_5][5]? := hfa0 5 _ rfl; rw [cells24] at z; simpa using z
  have k1 := h1
  have lt1 : ∀ x ∈ p1, x.block < W.heap.size := by obtain ⟨m, hm⟩ := k1; exact DataW.trod_lt m _ _ _ hm
  obtain ⟨cs1, rfl, hz1⟩ := Mem.okWide_struct Try.underlying26 (hval 1 26 v1 rfl rfl)
  rw [cells26] at hz1
  obtain ⟨c1_0, c1_1, c1_2, c1_3, c1_4, c1_5, c1_6, rfl⟩ := Mem.array7 hz1
  obtain ⟨fu1, hh1⟩ := h1
  simp only [Value.cells] at hh1
  obtain ⟨ysa1, ma1, _, _, _, hla1, hfa1⟩ := DataW.trod_struct Try.underlying26 hh1
  obtain ⟨ya1_0, ya1_1, ya1_2, ya1_3, ya1_4, ya1_5, rfl⟩ := Mem.list6 hla1
  have ha1_0 : DataW.trod enc Try.prog W 0 (fun _ => true) true ma1 23 [c1_0, c1_1] = some ya1_0 := by have z : DataW.trod enc Try.prog W 0 (fun _ => true) true ma1 23 (List.take (Try.prog.cellsOf 23) (List.drop 0 [_, _, _, _, _, _, _])) = [ya1_0, ya1_1, ya1_2, ya1_3, ya1_4, ya1_5][0]? := hfa1 0 _ rfl; rw [cells23] at z; simpa using z
  obtain ⟨ysa1_0, ma1_0, _, _, _, hla1_0, hfa1_0⟩ := DataW.trod_struct Try.underlying23 ha1_0
  obtain ⟨ya1_0_0, ya1_0_1, rfl⟩ := Mem.list2 hla1_0
  have ha1_0_0 : DataW.trod enc Try.prog W 0 (fun _ => true) true ma1_0 3 [c1_0] = some ya1_0_0 := by have z : DataW.trod enc Try.prog W 0 (fun _ => true) true ma1_0 3 (List.take (Try.prog.cellsOf 3) (List.drop 0 [_, _])) = [ya1_0_0, ya1_0_1][0]? := hfa1_0 0 _ rfl; rw [cells3] at z; simpa using z
  obtain ⟨a1_0_0, ea1_0_0, _, wa1_0_0⟩ := DataW.trod_int Try.underlying3 ha1_0_0
  simp only [List.cons.injEq, and_true] at ea1_0_0
  subst ea1_0_0
  have ha1_0_1 : DataW.trod enc Try.prog W 0 (fun _ => true) true ma1_0 3 [c1_1] = some ya1_0_1 := by have z : DataW.trod enc Try.prog W 0 (fun _ => true) true ma1_0 3 (List.take (Try.prog.cellsOf 3) (List.drop 1 [_, _])) = [ya1_0_0, ya1_0_1][1]? := hfa1_0 1 _ rfl; rw [cells3] at z; simpa using z
  obtain ⟨a1_0_1, ea1_0_1, _, wa1_0_1⟩ := DataW.trod_int Try.underlying3 ha1_0_1
  simp only [List.cons.injEq, and_true] at ea1_0_1
  subst ea1_0_1
  have ha1_1 : DataW.trod enc Try.prog W 0 (fun _ => true) true ma1 3 [c1_2] = some ya1_1 := by have z : DataW.trod enc Try.prog W 0 (fun _ => true) true ma1 3 (List.take (Try.prog.cellsOf 3) (List.drop 2 [_, _, _, _, _, _, _])) = [ya1_0, ya1_1, ya1_2, ya1_3, ya1_4, ya1_5][1]? := hfa1 1 _ rfl; rw [cells3] at z; simpa using z
  obtain ⟨a1_1, ea1_1, _, wa1_1⟩ := DataW.trod_int Try.underlying3 ha1_1
  simp only [List.cons.injEq, and_true] at ea1_1
  subst ea1_1
  have ha1_2 : DataW.trod enc Try.prog W 0 (fun _ => true) true ma1 3 [c1_3] = some ya1_2 := by have z : DataW.trod enc Try.prog W 0 (fun _ => true) true ma1 3 (List.take (Try.prog.cellsOf 3) (List.drop 3 [_, _, _, _, _, _, _])) = [ya1_0, ya1_1, ya1_2, ya1_3, ya1_4, ya1_5][2]? := hfa1 2 _ rfl; rw [cells3] at z; simpa using z
  obtain ⟨a1_2, ea1_2, _, wa1_2⟩ := DataW.trod_int Try.underlying3 ha1_2
  simp only [List.cons.injEq, and_true] at ea1_2
  subst ea1_2
  have ha1_3 : DataW.trod enc Try.prog W 0 (fun _ => true) true ma1 3 [c1_4] = some ya1_3 := by have z : DataW.trod enc Try.prog W 0 (fun _ => true) true ma1 3 (List.take (Try.prog.cellsOf 3) (List.drop 4 [_, _, _, _, _, _, _])) = [ya1_0, ya1_1, ya1_2, ya1_3, ya1_4, ya1_5][3]? := hfa1 3 _ rfl; rw [cells3] at z; simpa using z
  obtain ⟨a1_3, ea1_3, _, wa1_3⟩ := DataW.trod_int Try.underlying3 ha1_3
  simp only [List.cons.injEq, and_true] at ea1_3
  subst ea1_3
  have ha1_4 : DataW.trod enc Try.prog W 0 (fun _ => true) true ma1 9 [c1_5] = some ya1_4 := by have z : DataW.trod enc Try.prog W 0 (fun _ => true) true ma1 9 (List.take (Try.prog.cellsOf 9) (List.drop 5 [_, _, _, _, _, _, _])) = [ya1_0, ya1_1, ya1_2, ya1_3, ya1_4, ya1_5][4]? := hfa1 4 _ rfl; rw [cells9] at z; simpa using z
  obtain ⟨a1_4, ea1_4, _, wa1_4⟩ := DataW.trod_string Try.underlying9 ha1_4
  simp only [List.cons.injEq, and_true] at ea1_4
  subst ea1_4
  have ha1_5 : DataW.trod enc Try.prog W 0 (fun _ => true) true ma1 24 [c1_6] = some ya1_5 := by have z : DataW.trod enc Try.prog W 0 (fun _ => true) true ma1 24 (List.take (Try.prog.cellsOf 24) (List.drop 6 [_, _, _, _, _, _, _])) = [ya1_0, ya1_1, ya1_2, ya1_3, ya1_4, ya1_5][5]? := hfa1 5 _ rfl; rw [cells24] at z; simpa using z
  have k2 := h2
  have lt2 : ∀ x ∈ p2, x.block < W.heap.size := by obtain ⟨m, hm⟩ := k2; exact DataW.trod_lt m _ _ _ hm
  obtain ⟨cs2, rfl, hz2⟩ := Mem.okWide_struct Try.underlying26 (hval 2 26 v2 rfl rfl)
  rw [cells26] at hz2
  obtain ⟨c2_0, c2_1, c2_2, c2_3, c2_4, c2_5, c2_6, rfl⟩ := Mem.array7 hz2
  obtain ⟨fu2, hh2⟩ := h2
  simp only [Value.cells] at hh2
  obtain ⟨ysa2, ma2, _, _, _, hla2, hfa2⟩ := DataW.trod_struct Try.underlying26 hh2
  obtain ⟨ya2_0, ya2_1, ya2_2, ya2_3, ya2_4, ya2_5, rfl⟩ := Mem.list6 hla2
  have ha2_0 : DataW.trod enc Try.prog W 0 (fun _ => true) true ma2 23 [c2_0, c2_1] = some ya2_0 := by have z : DataW.trod enc Try.prog W 0 (fun _ => true) true ma2 23 (List.take (Try.prog.cellsOf 23) (List.drop 0 [_, _, _, _, _, _, _])) = [ya2_0, ya2_1, ya2_2, ya2_3, ya2_4, ya2_5][0]? := hfa2 0 _ rfl; rw [cells23] at z; simpa using z
  obtain ⟨ysa2_0, ma2_0, _, _, _, hla2_0, hfa2_0⟩ := DataW.trod_struct Try.underlying23 ha2_0
  obtain ⟨ya2_0_0, ya2_0_1, rfl⟩ := Mem.list2 hla2_0
  have ha2_0_0 : DataW.trod enc Try.prog W 0 (fun _ => true) true ma2_0 3 [c2_0] = some ya2_0_0 := by have z : DataW.trod enc Try.prog W 0 (fun _ => true) true ma2_0 3 (List.take (Try.prog.cellsOf 3) (List.drop 0 [_, _])) = [ya2_0_0, ya2_0_1][0]? := hfa2_0 0 _ rfl; rw [cells3] at z; simpa using z
  obtain ⟨a2_0_0, ea2_0_0, _, wa2_0_0⟩ := DataW.trod_int Try.underlying3 ha2_0_0
  simp only [List.cons.injEq, and_true] at ea2_0_0
  subst ea2_0_0
  have ha2_0_1 : DataW.trod enc Try.prog W 0 (fun _ => true) true ma2_0 3 [c2_1] = some ya2_0_1 := by have z : DataW.trod enc Try.prog W 0 (fun _ => true) true ma2_0 3 (List.take (Try.prog.cellsOf 3) (List.drop 1 [_, _])) = [ya2_0_0, ya2_0_1][1]? := hfa2_0 1 _ rfl; rw [cells3] at z; simpa using z
  obtain ⟨a2_0_1, ea2_0_1, _, wa2_0_1⟩ := DataW.trod_int Try.underlying3 ha2_0_1
  simp only [List.cons.injEq, and_true] at ea2_0_1
  subst ea2_0_1
  have ha2_1 : DataW.trod enc Try.prog W 0 (fun _ => true) true ma2 3 [c2_2] = some ya2_1 := by have z : DataW.trod enc Try.prog W 0 (fun _ => true) true ma2 3 (List.take (Try.prog.cellsOf 3) (List.drop 2 [_, _, _, _, _, _, _])) = [ya2_0, ya2_1, ya2_2, ya2_3, ya2_4, ya2_5][1]? := hfa2 1 _ rfl; rw [cells3] at z; simpa using z
  obtain ⟨a2_1, ea2_1, _, wa2_1⟩ := DataW.trod_int Try.underlying3 ha2_1
  simp only [List.cons.injEq, and_true] at ea2_1
  subst ea2_1
  have ha2_2 : DataW.trod enc Try.prog W 0 (fun _ => true) true ma2 3 [c2_3] = some ya2_2 := by have z : DataW.trod enc Try.prog W 0 (fun _ => true) true ma2 3 (List.take (Try.prog.cellsOf 3) (List.drop 3 [_, _, _, _, _, _, _])) = [ya2_0, ya2_1, ya2_2, ya2_3, ya2_4, ya2_5][2]? := hfa2 2 _ rfl; rw [cells3] at z; simpa using z
  obtain ⟨a2_2, ea2_2, _, wa2_2⟩ := DataW.trod_int Try.underlying3 ha2_2
  simp only [List.cons.injEq, and_true] at ea2_2
  subst ea2_2
  have ha2_3 : DataW.trod enc Try.prog W 0 (fun _ => true) true ma2 3 [c2_4] = some ya2_3 := by have z : DataW.trod enc Try.prog W 0 (fun _ => true) true ma2 3 (List.take (Try.prog.cellsOf 3) (List.drop 4 [_, _, _, _, _, _, _])) = [ya2_0, ya2_1, ya2_2, ya2_3, ya2_4, ya2_5][3]? := hfa2 3 _ rfl; rw [cells3] at z; simpa using z
  obtain ⟨a2_3, ea2_3, _, wa2_3⟩ := DataW.trod_int Try.underlying3 ha2_3
  simp only [List.cons.injEq, and_true] at ea2_3
  subst ea2_3
  have ha2_4 : DataW.trod enc Try.prog W 0 (fun _ => true) true ma2 9 [c2_5] = some ya2_4 := by have z : DataW.trod enc Try.prog W 0 (fun _ => true) true ma2 9 (List.take (Try.prog.cellsOf 9) (List.drop 5 [_, _, _, _, _, _, _])) = [ya2_0, ya2_1, ya2_2, ya2_3, ya2_4, ya2_5][4]? := hfa2 4 _ rfl; rw [cells9] at z; simpa using z
  obtain ⟨a2_4, ea2_4, _, wa2_4⟩ := DataW.trod_string Try.underlying9 ha2_4
  simp only [List.cons.injEq, and_true] at ea2_4
  subst ea2_4
  have ha2_5 : DataW.trod enc Try.prog W 0 (fun _ => true) true ma2 24 [c2_6] = some ya2_5 := by have z : DataW.trod enc Try.prog W 0 (fun _ => true) true ma2 24 (List.take (Try.prog.cellsOf 24) (List.drop 6 [_, _, _, _, _, _, _])) = [ya2_0, ya2_1, ya2_2, ya2_3, ya2_4, ya2_5][5]? := hfa2 5 _ rfl; rw [cells24] at z; simpa using z
  clear hA0 hval0
  refine (opsOrder_walk a0_0_0 a0_0_1 a0_1 a0_2 a0_3 a0_4 c0_6 a1_0_0 a1_0_1 a1_1 a1_2 a1_3 a1_4 c1_6 a2_0_0 a2_0_1 a2_1 a2_2 a2_3 a2_4 c2_6 W wa0_0_0 wa0_0_1 wa0_1 wa0_2 wa0_3 wa0_4 wa1_0_0 wa1_0_1 wa1_1 wa1_2 wa1_3 wa1_4 wa2_0_0 wa2_0_1 wa2_1 wa2_2 wa2_3 wa2_4).mono fun e W' ⟨he, bel⟩ => ?_
  subst he
  exact ⟨_, rfl, _, _, _, [], _, [], hW', trodAll_mk1 (shut_bool Try.underlying4 _), (trodAll_cons_mk (Below.trod laidOut (by kernel_rfl) (of_decide_eq_true (by kernel_rfl)) k0 bel lt0) (trodAll_cons_mk (Below.trod laidOut (by kernel_rfl) (of_decide_eq_true (by kernel_rfl)) k1 bel lt1) (trodAll_cons_mk (Below.trod laidOut (by kernel_rfl) (of_decide_eq_true (by kernel_rfl)) k2 bel lt2) trodAll_mk0))), rfl, bel.frame _, fun h => by cases h⟩

theorem over : Rows.opsOrderRow.holds Try.pinned (OpenSpec.ofChange Rows.opsOrderSpec) :=
  OpenClaim.holds_of_wide 3 Try.f3 rfl rfl rfl rfl rfl rfl rfl ⟨rfl, rfl, rfl, rfl, rfl⟩ rfl rfl rfl rfl rfl (by kernel_rfl) Try.func3 (by kernel_rfl)
    (of_decide_eq_true (by kernel_rfl)) (by unfold Func.isWrapper; first | (rw [if_pos (by decide +kernel)]; kernel_rfl) | (rw [if_neg (by decide +kernel)]; exact ⟨rfl, rfl⟩))
    (fun os started H enc _ => lifted os started H enc)

theorem proved : Rows.OpsOrderSaid := over
#print axioms proved
end Go.Proofs.Ytdeopfpabfaopaa.opsOrder
