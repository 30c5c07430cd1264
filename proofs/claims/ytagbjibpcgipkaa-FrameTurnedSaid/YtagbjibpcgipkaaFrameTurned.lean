/- Proved: the law FrameTurned of foolscap/foolscaplaw05.FrameTurned returns true for every input, and every argument reads afterwards as before (the given statement FrameTurnedSaid). Conditions: none beyond the row. (The frame around the walk frameTurned_walk, printed by lawframe.py.) -/
import Derived.Test.YtagbjibpcgipkaaFrmT
import Derived.Test.YtagbjibpcgipkaaOpen
import Derived.ProofKit
import Derived.OpenShut
import Derived.ShutString
import Derived.ChangeOld
import Derived.Below
namespace Go.Proofs.Ytagbjibpcgipkaa.frameTurned
open Go.ChangeShapes Go.WideShapes Go.ChangeAt Go.RowKit
open Go.ChangeMaps (open_string shut_string)
set_option linter.unusedVariables false

theorem own : ownKnob Try.prog.godebug = none := by kernel_rfl
theorem laidOut : laidOutB Try.prog = true := by kernel_rfl
theorem cells3 : Try.prog.cellsOf 3 = 1 := by kernel_rfl
theorem cells5 : Try.prog.cellsOf 5 = 1 := by kernel_rfl
theorem cells9 : Try.prog.cellsOf 9 = 1 := by kernel_rfl
theorem cells23 : Try.prog.cellsOf 23 = 5 := by kernel_rfl
theorem cells41 : Try.prog.cellsOf 41 = 4 := by kernel_rfl

set_option maxRecDepth 100000 in
theorem lifted (os : Os) (started : os.Started) (H : Type) (enc : TypeId × Value → H) :
    ReturnsInHanded {} Try.checked os 7 .any (Rows.frameTurnedSpec.pre6 enc Try.prog Try.f7 Rows.frameTurnedRow.domain false) (Rows.frameTurnedSpec.post enc Try.prog Try.f7 false true false false) := by
  refine returnsInHanded_of_change (C := Try.checked) own started (by kernel_rfl) Try.func7
    (ChangeSpec.witness6 (enc := enc) (C := Try.checked) false ⟨#[], #[.agg #[.int .i64 0, .int .i64 0, .int .i64 0, .int .i64 0, .string ByteArray.empty], .int .u16 0, .agg #[.int .u8 0, .int .u8 0, .int .u8 0, .int .u8 0]], []⟩ 8 (by kernel_rfl) (by kernel_rfl) (by kernel_rfl) (by kernel_rfl)) ?_
  intro W base args ds gs before hval0 hW hcnd _
  have hval : ∀ (j : Nat) t v, Try.f7.params[j]? = some t → args[j]? = some v → Value.okWide Try.prog W .any base t v := hval0
  have hW' := hW
  obtain ⟨p, q, hA0, hV, rfl, hfz, hnd⟩ := hW
  have hA : DataW.TrodAll enc Try.prog W 0 (fun _ => true) true Try.f7.params.toList args.toList ds p := hA0
  rw [Try.params7] at hA hval
  obtain ⟨v0, vs0, d0, ds0, p0, q0, hargs, rfl, rfl, h0, r0⟩ := trodAll_cons hA
  obtain ⟨v1, vs1, d1, ds1, p1, q1, rfl, rfl, rfl, h1, r1⟩ := trodAll_cons r0
  obtain ⟨v2, vs2, d2, ds2, p2, q2, rfl, rfl, rfl, h2, r2⟩ := trodAll_cons r1
  obtain ⟨rfl, rfl, rfl⟩ := trodAll_nil r2
  obtain rfl : args = #[v0, v1, v2] := by cases args; simp_all
  obtain ⟨rfl, rfl⟩ := trodVars_none hV
  have k0 := h0
  have lt0 : ∀ x ∈ p0, x.block < W.heap.size := by obtain ⟨m, hm⟩ := k0; exact DataW.trod_lt m _ _ _ hm
  obtain ⟨cs0, rfl, hz0⟩ := Mem.okWide_struct Try.underlying23 (hval 0 23 v0 rfl rfl)
  rw [cells23] at hz0
  obtain ⟨c0_0, c0_1, c0_2, c0_3, c0_4, rfl⟩ := Mem.array5 hz0
  obtain ⟨fu0, hh0⟩ := h0
  simp only [Value.cells] at hh0
  obtain ⟨ysa0, ma0, _, _, _, hla0, hfa0⟩ := DataW.trod_struct Try.underlying23 hh0
  obtain ⟨ya0_0, ya0_1, ya0_2, ya0_3, ya0_4, rfl⟩ := Mem.list5 hla0
  have ha0_0 : DataW.trod enc Try.prog W 0 (fun _ => true) true ma0 3 [c0_0] = some ya0_0 := by have z : DataW.trod enc Try.prog W 0 (fun _ => true) true ma0 3 (List.take (Try.prog.cellsOf 3) (List.drop 0 [_, _, _, _, _])) = [ya0_0, ya0_1, ya0_2, ya0_3, ya0_4][0]? := hfa0 0 _ rfl; rw [cells3] at z; simpa using z
  obtain ⟨a0_0, ea0_0, _, wa0_0⟩ := DataW.trod_int Try.underlying3 ha0_0
  simp only [List.cons.injEq, and_true] at ea0_0
  subst ea0_0
  have ha0_1 : DataW.trod enc Try.prog W 0 (fun _ => true) true ma0 3 [c0_1] = some ya0_1 := by have z : DataW.trod enc Try.prog W 0 (fun _ => true) true ma0 3 (List.take (Try.prog.cellsOf 3) (List.drop 1 [_, _, _, _, _])) = [ya0_0, ya0_1, ya0_2, ya0_3, ya0_4][1]? := hfa0 1 _ rfl; rw [cells3] at z; simpa using z
  obtain ⟨a0_1, ea0_1, _, wa0_1⟩ := DataW.trod_int Try.underlying3 ha0_1
  simp only [List.cons.injEq, and_true] at ea0_1
  subst ea0_1
  have ha0_2 : DataW.trod enc Try.prog W 0 (fun _ => true) true ma0 3 [c0_2] = some ya0_2 := by have z : DataW.trod enc Try.prog W 0 (fun _ => true) true ma0 3 (List.take (Try.prog.cellsOf 3) (List.drop 2 [_, _, _, _, _])) = [ya0_0, ya0_1, ya0_2, ya0_3, ya0_4][2]? := hfa0 2 _ rfl; rw [cells3] at z; simpa using z
  obtain ⟨a0_2, ea0_2, _, wa0_2⟩ := DataW.trod_int Try.underlying3 ha0_2
  simp only [List.cons.injEq, and_true] at ea0_2
  subst ea0_2
  have ha0_3 : DataW.trod enc Try.prog W 0 (fun _ => true) true ma0 3 [c0_3] = some ya0_3 := by have z : DataW.trod enc Try.prog W 0 (fun _ => true) true ma0 3 (List.take (Try.prog.cellsOf 3) (List.drop 3 [_, _, _, _, _])) = [ya0_0, ya0_1, ya0_2, ya0_3, ya0_4][3]? := hfa0 3 _ rfl; rw [cells3] at z; simpa using z
  obtain ⟨a0_3, ea0_3, _, wa0_3⟩ := DataW.trod_int Try.underlying3 ha0_3
  simp only [List.cons.injEq, and_true] at ea0_3
  subst ea0_3
  have ha0_4 : DataW.trod enc Try.prog W 0 (fun _ => true) true ma0 9 [c0_4] = some ya0_4 := by have z : DataW.trod enc Try.prog W 0 (fun _ => true) true ma0 9 (List.take (Try.prog.cellsOf 9) (List.drop 4 [_, _, _, _, _])) = [ya0_0, ya0_1, ya0_2, ya0_3, ya0_4][4]? := hfa0 4 _ rfl; rw [cells9] at z; simpa using z
  obtain ⟨a0_4, ea0_4, _, wa0_4⟩ := DataW.trod_string Try.underlying9 ha0_4
  simp only [List.cons.injEq, and_true] at ea0_4
  subst ea0_4
  have k1 := h1
  have lt1 : ∀ x ∈ p1, x.block < W.heap.size := by obtain ⟨m, hm⟩ := k1; exact DataW.trod_lt m _ _ _ hm
  obtain ⟨a1, rfl, _, _, wa1⟩ := open_int Try.underlying39 (hval 1 39 v1 rfl rfl) h1
  have k2 := h2
  have lt2 : ∀ x ∈ p2, x.block < W.heap.size := by obtain ⟨m, hm⟩ := k2; exact DataW.trod_lt m _ _ _ hm
  obtain ⟨cs2, rfl, hz2⟩ := Mem.okWide_array Try.underlying41 (hval 2 41 v2 rfl rfl)
  rw [cells41] at hz2
  obtain ⟨c2_0, c2_1, c2_2, c2_3, rfl⟩ := Mem.array4 hz2
  obtain ⟨fu2, hh2⟩ := h2
  simp only [Value.cells] at hh2
  obtain ⟨ysa2, ma2, _, _, _, hla2, hfa2⟩ := DataW.trod_array Try.underlying41 hh2
  obtain ⟨ya2_0, ya2_1, ya2_2, ya2_3, rfl⟩ := Mem.list4 hla2
  have ha2_0 : DataW.trod enc Try.prog W 0 (fun _ => true) true ma2 5 [c2_0] = some ya2_0 := by have z := hfa2 0 (by omega); rw [cells5] at z; simpa using z
  obtain ⟨a2_0, ea2_0, _, wa2_0⟩ := DataW.trod_int Try.underlying5 ha2_0
  simp only [List.cons.injEq, and_true] at ea2_0
  subst ea2_0
  have ha2_1 : DataW.trod enc Try.prog W 0 (fun _ => true) true ma2 5 [c2_1] = some ya2_1 := by have z := hfa2 1 (by omega); rw [cells5] at z; simpa using z
  obtain ⟨a2_1, ea2_1, _, wa2_1⟩ := DataW.trod_int Try.underlying5 ha2_1
  simp only [List.cons.injEq, and_true] at ea2_1
  subst ea2_1
  have ha2_2 : DataW.trod enc Try.prog W 0 (fun _ => true) true ma2 5 [c2_2] = some ya2_2 := by have z := hfa2 2 (by omega); rw [cells5] at z; simpa using z
  obtain ⟨a2_2, ea2_2, _, wa2_2⟩ := DataW.trod_int Try.underlying5 ha2_2
  simp only [List.cons.injEq, and_true] at ea2_2
  subst ea2_2
  have ha2_3 : DataW.trod enc Try.prog W 0 (fun _ => true) true ma2 5 [c2_3] = some ya2_3 := by have z := hfa2 3 (by omega); rw [cells5] at z; simpa using z
  obtain ⟨a2_3, ea2_3, _, wa2_3⟩ := DataW.trod_int Try.underlying5 ha2_3
  simp only [List.cons.injEq, and_true] at ea2_3
  subst ea2_3
  clear hA0 hval0
  refine (frameTurned_walk a0_0 a0_1 a0_2 a0_3 a0_4 a1 a2_0 a2_1 a2_2 a2_3 W wa0_0 wa0_1 wa0_2 wa0_3 wa0_4 wa1 wa2_0 wa2_1 wa2_2 wa2_3).mono fun e W' ⟨he, bel⟩ => ?_
  subst he
  exact ⟨_, rfl, _, _, _, [], _, [], hW', trodAll_mk1 (shut_bool Try.underlying4 _), (trodAll_cons_mk (Below.trod laidOut (by kernel_rfl) (of_decide_eq_true (by kernel_rfl)) k0 bel lt0) (trodAll_cons_mk (Below.trod laidOut (by kernel_rfl) (of_decide_eq_true (by kernel_rfl)) k1 bel lt1) (trodAll_cons_mk (Below.trod laidOut (by kernel_rfl) (of_decide_eq_true (by kernel_rfl)) k2 bel lt2) trodAll_mk0))), rfl, bel.frame _, fun h => by cases h⟩

theorem over : Rows.frameTurnedRow.holds Try.pinned (OpenSpec.ofChange Rows.frameTurnedSpec) :=
  OpenClaim.holds_of_wide 7 Try.f7 rfl rfl rfl rfl rfl rfl rfl ⟨rfl, rfl, rfl, rfl, rfl⟩ rfl rfl rfl rfl rfl (by kernel_rfl) Try.func7 (by kernel_rfl)
    (of_decide_eq_true (by kernel_rfl)) (by unfold Func.isWrapper; first | (rw [if_pos (by decide +kernel)]; kernel_rfl) | (rw [if_neg (by decide +kernel)]; exact ⟨rfl, rfl⟩))
    (fun os started H enc _ => lifted os started H enc)

theorem proved : Rows.FrameTurnedSaid := over
#print axioms proved
end Go.Proofs.Ytagbjibpcgipkaa.frameTurned
