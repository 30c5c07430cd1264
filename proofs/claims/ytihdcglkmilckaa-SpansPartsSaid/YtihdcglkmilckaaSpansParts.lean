/- Proved: the law SpansParts of foolscap/foolscaplaw07.SpansParts returns true for every input, and every argument reads afterwards as before (the given statement SpansPartsSaid). Conditions: none beyond the row. (The frame around the walk spansParts_walk, printed by lawframe.py.) -/
import Derived.Test.YtihdcglkmilckaaWlkU
import Derived.Test.YtihdcglkmilckaaOpen
import Derived.ProofKit
import Derived.OpenShut
import Derived.ShutString
import Derived.ChangeOld
import Derived.Below
namespace Go.Proofs.Ytihdcglkmilckaa.spansParts
open Go.ChangeShapes Go.WideShapes Go.ChangeAt Go.RowKit
open Go.ChangeMaps (open_string shut_string)
set_option linter.unusedVariables false

theorem own : ownKnob Try.prog.godebug = none := by kernel_rfl
theorem laidOut : laidOutB Try.prog = true := by kernel_rfl
theorem cells5 : Try.prog.cellsOf 5 = 1 := by kernel_rfl
theorem cells37 : Try.prog.cellsOf 37 = 3 := by kernel_rfl
theorem cells42 : Try.prog.cellsOf 42 = 2 := by kernel_rfl

set_option maxRecDepth 100000 in
theorem lifted (os : Os) (started : os.Started) (H : Type) (enc : TypeId × Value → H) :
    ReturnsInHanded {} Try.checked os 6 .any (Rows.spansPartsSpec.pre6 enc Try.prog Try.f6 Rows.spansPartsRow.domain false) (Rows.spansPartsSpec.post enc Try.prog Try.f6 false true false false) := by
  refine returnsInHanded_of_change (C := Try.checked) own started (by kernel_rfl) Try.func6
    (ChangeSpec.witness6 (enc := enc) (C := Try.checked) false ⟨#[], #[.slice none 0 0, .slice none 0 0, .agg #[.int .u8 0, .int .u8 0, .int .u8 0]], []⟩ 8 (by kernel_rfl) (by kernel_rfl) (by kernel_rfl) (by kernel_rfl)) ?_
  intro W base args ds gs before hval0 hW hcnd _
  have hval : ∀ (j : Nat) t v, Try.f6.params[j]? = some t → args[j]? = some v → Value.okWide Try.prog W .any base t v := hval0
  have hW' := hW
  obtain ⟨p, q, hA0, hV, rfl, hfz, hnd⟩ := hW
  have hA : DataW.TrodAll enc Try.prog W 0 (fun _ => true) true Try.f6.params.toList args.toList ds p := hA0
  rw [Try.params6] at hA hval
  obtain ⟨v0, vs0, d0, ds0, p0, q0, hargs, rfl, rfl, h0, r0⟩ := trodAll_cons hA
  obtain ⟨v1, vs1, d1, ds1, p1, q1, rfl, rfl, rfl, h1, r1⟩ := trodAll_cons r0
  obtain ⟨v2, vs2, d2, ds2, p2, q2, rfl, rfl, rfl, h2, r2⟩ := trodAll_cons r1
  obtain ⟨rfl, rfl, rfl⟩ := trodAll_nil r2
  obtain rfl : args = #[v0, v1, v2] := by cases args; simp_all
  obtain ⟨rfl, rfl⟩ := trodVars_none hV
  have k0 := h0
  have lt0 : ∀ x ∈ p0, x.block < W.heap.size := by obtain ⟨m, hm⟩ := k0; exact DataW.trod_lt m _ _ _ hm
  obtain ⟨a0, len0, cap0, rfl⟩ := okWide_slice Try.underlying22 (hval 0 22 v0 rfl rfl)
  have k1 := h1
  have lt1 : ∀ x ∈ p1, x.block < W.heap.size := by obtain ⟨m, hm⟩ := k1; exact DataW.trod_lt m _ _ _ hm
  obtain ⟨a1, len1, cap1, rfl⟩ := okWide_slice Try.underlying22 (hval 1 22 v1 rfl rfl)
  have k2 := h2
  have lt2 : ∀ x ∈ p2, x.block < W.heap.size := by obtain ⟨m, hm⟩ := k2; exact DataW.trod_lt m _ _ _ hm
  obtain ⟨cs2, rfl, hz2⟩ := Mem.okWide_array Try.underlying37 (hval 2 37 v2 rfl rfl)
  rw [cells37] at hz2
  obtain ⟨c2_0, c2_1, c2_2, rfl⟩ := Mem.array3 hz2
  obtain ⟨fu2, hh2⟩ := h2
  simp only [Value.cells] at hh2
  obtain ⟨ysa2, ma2, _, _, _, hla2, hfa2⟩ := DataW.trod_array Try.underlying37 hh2
  obtain ⟨ya2_0, ya2_1, ya2_2, rfl⟩ := Mem.list3 hla2
  have ha2_0 : DataW.trod enc Try.prog W 0 (fun _ => true) true ma2 5 [c2_0] = some ya2_0 := by have z := hfa2 0 (by omega); rw [cells5] at z; simpa using z
  obtain ⟨a2_0, ea2_0, _, wa2_0⟩ := DataW.trod_int Try.underlying5 ha2_0
  simp only [List.cons.injEq, and_true] at ea2_0
  subst ea2_0
  have ha2_1 : DataW.trod enc Try.prog W 0 (fun _ => true) true ma2 5 [c2_1] = some ya2_1 := by have z := hfa2 1 (by omega); rw [cells5] at z; simpa using z
  obtain ⟨a2_1, ea2_1, _, wa2_1⟩ := DataW.trod_int Try.underlying5 ha2_1
  simp only [List.cons.injEq, and_true] at ea2_1
  subst ea2_1
  have ha2_2 : DataW.trod enc Try.prog W 0 (fun _ => true) true ma2 5 [c2_2] = some ya2_2 := by have z := hfa2 2 (by omega); rw [cells5] at z; simpa using z
  obtain ⟨a2_2, ea2_2, _, wa2_2⟩ := DataW.trod_int Try.underlying5 ha2_2
  simp only [List.cons.injEq, and_true] at ea2_2
  subst ea2_2
  clear hA0 hval0
  refine (spansParts_walk a0 len0 cap0 a1 len1 cap1 a2_0 a2_1 a2_2 W wa2_0 wa2_1 wa2_2 ⟨H, enc, _, _, k0⟩ ⟨H, enc, _, _, k1⟩).mono fun e W' ⟨he, bel⟩ => ?_
  subst he
  exact ⟨_, rfl, _, _, _, [], _, [], hW', trodAll_mk1 (shut_bool Try.underlying4 _), (trodAll_cons_mk (Below.trod laidOut (by kernel_rfl) (of_decide_eq_true (by kernel_rfl)) k0 bel lt0) (trodAll_cons_mk (Below.trod laidOut (by kernel_rfl) (of_decide_eq_true (by kernel_rfl)) k1 bel lt1) (trodAll_cons_mk (Below.trod laidOut (by kernel_rfl) (of_decide_eq_true (by kernel_rfl)) k2 bel lt2) trodAll_mk0))), rfl, bel.frame _, fun h => by cases h⟩

theorem over : Rows.spansPartsRow.holds Try.pinned (OpenSpec.ofChange Rows.spansPartsSpec) :=
  OpenClaim.holds_of_wide 6 Try.f6 rfl rfl rfl rfl rfl rfl rfl ⟨rfl, rfl, rfl, rfl, rfl⟩ rfl rfl rfl rfl rfl (by kernel_rfl) Try.func6 (by kernel_rfl)
    (of_decide_eq_true (by kernel_rfl)) (by unfold Func.isWrapper; first | (rw [if_pos (by decide +kernel)]; kernel_rfl) | (rw [if_neg (by decide +kernel)]; exact ⟨rfl, rfl⟩))
    (fun os started H enc _ => lifted os started H enc)

theorem proved : Rows.SpansPartsSaid := over
#print axioms proved
end Go.Proofs.Ytihdcglkmilckaa.spansParts
