/- Proved: the law CrcTurned of foolscap/foolscaplaw04.CrcTurned returns true for every input, and every argument reads afterwards as before (the given statement CrcTurnedSaid). Conditions: none beyond the row. (The frame around the walk crcTurned_walk, printed by lawframe.py.) -/
import Derived.Test.YtpngdjkljmefaaaCrcR
import Derived.Test.YtpngdjkljmefaaaOpen
import Derived.ProofKit
import Derived.OpenShut
import Derived.ShutString
import Derived.ChangeOld
import Derived.Below
namespace Go.Proofs.Ytpngdjkljmefaaa.crcTurned
open Go.ChangeShapes Go.WideShapes Go.ChangeAt Go.RowKit
open Go.ChangeMaps (open_string shut_string)
set_option linter.unusedVariables false

theorem own : ownKnob Try.prog.godebug = none := by kernel_rfl
theorem laidOut : laidOutB Try.prog = true := by kernel_rfl
theorem cells5 : Try.prog.cellsOf 5 = 1 := by kernel_rfl
theorem cells27 : Try.prog.cellsOf 27 = 4 := by kernel_rfl

set_option maxRecDepth 100000 in
theorem lifted (os : Os) (started : os.Started) (H : Type) (enc : TypeId × Value → H) :
    ReturnsInHanded {} Try.checked os 4 .any (Rows.crcTurnedSpec.pre6 enc Try.prog Try.f4 Rows.crcTurnedRow.domain false) (Rows.crcTurnedSpec.post enc Try.prog Try.f4 false true false false) := by
  refine returnsInHanded_of_change (C := Try.checked) own started (by kernel_rfl) Try.func4
    (ChangeSpec.witness6 (enc := enc) (C := Try.checked) false ⟨#[], #[.string ByteArray.empty, .int .i64 0, .agg #[.int .u8 0, .int .u8 0, .int .u8 0, .int .u8 0]], []⟩ 8 (by kernel_rfl) (by kernel_rfl) (by kernel_rfl) (by kernel_rfl)) ?_
  intro W base args ds gs before hval0 hW hcnd _
  have hval : ∀ (j : Nat) t v, Try.f4.params[j]? = some t → args[j]? = some v → Value.okWide Try.prog W .any base t v := hval0
  have hW' := hW
  obtain ⟨p, q, hA0, hV, rfl, hfz, hnd⟩ := hW
  have hA : DataW.TrodAll enc Try.prog W 0 (fun _ => true) true Try.f4.params.toList args.toList ds p := hA0
  rw [Try.params4] at hA hval
  obtain ⟨v0, vs0, d0, ds0, p0, q0, hargs, rfl, rfl, h0, r0⟩ := trodAll_cons hA
  obtain ⟨v1, vs1, d1, ds1, p1, q1, rfl, rfl, rfl, h1, r1⟩ := trodAll_cons r0
  obtain ⟨v2, vs2, d2, ds2, p2, q2, rfl, rfl, rfl, h2, r2⟩ := trodAll_cons r1
  obtain ⟨rfl, rfl, rfl⟩ := trodAll_nil r2
  obtain rfl : args = #[v0, v1, v2] := by cases args; simp_all
  obtain ⟨rfl, rfl⟩ := trodVars_none hV
  have k0 := h0
  have lt0 : ∀ x ∈ p0, x.block < W.heap.size := by obtain ⟨m, hm⟩ := k0; exact DataW.trod_lt m _ _ _ hm
  obtain ⟨a0, rfl, _, _, wa0⟩ := open_string Try.underlying9 (hval 0 9 v0 rfl rfl) h0
  have k1 := h1
  have lt1 : ∀ x ∈ p1, x.block < W.heap.size := by obtain ⟨m, hm⟩ := k1; exact DataW.trod_lt m _ _ _ hm
  obtain ⟨a1, rfl, _, _, wa1⟩ := open_int Try.underlying3 (hval 1 3 v1 rfl rfl) h1
  have k2 := h2
  have lt2 : ∀ x ∈ p2, x.block < W.heap.size := by obtain ⟨m, hm⟩ := k2; exact DataW.trod_lt m _ _ _ hm
  obtain ⟨cs2, rfl, hz2⟩ := Mem.okWide_array Try.underlying27 (hval 2 27 v2 rfl rfl)
  rw [cells27] at hz2
  obtain ⟨c2_0, c2_1, c2_2, c2_3, rfl⟩ := Mem.array4 hz2
  obtain ⟨fu2, hh2⟩ := h2
  simp only [Value.cells] at hh2
  obtain ⟨ysa2, ma2, _, _, _, hla2, hfa2⟩ := DataW.trod_array Try.underlying27 hh2
  obtain ⟨ya2_0, ya2_1, ya2_2, ya2_3, rfl⟩ := Mem.list4 hla2
  have ha2_0 : DataW.trod enc Try.prog W 0 (fun _ => true) true ma2 5 [c2_0] = some ya2_0 := by have z := hfa2 0 (by omega); rw [cells5] at z; simpa using z
  obtain ⟨a2_0, ea2_0, _, wa2_0⟩ := DataW.trod_int Try.underlying5 ha2_0
  simp only [List.cons.injEq, and_true] at ea2_0
  subst ea2_0
  have ha2_1 : DataW.trod enc Try.prog W 0 (fun _ => true) true ma2 5 [c2_1] = some ya2_1 := by have z := hfa2 1 (by omega); rw [cells5] at z; simpa using z
  obtain ⟨a2_1, ea2_1, _, wa2_1⟩ := DataW.trod_int Try.underlying5 ha2_1
  simp only [List.cons.injEq, and_true] at ea2_1
  subst ea2_1
  have ha2_2 : DataW.trod enc Try.prog W 0 (fun _ => true) true ma2 5 [c2_2] = some ya2_2 := by have z := hfa2 2 (by omega); rw [cells5] at z; simpa using z
  obtain ⟨a2_2, ea2_2, _, wa2_2⟩ := DataW.trod_int Try.underlying5 ha2_2
  simp only [List.cons.injEq, and_true] at ea2_2
  subst ea2_2
  have ha2_3 : DataW.trod enc Try.prog W 0 (fun _ => true) true ma2 5 [c2_3] = some ya2_3 := by have z := hfa2 3 (by omega); rw [cells5] at z; simpa using z
  obtain ⟨a2_3, ea2_3, _, wa2_3⟩ := DataW.trod_int Try.underlying5 ha2_3
  simp only [List.cons.injEq, and_true] at ea2_3
  subst ea2_3
  clear hA0 hval0
  refine (crcTurned_walk a0 a1 a2_0 a2_1 a2_2 a2_3 W wa0 wa1 wa2_0 wa2_1 wa2_2 wa2_3).mono fun e W' ⟨he, bel⟩ => ?_
  subst he
  exact ⟨_, rfl, _, _, _, [], _, [], hW', trodAll_mk1 (shut_bool Try.underlying4 _), (trodAll_cons_mk (Below.trod laidOut (by kernel_rfl) (of_decide_eq_true (by kernel_rfl)) k0 bel lt0) (trodAll_cons_mk (Below.trod laidOut (by kernel_rfl) (of_decide_eq_true (by kernel_rfl)) k1 bel lt1) (trodAll_cons_mk (Below.trod laidOut (by kernel_rfl) (of_decide_eq_true (by kernel_rfl)) k2 bel lt2) trodAll_mk0))), rfl, bel.frame _, fun h => by cases h⟩

theorem over : Rows.crcTurnedRow.holds Try.pinned (OpenSpec.ofChange Rows.crcTurnedSpec) :=
  OpenClaim.holds_of_wide 4 Try.f4 rfl rfl rfl rfl rfl rfl rfl ⟨rfl, rfl, rfl, rfl, rfl⟩ rfl rfl rfl rfl rfl (by kernel_rfl) Try.func4 (by kernel_rfl)
    (of_decide_eq_true (by kernel_rfl)) (by unfold Func.isWrapper; first | (rw [if_pos (by decide +kernel)]; kernel_rfl) | (rw [if_neg (by decide +kernel)]; exact ⟨rfl, rfl⟩))
    (fun os started H enc _ => lifted os started H enc)

theorem proved : Rows.CrcTurnedSaid := over
#print axioms proved
end Go.Proofs.Ytpngdjkljmefaaa.crcTurned
