/- Proved: the law VectNames of foolscap/foolscaplaw06.VectNames returns true for every input, and every argument reads afterwards as before (the given statement VectNamesSaid). Conditions: none beyond the row. (The frame around the walk vectNames_walk, printed by lawframe.py.) -/
import Derived.Test.YtdnpiginkndpcaaDoorNamC
import Derived.Test.YtdnpiginkndpcaaDoorOpen
import Derived.Test.YtdnpiginkndpcaaDoorTie
import Derived.Test.YtdnpiginkndpcaaDoorCards
import Derived.ProofKit
import Derived.LaidMore
import Derived.LaidOnce
import Derived.SevenTiedAt
import Derived.Stop.Joined
import Derived.LaidSub
import Derived.MakeChecks
import Derived.OpenShut
import Derived.ShutString
import Derived.ChangeOld
import Derived.Below
namespace Go.Proofs.YtdnpiginkndpcaaDoor.vectNames
open Go.ChangeShapes Go.WideShapes Go.ChangeAt Go.RowKit
open Go.ChangeMaps (open_string shut_string)
set_option linter.unusedVariables false

theorem own : ownKnob Tryd.prog.godebug = none := by kernel_rfl
theorem laidOut : laidOutB Tryd.prog = true := by kernel_rfl
theorem cells3 : Tryd.prog.cellsOf 3 = 1 := by kernel_rfl
theorem cells33 : Tryd.prog.cellsOf 33 = 2 := by kernel_rfl
def laid : List (String × DataW Unit) := [("math/bits.deBruijn32tab", Rows.laid_math_bits_deBruijn32tab), ("math/bits.deBruijn64tab", Rows.laid_math_bits_deBruijn64tab), ("internal/strconv.uint64pow10", Rows.laid_internal_strconv_uint64pow10)]
theorem tab_of_laid {W : World} (h : laidMetH Tryd.prog laid W) : Vec.Tab W := by
  rw [MakeChecks.laidMetH_plain _ _ _ (by kernel_rfl)] at h
  have h2 := h.filter fun x => x.1 == "internal/strconv.uint64pow10"
  have e : (laid.filter fun x => x.1 == "internal/strconv.uint64pow10") = [("internal/strconv.uint64pow10", Lib.tabData .u64 Lib.pow10Tab)] := by kernel_rfl
  rw [e] at h2
  exact Lib.tabIs_of_head (g := 1) (t := 81) (e := 72) (n := 20) (by kernel_rfl) (by kernel_rfl) Tryd.underlying81 Tryd.underlying72 (by kernel_rfl) (by kernel_rfl) h2
theorem maxlen_of {W : World} (h : W.ShapedOpen Tryd.prog) : Vec.MaxLen W := Tryd.laysM145.s1_3 W h
theorem door_met (os : Os) (args : Array Value) : laidMetH Tryd.prog laid ((World.doorLaid Tryd.prog 400 os).forCall (fun _ _ => 0) ⟨#[], args, []⟩).memory :=
  laidMetH_of_parts3 (fuel := 8) (laidMet_of_run' 8 (by kernel_rfl) (by kernel_rfl)) (by kernel_rfl) (by kernel_rfl)

set_option maxRecDepth 100000 in
theorem lifted (os : Os) (started : os.Started) (H : Type) (enc : TypeId × Value → H) :
    ReturnsInHanded {} Tryd.checked os 8 .any (fun w args => (Rows.vectNamesSpec.pre enc Tryd.prog Tryd.f8 [] false w args ∧ laidMetH Tryd.prog laid w) ∧ sizedMet enc Tryd.prog Tryd.f8 (OpenSpec.ofChange Rows.vectNamesSpec) false w args) (Rows.vectNamesSpec.post enc Tryd.prog Tryd.f8 false true false false) := by
  refine Mem.handed_and_shaped (C := Tryd.checked) (X := fun w _ => laidMetH Tryd.prog laid w) (fun _ _ _ hh h => h.of_heap hh) own started (by kernel_rfl) Tryd.func8
    (ChangeSpec.witness_shaped (enc := enc) (C := Tryd.checked) (os := os) (X := fun w _ => laidMetH Tryd.prog laid w) false (World.doorLaid Tryd.prog 400 os) #[.agg #[.int .i64 0, .int .i64 0], .agg #[.int .i64 0, .int .i64 0]] 8 rfl (World.shaped_of_RefB (by kernel_rfl) (by kernel_rfl)) (by kernel_rfl) (by kernel_rfl) (by kernel_rfl) (door_met os _)) ?_
  intro W base args ds gs before hval0 hW hL hsh
  have hval : ∀ (j : Nat) t v, Tryd.f8.params[j]? = some t → args[j]? = some v → Value.okWide Tryd.prog W .any base t v := hval0
  have hW' := hW
  obtain ⟨p, q, hA0, hV, rfl, hfz, hnd⟩ := hW
  have hA : DataW.TrodAll enc Tryd.prog W 0 (fun _ => true) true Tryd.f8.params.toList args.toList ds p := hA0
  rw [Tryd.params8] at hA hval
  obtain ⟨v0, vs0, d0, ds0, p0, q0, hargs, rfl, rfl, h0, r0⟩ := trodAll_cons hA
  obtain ⟨v1, vs1, d1, ds1, p1, q1, rfl, rfl, rfl, h1, r1⟩ := trodAll_cons r0
  obtain ⟨rfl, rfl, rfl⟩ := trodAll_nil r1
  obtain rfl : args = #[v0, v1] := by cases args; simp_all
  obtain ⟨rfl, rfl⟩ := trodVars_none hV
  have k0 := h0
  have lt0 : ∀ x ∈ p0, x.block < W.heap.size := by obtain ⟨m, hm⟩ := k0; exact DataW.trod_lt m _ _ _ hm
  obtain ⟨cs0, rfl, hz0⟩ := Mem.okWide_struct Tryd.underlying33 (hval 0 33 v0 rfl rfl)
  rw [cells33] at hz0
  obtain ⟨c0_0, c0_1, rfl⟩ := Mem.array2 hz0
  obtain ⟨fu0, hh0⟩ := h0
  simp only [Value.cells] at hh0
  obtain ⟨ysa0, ma0, _, _, _, hla0, hfa0⟩ := DataW.trod_struct Tryd.underlying33 hh0
  obtain ⟨ya0_0, ya0_1, rfl⟩ := Mem.list2 hla0
  have ha0_0 : DataW.trod enc Tryd.prog W 0 (fun _ => true) true ma0 3 [c0_0] = some ya0_0 := by have z : DataW.trod enc Tryd.prog W 0 (fun _ => true) true ma0 3 (List.take (Tryd.prog.cellsOf 3) (List.drop 0 [_, _])) = [ya0_0, ya0_1][0]? := hfa0 0 _ rfl; rw [cells3] at z; simpa using z
  obtain ⟨a0_0, ea0_0, _, wa0_0⟩ := DataW.trod_int Tryd.underlying3 ha0_0
  simp only [List.cons.injEq, and_true] at ea0_0
  subst ea0_0
  have ha0_1 : DataW.trod enc Tryd.prog W 0 (fun _ => true) true ma0 3 [c0_1] = some ya0_1 := by have z : DataW.trod enc Tryd.prog W 0 (fun _ => true) true ma0 3 (List.take (Tryd.prog.cellsOf 3) (List.drop 1 [_, _])) = [ya0_0, ya0_1][1]? := hfa0 1 _ rfl; rw [cells3] at z; simpa using z
  obtain ⟨a0_1, ea0_1, _, wa0_1⟩ := DataW.trod_int Tryd.underlying3 ha0_1
  simp only [List.cons.injEq, and_true] at ea0_1
  subst ea0_1
  have k1 := h1
  have lt1 : ∀ x ∈ p1, x.block < W.heap.size := by obtain ⟨m, hm⟩ := k1; exact DataW.trod_lt m _ _ _ hm
  obtain ⟨cs1, rfl, hz1⟩ := Mem.okWide_struct Tryd.underlying33 (hval 1 33 v1 rfl rfl)
  rw [cells33] at hz1
  obtain ⟨c1_0, c1_1, rfl⟩ := Mem.array2 hz1
  obtain ⟨fu1, hh1⟩ := h1
  simp only [Value.cells] at hh1
  obtain ⟨ysa1, ma1, _, _, _, hla1, hfa1⟩ := DataW.trod_struct Tryd.underlying33 hh1
  obtain ⟨ya1_0, ya1_1, rfl⟩ := Mem.list2 hla1
  have ha1_0 : DataW.trod enc Tryd.prog W 0 (fun _ => true) true ma1 3 [c1_0] = some ya1_0 := by have z : DataW.trod enc Tryd.prog W 0 (fun _ => true) true ma1 3 (List.take (Tryd.prog.cellsOf 3) (List.drop 0 [_, _])) = [ya1_0, ya1_1][0]? := hfa1 0 _ rfl; rw [cells3] at z; simpa using z
  obtain ⟨a1_0, ea1_0, _, wa1_0⟩ := DataW.trod_int Tryd.underlying3 ha1_0
  simp only [List.cons.injEq, and_true] at ea1_0
  subst ea1_0
  have ha1_1 : DataW.trod enc Tryd.prog W 0 (fun _ => true) true ma1 3 [c1_1] = some ya1_1 := by have z : DataW.trod enc Tryd.prog W 0 (fun _ => true) true ma1 3 (List.take (Tryd.prog.cellsOf 3) (List.drop 1 [_, _])) = [ya1_0, ya1_1][1]? := hfa1 1 _ rfl; rw [cells3] at z; simpa using z
  obtain ⟨a1_1, ea1_1, _, wa1_1⟩ := DataW.trod_int Tryd.underlying3 ha1_1
  simp only [List.cons.injEq, and_true] at ea1_1
  subst ea1_1
  clear hA0 hval0
  refine (vectNames_walk a0_0 a0_1 a1_0 a1_1 W wa0_0 wa0_1 wa1_0 wa1_1 (tab_of_laid hL) (maxlen_of hsh)).mono fun e W' ⟨he, bel⟩ => ?_
  subst he
  exact ⟨_, rfl, _, _, _, [], _, [], hW', trodAll_mk1 (shut_bool Tryd.underlying4 _), (trodAll_cons_mk (Below.trod laidOut (by kernel_rfl) (of_decide_eq_true (by kernel_rfl)) k0 bel lt0) (trodAll_cons_mk (Below.trod laidOut (by kernel_rfl) (of_decide_eq_true (by kernel_rfl)) k1 bel lt1) trodAll_mk0)), rfl, bel.frame _, fun h => by cases h⟩

theorem over : Rows.vectNamesRow.holds Tryd.pinned (OpenSpec.ofChange Rows.vectNamesSpec) :=
  OpenClaim.holds_of_wide 8 Tryd.f8 rfl rfl rfl rfl rfl rfl rfl ⟨rfl, rfl, rfl, rfl, rfl⟩ rfl rfl rfl rfl rfl (by kernel_rfl) Tryd.func8 (by kernel_rfl)
    (of_decide_eq_true (by kernel_rfl)) (by unfold Func.isWrapper; first | (rw [if_pos (by decide +kernel)]; kernel_rfl) | (rw [if_neg (by decide +kernel)]; exact ⟨rfl, rfl⟩))
    (fun os started H enc _ => lifted os started H enc)

theorem proved : Rows.VectNamesCardSaid :=
  Claim7.holds_tied_plain_at .later [] [.data, .data, .data] true (true, "42a5b56c9df9fb3c7c6a70843e5bb09dfac6a9467a1bd8667c1c45b1203dc03c") false
    over (fun _ h => by cases h) (by kernel_rfl) (fun _ h => by cases h) vectNames_row_tie rfl ⟨rfl, rfl⟩ (by kernel_rfl) rfl
    (fun f fn hf hfn => by
      obtain rfl : f = 8 := Option.some.inj ((show Tryd.prog.funcNamed "foolscap/foolscaplaw06.VectNames" = some 8 by kernel_rfl).symm.trans hf) |>.symm
      obtain rfl : fn = Tryd.f8 := (Option.some.inj (Tryd.func8.symm.trans hfn)).symm
      exact ⟨by kernel_rfl, fun j t ht => by
        rw [Tryd.params8] at ht
        have hm : t ∈ [33, 33] := by simpa using Array.mem_of_getElem? ht
        have hall : ([33, 33].all fun u => !Tryd.prog.wantsStandIn u) = true := by kernel_rfl
        exact (show Tryd.prog.wantsStandIn t = false by simpa using List.all_eq_true.1 hall t hm)⟩)
    (by kernel_rfl)
#print axioms proved
end Go.Proofs.YtdnpiginkndpcaaDoor.vectNames
