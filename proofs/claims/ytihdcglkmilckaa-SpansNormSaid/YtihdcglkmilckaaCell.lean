/- A store into one cell of a row, said by rows. -/
import Derived.Test.YtihdcglkmilckaaBut
import Derived.Great.BuildSlice
import Derived.Laws.CopyRow
namespace Go.Proofs.Ytihdcglkmilckaa.Mem
open Go.RowKit
variable {P : Program} {ops : Array Oper} {rest : List Oper} {o : Oper} {a : Act} {w : World} {Q : Exit → Act → World → Prop}
theorem wpList_store_cell (hgd : o.guard = none) (ty : TypeId) (x y : Operand) (ho : o.op = .store ty x y) (g i : Nat) (hx : a.eval x = .pointer (some ⟨g, i, none⟩)) (v : Value) (hy : a.eval y = v)
    (h1 : v.oneCell' = true) (hs : (P.info? ty).map (·.size) = some 1) (t : TypeId) (old : Array Value) (hg : w.heap[g]? = some (.cells old t (0, 0))) (hi : i + 1 ≤ old.size)
    (cs : Array Value) (hcs : (old.toList.take i ++ [v] ++ old.toList.drop (i + 1)).toArray = cs)
    (h : ∀ w1, Put w w1 g cs t → wpList P ops Q rest (a.put o.dst undef) w1) : wpList P ops Q (o :: rest) a w :=
  wpList_plain hgd fun _ hK => by
    have hc : v.cells = #[v] := by cases v <;> first | rfl | cases h1
    have hrun := run_storeCells_at (P := P) g i t [v] 0 old w hg (by simpa using hi) (by intro u hu; simp at hu; subst hu; exact h1)
    simp only [Nat.add_zero, List.length_cons, List.length_nil, Nat.zero_add] at hrun
    rw [hcs] at hrun
    have hput := put_setRow w g cs old t hg
    unfold Oper.wp execOp
    cases hq : P.info? ty with
    | none => simp [hq] at hs
    | some inf =>
      have hs1 : inf.size = 1 := by simpa [hq] using hs
      simp [ho, hx, hy, Instr.storeAt, Instr.sureAddr, storeVar, sizeOf, typeInfo, hq, hc, hs1, hrun]
      exact hK _ _ (h _ hput)
end Go.Proofs.Ytihdcglkmilckaa.Mem
