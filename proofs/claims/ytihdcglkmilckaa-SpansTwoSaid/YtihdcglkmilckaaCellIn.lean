/- Words on memory for a fenced walk: a new variable, a store into one cell. -/
import Derived.Test.YtihdcglkmilckaaCell
import Derived.OwnWalkIn
import Derived.TacticsIn
namespace Go.Proofs.Ytihdcglkmilckaa.Mem
open Go.RowKit
variable {F : Fence} {n : Nat} {P : Program} {ops : Array Oper} {rest : List Oper} {o : Oper} {a : Act} {w : World} {Q : Exit → Act → World → Prop}
theorem wpListIn_alloc (hgd : o.guard = none) (T : TypeId) (ho : o.op = .alloc T) (z : Value) (hz : (P.info? T).bind (·.zero) = some z)
    (h : ∀ w1, New w w1 z.cells T → wpListIn F n P ops Q rest (a.put o.dst (.pointer (some ⟨w.heap.size, 0, none⟩))) w1) : wpListIn F n P ops Q (o :: rest) a w := by
  refine wpListIn_plain hgd fun K hK => ?_
  unfold Oper.wpIn
  refine ⟨by simp [Oper.about, ho], ?_⟩
  rw [Oper.semAt_plain F _ _ (by rw [ho]; intro c hc'; cases hc')]
  unfold execOp
  simp only [ho, Instr.alloc, Sem.run_bind, run_zero hz, Result.andThen_ok, newVar, newRow, run_newObj_alloc, Sem.run_pure]
  exact hK _ _ (h _ (new_alloc _ _ _))
theorem wpListIn_box (hgd : o.guard = none) (T : TypeId) (x : Operand) (ho : o.op = .box T x) (v : Value) (hx : a.eval x = v)
    (h : ∀ w1, New w w1 v.cells T → wpListIn F n P ops Q rest (a.put o.dst (.pointer (some ⟨w.heap.size, 0, none⟩))) w1) : wpListIn F n P ops Q (o :: rest) a w := by
  refine wpListIn_plain hgd fun K hK => ?_
  unfold Oper.wpIn
  refine ⟨by simp [Oper.about, ho], ?_⟩
  rw [Oper.semAt_plain F _ _ (by rw [ho]; intro c hc'; cases hc')]
  unfold execOp
  simp only [ho, hx, Instr.box, Sem.run_bind, Result.andThen_ok, newVar, newRow, run_newObj_alloc, Sem.run_pure]
  exact hK _ _ (h _ (new_alloc _ _ _))
theorem wpListIn_store_one (hgd : o.guard = none) (ty : TypeId) (x y : Operand) (ho : o.op = .store ty x y) (g : Nat) (hx : a.eval x = .pointer (some ⟨g, 0, none⟩)) (v : Value) (hy : a.eval y = v)
    (h1 : v.oneCell' = true) (hs : (P.info? ty).map (·.size) = some 1) (t : TypeId) (u : Value) (hg : w.heap[g]? = some (.cells #[u] t (0, 0)))
    (h : ∀ w1, Put w w1 g #[v] t → wpListIn F n P ops Q rest (a.put o.dst undef) w1) : wpListIn F n P ops Q (o :: rest) a w := by
  refine wpListIn_plain hgd fun K hK => ?_
  have hc : v.cells = #[v] := by cases v <;> first | rfl | cases h1
  have hrun := run_storeCells_at (P := P) g 0 t [v] 0 #[u] w hg (by simp) (by intro u hu; simp at hu; subst hu; exact h1)
  simp only [Nat.add_zero, List.length_cons, List.length_nil, Nat.zero_add] at hrun
  have hcs : ((#[u] : Array Value).toList.take 0 ++ [v] ++ (#[u] : Array Value).toList.drop (0 + 1)).toArray = #[v] := by simp
  have hput := put_setRow w g #[v] #[u] t hg
  unfold Oper.wpIn
  refine ⟨by simp [Oper.about, ho], ?_⟩
  rw [Oper.semAt_plain F _ _ (by rw [ho]; intro c hc'; cases hc')]
  unfold execOp
  cases hq : P.info? ty with
  | none => simp [hq] at hs
  | some inf =>
    have hs1 : inf.size = 1 := by simpa [hq] using hs
    simp at hrun
    simp [ho, hx, hy, Instr.storeAt, Instr.sureAddr, storeVar, sizeOf, typeInfo, hq, hc, hs1, hrun]
    exact hK _ _ (h _ hput)
end Go.Proofs.Ytihdcglkmilckaa.Mem
