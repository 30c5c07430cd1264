/- A range over an iterator that writes its own box: a law, out of wpIn_rangeFunc; the walks of runes.steps at "ab". -/
import Derived.RangeFuncNested
import Derived.RangeFuncBound
import Derived.RangeFuncCalls
import Derived.RangeFuncLeaves
import Derived.RangeFuncWrites
import Derived.Shelf.Abstract
import Derived.Shelf.RegionOpen
import Derived.WalkKit
import Derived.OwnWalkIn
import Derived.TacticsInMore
import Derived.LoopNIn
import Derived.LoopIn
import Derived.Test.YtdeopfpabfaopaaBut
namespace Go.Proofs.Ytdeopfpabfaopaa.Mem
open Go.RowKit
variable {F : Fence} {n : Nat} {P : Program} {ops : Array Oper} {rest : List Oper} {o : Oper} {a : Act} {w : World} {Q : Exit → Act → World → Prop}
theorem wpListIn_store_one (hgd : o.guard = none) (ty : TypeId) (x y : Operand) (ho : o.op = .store ty x y) (g : Nat) (hx : a.eval x = .pointer (some ⟨g, 0, none⟩)) (v : Value) (hy : a.eval y = v)
    (h1 : v.oneCell' = true) (hs : (P.info? ty).map (·.size) = some 1) (t : TypeId) (u : Value) (hg : w.heap[g]? = some (.cells #[u] t (0, 0)))
    (h : ∀ w1, Put w w1 g #[v] t → wpListIn F n P ops Q rest (a.put o.dst undef) w1) : wpListIn F n P ops Q (o :: rest) a w := by
  refine wpListIn_plain hgd fun K hK => ?_
  have hc : v.cells = #[v] := by cases v <;> first | rfl | cases h1
  have hrun := run_storeCells_at (P := P) g 0 t [v] 0 #[u] w hg (by simp) (by intro u hu; simp at hu; subst hu; exact h1)
  simp only [Nat.add_zero, List.length_cons, List.length_nil, Nat.zero_add] at hrun
  have hcs : ((#[u] : Array Value).toList.take 0 ++ [v] ++ (#[u] : Array Value).toList.drop (0 + 1)).toArray = #[v] := by simp
  have hput := put_setRow w g #[v] #[u] t hg
  unfold Oper.wpIn
  refine ⟨by simp [Oper.about, ho], ?_⟩
  rw [Oper.semAt_plain F _ _ (by rw [ho]; intro c hc'; cases hc')]
  unfold execOp
  cases hq : P.info? ty with
  | none => simp [hq] at hs
  | some inf =>
    have hs1 : inf.size = 1 := by simpa [hq] using hs
    simp at hrun
    simp [ho, hx, hy, Instr.storeAt, Instr.sureAddr, storeVar, sizeOf, typeInfo, hq, hc, hs1, hrun]
    exact hK _ _ (h _ hput)
end Go.Proofs.Ytdeopfpabfaopaa.Mem

namespace Go.Proofs.Ytdeopfpabfaopaa
open Go.RowKit Go.Shelf

attribute [local go_sem] Oper.semAt_some

namespace Rng
/-- what abides all but box Bs and the blocks from n₀ on -/
def Abides (Bs n₀ : Nat) (J : Nat → World → Prop) : Prop := ∀ (k : Nat) (A B : World) (row : Option Nat), J k A → A.grownBy B row → (∀ r, row = some r → r = Bs ∨ n₀ ≤ r) → J k B
/-- what abides a store into box Bs alone -/
def Bears (Bs : Nat) (J : Nat → World → Prop) : Prop := ∀ (k : Nat) (A B : World), J k A → A.grownBy B (some Bs) → J k B
/-- an iterator that hands out the rows xs, and may write its box Bs -/
def Gives (F : Fence) (n : Nat) (P : Program) (gf : Nat) (lb : Array Value) (xs : List (Array Value)) (Bs : Nat) (o : Obj) : Prop :=
  ∀ (l : Nat) (J : Nat → World → Prop) (W : World), Bears Bs J → W.heap[Bs]? = some o →
    (∀ (k : Nat) (x : Array Value) (W1 : World), xs[k]? = some x → J k W1 → YieldAt F (n - 1) P l x W1 fun e W' => e = .returned (.bool true) ∧ J (k + 1) W' ∧ W'.heap[Bs]? = W1.heap[Bs]?) →
    J 0 W → CallsIn F n P gf (#[.func (.yield l) #[] #[]] ++ lb) W fun e W' => (∃ v, e = .returned v) ∧ J xs.length W'

theorem wpIn_rounds {F : Fence} {n : Nat} {P : Program} {g : Operand} {ps : Array Tmp} {assign body : Code} {Q : Exit → Act → World → Prop} {a : Act} {w : World}
    (hro : F.round = none) (h1 : 1 ≤ n) {gf : Nat} {lb : Array Value} (hg : a.eval g = .func (.func gf) #[] lb) (hFg : F.fn gf) (eg : ∀ args w, (callFunc gf args).run P w = .ok (.enter gf args) w)
    {xs : List (Array Value)} {Bs : Nat} {o : Obj} (hit : Gives F (n - 1) P gf lb xs Bs o) (hB : w.heap[Bs]? = some o) (hps : ∀ x ∈ xs, x.size = ps.size)
    (I : Nat → World → Prop) (hI : Abides Bs w.heap.size I) (h0 : I 0 w) (a₁ : Array Value → Act)
    (hassign : ∀ (l : Nat) (x : Array Value) (W : World) (K : Act → World → Prop), x ∈ xs → K (a₁ x) W →
      assign.wpIn (F.inRound l) (n - 1 - 1) P (Exit.then K (fun _ _ _ => False)) { tmps := (ps.zip x).foldl (fun t (p, v) => t.setIfInBounds p v) a.tmps, defers := [] } W)
    (hbody : ∀ (l k : Nat) (x : Array Value) (W : World), xs[k]? = some x → I k W →
      body.wpIn (F.inRound l) (n - 1 - 1) P (fun e _ W' => e = .normal ∧ KeepsFrom w.heap.size W W' ∧ W'.heap[Bs]? = W.heap[Bs]? ∧ I (k + 1) W') (a₁ x) W)
    (hdone : ∀ (D : Nat) (W : World), w.heap.size ≤ D → I xs.length W → W.heap[D]? = some (.deferred (some [])) → Q .normal { a with defers := { target := .collected D, args := #[] } :: a.defers } W) :
    (Code.rangeFunc g ps assign body).wpIn F n P Q a w := by
  refine wpIn_rangeFunc (fun fn hfn => ?_)
  rw [hro]
  have hBs : Bs < w.heap.size := (Array.getElem?_eq_some_iff.1 hB).1
  obtain ⟨rec, hrec⟩ : ∃ rec : LoopState → Option Code → Loop, rec = fun st pe => { state := st, pending := pe, fn, tmps := a.tmps, params := ps, assign, body, defers := w.heap.size } := ⟨_, rfl⟩
  have hD := heap_alloc_new w (.deferred (some []))
  have g1 := World.grownBy_alloc w (.deferred (some [])) none
  have z1 : (w.alloc (.deferred (some []))).heap.size = w.heap.size + 1 := by simp
  have hL := heap_alloc_new (w.alloc (.deferred (some []))) (.loop (rec .ready none))
  have g2 := World.grownBy_alloc (w.alloc (.deferred (some []))) (.loop (rec .ready none)) none
  have hD2 := (heap_alloc_old (w.alloc (.deferred (some []))) (.loop (rec .ready none)) _ (by omega)).trans hD
  rw [z1] at hL
  have hI1 := hI _ _ _ _ (hI _ _ _ _ h0 g1 (fun r e => by cases e)) g2 (fun r e => by cases e)
  have hB1 := (g2.block Bs (by omega) (by simp)).trans ((g1.block Bs hBs (by simp)).trans hB)
  refine ⟨w.heap.size + 1, [{ target := .collected w.heap.size, args := #[] }], (w.alloc (.deferred (some []))).alloc (.loop (rec .ready none)), { target := .fn (.func gf) lb, args := #[.func (.yield (w.heap.size + 1)) #[] #[]] }, (w.alloc (.deferred (some []))).alloc (.loop (rec .ready none)), gf,
    #[.func (.yield (w.heap.size + 1)) #[] #[]] ++ lb, (w.alloc (.deferred (some []))).alloc (.loop (rec .ready none)), ?_, ?_, ?_, ?_, fun _ => h1, ?_⟩
  · rw [hrec]; exact run_enterLoop_outer _ _ _ _ _
  · simp only [resolve, hg]
    simp [go_sem]
  · intro f' hf'; simp [Target.leads] at hf'; subst hf'; exact hFg
  · simp [invoke, go_sem, eg]
  · refine (hit (w.heap.size + 1) (fun k W => I k W ∧ W.heap[w.heap.size + 1]? = some (.loop (rec .ready none)) ∧ W.heap[w.heap.size]? = some (.deferred (some []))) _ ?_ hB1 ?_ ⟨hI1, hL, hD2⟩).mono ?_
    · rintro k A B ⟨i, l, d⟩ hg'
      exact ⟨hI _ _ _ _ i hg' (fun r e => .inl (by cases e; rfl)), (hg'.block _ (Array.getElem?_eq_some_iff.1 l).1 (fun e => by cases e; omega)).trans l, (hg'.block _ (Array.getElem?_eq_some_iff.1 d).1 (fun e => by cases e; omega)).trans d⟩
    · rintro k x W hx ⟨i, hl, hd⟩
      have hxm := List.mem_of_getElem? hx
      have hlt := (Array.getElem?_eq_some_iff.1 hl).1
      have hy := run_yield (P := P) (args := x) hl (by rw [hrec]; exact hps x hxm)
      rw [hrec] at hy
      refine ⟨fn, _, assign, body, hy, roundIn_of_wpIn hfn (hassign _ x W _ hxm ⟨_, run_beginRound hl (by rw [hrec]), ?_⟩)⟩
      have hg3 := grownBy_putObj' W (w.heap.size + 1) (.loop { rec .ready none with state := .busy })
      have hl2 : (W.putObj (w.heap.size + 1) (.loop { rec .ready none with state := .busy })).heap[w.heap.size + 1]? = some (.loop { rec .ready none with state := .busy }) := World.putObj_heap_same hlt
      have hd2 : (W.putObj (w.heap.size + 1) (.loop { rec .ready none with state := .busy })).heap[w.heap.size]? = some (.deferred (some [])) := (World.putObj_heap_other (by omega)).trans hd
      have hb2 : (W.putObj (w.heap.size + 1) (.loop { rec .ready none with state := .busy })).heap[Bs]? = W.heap[Bs]? := World.putObj_heap_other (by omega)
      refine wpIn_mono (hbody _ k x _ hx (hI _ _ _ _ i hg3 (fun r e => .inr (by cases e; omega)))) ?_
      rintro e a3 W3 ⟨rfl, hk3, hb3, hi3⟩
      have hl3 := hk3.same _ _ (by omega) hl2 rfl
      have hd3 := hk3.same _ _ (Nat.le_refl _) hd2 rfl
      have hend := run_endRound (P := P) none hl3
      have hg4 := grownBy_putObj' W3 (w.heap.size + 1) (.loop { rec .ready none with state := .ready, pending := none })
      refine ⟨_, _, hend, rfl, ⟨hI _ _ _ _ hi3 hg4 (fun r e => .inr (by cases e; omega)), ?_, (World.putObj_heap_other (by omega)).trans hd3⟩, (World.putObj_heap_other (by omega)).trans (hb3.trans hb2)⟩
      refine (World.putObj_heap_same (Array.getElem?_eq_some_iff.1 hl3).1).trans ?_
      rw [hrec]
      rfl
    · rintro e W2 ⟨⟨v, rfl⟩, hi, hl, hd⟩
      have hg5 := grownBy_putObj' W2 (w.heap.size + 1) (.loop { rec .ready none with state := .exhausted })
      refine ⟨none, _, ?_, hdone _ _ (Nat.le_refl _) (hI _ _ _ _ hi hg5 (fun r e => .inr (by cases e; omega))) ((World.putObj_heap_other (by omega)).trans hd)⟩
      have := run_endLoop (P := P) hl (by rw [hrec]; simp)
      rw [hrec] at this ⊢
      exact this
end Rng
end Go.Proofs.Ytdeopfpabfaopaa
