/- All that was there is as it was, but for certain blocks. -/
import Derived.Test.YtihdcglkmilckaaApp
namespace Go.Proofs.Ytihdcglkmilckaa.Mem
open Go.RowKit

structure But (S : Nat → Prop) (w w' : World) : Prop where
  os : w'.os = w.os
  tape : w'.tape = w.tape
  output : w'.output = w.output
  size : w.heap.size ≤ w'.heap.size
  block : ∀ k, k < w.heap.size → ¬ S k → w'.heap[k]? = w.heap[k]?

variable {S : Nat → Prop} {a b c w w1 : World}
theorem But.refl (S : Nat → Prop) (w : World) : But S w w := ⟨rfl, rfl, rfl, Nat.le_refl _, fun _ _ _ => rfl⟩
theorem But.trans (h : But S a b) (k : But S b c) : But S a c :=
  ⟨k.os.trans h.os, k.tape.trans h.tape, k.output.trans h.output, Nat.le_trans h.size k.size, fun i hi hs => (k.block i (Nat.lt_of_lt_of_le hi h.size) hs).trans (h.block i hi hs)⟩
theorem But.mono {T : Nat → Prop} (h : But S a b) (hs : ∀ k, k < a.heap.size → S k → T k) : But T a b := ⟨h.os, h.tape, h.output, h.size, fun k hk hn => h.block k hk fun hh => hn (hs k hk hh)⟩
/-- what was written was not there before -/
theorem But.later {T : Nat → Prop} (h : But S a b) (k : But T b c) (hT : ∀ i, i < a.heap.size → T i → S i) : But S a c :=
  ⟨k.os.trans h.os, k.tape.trans h.tape, k.output.trans h.output, Nat.le_trans h.size k.size, fun i hi hs => (k.block i (Nat.lt_of_lt_of_le hi h.size) fun hh => hs (hT i hi hh)).trans (h.block i hi hs)⟩
theorem But.of_new {cs : Array Value} {t : TypeId} (h : New w w1 cs t) : But S w w1 := ⟨h.below.os, h.below.tape, h.below.output, h.below.size, fun k hk _ => h.below.block k hk⟩
theorem But.of_below (h : Below w.heap.size w w1) : But S w w1 := ⟨h.os, h.tape, h.output, h.size, fun k hk _ => h.block k hk⟩
theorem But.of_put {g : Nat} {cs : Array Value} {t : TypeId} (h : Put w w1 g cs t) (hS : S g) : But S w w1 := ⟨h.os, h.tape, h.output, Nat.le_of_eq h.size.symm, fun k _ hs => h.other k fun e => hs (e ▸ hS)⟩
theorem But.of_setCell (p : Addr) (v : Value) (hS : S p.block) : But S w (w.setCell p v) := ⟨rfl, rfl, rfl, by simp, fun k _ hs => heap_setCell_other w p k v fun e => hs (e ▸ hS)⟩
theorem But.of_alloc (o : Obj) : But S w (w.alloc o) := ⟨rfl, rfl, rfl, by simp, fun k hk _ => heap_alloc_old w o hk⟩
theorem But.of_drewN (n : Nat) : But S w (w.drewN n) := ⟨rfl, rfl, rfl, Nat.le_refl _, fun _ _ _ => rfl⟩
theorem But.of_drawn (h : Drawn w w1) : But S w w1 := by obtain ⟨n, rfl⟩ := h; exact But.of_drewN n
theorem But.below (h : But S w w1) {B : Nat} (hB : B ≤ w.heap.size) (hS : ∀ k, S k → B ≤ k) : Below B w w1 :=
  ⟨h.os, h.tape, h.output, h.size, fun k hk => h.block k (by omega) fun hs => by have := hS k hs; omega⟩
theorem keep {w w' : World} {x : Addr} {v : Value} (hb : Below w.heap.size w w') (h : w.cell? x = some v) : w'.cell? x = some v := (hb.cell (block_lt_of_cell h)).trans h
theorem keep_free {w w' : World} {x : Addr} {v : Value} (hb : Below w.heap.size w w') (h : w.cell? x = some v) (h2 : w.frozen? x = false) : w'.frozen? x = false := (hb.frozen (block_lt_of_cell h)).trans h2
theorem keep_but {g : Nat} {w w' : World} {x : Addr} {v : Value} (hb : But (· = g) w w') (hne : ¬ x.block = g) (h : w.cell? x = some v) : w'.cell? x = some v :=
  (World.cell?_of_block (hb.block _ (block_lt_of_cell h) hne)).trans h

theorem results_cell_one {P : Program} {fn : Func} {p : Tmp} {ty : TypeId} (h : fn.results = #[.cell p ty]) (tmps : Array Value) (w : World) (g : Nat) (v : Value) (d : TypeDesc)
    (hp : tmps.getD p undef = .pointer (some ⟨g, 0, none⟩)) (hu : P.underlying ty = some d) (hd : (match d with | .struct _ | .array _ _ => false | _ => true) = true) (hc : w.cell? ⟨g, 0, none⟩ = some v) :
    (results fn tmps).run P w = .ok v w := by
  have hp' : tmps[p]?.getD undef = .pointer (some ⟨g, 0, none⟩) := by simpa using hp
  cases d <;> simp_all [results, asAddr, go_sem, isAgg, run_underlying hu]
end Go.Proofs.Ytihdcglkmilckaa.Mem
