/- Two ends, the frames on their way, what was given and told: on memory; NewPair. -/
import Derived.Test.YtgkadhogfejheaaQM
import Derived.Test.YtgkadhogfejheaaZLnkL
set_option linter.unusedVariables false
set_option linter.unusedSimpArgs false
/-! append of a whole slice, an empty one too. No program in sight. -/
namespace Go.Proofs.Ytgkadhogfejheaa.Mem
open Go.RowKit

theorem grownBy_refl (w : World) (r : Option Nat) : w.grownBy w r := ⟨rfl, rfl, rfl, Nat.le_refl _, fun _ _ _ => rfl⟩

/-- append(s, x...): s grows by what x holds -/
theorem run_append_rows {P : Program} (w : World) (t ty : TypeId) (base : Nat) (e : TypeId) (i : TypeInfo) (z : Value) (size bytes : Nat) (ht : P.underlying t = some (.slice e)) (hi : P.info? e = some i) (hz : i.zero = some z)
    (hsize : i.size = size) (hby : i.bytes = bytes) (hzs : z.cells.size = size)
    (v : Value) (n : Nat) (xs : List Value) (hown : Row w base e size v n xs)
    (x : Value) (m b2 : Nat) (news : List Value) (hx : Row w b2 e size x m news) (h1 : ∀ u ∈ news, u.oneCell' = true)
    (h63 : n + m ≤ maxLen) (hbytes : (n + m) * bytes ≤ 140737488355328) (hbase : base ≤ w.heap.size) :
    ∃ v' w', (Builtin.append_ #[t, t] ty #[v, x]).run P w = .ok v' w' ∧ Row w' base e size v' (n + m) (xs ++ news) ∧ w.grownBy w' v.ownBlock ∧
      (v'.ownBlock = v.ownBlock ∨ v'.ownBlock = some w.heap.size) := by
  by_cases hm : m = 0
  · subst hm
    have hn : news = [] := List.eq_nil_of_length_eq_zero (by simpa using hx.1)
    subst hn
    obtain ⟨A, c, rfl, _, _⟩ := hx.form
    refine ⟨v, w, ?_, by simpa using hown, grownBy_refl _ _, .inl rfl⟩
    rcases hown.2 with ⟨rfl, rfl⟩ | ⟨g, off, cap, cur, rfl, hbg, hg, hnc, hcm, hcs, hat⟩
    · cases A <;> simp [Builtin.append_, run_underlying ht, sizeOf, typeInfo, hi, Builtin.lenOf, Builtin.firstCells, loadCells, loadCellsFrom]
    · cases A <;> simp [Builtin.append_, run_underlying ht, sizeOf, typeInfo, hi, Builtin.lenOf, Builtin.firstCells, loadCells, loadCellsFrom, hnc, storeCells]
  · rcases hx.2 with ⟨_, h0⟩ | ⟨p, off, cap, cur, rfl, _, h2, _, _, _, h3⟩
    · exact absurd h0 hm
    · refine run_append_row w t ty base e i z size bytes ht hi hz hsize hby hzs v n xs hown ⟨p, off, none⟩ m cap news hx.1 (fun j u hj => ?_) h1 (by omega) h63 hbytes hbase
      have := cell_of_row w p (off + j) _ _ _ h2
      simpa [Addr.add_lit] using this.trans (h3 j u hj)

theorem wp_append_rows {P : Program} (w : World) {o : Oper} {a : Act} {K : Act → World → Prop} {Q : Exit → Act → World → Prop} (s x : Operand) (t : TypeId)
    (ho : o.op = .call { callee := .builtin .append, args := #[s, x], argTypes := #[t, t] })
    (base : Nat) (e : TypeId) (i : TypeInfo) (z : Value) (size bytes : Nat) (ht : P.underlying t = some (.slice e)) (hi : P.info? e = some i) (hz : i.zero = some z)
    (hsize : i.size = size) (hby : i.bytes = bytes) (hzs : z.cells.size = size)
    (v : Value) (n : Nat) (xs : List Value) (hs : a.eval s = v) (hown : Row w base e size v n xs)
    (y : Value) (m b2 : Nat) (news : List Value) (hy : a.eval x = y) (hx : Row w b2 e size y m news) (h1 : ∀ u ∈ news, u.oneCell' = true)
    (h63 : n + m ≤ maxLen) (hbytes : (n + m) * bytes ≤ 140737488355328) (hbase : base ≤ w.heap.size)
    (h : ∀ v' w', Row w' base e size v' (n + m) (xs ++ news) → w.grownBy w' v.ownBlock → (v'.ownBlock = v.ownBlock ∨ v'.ownBlock = some w.heap.size) → K (a.put o.dst v') w') : o.wp P a w K Q := by
  obtain ⟨v', w', hr, h2, h3, h4⟩ := run_append_rows (P := P) w t o.type base e i z size bytes ht hi hz hsize hby hzs v n xs hown y m b2 news hx h1 h63 hbytes hbase
  unfold Oper.wp execOp
  simp only [ho, resolve, invoke, builtin, Sem.run_bind, Sem.run_pure, Result.andThen_ok, List.map_toArray, List.map_cons, List.map_nil, hs, hy, hr]
  exact h v' w' h2 h3 h4
theorem wpList_append_rows {P : Program} (w : World) {ops : Array Oper} {rest : List Oper} {o : Oper} {a : Act} {Q : Exit → Act → World → Prop} (hgd : o.guard = none) (s x : Operand) (t : TypeId)
    (ho : o.op = .call { callee := .builtin .append, args := #[s, x], argTypes := #[t, t] })
    (base : Nat) (e : TypeId) (i : TypeInfo) (z : Value) (size bytes : Nat) (ht : P.underlying t = some (.slice e)) (hi : P.info? e = some i) (hz : i.zero = some z)
    (hsize : i.size = size) (hby : i.bytes = bytes) (hzs : z.cells.size = size)
    (v : Value) (n : Nat) (xs : List Value) (hs : a.eval s = v) (hown : Row w base e size v n xs)
    (y : Value) (m b2 : Nat) (news : List Value) (hy : a.eval x = y) (hx : Row w b2 e size y m news) (h1 : ∀ u ∈ news, u.oneCell' = true)
    (h63 : n + m ≤ maxLen) (hbytes : (n + m) * bytes ≤ 140737488355328) (hbase : base ≤ w.heap.size)
    (h : ∀ v' w', Row w' base e size v' (n + m) (xs ++ news) → w.grownBy w' v.ownBlock → (v'.ownBlock = v.ownBlock ∨ v'.ownBlock = some w.heap.size) → wpList P ops Q rest (a.put o.dst v') w') : wpList P ops Q (o :: rest) a w :=
  wpList_plain hgd fun _ hK => wp_append_rows w s x t ho base e i z size bytes ht hi hz hsize hby hzs v n xs hs hown y m b2 news hy hx h1 h63 hbytes hbase fun v' w' h2 h3 h4 => hK _ _ (h v' w' h2 h3 h4)
end Go.Proofs.Ytgkadhogfejheaa.Mem

/-! Two ends, the frames on their way, what was given and told: on memory; NewPair. -/
namespace Go.Proofs.Ytgkadhogfejheaa
open Go.RowKit

namespace Lnk
def Txt (w : World) (base : Nat) (v : Value) (l : List (List UInt8)) : Prop := Mem.Row w base 9 1 v l.length (strs l)
def sub {α : Type} (f : Nat → α) (i : Nat) (x : α) : Nat → α := fun j => if j = i then x else f j
theorem sub_same {α : Type} (f : Nat → α) (i : Nat) (x : α) : sub f i x i = x := if_pos rfl
theorem sub_other {α : Type} (f : Nat → α) {i j : Nat} (x : α) (h : j ≠ i) : sub f i x j = f j := if_neg h
def ptr (g : Nat) : Value := .pointer (some ⟨g, 0, none⟩)
structure PLie (w : World) (B q : Nat) (g : Nat → Nat) (F : Nat → Nat → Prop) (s : Nat → Value) (e : Nat → St) (c : Nat → List (List UInt8)) : Prop where
  row : w.heap[q]? = some (.cells #[ptr (g 0), ptr (g 1), s 0, s 1, s 2, s 3, s 4, s 5] 37 (0, 0))
  ends : ∀ i, i < 2 → At w (g i) (F i) (e i)
  rows : ∀ j, j < 6 → Txt w B (s j) (c j)
  apart : ∀ i j, i < 2 → j < 2 → i ≠ j → ∀ k, F i k → ¬ F j k
  qF : ∀ i, i < 2 → ¬ F i q
  bF : ∀ i, i < 2 → ∀ k, F i k → B ≤ k
  bq : B ≤ q
  sF : ∀ j, j < 6 → ∀ k, (s j).ownBlock = some k → k ≠ q ∧ ∀ i, i < 2 → ¬ F i k
  ss : ∀ j j', j < 6 → j' < 6 → j ≠ j' → ∀ k, (s j).ownBlock = some k → (s j').ownBlock ≠ some k
def PAt (w : World) (B q : Nat) (e : Nat → St) (c : Nat → List (List UInt8)) : Prop := ∃ g F s, PLie w B q g F s e c

theorem At.lt {w : World} {g : Nat} {F : Nat → Prop} {e : St} (h : At w g F e) {k : Nat} (hk : F k) : k < w.heap.size := by
  obtain ⟨_, _, h⟩ := h
  exact h.lt k hk
section
variable {w w1 : World} {B q : Nat} {g : Nat → Nat} {F : Nat → Nat → Prop} {s : Nat → Value} {e : Nat → St} {c : Nat → List (List UInt8)}
theorem PLie.qlt (h : PLie w B q g F s e c) : q < w.heap.size := (Array.getElem?_eq_some_iff.1 h.row).1
theorem PLie.below (h : PLie w B q g F s e c) (hb : Below w.heap.size w w1) : PLie w1 B q g F s e c where
  row := (hb.block q h.qlt).trans h.row
  ends := fun i hi => (h.ends i hi).below hb
  rows := fun j hj => Mem.Row.below (h.rows j hj) hb
  apart := h.apart
  qF := h.qF
  bF := h.bF
  bq := h.bq
  sF := h.sF
  ss := h.ss
/-- an end turned -/
theorem PLie.turn (h : PLie w B q g F s e c) {i : Nat} (hi : i < 2) {F' : Nat → Prop} {e' : St} (ha : At w1 (g i) F' e') (hb : Mem.But (F i) w w1) (hf : ∀ k, F' k → F i k ∨ w.heap.size ≤ k) :
    PLie w1 B q g (sub F i F') s (sub e i e') c where
  row := (hb.block q h.qlt (h.qF i hi)).trans h.row
  ends := fun j hj => by
    by_cases hij : j = i
    · subst hij
      rw [sub_same, sub_same]
      exact ha
    · rw [sub_other _ _ hij, sub_other _ _ hij]
      exact (h.ends j hj).keep hb (h.apart j i hj hi hij)
  rows := fun j hj => Mem.Row.keep (h.rows j hj) fun k hk ho => hb.block k hk ((h.sF j hj k ho).2 i hi)
  apart := fun a b ha2 hb2 hab k h1 h2 => by
    unfold sub at h1 h2
    split at h1
    · rename_i hai
      rw [if_neg (fun e => hab (hai.trans e.symm))] at h2
      rcases hf k h1 with h3 | h3
      · exact h.apart i b hi hb2 (fun e => hab (hai.trans e)) k h3 h2
      · have := (h.ends b hb2).lt h2
        omega
    · split at h2
      · rename_i hai hbi
        rcases hf k h2 with h3 | h3
        · exact h.apart a i ha2 hi hai k h1 h3
        · have := (h.ends a ha2).lt h1
          omega
      · exact h.apart a b ha2 hb2 hab k h1 h2
  qF := fun j hj hk => by
    unfold sub at hk
    split at hk
    · rcases hf q hk with h3 | h3
      · exact h.qF i hi h3
      · have := h.qlt
        omega
    · exact h.qF j hj hk
  bF := fun j hj k hk => by
    unfold sub at hk
    split at hk
    · rcases hf k hk with h3 | h3
      · exact h.bF i hi k h3
      · have := h.qlt
        have := h.bq
        omega
    · exact h.bF j hj k hk
  bq := h.bq
  sF := fun j hj k hk => ⟨(h.sF j hj k hk).1, fun a ha2 h2 => by
    unfold sub at h2
    split at h2
    · rcases hf k h2 with h3 | h3
      · exact (h.sF j hj k hk).2 i hi h3
      · have := (Mem.Row.block (h.rows j hj) hk).2
        omega
    · exact (h.sF j hj k hk).2 a ha2 h2⟩
  ss := h.ss
/-- a row of texts replaced -/
theorem PLie.text (h : PLie w B q g F s e c) {j : Nat} (hj : j < 6) {v : Value} {l : List (List UInt8)} (hb : Mem.But (fun k => (s j).ownBlock = some k) w w1) (hr : Txt w1 B v l)
    (hv : ∀ k, v.ownBlock = some k → (s j).ownBlock = some k ∨ w.heap.size ≤ k) :
    PLie (w1.setCell ⟨q, 2 + j, none⟩ v) B q g F (sub s j v) e (sub c j l) := by
  have hq1 : w1.heap[q]? = some (.cells #[ptr (g 0), ptr (g 1), s 0, s 1, s 2, s 3, s 4, s 5] 37 (0, 0)) :=
    (hb.block q h.qlt (fun ho => (h.sF j hj q ho).1 rfl)).trans h.row
  have hp := Mem.put_setCell w1 q (2 + j) v _ _ hq1
  have hvq : v.ownBlock ≠ some q := fun ho => by
    rcases hv q ho with h1 | h1
    · exact (h.sF j hj q h1).1 rfl
    · have := h.qlt
      omega
  have hall : Mem.But (fun k => (s j).ownBlock = some k ∨ k = q) w (w1.setCell ⟨q, 2 + j, none⟩ v) :=
    (hb.mono fun k _ h => .inl h).trans (Mem.But.of_setCell _ _ (.inr rfl))
  exact
    { row := by
        rw [hp.row]
        match j, hj with
        | 0, _ => rfl
        | 1, _ => rfl
        | 2, _ => rfl
        | 3, _ => rfl
        | 4, _ => rfl
        | 5, _ => rfl
      ends := fun i hi => (h.ends i hi).keep hall fun k hk h2 => by
        rcases h2 with h2 | h2
        · exact (h.sF j hj k h2).2 i hi hk
        · subst h2
          exact h.qF i hi hk
      rows := fun a ha => by
        by_cases haj : a = j
        · subst haj
          rw [sub_same, sub_same]
          exact Mem.Row.keep hr fun k hk ho => heap_setCell_other _ _ _ _ fun e2 => hvq (by simp at e2; rw [← e2]; exact ho)
        · rw [sub_other _ _ haj, sub_other _ _ haj]
          exact Mem.Row.keep (h.rows a ha) fun k hk ho => hall.block k hk fun h2 => by
            rcases h2 with h2 | h2
            · exact h.ss j a hj ha (Ne.symm haj) k h2 ho
            · exact (h.sF a ha k ho).1 h2
      apart := h.apart
      qF := h.qF
      bF := h.bF
      bq := h.bq
      sF := fun a ha k hk => by
        unfold sub at hk
        split at hk
        · rcases hv k hk with h1 | h1
          · exact h.sF j hj k h1
          · refine ⟨fun e2 => ?_, fun i hi h2 => ?_⟩
            · have := h.qlt
              omega
            · have := (h.ends i hi).lt h2
              omega
        · exact h.sF a ha k hk
      ss := fun a b ha hb2 hab k h1 h2 => by
        unfold sub at h1 h2
        split at h1
        · rename_i haj
          rw [if_neg (fun e2 => hab (haj.trans e2.symm))] at h2
          rcases hv k h1 with h3 | h3
          · exact h.ss j b hj hb2 (fun e2 => hab (haj.trans e2)) k h3 h2
          · have := (Mem.Row.block (h.rows b hb2) h2).2
            omega
        · split at h2
          · rename_i haj hbj
            rcases hv k h2 with h3 | h3
            · exact h.ss a j ha hj haj k h1 h3
            · have := (Mem.Row.block (h.rows a ha) h1).2
              omega
          · exact h.ss a b ha hb2 hab k h1 h2 }
end
theorem PLie.same {w : World} {B q : Nat} {g : Nat → Nat} {F : Nat → Nat → Prop} {s : Nat → Value} {e e' : Nat → St} {c c' : Nat → List (List UInt8)} (h : PLie w B q g F s e c) (h1 : e = e') (h2 : c = c') : PLie w B q g F s e' c' := by
  subst h1; subst h2; exact h
end Lnk

end Go.Proofs.Ytgkadhogfejheaa
