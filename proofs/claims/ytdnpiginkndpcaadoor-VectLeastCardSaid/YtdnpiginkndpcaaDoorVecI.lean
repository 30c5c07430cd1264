/- Opening arguments that are lists, or lists of lists, of numbers; great. -/
import Derived.Test.YtdnpiginkndpcaaDoorVecH
import Derived.Test.YtdnpiginkndpcaaDoorPVectAsksx5
import Derived.Deep.Slices
import Derived.Deep.Fields
import Derived.Great.BuildSlice
namespace Go.Proofs.YtdnpiginkndpcaaDoor
open Go.RowKit
open PVectAsks

namespace Vec
open Go.Proofs.YtdnpiginkndpcaaDoorW.PrintWords
theorem cells_int : Tryd.prog.cellsOf 3 = 1 := by kernel_rfl
theorem cells_row : Tryd.prog.cellsOf 22 = 1 := by kernel_rfl
/-- a value that reads as a list of numbers -/
theorem trod_row {H : Type} {enc : TypeId × Value → H} {w : World} {v : Value} {m : Nat} {x : DataW H × List MemPlace} (h : DataW.trod enc Tryd.prog w 0 (fun _ => true) true m 22 [v] = some x) :
    ∃ (A : Option Addr) (l : List Int) (c : Nat), v = .slice A l.length c ∧ l.length ≤ c ∧ Kd.C (Kd.int .i64) w A l.length l := by
  rcases Deep.open_slice1 Tryd.underlying22 cells_int h with ⟨h1, _⟩ | ⟨a, len, cap, mm, n, V, D, Pl, h1, _, h3, h4, h5, _, h6⟩
  · simp only [List.cons.injEq, and_true] at h1
    exact ⟨none, [], 0, h1, Nat.le_refl _, Kd.C_nil _ _⟩
  · simp only [List.cons.injEq, and_true] at h1
    have hm : mm = cap := h5
    subst hm
    obtain ⟨f, hf⟩ := Deep.choose_lt (α := Int) (n := len) (p := fun i (s : Int) => w.cell? (a.add i) = some (.int .i64 s)) (fun i hi => by
      obtain ⟨g1, g2⟩ := h6 i (by omega)
      obtain ⟨s, e, _, _⟩ := DataW.trod_int Tryd.underlying3 g2
      simp only [List.cons.injEq, and_true] at e
      exact ⟨s, by rw [g1, e]⟩)
    refine ⟨some a, (List.range len).map f, mm, by simpa using h1, by simpa using h3, rfl, by unfold maxLen at h4; simp; omega, fun hl => ⟨a, rfl, fun j s hj => ⟨[.int .i64 s], rfl, rfl, fun i u hu => ?_⟩⟩⟩
    have hj2 : j < len := by have := (List.getElem?_eq_some_iff.1 hj).1; simpa using this
    have hs : s = f j := by
      rw [List.getElem?_map, List.getElem?_range hj2] at hj
      simpa using hj.symm
    subst hs
    cases i with
    | succ i => simp at hu
    | zero =>
      have hu' : Value.int .i64 (f j) = u := by simpa using hu
      subst hu'
      have : j * (Kd.int .i64).sz + 0 = j := by simp [Kd.int, Kd.scalar]
      rw [this]
      exact hf j hj2
/-- the argument reads as a list of numbers -/
theorem arg_ints {H : Type} {enc : TypeId × Value → H} {w : World} {a0 : Option Addr} {len cap : Nat} {d : DataW H} {p : List MemPlace} (h : DataW.Trod enc Tryd.prog w 0 (fun _ => true) true 22 (.slice a0 len cap) d p) :
    ∃ l : List Int, l.length = len ∧ len ≤ cap ∧ Kd.C (Kd.int .i64) w a0 l.length l := by
  obtain ⟨fuel, h⟩ := h
  simp only [Value.cells] at h
  obtain ⟨A, l, c, h1, h2, h3⟩ := trod_row h
  injection h1 with e1 e2 e3
  subst e1 e2 e3
  exact ⟨l, rfl, h2, h3⟩
/-- the argument reads as a list of lists of numbers -/
theorem arg_rows {H : Type} {enc : TypeId × Value → H} {w : World} {a0 : Option Addr} {len cap : Nat} {d : DataW H} {p : List MemPlace} (h : DataW.Trod enc Tryd.prog w 0 (fun _ => true) true 40 (.slice a0 len cap) d p) :
    ∃ l : List (List Int), l.length = len ∧ len ≤ cap ∧ Kd.C (Kd.slice 3 (Kd.int .i64)) w a0 l.length l := by
  obtain ⟨fuel, h⟩ := h
  simp only [Value.cells] at h
  rcases Deep.open_slice1 Tryd.underlying40 cells_row h with ⟨h1, _⟩ | ⟨a, len, cap, mm, n, V, D, Pl, h1, _, h3, h4, h5, _, h6⟩
  · simp only [List.cons.injEq, and_true] at h1
    injection h1 with e1 e2 e3
    subst e1 e2 e3
    exact ⟨[], rfl, Nat.le_refl _, Kd.C_nil _ _⟩
  · simp only [List.cons.injEq, and_true] at h1
    injection h1 with e1 e2 e3
    subst e1 e2 e3
    have hm : mm = cap := h5
    subst hm
    obtain ⟨f, hf⟩ := Deep.choose_lt (α := List Int) (n := len) (p := fun i (s : List Int) => ∃ A c, w.cell? (a.add i) = some (.slice A s.length c) ∧ s.length ≤ c ∧ Kd.C (Kd.int .i64) w A s.length s) (fun i hi => by
      obtain ⟨g1, g2⟩ := h6 i (by omega)
      obtain ⟨A, l, c, e, h2, h3⟩ := trod_row g2
      exact ⟨l, A, c, by rw [g1, e], h2, h3⟩)
    refine ⟨(List.range len).map f, by simp, h3, rfl, by unfold maxLen at h4; simp; omega, fun hl => ⟨a, rfl, fun j s hj => ?_⟩⟩
    have hj2 : j < len := by have := (List.getElem?_eq_some_iff.1 hj).1; simpa using this
    have hs : s = f j := by
      rw [List.getElem?_map, List.getElem?_range hj2] at hj
      simpa using hj.symm
    subst hs
    obtain ⟨A, c, k1, k2, k3⟩ := hf j hj2
    refine ⟨[.slice A (f j).length c], rfl, ⟨A, c, rfl, k2, k3⟩, fun i u hu => ?_⟩
    cases i with
    | succ i => simp at hu
    | zero =>
      have hu' : Value.slice A (f j).length c = u := by simpa using hu
      subst hu'
      have : j * (Kd.slice 3 (Kd.int .i64)).sz + 0 = j := by simp [Kd.slice]
      rw [this]
      exact k1

/-! ### a slice literal whose places are given values -/
section
variable {P : Program} {ops : Array Oper} {rest : List Oper} {o : Oper} {a : Act} {w : World} {Q : Exit → Act → World → Prop}
theorem wpList_lits (hg : o.guard = none) (t e : TypeId) (len : Nat) (parts : Array (Nat × Operand)) (ho : o.op = .buildSlice t len parts) (vs : List Value)
    (hu : P.underlying t = some (.slice e)) (hsz : (P.info? e).map (·.size) = some 1) (hz : ((P.info? e).bind (·.zero)).isSome = true) (hlen : len = vs.length) (hpos : 0 < len) (hsmall : len ≤ 1000)
    (hparts : (parts.map fun (i, x) => (i, a.eval x)).toList = (vs.zipIdx 0).map fun x => (x.2, x.1)) (hone : ∀ v ∈ vs, v.cells = #[v]) (cs : Array Value) (hcs : vs.toArray = cs)
    (h : ∀ w1, Mem.New w w1 cs e → wpList P ops Q rest (a.put o.dst (.slice (some ⟨w.heap.size, 0, none⟩) len len)) w1) : wpList P ops Q (o :: rest) a w := by
  subst hcs
  cases hie : P.info? e with
  | none => simp [hie] at hsz
  | some ie =>
    simp only [hie, Option.map_some, Option.some.injEq, Option.bind_some] at hsz hz
    obtain ⟨z, hzz⟩ := Option.isSome_iff_exists.1 hz
    refine wpList_buildSlice hg t e len parts ho _ ie z hu hie hzz (by rw [hsz]; omega) (by rw [hsz]; omega) ?_ (h _ (Mem.new_alloc _ _ _))
    rw [hparts, hsz]
    exact Great.fill_flat _ _ hone (by simp [hlen])
end

/-! ### great -/
def greatB (ls : List (List Int)) : Bool := ls.any (fun l => decide (100 < l.length)) || decide (100 < ls.length)
theorem rd_l2 {l : List (List Int)} {i : Nat} {x : List Int} (h : l[i]? = some x) : rd_L2 l (i : Int) = x := by
  unfold rd_L2
  rw [show ((i : Int)).toNat = i by omega, List.getD_eq_getElem?_getD, h]; rfl
theorem great_l (l : List (List Int)) (hl : l.length ≤ 9223372036854775807) : ∀ (d k i : Nat), l.length = i + d → d < k → foolscaplaw06_great.l0 k l (i : Int) = some ((l.drop i).any (fun l => decide (100 < l.length)) || decide (100 < l.length)) := by
  intro d
  induction d with
  | zero =>
    intro k i h hk
    obtain ⟨k, rfl⟩ : ∃ m, k = m + 1 := ⟨k - 1, by omega⟩
    unfold foolscaplaw06_great.l0
    rw [if_neg (by omega), List.drop_eq_nil_of_le (by omega), List.any_nil, Bool.false_or]
    congr 1
    rw [Bool.eq_iff_iff, decide_eq_true_eq, decide_eq_true_eq]
    omega
  | succ d ih =>
    intro k i h hk
    obtain ⟨k, rfl⟩ : ∃ m, k = m + 1 := ⟨k - 1, by omega⟩
    obtain ⟨x, hx⟩ : ∃ x, l[i]? = some x := ⟨_, List.getElem?_eq_getElem (by omega)⟩
    have hd : l.drop i = x :: l.drop (i + 1) := by
      obtain ⟨h1, h2⟩ := List.getElem?_eq_some_iff.1 hx
      rw [← h2]; exact List.drop_eq_getElem_cons h1
    unfold foolscaplaw06_great.l0
    rw [if_pos (by omega), if_pos (by omega), rd_l2 hx, hd, List.any_cons]
    by_cases h1 : (x.length : Int) > 100
    · rw [if_pos h1, decide_eq_true (show 100 < x.length by omega)]; rfl
    · rw [if_neg h1, decide_eq_false (show ¬ 100 < x.length by omega), Bool.false_or, show wrap64 ((i : Int) + 1) = ((i + 1 : Nat) : Int) by rw [wrap_id (by omega) (by omega)]; omega]
      exact ih k (i + 1) (by omega) (by omega)
theorem great_eval (l : List (List Int)) (hl : l.length ≤ 9223372036854775807) : foolscaplaw06_great.f (l.length + 1) l = some (greatB l) := by
  have := great_l l hl l.length (l.length + 1) 0 (by omega) (by omega)
  rw [List.drop_zero] at this
  exact this
/-- some lists, as they lie in memory -/
structure At where
  A : Option Addr
  c : Nat
  l : List Int
def At.val (t : At) : Value := .slice t.A t.l.length t.c
def At.ok (w : World) (t : At) : Prop := t.l.length ≤ t.c ∧ Kd.C (Kd.int .i64) w t.A t.l.length t.l
theorem rows_new {w w2 : World} (ts : List At) (T : TypeId) (hn : ts.length ≤ 1000) (h : ∀ t ∈ ts, At.ok w t) (hnew : Mem.New w w2 (ts.map At.val).toArray T) : Kd.C (Kd.slice 3 (Kd.int .i64)) w2 (some ⟨w.heap.size, 0, none⟩) (ts.map At.l).length (ts.map At.l) := by
  refine ⟨rfl, by simp; omega, fun _ => ⟨_, rfl, fun j p hj => ?_⟩⟩
  rw [List.getElem?_map] at hj
  obtain ⟨t, ht, rfl⟩ := Option.map_eq_some_iff.1 hj
  obtain ⟨k1, k2⟩ := h t (List.mem_of_getElem? ht)
  refine ⟨[t.val], rfl, ⟨t.A, t.c, rfl, k1, Kd.C_below k2 hnew.below⟩, fun i u hu => ?_⟩
  cases i with
  | succ i => simp at hu
  | zero =>
    have hu' : t.val = u := by simpa using hu
    subst hu'
    have : (⟨w.heap.size, 0, none⟩ : Addr).add (j * (Kd.slice 3 (Kd.int .i64)).sz + 0) = ⟨w.heap.size, j, none⟩ := by simp [Addr.add, Kd.slice]; exact fun h => h.symm
    rw [this]
    refine (cell_of_row _ _ j _ _ _ hnew.row).trans ?_
    rw [List.getElem?_toArray, List.getElem?_map, ht]
    rfl
theorem great_new {w w2 : World} (ts : List At) (hn : ts.length ≤ 1000) (n : Nat) (hn2 : ts.length = n) (cs : Array Value) (hcs : (ts.map At.val).toArray = cs) (r : Bool) (hr : greatB (ts.map At.l) = r) (h : ∀ t ∈ ts, At.ok w t) (hnew : Mem.New w w2 cs 22) :
    Calls Tryd.prog 10 #[.slice (some ⟨w.heap.size, 0, none⟩) n n] w2 fun e w' => e = .returned (.bool r) ∧ Below w2.heap.size w2 w' := by
  subst hcs hr hn2
  have h1 := rows_new ts 22 hn h hnew
  have := foolscaplaw06_great.calls _ (some ⟨w.heap.size, 0, none⟩) ts.length (ts.map At.l) _ _ h1 (by simp) (great_eval _ (by simp; omega))
  rw [List.length_map] at this
  refine this.mono ?_
  rintro e w' ⟨rfl, hd⟩
  exact ⟨rfl, drawn_below hd⟩
end Vec
end Go.Proofs.YtdnpiginkndpcaaDoor
