/- The contracts, said of an argument that is a list of numbers, in every later world. -/
import Derived.Test.YtdnpiginkndpcaaDoorVecH
import Derived.Test.YtdnpiginkndpcaaDoorPVectAsksx5
import Derived.Deep.Slices
import Derived.Deep.Fields
import Derived.Great.BuildSlice
/-! Opening arguments that are lists, or lists of lists, of numbers; great. -/
namespace Go.Proofs.YtdnpiginkndpcaaDoor
open Go.RowKit
open PVectAsks

namespace Vec
open Go.Proofs.YtdnpiginkndpcaaDoorW.PrintWords
theorem cells_int : Tryd.prog.cellsOf 3 = 1 := by kernel_rfl
theorem cells_row : Tryd.prog.cellsOf 22 = 1 := by kernel_rfl
/-- a value that reads as a list of numbers -/
theorem trod_row {H : Type} {enc : TypeId × Value → H} {w : World} {v : Value} {m : Nat} {x : DataW H × List MemPlace} (h : DataW.trod enc Tryd.prog w 0 (fun _ => true) true m 22 [v] = some x) :
    ∃ (A : Option Addr) (l : List Int) (c : Nat), v = .slice A l.length c ∧ l.length ≤ c ∧ Kd.C (Kd.int .i64) w A l.length l := by
  rcases Deep.open_slice1 Tryd.underlying22 cells_int h with ⟨h1, _⟩ | ⟨a, len, cap, mm, n, V, D, Pl, h1, _, h3, h4, h5, _, h6⟩
  · simp only [List.cons.injEq, and_true] at h1
    exact ⟨none, [], 0, h1, Nat.le_refl _, Kd.C_nil _ _⟩
  · simp only [List.cons.injEq, and_true] at h1
    have hm : mm = cap := h5
    subst hm
    obtain ⟨f, hf⟩ := Deep.choose_lt (α := Int) (n := len) (p := fun i (s : Int) => w.cell? (a.add i) = some (.int .i64 s)) (fun i hi => by
      obtain ⟨g1, g2⟩ := h6 i (by omega)
      obtain ⟨s, e, _, _⟩ := DataW.trod_int Tryd.underlying3 g2
      simp only [List.cons.injEq, and_true] at e
      exact ⟨s, by rw [g1, e]⟩)
    refine ⟨some a, (List.range len).map f, mm, by simpa using h1, by simpa using h3, rfl, by unfold maxLen at h4; simp; omega, fun hl => ⟨a, rfl, fun j s hj => ⟨[.int .i64 s], rfl, rfl, fun i u hu => ?_⟩⟩⟩
    have hj2 : j < len := by have := (List.getElem?_eq_some_iff.1 hj).1; simpa using this
    have hs : s = f j := by
      rw [List.getElem?_map, List.getElem?_range hj2] at hj
      simpa using hj.symm
    subst hs
    cases i with
    | succ i => simp at hu
    | zero =>
      have hu' : Value.int .i64 (f j) = u := by simpa using hu
      subst hu'
      have : j * (Kd.int .i64).sz + 0 = j := by simp [Kd.int, Kd.scalar]
      rw [this]
      exact hf j hj2
/-- the argument reads as a list of numbers -/
theorem arg_ints {H : Type} {enc : TypeId × Value → H} {w : World} {a0 : Option Addr} {len cap : Nat} {d : DataW H} {p : List MemPlace} (h : DataW.Trod enc Tryd.prog w 0 (fun _ => true) true 22 (.slice a0 len cap) d p) :
    ∃ l : List Int, l.length = len ∧ len ≤ cap ∧ Kd.C (Kd.int .i64) w a0 l.length l := by
  obtain ⟨fuel, h⟩ := h
  simp only [Value.cells] at h
  obtain ⟨A, l, c, h1, h2, h3⟩ := trod_row h
  injection h1 with e1 e2 e3
  subst e1 e2 e3
  exact ⟨l, rfl, h2, h3⟩
/-- the argument reads as a list of lists of numbers -/
theorem arg_rows {H : Type} {enc : TypeId × Value → H} {w : World} {a0 : Option Addr} {len cap : Nat} {d : DataW H} {p : List MemPlace} (h : DataW.Trod enc Tryd.prog w 0 (fun _ => true) true 40 (.slice a0 len cap) d p) :
    ∃ l : List (List Int), l.length = len ∧ len ≤ cap ∧ Kd.C (Kd.slice 3 (Kd.int .i64)) w a0 l.length l := by
  obtain ⟨fuel, h⟩ := h
  simp only [Value.cells] at h
  rcases Deep.open_slice1 Tryd.underlying40 cells_row h with ⟨h1, _⟩ | ⟨a, len, cap, mm, n, V, D, Pl, h1, _, h3, h4, h5, _, h6⟩
  · simp only [List.cons.injEq, and_true] at h1
    injection h1 with e1 e2 e3
    subst e1 e2 e3
    exact ⟨[], rfl, Nat.le_refl _, Kd.C_nil _ _⟩
  · simp only [List.cons.injEq, and_true] at h1
    injection h1 with e1 e2 e3
    subst e1 e2 e3
    have hm : mm = cap := h5
    subst hm
    obtain ⟨f, hf⟩ := Deep.choose_lt (α := List Int) (n := len) (p := fun i (s : List Int) => ∃ A c, w.cell? (a.add i) = some (.slice A s.length c) ∧ s.length ≤ c ∧ Kd.C (Kd.int .i64) w A s.length s) (fun i hi => by
      obtain ⟨g1, g2⟩ := h6 i (by omega)
      obtain ⟨A, l, c, e, h2, h3⟩ := trod_row g2
      exact ⟨l, A, c, by rw [g1, e], h2, h3⟩)
    refine ⟨(List.range len).map f, by simp, h3, rfl, by unfold maxLen at h4; simp; omega, fun hl => ⟨a, rfl, fun j s hj => ?_⟩⟩
    have hj2 : j < len := by have := (List.getElem?_eq_some_iff.1 hj).1; simpa using this
    have hs : s = f j := by
      rw [List.getElem?_map, List.getElem?_range hj2] at hj
      simpa using hj.symm
    subst hs
    obtain ⟨A, c, k1, k2, k3⟩ := hf j hj2
    refine ⟨[.slice A (f j).length c], rfl, ⟨A, c, rfl, k2, k3⟩, fun i u hu => ?_⟩
    cases i with
    | succ i => simp at hu
    | zero =>
      have hu' : Value.slice A (f j).length c = u := by simpa using hu
      subst hu'
      have : j * (Kd.slice 3 (Kd.int .i64)).sz + 0 = j := by simp [Kd.slice]
      rw [this]
      exact k1

/-! ### a slice literal whose places are given values -/
section
variable {P : Program} {ops : Array Oper} {rest : List Oper} {o : Oper} {a : Act} {w : World} {Q : Exit → Act → World → Prop}
theorem wpList_lits (hg : o.guard = none) (t e : TypeId) (len : Nat) (parts : Array (Nat × Operand)) (ho : o.op = .buildSlice t len parts) (vs : List Value)
    (hu : P.underlying t = some (.slice e)) (hsz : (P.info? e).map (·.size) = some 1) (hz : ((P.info? e).bind (·.zero)).isSome = true) (hlen : len = vs.length) (hpos : 0 < len) (hsmall : len ≤ 1000)
    (hparts : (parts.map fun (i, x) => (i, a.eval x)).toList = (vs.zipIdx 0).map fun x => (x.2, x.1)) (hone : ∀ v ∈ vs, v.cells = #[v]) (cs : Array Value) (hcs : vs.toArray = cs)
    (h : ∀ w1, Mem.New w w1 cs e → wpList P ops Q rest (a.put o.dst (.slice (some ⟨w.heap.size, 0, none⟩) len len)) w1) : wpList P ops Q (o :: rest) a w := by
  subst hcs
  cases hie : P.info? e with
  | none => simp [hie] at hsz
  | some ie =>
    simp only [hie, Option.map_some, Option.some.injEq, Option.bind_some] at hsz hz
    obtain ⟨z, hzz⟩ := Option.isSome_iff_exists.1 hz
    refine wpList_buildSlice hg t e len parts ho _ ie z hu hie hzz (by rw [hsz]; omega) (by rw [hsz]; omega) ?_ (h _ (Mem.new_alloc _ _ _))
    rw [hparts, hsz]
    exact Great.fill_flat _ _ hone (by simp [hlen])
end

/-! ### great -/
def greatB (ls : List (List Int)) : Bool := ls.any (fun l => decide (100 < l.length)) || decide (100 < ls.length)
theorem rd_l2 {l : List (List Int)} {i : Nat} {x : List Int} (h : l[i]? = some x) : rd_L2 l (i : Int) = x := by
  unfold rd_L2
  rw [show ((i : Int)).toNat = i by omega, List.getD_eq_getElem?_getD, h]; rfl
theorem great_l (l : List (List Int)) (hl : l.length ≤ 9223372036854775807) : ∀ (d k i : Nat), l.length = i + d → d < k → foolscaplaw06_great.l0 k l (i : Int) = some ((l.drop i).any (fun l => decide (100 < l.length)) || decide (100 < l.length)) := by
  intro d
  induction d with
  | zero =>
    intro k i h hk
    obtain ⟨k, rfl⟩ : ∃ m, k = m + 1 := ⟨k - 1, by omega⟩
    unfold foolscaplaw06_great.l0
    rw [if_neg (by omega), List.drop_eq_nil_of_le (by omega), List.any_nil, Bool.false_or]
    congr 1
    rw [Bool.eq_iff_iff, decide_eq_true_eq, decide_eq_true_eq]
    omega
  | succ d ih =>
    intro k i h hk
    obtain ⟨k, rfl⟩ : ∃ m, k = m + 1 := ⟨k - 1, by omega⟩
    obtain ⟨x, hx⟩ : ∃ x, l[i]? = some x := ⟨_, List.getElem?_eq_getElem (by omega)⟩
    have hd : l.drop i = x :: l.drop (i + 1) := by
      obtain ⟨h1, h2⟩ := List.getElem?_eq_some_iff.1 hx
      rw [← h2]; exact List.drop_eq_getElem_cons h1
    unfold foolscaplaw06_great.l0
    rw [if_pos (by omega), if_pos (by omega), rd_l2 hx, hd, List.any_cons]
    by_cases h1 : (x.length : Int) > 100
    · rw [if_pos h1, decide_eq_true (show 100 < x.length by omega)]; rfl
    · rw [if_neg h1, decide_eq_false (show ¬ 100 < x.length by omega), Bool.false_or, show wrap64 ((i : Int) + 1) = ((i + 1 : Nat) : Int) by rw [wrap_id (by omega) (by omega)]; omega]
      exact ih k (i + 1) (by omega) (by omega)
theorem great_eval (l : List (List Int)) (hl : l.length ≤ 9223372036854775807) : foolscaplaw06_great.f (l.length + 1) l = some (greatB l) := by
  have := great_l l hl l.length (l.length + 1) 0 (by omega) (by omega)
  rw [List.drop_zero] at this
  exact this
/-- some lists, as they lie in memory -/
structure At where
  A : Option Addr
  c : Nat
  l : List Int
def At.val (t : At) : Value := .slice t.A t.l.length t.c
def At.ok (w : World) (t : At) : Prop := t.l.length ≤ t.c ∧ Kd.C (Kd.int .i64) w t.A t.l.length t.l
theorem rows_new {w w2 : World} (ts : List At) (T : TypeId) (hn : ts.length ≤ 1000) (h : ∀ t ∈ ts, At.ok w t) (hnew : Mem.New w w2 (ts.map At.val).toArray T) : Kd.C (Kd.slice 3 (Kd.int .i64)) w2 (some ⟨w.heap.size, 0, none⟩) (ts.map At.l).length (ts.map At.l) := by
  refine ⟨rfl, by simp; omega, fun _ => ⟨_, rfl, fun j p hj => ?_⟩⟩
  rw [List.getElem?_map] at hj
  obtain ⟨t, ht, rfl⟩ := Option.map_eq_some_iff.1 hj
  obtain ⟨k1, k2⟩ := h t (List.mem_of_getElem? ht)
  refine ⟨[t.val], rfl, ⟨t.A, t.c, rfl, k1, Kd.C_below k2 hnew.below⟩, fun i u hu => ?_⟩
  cases i with
  | succ i => simp at hu
  | zero =>
    have hu' : t.val = u := by simpa using hu
    subst hu'
    have : (⟨w.heap.size, 0, none⟩ : Addr).add (j * (Kd.slice 3 (Kd.int .i64)).sz + 0) = ⟨w.heap.size, j, none⟩ := by simp [Addr.add, Kd.slice]; exact fun h => h.symm
    rw [this]
    refine (cell_of_row _ _ j _ _ _ hnew.row).trans ?_
    rw [List.getElem?_toArray, List.getElem?_map, ht]
    rfl
theorem great_new {w w2 : World} (ts : List At) (hn : ts.length ≤ 1000) (n : Nat) (hn2 : ts.length = n) (cs : Array Value) (hcs : (ts.map At.val).toArray = cs) (r : Bool) (hr : greatB (ts.map At.l) = r) (h : ∀ t ∈ ts, At.ok w t) (hnew : Mem.New w w2 cs 22) :
    Calls Tryd.prog 10 #[.slice (some ⟨w.heap.size, 0, none⟩) n n] w2 fun e w' => e = .returned (.bool r) ∧ Below w2.heap.size w2 w' := by
  subst hcs hr hn2
  have h1 := rows_new ts 22 hn h hnew
  have := foolscaplaw06_great.calls _ (some ⟨w.heap.size, 0, none⟩) ts.length (ts.map At.l) _ _ h1 (by simp) (great_eval _ (by simp; omega))
  rw [List.length_map] at this
  refine this.mono ?_
  rintro e w' ⟨rfl, hd⟩
  exact ⟨rfl, drawn_below hd⟩
end Vec
end Go.Proofs.YtdnpiginkndpcaaDoor

/-! The contracts, said of an argument that is a list of numbers, in every later world. -/
namespace Go.Proofs.YtdnpiginkndpcaaDoor
open Go.RowKit
open PVectAsks

namespace Vec
open Go.Proofs.YtdnpiginkndpcaaDoorW.PrintWords
/-- the slice at A reads as l -/
structure Arg (w : World) (A : Option Addr) (n c : Nat) (l : List Int) : Prop where
  hl : l.length = n
  hc : n ≤ c
  hC : Kd.C (Kd.int .i64) w A l.length l
theorem Arg.later {w w1 : World} {A : Option Addr} {n c : Nat} {l : List Int} (h : Arg w A n c l) (hb : Below w.heap.size w w1) : Arg w1 A n c l := ⟨h.hl, h.hc, Kd.C_below h.hC hb⟩
theorem Arg.at {w : World} {A : Option Addr} {n c : Nat} {l : List Int} (h : Arg w A n c l) : At.ok w ⟨A, c, l⟩ := ⟨by have := h.hl; have := h.hc; show l.length ≤ c; omega, h.hC⟩
theorem Arg.val {w : World} {A : Option Addr} {n c : Nat} {l : List Int} (h : Arg w A n c l) : At.val ⟨A, c, l⟩ = .slice A n c := by unfold At.val; rw [h.hl]
theorem Arg.own {w : World} {base : Nat} {v : Value} {l : List Int} (h : Own w base v l) : ∃ A c, v = .slice A l.length c ∧ Arg w A l.length c l := by
  obtain ⟨A, c, h1, h2, h3⟩ := own_reads h
  exact ⟨A, c, h1, rfl, h2, h3⟩
/-- from w on, the function answers so -/
def Says (f : FuncId) (args : Array Value) (w : World) (v : Value) : Prop := ∀ w1, Below w.heap.size w w1 → Calls Tryd.prog f args w1 fun e w' => e = .returned v ∧ Below w1.heap.size w1 w'
theorem Says.go {f : FuncId} {args : Array Value} {w w1 : World} {v : Value} (h : Says f args w v) (hb : Below w.heap.size w w1) : Calls Tryd.prog f args w1 fun e w' => e = .returned v ∧ Below w1.heap.size w1 w' := h w1 hb
theorem Says.later {f : FuncId} {args : Array Value} {w w2 : World} {v : Value} (h : Says f args w v) (hb : Below w.heap.size w w2) : Says f args w2 v := fun w1 h1 => h w1 (Mem.then_ hb h1)
section
variable {w : World} {A B : Option Addr} {n m c d : Nat} {l k : List Int}
theorem may_says (h : Arg w A n c l) (hn : n ≤ 1000) : Says 16 #[.slice A n c] w (.bool (may l)) := fun w1 hb => by
  obtain ⟨rfl, hc, hC⟩ := h
  exact (vect_May.calls _ A c l _ w1 (Kd.C_below hC hb) hc (may_eval l (by omega) (l.length + 1) (by omega))).mono fun e w2 h2 => ⟨h2.1, drawn_below h2.2⟩
theorem ref_may_says (h : Arg w A n c l) (hn : n ≤ 1000) : Says 12 #[.slice A n c] w (.bool (may l)) := fun w1 hb => by
  obtain ⟨rfl, hc, hC⟩ := h
  exact (foolscapref06_May.calls _ A c l _ w1 (Kd.C_below hC hb) hc (ref_may_eval l (by omega) (l.length + 1) (by omega))).mono fun e w2 h2 => ⟨h2.1, drawn_below h2.2⟩
theorem covers_says (h : Arg w A n c l) (hn : n ≤ 1000) (g : Arg w B m d k) (hm : m ≤ 1000) : Says 15 #[.slice A n c, .slice B m d] w (.bool (may l && may k && covers l k)) := fun w1 hb => by
  obtain ⟨rfl, hc, hC⟩ := h
  obtain ⟨rfl, hd, hD⟩ := g
  exact vect_covers l k _ _ rfl rfl A B c d w1 (Kd.C_below hC hb) hc (Kd.C_below hD hb) hd hn hm
theorem order_says (h : Arg w A n c l) (hn : n ≤ 1000) (g : Arg w B m d k) (hm : m ≤ 1000) : Says 17 #[.slice A n c, .slice B m d] w (.int .i64 (order l k)) := fun w1 hb => by
  obtain ⟨rfl, hc, hC⟩ := h
  obtain ⟨rfl, hd, hD⟩ := g
  exact vect_order l k _ _ rfl rfl A B c d w1 (Kd.C_below hC hb) hc (Kd.C_below hD hb) hd hn hm
theorem ref_covers_says (h : Arg w A n c l) (hn : n ≤ 1000) (g : Arg w B m d k) (hm : m ≤ 1000) : Says 20 #[.slice A n c, .slice B m d] w (.bool (covers l k)) := fun w1 hb => by
  obtain ⟨rfl, hc, hC⟩ := h
  obtain ⟨rfl, hd, hD⟩ := g
  exact (foolscapref06_Covers.calls _ A c l B d k _ w1 (Kd.C_below hC hb) hc (Kd.C_below hD hb) hd (ref_covers_eval l k (by omega) (by omega) 17 (by omega))).mono fun e w2 h2 => ⟨h2.1, drawn_below h2.2⟩
/-- Count's answer -/
def countV (l : List Int) (s : Int) : Int := if may l then cnt l s else 0
theorem count_says (h : Arg w A n c l) (hn : n ≤ 1000) (s : Int) : Says 18 #[.slice A n c, .int .i64 s] w (.int .i64 (countV l s)) := fun w1 hb => by
  obtain ⟨rfl, hc, hC⟩ := h
  refine (vect_Count.calls (l.length + 1) A c l s _ w1 (Kd.C_below hC hb) hc ?_).mono fun e w2 h2 => ⟨h2.1, drawn_below h2.2⟩
  show ((vect_May.f (l.length + 1) l).bind fun t148 => (if t148 = true then ((vect_count.f l s).bind fun t149 => (some t149)) else (some 0))) = _
  rw [may_eval l (by omega) _ (by omega), count_eval l s (by omega)]
  unfold countV
  cases may l <;> simp
theorem ref_count_says (h : Arg w A n c l) (hn : n ≤ 1000) (s : Int) : Says 21 #[.slice A n c, .int .i64 s] w (.int .i64 (cnt l s)) := fun w1 hb => by
  obtain ⟨rfl, hc, hC⟩ := h
  exact (foolscapref06_Count.calls A c l s _ w1 (Kd.C_below hC hb) hc (ref_count_eval l s (by omega))).mono fun e w2 h2 => ⟨h2.1, drawn_below h2.2⟩
theorem has_says (h : Arg w A n c l) (hn : n ≤ 1000) (s q : Int) : Says 19 #[.slice A n c, .agg #[.int .i64 s, .int .i64 q]] w (.bool (has l s q)) := fun w1 hb => by
  obtain ⟨rfl, hc, hC⟩ := h
  exact vect_has l _ rfl A c s q w1 (Kd.C_below hC hb) hc hn
theorem ref_name_eval (s q : Int) : foolscapref06_MayName.f s q = some (mayName s q) := by
  unfold foolscapref06_MayName.f mayName
  by_cases h1 : s ≥ 1
  · by_cases h2 : s ≤ 16
    · by_cases h3 : q ≥ 1
      · rw [if_pos h1, if_pos h2, if_pos h3]
        congr 1
        rw [Bool.eq_iff_iff, decide_eq_true_eq, decide_eq_true_eq]
        omega
      · rw [if_pos h1, if_pos h2, if_neg h3, decide_eq_false (by omega)]
    · rw [if_pos h1, if_neg h2, decide_eq_false (by omega)]
  · rw [if_neg h1, decide_eq_false (by omega)]
theorem ref_name_says (w : World) (s q : Int) : Says 22 #[.agg #[.int .i64 s, .int .i64 q]] w (.bool (mayName s q)) := fun w1 _ => foolscapref06_MayName.calls s q _ w1 (ref_name_eval s q)
theorem alive_says (w : World) : Says 9 #[] w (.bool true) := fun w1 _ => alive_true w1
/-- Same's answer -/
theorem same_l (a b : List Int) (hab : a.length = b.length) (hl : a.length ≤ 100000) : ∀ (e k i : Nat), a.length = i + e → e < k → foolscapref06_Same.l0 k a b (i : Int) = some (decide (a.drop i = b.drop i)) := by
  intro e
  induction e with
  | zero =>
    intro k i h hk
    obtain ⟨k, rfl⟩ : ∃ m, k = m + 1 := ⟨k - 1, by omega⟩
    unfold foolscapref06_Same.l0
    rw [if_neg (by omega), List.drop_eq_nil_of_le (by omega), List.drop_eq_nil_of_le (by omega)]
    rfl
  | succ e ih =>
    intro k i h hk
    obtain ⟨k, rfl⟩ : ∃ m, k = m + 1 := ⟨k - 1, by omega⟩
    obtain ⟨x, hx⟩ : ∃ x, a[i]? = some x := ⟨_, List.getElem?_eq_getElem (by omega)⟩
    obtain ⟨y, hy⟩ : ∃ y, b[i]? = some y := ⟨_, List.getElem?_eq_getElem (by omega)⟩
    unfold foolscapref06_Same.l0
    rw [if_pos (by omega), if_pos (by omega), if_pos (by omega), rd_at hx, rd_at hy, drop_at hx, drop_at hy]
    have ew : wrap64 ((i : Int) + 1) = ((i + 1 : Nat) : Int) := by rw [wrap_id (by omega) (by omega)]; omega
    by_cases hxy : x = y
    · subst hxy
      rw [ew]
      simp only [List.cons.injEq, true_and]
      have := ih k (i + 1) (by omega) (by omega)
      first | exact this | (rw [if_neg (by simp)]; exact this) | (rw [if_pos rfl]; exact this)
    · first
        | (rw [if_pos hxy]; simp [hxy])
        | (rw [if_neg hxy]; simp [hxy])
theorem same_eval (a b : List Int) (ha : a.length ≤ 100000) (k : Nat) (hk : a.length < k) : foolscapref06_Same.f k a b = some (decide (a = b)) := by
  unfold foolscapref06_Same.f
  by_cases h : (a.length : Int) = (b.length : Int)
  · rw [if_pos h]
    have := same_l a b (by omega) ha a.length k 0 (by omega) hk
    rw [List.drop_zero, List.drop_zero] at this
    exact this
  · rw [if_neg h, decide_eq_false (fun e => h (by rw [e]))]
theorem same_says (h : Arg w A n c l) (hn : n ≤ 1000) (g : Arg w B m d k) : Says 13 #[.slice A n c, .slice B m d] w (.bool (decide (l = k))) := fun w1 hb => by
  obtain ⟨rfl, hc, hC⟩ := h
  obtain ⟨rfl, hd, hD⟩ := g
  exact (foolscapref06_Same.calls (l.length + 1) A c l B d k _ w1 (Kd.C_below hC hb) hc (Kd.C_below hD hb) hd (same_eval l k (by omega) _ (by omega))).mono fun e w2 h2 => ⟨h2.1, drawn_below h2.2⟩
/-- of great: a new list of lists -/
def SaysGreat (cs : Array Value) (n : Nat) (w : World) (r : Bool) : Prop := ∀ w1 w2, Below w.heap.size w w1 → Mem.New w1 w2 cs 22 → Calls Tryd.prog 10 #[.slice (some ⟨w1.heap.size, 0, none⟩) n n] w2 fun e w' => e = .returned (.bool r) ∧ Below w2.heap.size w2 w'
theorem SaysGreat.go {cs : Array Value} {n : Nat} {w w1 : World} {r : Bool} (h : SaysGreat cs n w r) (hb : Below w.heap.size w w1) : Calls Tryd.prog 10 #[.slice (some ⟨w1.heap.size, 0, none⟩) n n] (w1.alloc (.cells cs 22)) fun e w' => e = .returned (.bool r) ∧ Below w1.heap.size w1 w' :=
  (h w1 _ hb (Mem.new_alloc _ _ _)).mono fun _ _ k => ⟨k.1, Mem.then_ (below_alloc _ _) k.2⟩
end
theorem great_says {w : World} (ts : List At) (hn : ts.length ≤ 1000) (n : Nat) (hn2 : ts.length = n) (cs : Array Value) (hcs : (ts.map At.val).toArray = cs) (r : Bool) (hr : greatB (ts.map At.l) = r) (h : ∀ t ∈ ts, At.ok w t) : SaysGreat cs n w r := fun _ _ hb hnew =>
  great_new ts hn n hn2 cs hcs r hr (fun t ht => ⟨(h t ht).1, Kd.C_below (h t ht).2 hb⟩) hnew
theorem info_row : (Tryd.prog.info? 22).map (·.size) = some 1 := by kernel_rfl
theorem zero_row : ((Tryd.prog.info? 22).bind (·.zero)).isSome = true := by kernel_rfl
theorem may_len {l : List Int} (h : may l = true) : l.length ≤ 16 := by
  unfold may at h
  simp only [Bool.and_eq_true, decide_eq_true_eq] at h
  exact h.1.1
end Vec
end Go.Proofs.YtdnpiginkndpcaaDoor
