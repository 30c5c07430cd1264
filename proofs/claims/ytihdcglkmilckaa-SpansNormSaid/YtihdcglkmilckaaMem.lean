/- Words on memory: rows of cells, told of worlds that bear a name; no program in sight. -/
import Derived.Test.YtihdcglkmilckaaRows
import Derived.WalkKit
import Derived.WalkSpells
import Derived.WalkLawsBesides
import Derived.Lib.Hide
import Derived.Laws.CopyOwn
import Derived.Deep.QuietTactic
import Derived.BigQuiet
import Derived.Lib.ConvBytes
import Derived.Laws.MakeOwn
namespace Go.Proofs.Ytihdcglkmilckaa.Mem
open Go.RowKit

/-- w1 is w with one row more. -/
structure New (w w1 : World) (cs : Array Value) (t : TypeId) : Prop where
  row : w1.heap[w.heap.size]? = some (.cells cs t (0, 0))
  size : w1.heap.size = w.heap.size + 1
  below : Below w.heap.size w w1

/-- w1 is w but for what row g holds. -/
structure Put (w w1 : World) (g : Nat) (cs : Array Value) (t : TypeId) : Prop where
  row : w1.heap[g]? = some (.cells cs t (0, 0))
  size : w1.heap.size = w.heap.size
  other : ∀ k, k ≠ g → w1.heap[k]? = w.heap[k]?
  os : w1.os = w.os
  tape : w1.tape = w.tape
  output : w1.output = w.output

theorem new_alloc (w : World) (cs : Array Value) (t : TypeId) : New w (w.alloc (.cells cs t)) cs t :=
  ⟨heap_alloc_new _ _, by simp, (Below.refl _ _).alloc (Nat.le_refl _) _⟩

theorem New.old {w w1 : World} {cs : Array Value} {t : TypeId} (h : New w w1 cs t) {k : Nat} (hk : k < w.heap.size) : w1.heap[k]? = w.heap[k]? := h.below.block k hk

theorem put_setRow (w : World) (g : Nat) (cs cur : Array Value) (t : TypeId) (h : w.heap[g]? = some (.cells cur t (0, 0))) : Put w (w.setRow g cs) g cs t :=
  ⟨setRow_heap w g cur cs t _ h, by simp, fun k hk => setRow_other w g k cs hk, rfl, rfl, rfl⟩

theorem put_setCell (w : World) (g i : Nat) (v : Value) (cur : Array Value) (t : TypeId) (h : w.heap[g]? = some (.cells cur t (0, 0))) :
    Put w (w.setCell ⟨g, i, none⟩ v) g (cur.setIfInBounds i v) t :=
  ⟨heap_setCell_same w g i cur t v h, by simp, fun k hk => heap_setCell_other w _ k v hk, rfl, rfl, rfl⟩

theorem row_setCell (w : World) (g i : Nat) (v : Value) (cur : Array Value) (t : TypeId) (fr : Nat × Nat) (h : w.heap[g]? = some (.cells cur t fr)) :
    (w.setCell ⟨g, i, none⟩ v).heap[g]? = some (.cells (cur.setIfInBounds i v) t fr) := by
  rw [setCell_eq_setRow w g i cur t fr v h]
  exact setRow_heap w g cur _ t _ h
theorem free_of_row (w : World) (g j : Nat) (cs : Array Value) (t : TypeId) (lo hi : Nat) (hg : w.heap[g]? = some (.cells cs t (lo, hi))) (h : j < lo) : w.frozen? ⟨g, j, none⟩ = false := by
  simp [World.frozen?, hg]; omega

theorem Put.below {w w1 : World} {g : Nat} {cs : Array Value} {t : TypeId} (h : Put w w1 g cs t) {B : Nat} (hB : B ≤ g) : Below B w w1 :=
  ⟨h.os, h.tape, h.output, by rw [h.size]; exact Nat.le_refl _, fun k hk => h.other k (by omega)⟩

theorem New.belowB {w w1 : World} {cs : Array Value} {t : TypeId} (h : New w w1 cs t) {B : Nat} (hB : B ≤ w.heap.size) : Below B w w1 := h.below.mono hB

theorem below_drewN {B : Nat} {a w : World} (h : Below B a w) (n : Nat) : Below B a (w.drewN n) := ⟨h.os, h.tape, h.output, h.size, h.block⟩

/-- a contract of a function that leaves the world alone, for a region that draws its order -/
theorem quiet {P : Program} {f : FuncId} {args : Array Value} {w : World} {n : Nat} {v : Value} (h : Calls P f args (w.drewN n) fun e w' => e = .returned v ∧ w.drewN n = w') :
    Calls P f args (w.drewN n) fun e w'' => e = .returned v ∧ ∃ m, w'' = w.drewN m := h.mono fun _ _ ⟨he, hm⟩ => ⟨he, n, hm.symm⟩
/-- the same of one that draws -/
theorem quiet_draw {P : Program} {f : FuncId} {args : Array Value} {w : World} {n : Nat} {v : Value} (h : Calls P f args (w.drewN n) fun e w' => e = .returned v ∧ ∃ m, w' = (w.drewN n).drewN m) :
    Calls P f args (w.drewN n) fun e w'' => e = .returned v ∧ ∃ m, w'' = w.drewN m := h.mono fun _ _ ⟨he, m, hm⟩ => ⟨he, n + m, by rw [hm, World.drewN_drewN]⟩

theorem then_ {w a b : World} (h : Below w.heap.size w a) (k : Below a.heap.size a b) : Below w.heap.size w b := h.trans (k.mono h.size)

/-- w' is w, some orders having been drawn. -/
def Drawn (w w' : World) : Prop := ∃ n, w' = w.drewN n
theorem Drawn.refl (w : World) : Drawn w w := ⟨0, rfl⟩
theorem Drawn.of (w : World) (n : Nat) : Drawn w (w.drewN n) := ⟨n, rfl⟩
theorem Drawn.trans {a b c : World} (h : Drawn a b) (k : Drawn b c) : Drawn a c := by
  obtain ⟨n, rfl⟩ := h; obtain ⟨m, rfl⟩ := k; exact ⟨n + m, World.drewN_drewN _ _ _⟩
theorem Drawn.drew {a b : World} (h : Drawn a b) (n : Nat) : Drawn a (b.drewN n) := h.trans ⟨n, rfl⟩
theorem Drawn.heap {a b : World} (h : Drawn a b) : b.heap = a.heap := by obtain ⟨n, rfl⟩ := h; rfl
theorem Drawn.cell {a b : World} (h : Drawn a b) (x : Addr) : b.cell? x = a.cell? x := by unfold World.cell?; rw [h.heap]
theorem Drawn.frozen {a b : World} (h : Drawn a b) (x : Addr) : b.frozen? x = a.frozen? x := by unfold World.frozen?; rw [h.heap]
theorem Drawn.below {a b : World} (h : Drawn a b) (B : Nat) : Below B a b := by obtain ⟨n, rfl⟩ := h; exact below_drewN (Below.refl _ _) n
/-- a contract of a function that draws, for a region that draws its order -/
theorem quiet_drawn {P : Program} {f : FuncId} {args : Array Value} {w : World} {n : Nat} {v : Value} (h : Calls P f args (w.drewN n) fun e w' => e = .returned v ∧ Drawn (w.drewN n) w') :
    Calls P f args (w.drewN n) fun e w'' => e = .returned v ∧ ∃ m, w'' = w.drewN m := quiet_draw h

theorem New.cell {w w1 w2 : World} {cs : Array Value} {t : TypeId} (h : New w w1 cs t) (hb : Below w1.heap.size w1 w2) (i : Nat) {v : Value} (hv : cs[i]? = some v) : w2.cell? ⟨w.heap.size, i, none⟩ = some v :=
  (hb.cell (p := ⟨w.heap.size, i, none⟩) (show w.heap.size < w1.heap.size by rw [h.size]; omega)).trans ((cell_of_row _ _ i _ _ _ h.row).trans hv)
theorem New.cell1 {w w1 : World} {cs : Array Value} {t : TypeId} (h : New w w1 cs t) (i : Nat) {v : Value} (hv : cs[i]? = some v) : w1.cell? ⟨w.heap.size, i, none⟩ = some v :=
  (cell_of_row _ _ i _ _ _ h.row).trans hv
theorem New.free1 {w w1 : World} {cs : Array Value} {t : TypeId} (h : New w w1 cs t) (i : Nat) : w1.frozen? ⟨w.heap.size, i, none⟩ = false := frozen_of_row _ _ _ _ _ h.row
theorem New.free {w w1 w2 : World} {cs : Array Value} {t : TypeId} (h : New w w1 cs t) (hb : Below w1.heap.size w1 w2) (i : Nat) : w2.frozen? ⟨w.heap.size, i, none⟩ = false :=
  (hb.frozen (p := ⟨w.heap.size, i, none⟩) (show w.heap.size < w1.heap.size by rw [h.size]; omega)).trans (h.free1 i)

/-! ### A region that draws its order, whose calls make memory: the class of worlds in which all that was there is as it was -/
structure Later (w0 : World) where
  w : World
  h : Below w0.heap.size w0 w
instance (w0 : World) : Nonempty (Later w0) := ⟨⟨w0, Below.refl _ _⟩⟩
theorem Later.cell {w0 : World} (i : Later w0) {a : Addr} {v : Value} (h : w0.cell? a = some v) : i.w.cell? a = some v := (i.h.cell (block_lt_of_cell h)).trans h
theorem wp_region_later {P : Program} {id : Nat} {Q : Exit → Act → World → Prop} {a : Act} {w : World} {l : List Oper} (hm : P.follows .mixedOrders = true) (hB : Region.lexB .any l.toArray = true)
    (h : wpQuiet P l.toArray (fun w' => ∃ i : Later w, w' = i.w) (fun a' => ∀ w', (∃ i : Later w, w' = i.w) → Q .normal a' w') l a) : (Code.region id l.toArray true).wp P Q a w :=
  wp_region_quiet (C := fun w' => ∃ i : Later w, w' = i.w) hm hB ⟨⟨w.drew, (Below.refl _ _).drew⟩, rfl⟩ (by simpa using h)
/-- a contract whose world is only a later one -/
theorem later_call {P : Program} {f : FuncId} {args : Array Value} {w0 : World} {i : Later w0} {v : Value} (h : Calls P f args i.w fun e w' => e = .returned v ∧ Below i.w.heap.size i.w w') :
    Calls P f args i.w fun e w'' => e = .returned v ∧ ∃ j : Later w0, w'' = j.w := h.mono fun _ _ ⟨he, hb⟩ => ⟨he, ⟨_, then_ i.h hb⟩, rfl⟩
/-- one whose world is the same -/
theorem later_same {P : Program} {f : FuncId} {args : Array Value} {w0 : World} {i : Later w0} {v : Value} (h : Calls P f args i.w fun e w' => e = .returned v ∧ i.w = w') :
    Calls P f args i.w fun e w'' => e = .returned v ∧ ∃ j : Later w0, w'' = j.w := h.mono fun _ _ ⟨he, hb⟩ => ⟨he, i, hb.symm⟩

section
variable {P : Program} {ops : Array Oper} {rest : List Oper} {o : Oper} {a : Act} {w : World} {Q : Exit → Act → World → Prop}

theorem run_zero {T : TypeId} {z : Value} (hz : (P.info? T).bind (·.zero) = some z) (w : World) : (zeroValue T).run P w = .ok z w := by
  cases hq : P.info? T with
  | none => simp [hq] at hz
  | some i =>
    have hi : i.zero = some z := by simpa [hq] using hz
    simp [zeroValue, typeInfo, hq, hi]

/-- a new variable of a type, at its zero value -/
theorem wpList_alloc (hgd : o.guard = none) (T : TypeId) (ho : o.op = .alloc T) (z : Value) (hz : (P.info? T).bind (·.zero) = some z)
    (h : ∀ w1, New w w1 z.cells T → wpList P ops Q rest (a.put o.dst (.pointer (some ⟨w.heap.size, 0, none⟩))) w1) : wpList P ops Q (o :: rest) a w :=
  wpList_plain hgd fun K hK => by
    unfold Oper.wp execOp
    simp only [ho, Instr.alloc, Sem.run_bind, run_zero hz, Result.andThen_ok, newVar, newRow, run_newObj_alloc, Sem.run_pure]
    exact hK _ _ (h _ (new_alloc _ _ _))

/-- a new variable that holds a value -/
theorem wpList_box (hgd : o.guard = none) (T : TypeId) (x : Operand) (ho : o.op = .box T x) (v : Value) (hx : a.eval x = v)
    (h : ∀ w1, New w w1 v.cells T → wpList P ops Q rest (a.put o.dst (.pointer (some ⟨w.heap.size, 0, none⟩))) w1) : wpList P ops Q (o :: rest) a w :=
  wpList_plain hgd fun K hK => by
    unfold Oper.wp execOp
    simp only [ho, hx, Instr.box, Sem.run_bind, Result.andThen_ok, newVar, newRow, run_newObj_alloc, Sem.run_pure]
    exact hK _ _ (h _ (new_alloc _ _ _))

/-- a whole row is written -/
theorem wpList_store (hgd : o.guard = none) (ty : TypeId) (x y : Operand) (ho : o.op = .store ty x y)
    (g : Nat) (cells : Array Value) (hx : a.eval x = .pointer (some ⟨g, 0, none⟩)) (hy : a.eval y = .agg cells)
    (t : TypeId) (old : Array Value) (hg : w.heap[g]? = some (.cells old t (0, 0))) (hi : (P.info? ty).map (·.size) = some cells.size)
    (hold : old.size = cells.size) (h1 : cells.all (·.oneCell') = true)
    (h : ∀ w1, Put w w1 g cells t → wpList P ops Q rest (a.put o.dst undef) w1) : wpList P ops Q (o :: rest) a w :=
  wpList_store_row hgd ty x y ho g cells hx hy t old hg hi hold h1 (h _ (put_setRow w g cells old t hg))

/-! ### Strings and rows of bytes -/
def str (l : List UInt8) : ByteArray := ⟨l.toArray⟩
def bytes (l : List UInt8) : Array Value := (l.map fun c => Value.int .u8 c.toNat).toArray
theorem bytes_size (l : List UInt8) : (bytes l).size = l.length := by simp [bytes]
theorem bytes_get (l : List UInt8) (i : Nat) (h : i < l.length) : (bytes l)[i]? = some (.int .u8 (l[i].toNat : Int)) := by simp [bytes, h]
theorem str_size (l : List UInt8) : (str l).size = l.length := by simp [str, ByteArray.size]
theorem str_toList (l : List UInt8) : (str l).data.toList = l := by simp [str]
theorem str_of (s : ByteArray) : str s.data.toList = s := by simp [str]

theorem strOfNums_of (l : List UInt8) : strOfNums (l.map fun c => (c.toNat : Int)) = str l := by
  unfold strOfNums str
  congr 2
  rw [List.map_map]
  conv => rhs; rw [← List.map_id l]
  apply List.map_congr_left
  intro c _
  simp

theorem run_bytes_string {src dst e : TypeId} (hs : P.underlying src = some (.slice e)) (he : P.underlying e = some (.int .u8)) (hd : P.underlying dst = some .string)
    {b off len cap : Nat} {l : List UInt8} (hl : l.length = len) (hcell : ∀ i, (h : i < l.length) → w.cell? ⟨b, off + i, none⟩ = some (.int .u8 (l[i].toNat : Int))) :
    (convert src dst (.slice (some ⟨b, off, none⟩) len cap)).run P w = .ok (.string (str l)) w := by
  rw [run_convert_bytes_arg w src e hs he b off len cap (l.map fun c => (c.toNat : Int)) (by simp [hl])
      (fun i hi => by rw [hcell i (by omega)]; simp [List.getElem?_eq_getElem (show i < l.length by omega)]) dst hd, strOfNums_of]

/-- string(x), x a slice of bytes -/
theorem wpList_bytes_string (hgd : o.guard = none) (src dst e : TypeId) (x : Operand) (ho : o.op = .convert src dst x)
    (hs : P.underlying src = some (.slice e)) (he : P.underlying e = some (.int .u8)) (hd : P.underlying dst = some .string)
    (b off len cap : Nat) (hx : a.eval x = .slice (some ⟨b, off, none⟩) len cap) (l : List UInt8) (hl : l.length = len)
    (hcell : ∀ i, (h : i < l.length) → w.cell? ⟨b, off + i, none⟩ = some (.int .u8 (l[i].toNat : Int)))
    (h : wpList P ops Q rest (a.put o.dst (.string (str l))) w) : wpList P ops Q (o :: rest) a w :=
  wpList_plain hgd fun K hK => by
    unfold Oper.wp execOp
    have hr := run_convert_bytes_arg w src e hs he b off len cap (l.map fun c => (c.toNat : Int)) (by simp [hl])
      (fun i hi => by rw [hcell i (by omega)]; simp [List.getElem?_eq_getElem (show i < l.length by omega)]) dst hd
    simp only [ho, hx, Sem.run_bind, hr, Result.andThen_ok, Sem.run_pure, strOfNums_of]
    exact hK _ _ h

theorem cell_new_bytes (w : World) (l : List UInt8) (t : TypeId) (off i : Nat) (h : off + i < l.length) :
    (w.alloc (.cells (bytes l) t)).cell? ⟨w.heap.size, off + i, none⟩ = some (.int .u8 (l[off + i].toNat : Int)) := by
  rw [World.cell?_alloc_new, bytes_get l _ h]

/-- make([]T, l, c) -/
theorem wpList_make (hgd : o.guard = none) (l c : Operand) (t e : TypeId) (ho : o.op = .makeSlice t l c) (ht : P.underlying t = some (.slice e)) (z : Value) (size byt : Nat)
    (hi : (P.info? e).map (fun i => (i.zero, i.size, i.bytes)) = some (some z, size, byt)) (kl kc : IntKind) (L C : Int) (hl : a.eval l = .int kl L) (hc : a.eval c = .int kc C)
    (h0 : 0 ≤ L) (hlc : L ≤ C) (hb : (byt : Int) * C ≤ 281474976710656) (h63 : C ≤ 9223372036854775807)
    (h : ∀ w1, New w w1 (madeCells z.cells (C.toNat * size)) e → wpList P ops Q rest (a.put o.dst (.slice (some ⟨w.heap.size, 0, none⟩) L.toNat C.toNat)) w1) : wpList P ops Q (o :: rest) a w :=
  wpList_plain hgd fun K hK => by
    obtain ⟨i, hi2, hz, hs, hbb⟩ := info_parts hi
    subst hs; subst hbb
    unfold Oper.wp execOp
    simp only [ho, hl, hc, Sem.run_bind, run_make w t e i z ht hi2 hz kl kc L C h0 hlc hb h63, Result.andThen_ok, Sem.run_pure]
    exact hK _ _ (h _ (new_alloc _ _ _))

theorem madeCells_byte (n : Nat) : madeCells (Value.int .u8 0).cells (n * 1) = bytes (List.replicate n 0) := by
  apply Array.ext
  · simp [madeCells, bytes]
  · intro i h1 h2
    simp [madeCells, bytes, Value.cells, Nat.mod_one]

/-- []byte(s): the bytes, and room; the row bears a mark behind its end -/
theorem wpList_string_bytes (hgd : o.guard = none) (src dst e : TypeId) (x : Operand) (ho : o.op = .convert src dst x) {u : TypeDesc} (hs : P.underlying src = some u) (hd : P.underlying dst = some (.slice e)) (he : P.underlying e = some (.int .u8))
    (s : ByteArray) (hx : a.eval x = .string s)
    (h : ∀ w1 cap, s.size ≤ cap → w1.heap[w.heap.size]? = some (.cells (bytes s.data.toList ++ Array.replicate (cap - s.size) (.int .u8 0)) e (cap, cap + 1)) → w1.heap.size = w.heap.size + 1 → Below w.heap.size w w1 →
      wpList P ops Q rest (a.put o.dst (.slice (some ⟨w.heap.size, 0, none⟩) s.size cap)) w1) : wpList P ops Q (o :: rest) a w :=
  wpList_plain hgd fun K hK => by
    unfold Oper.wp execOp
    simp only [ho, hx, Sem.run_bind, Lib.run_convert_string_bytes w src dst e s hs hd he, Result.andThen_ok, Sem.run_pure]
    have hle : s.size ≤ grownCap w s.size 0 e := by exact grownCap_ge _ _ _ _
    have hsz : (Lib.bytesCells w e s).size = grownCap w s.size 0 e := by
      have : s.data.size = s.size := rfl
      simp [Lib.bytesCells, this]; omega
    refine hK _ _ (h _ _ hle ?_ (Lib.bytesWorld_size w e s) ⟨rfl, rfl, rfl, by rw [Lib.bytesWorld_size]; omega, fun k hk => Lib.bytesWorld_at_old w e s k hk⟩)
    rw [Lib.bytesWorld_at_new, hsz]
    have : Lib.bytesCells w e s = bytes s.data.toList ++ Array.replicate (grownCap w s.size 0 e - s.size) (.int .u8 0) := by
      unfold Lib.bytesCells bytes
      congr 1
      apply Array.ext <;> simp
    rw [this]
end
end Go.Proofs.Ytihdcglkmilckaa.Mem
