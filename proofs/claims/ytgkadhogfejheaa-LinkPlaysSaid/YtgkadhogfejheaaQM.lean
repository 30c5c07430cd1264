/- Words on memory: rows of cells, told of worlds that bear a name; no program in sight. -/
import Derived.Test.YtgkadhogfejheaaRows
import Derived.WalkKit
import Derived.WalkSpells
import Derived.WalkLawsBesides
import Derived.Lib.Hide
import Derived.Laws.CopyOwn
import Derived.Deep.QuietTactic
import Derived.BigQuiet
import Derived.Lib.ConvBytes
import Derived.Laws.MakeOwn
import Derived.Great.BuildSlice
import Derived.Laws.CopyRow
import Derived.Deep.AppendLies
import Derived.StillTail
import Derived.Deep.Quiet
import Derived.OrdersHeld
import Derived.Deep.RegionHeld3
set_option linter.unusedVariables false
set_option linter.unusedSimpArgs false
section
namespace Go.Proofs.Ytgkadhogfejheaa.Mem
open Go.RowKit

/-- w1 is w with one row more. -/
structure New (w w1 : World) (cs : Array Value) (t : TypeId) : Prop where
  row : w1.heap[w.heap.size]? = some (.cells cs t (0, 0))
  size : w1.heap.size = w.heap.size + 1
  below : Below w.heap.size w w1

/-- w1 is w but for what row g holds. -/
structure Put (w w1 : World) (g : Nat) (cs : Array Value) (t : TypeId) : Prop where
  row : w1.heap[g]? = some (.cells cs t (0, 0))
  size : w1.heap.size = w.heap.size
  other : ∀ k, k ≠ g → w1.heap[k]? = w.heap[k]?
  os : w1.os = w.os
  tape : w1.tape = w.tape
  output : w1.output = w.output

theorem new_alloc (w : World) (cs : Array Value) (t : TypeId) : New w (w.alloc (.cells cs t)) cs t :=
  ⟨heap_alloc_new _ _, by simp, (Below.refl _ _).alloc (Nat.le_refl _) _⟩

theorem New.old {w w1 : World} {cs : Array Value} {t : TypeId} (h : New w w1 cs t) {k : Nat} (hk : k < w.heap.size) : w1.heap[k]? = w.heap[k]? := h.below.block k hk

theorem put_setRow (w : World) (g : Nat) (cs cur : Array Value) (t : TypeId) (h : w.heap[g]? = some (.cells cur t (0, 0))) : Put w (w.setRow g cs) g cs t :=
  ⟨setRow_heap w g cur cs t _ h, by simp, fun k hk => setRow_other w g k cs hk, rfl, rfl, rfl⟩

theorem put_setCell (w : World) (g i : Nat) (v : Value) (cur : Array Value) (t : TypeId) (h : w.heap[g]? = some (.cells cur t (0, 0))) :
    Put w (w.setCell ⟨g, i, none⟩ v) g (cur.setIfInBounds i v) t :=
  ⟨heap_setCell_same w g i cur t v h, by simp, fun k hk => heap_setCell_other w _ k v hk, rfl, rfl, rfl⟩

theorem row_setCell (w : World) (g i : Nat) (v : Value) (cur : Array Value) (t : TypeId) (fr : Nat × Nat) (h : w.heap[g]? = some (.cells cur t fr)) :
    (w.setCell ⟨g, i, none⟩ v).heap[g]? = some (.cells (cur.setIfInBounds i v) t fr) := by
  rw [setCell_eq_setRow w g i cur t fr v h]
  exact setRow_heap w g cur _ t _ h

theorem Put.below {w w1 : World} {g : Nat} {cs : Array Value} {t : TypeId} (h : Put w w1 g cs t) {B : Nat} (hB : B ≤ g) : Below B w w1 :=
  ⟨h.os, h.tape, h.output, by rw [h.size]; exact Nat.le_refl _, fun k hk => h.other k (by omega)⟩

theorem New.belowB {w w1 : World} {cs : Array Value} {t : TypeId} (h : New w w1 cs t) {B : Nat} (hB : B ≤ w.heap.size) : Below B w w1 := h.below.mono hB

theorem below_drewN {B : Nat} {a w : World} (h : Below B a w) (n : Nat) : Below B a (w.drewN n) := ⟨h.os, h.tape, h.output, h.size, h.block⟩

/-- a contract of a function that leaves the world alone, for a region that draws its order -/
theorem quiet {P : Program} {f : FuncId} {args : Array Value} {w : World} {n : Nat} {v : Value} (h : Calls P f args (w.drewN n) fun e w' => e = .returned v ∧ w.drewN n = w') :
    Calls P f args (w.drewN n) fun e w'' => e = .returned v ∧ ∃ m, w'' = w.drewN m := h.mono fun _ _ ⟨he, hm⟩ => ⟨he, n, hm.symm⟩

theorem then_ {w a b : World} (h : Below w.heap.size w a) (k : Below a.heap.size a b) : Below w.heap.size w b := h.trans (k.mono h.size)

/-- w' is w, some orders having been drawn. -/
def Drawn (w w' : World) : Prop := ∃ n, w' = w.drewN n
theorem Drawn.refl (w : World) : Drawn w w := ⟨0, rfl⟩
theorem Drawn.trans {a b c : World} (h : Drawn a b) (k : Drawn b c) : Drawn a c := by
  obtain ⟨n, rfl⟩ := h; obtain ⟨m, rfl⟩ := k; exact ⟨n + m, World.drewN_drewN _ _ _⟩
theorem Drawn.drew {a b : World} (h : Drawn a b) (n : Nat) : Drawn a (b.drewN n) := h.trans ⟨n, rfl⟩
theorem Drawn.heap {a b : World} (h : Drawn a b) : b.heap = a.heap := by obtain ⟨n, rfl⟩ := h; rfl
theorem Drawn.cell {a b : World} (h : Drawn a b) (x : Addr) : b.cell? x = a.cell? x := by unfold World.cell?; rw [h.heap]
theorem Drawn.frozen {a b : World} (h : Drawn a b) (x : Addr) : b.frozen? x = a.frozen? x := by unfold World.frozen?; rw [h.heap]
theorem Drawn.below {a b : World} (h : Drawn a b) (B : Nat) : Below B a b := by obtain ⟨n, rfl⟩ := h; exact below_drewN (Below.refl _ _) n

theorem New.cell {w w1 w2 : World} {cs : Array Value} {t : TypeId} (h : New w w1 cs t) (hb : Below w1.heap.size w1 w2) (i : Nat) {v : Value} (hv : cs[i]? = some v) : w2.cell? ⟨w.heap.size, i, none⟩ = some v :=
  (hb.cell (p := ⟨w.heap.size, i, none⟩) (show w.heap.size < w1.heap.size by rw [h.size]; omega)).trans ((cell_of_row _ _ i _ _ _ h.row).trans hv)
theorem New.cell1 {w w1 : World} {cs : Array Value} {t : TypeId} (h : New w w1 cs t) (i : Nat) {v : Value} (hv : cs[i]? = some v) : w1.cell? ⟨w.heap.size, i, none⟩ = some v :=
  (cell_of_row _ _ i _ _ _ h.row).trans hv
theorem New.free1 {w w1 : World} {cs : Array Value} {t : TypeId} (h : New w w1 cs t) (i : Nat) : w1.frozen? ⟨w.heap.size, i, none⟩ = false := frozen_of_row _ _ _ _ _ h.row
theorem New.free {w w1 w2 : World} {cs : Array Value} {t : TypeId} (h : New w w1 cs t) (hb : Below w1.heap.size w1 w2) (i : Nat) : w2.frozen? ⟨w.heap.size, i, none⟩ = false :=
  (hb.frozen (p := ⟨w.heap.size, i, none⟩) (show w.heap.size < w1.heap.size by rw [h.size]; omega)).trans (h.free1 i)

/-! ### A region that draws its order, whose calls make memory: the class of worlds in which all that was there is as it was -/
structure Later (w0 : World) where
  w : World
  h : Below w0.heap.size w0 w
instance (w0 : World) : Nonempty (Later w0) := ⟨⟨w0, Below.refl _ _⟩⟩
theorem Later.cell {w0 : World} (i : Later w0) {a : Addr} {v : Value} (h : w0.cell? a = some v) : i.w.cell? a = some v := (i.h.cell (block_lt_of_cell h)).trans h
theorem wp_region_later {P : Program} {id : Nat} {Q : Exit → Act → World → Prop} {a : Act} {w : World} {l : List Oper} (hm : P.follows .mixedOrders = true) (hB : Region.lexB .any l.toArray = true)
    (h : wpQuiet P l.toArray (fun w' => ∃ i : Later w, w' = i.w) (fun a' => ∀ w', (∃ i : Later w, w' = i.w) → Q .normal a' w') l a) : (Code.region id l.toArray true).wp P Q a w :=
  wp_region_quiet (C := fun w' => ∃ i : Later w, w' = i.w) hm hB ⟨⟨w.drew, (Below.refl _ _).drew⟩, rfl⟩ (by simpa using h)
/-- a contract whose world is only a later one -/
theorem later_call {P : Program} {f : FuncId} {args : Array Value} {w0 : World} {i : Later w0} {v : Value} (h : Calls P f args i.w fun e w' => e = .returned v ∧ Below i.w.heap.size i.w w') :
    Calls P f args i.w fun e w'' => e = .returned v ∧ ∃ j : Later w0, w'' = j.w := h.mono fun _ _ ⟨he, hb⟩ => ⟨he, ⟨_, then_ i.h hb⟩, rfl⟩
/-- one whose world is the same -/
theorem later_same {P : Program} {f : FuncId} {args : Array Value} {w0 : World} {i : Later w0} {v : Value} (h : Calls P f args i.w fun e w' => e = .returned v ∧ i.w = w') :
    Calls P f args i.w fun e w'' => e = .returned v ∧ ∃ j : Later w0, w'' = j.w := h.mono fun _ _ ⟨he, hb⟩ => ⟨he, i, hb.symm⟩

section
variable {P : Program} {ops : Array Oper} {rest : List Oper} {o : Oper} {a : Act} {w : World} {Q : Exit → Act → World → Prop}

theorem run_zero {T : TypeId} {z : Value} (hz : (P.info? T).bind (·.zero) = some z) (w : World) : (zeroValue T).run P w = .ok z w := by
  cases hq : P.info? T with
  | none => simp [hq] at hz
  | some i =>
    have hi : i.zero = some z := by simpa [hq] using hz
    simp [zeroValue, typeInfo, hq, hi]

/-- a new variable of a type, at its zero value -/
theorem wpList_alloc (hgd : o.guard = none) (T : TypeId) (ho : o.op = .alloc T) (z : Value) (hz : (P.info? T).bind (·.zero) = some z)
    (h : ∀ w1, New w w1 z.cells T → wpList P ops Q rest (a.put o.dst (.pointer (some ⟨w.heap.size, 0, none⟩))) w1) : wpList P ops Q (o :: rest) a w :=
  wpList_plain hgd fun K hK => by
    unfold Oper.wp execOp
    simp only [ho, Instr.alloc, Sem.run_bind, run_zero hz, Result.andThen_ok, newVar, newRow, run_newObj_alloc, Sem.run_pure]
    exact hK _ _ (h _ (new_alloc _ _ _))

/-- a new variable that holds a value -/
theorem wpList_box (hgd : o.guard = none) (T : TypeId) (x : Operand) (ho : o.op = .box T x) (v : Value) (hx : a.eval x = v)
    (h : ∀ w1, New w w1 v.cells T → wpList P ops Q rest (a.put o.dst (.pointer (some ⟨w.heap.size, 0, none⟩))) w1) : wpList P ops Q (o :: rest) a w :=
  wpList_plain hgd fun K hK => by
    unfold Oper.wp execOp
    simp only [ho, hx, Instr.box, Sem.run_bind, Result.andThen_ok, newVar, newRow, run_newObj_alloc, Sem.run_pure]
    exact hK _ _ (h _ (new_alloc _ _ _))

/-- a whole row is written -/
theorem wpList_store (hgd : o.guard = none) (ty : TypeId) (x y : Operand) (ho : o.op = .store ty x y)
    (g : Nat) (cells : Array Value) (hx : a.eval x = .pointer (some ⟨g, 0, none⟩)) (hy : a.eval y = .agg cells)
    (t : TypeId) (old : Array Value) (hg : w.heap[g]? = some (.cells old t (0, 0))) (hi : (P.info? ty).map (·.size) = some cells.size)
    (hold : old.size = cells.size) (h1 : cells.all (·.oneCell') = true)
    (h : ∀ w1, Put w w1 g cells t → wpList P ops Q rest (a.put o.dst undef) w1) : wpList P ops Q (o :: rest) a w :=
  wpList_store_row hgd ty x y ho g cells hx hy t old hg hi hold h1 (h _ (put_setRow w g cells old t hg))

/-! ### Strings and rows of bytes -/
def str (l : List UInt8) : ByteArray := ⟨l.toArray⟩
def bytes (l : List UInt8) : Array Value := (l.map fun c => Value.int .u8 c.toNat).toArray
theorem bytes_get (l : List UInt8) (i : Nat) (h : i < l.length) : (bytes l)[i]? = some (.int .u8 (l[i].toNat : Int)) := by simp [bytes, h]
theorem str_size (l : List UInt8) : (str l).size = l.length := by simp [str, ByteArray.size]
theorem str_toList (l : List UInt8) : (str l).data.toList = l := by simp [str]
theorem str_of (s : ByteArray) : str s.data.toList = s := by simp [str]

theorem strOfNums_of (l : List UInt8) : strOfNums (l.map fun c => (c.toNat : Int)) = str l := by
  unfold strOfNums str
  congr 2
  rw [List.map_map]
  conv => rhs; rw [← List.map_id l]
  apply List.map_congr_left
  intro c _
  simp

theorem run_bytes_string {src dst e : TypeId} (hs : P.underlying src = some (.slice e)) (he : P.underlying e = some (.int .u8)) (hd : P.underlying dst = some .string)
    {b off len cap : Nat} {l : List UInt8} (hl : l.length = len) (hcell : ∀ i, (h : i < l.length) → w.cell? ⟨b, off + i, none⟩ = some (.int .u8 (l[i].toNat : Int))) :
    (convert src dst (.slice (some ⟨b, off, none⟩) len cap)).run P w = .ok (.string (str l)) w := by
  rw [run_convert_bytes_arg w src e hs he b off len cap (l.map fun c => (c.toNat : Int)) (by simp [hl])
      (fun i hi => by rw [hcell i (by omega)]; simp [List.getElem?_eq_getElem (show i < l.length by omega)]) dst hd, strOfNums_of]

/-- string(x), x a slice of bytes -/
theorem wpList_bytes_string (hgd : o.guard = none) (src dst e : TypeId) (x : Operand) (ho : o.op = .convert src dst x)
    (hs : P.underlying src = some (.slice e)) (he : P.underlying e = some (.int .u8)) (hd : P.underlying dst = some .string)
    (b off len cap : Nat) (hx : a.eval x = .slice (some ⟨b, off, none⟩) len cap) (l : List UInt8) (hl : l.length = len)
    (hcell : ∀ i, (h : i < l.length) → w.cell? ⟨b, off + i, none⟩ = some (.int .u8 (l[i].toNat : Int)))
    (h : wpList P ops Q rest (a.put o.dst (.string (str l))) w) : wpList P ops Q (o :: rest) a w :=
  wpList_plain hgd fun K hK => by
    unfold Oper.wp execOp
    have hr := run_convert_bytes_arg w src e hs he b off len cap (l.map fun c => (c.toNat : Int)) (by simp [hl])
      (fun i hi => by rw [hcell i (by omega)]; simp [List.getElem?_eq_getElem (show i < l.length by omega)]) dst hd
    simp only [ho, hx, Sem.run_bind, hr, Result.andThen_ok, Sem.run_pure, strOfNums_of]
    exact hK _ _ h

theorem cell_new_bytes (w : World) (l : List UInt8) (t : TypeId) (off i : Nat) (h : off + i < l.length) :
    (w.alloc (.cells (bytes l) t)).cell? ⟨w.heap.size, off + i, none⟩ = some (.int .u8 (l[off + i].toNat : Int)) := by
  rw [World.cell?_alloc_new, bytes_get l _ h]

end
end Go.Proofs.Ytgkadhogfejheaa.Mem
end
/-! Words on bytes that are appended; no program in sight. -/
section
namespace Go.Proofs.Ytgkadhogfejheaa.Mem
open Go.RowKit

def cellsOf (l : List UInt8) : List Value := l.map fun c => Value.int .u8 c.toNat
theorem cellsOf_append (a b : List UInt8) : cellsOf (a ++ b) = cellsOf a ++ cellsOf b := by simp [cellsOf]
theorem cellsOf_length (a : List UInt8) : (cellsOf a).length = a.length := by simp [cellsOf]

/-- row g has room for c bytes and holds l at its head -/
def Room (w : World) (g : Nat) (T : TypeId) (l : List UInt8) (c : Nat) : Prop :=
  ∃ cells : Array Value, w.heap[g]? = some (.cells cells T (0, 0)) ∧ cells.size = c ∧ l.length ≤ c ∧ cells.toList.take l.length = cellsOf l

theorem Room.of_new {w w1 : World} {cs : Array Value} {T : TypeId} (h : New w w1 cs T) : Room w1 w.heap.size T [] cs.size := ⟨cs, h.row, rfl, Nat.zero_le _, rfl⟩
theorem Room.same {w w1 : World} {g : Nat} {T : TypeId} {l : List UInt8} {c : Nat} (h : Room w g T l c) (he : w1.heap[g]? = w.heap[g]?) : Room w1 g T l c := by
  obtain ⟨cs, h1, h2⟩ := h; exact ⟨cs, he.trans h1, h2⟩
theorem Room.lt {w : World} {g : Nat} {T : TypeId} {l : List UInt8} {c : Nat} (h : Room w g T l c) : g < w.heap.size := by
  obtain ⟨cs, h1, h2⟩ := h; exact (Array.getElem?_eq_some_iff.1 h1).1
theorem Room.cell {w : World} {g : Nat} {T : TypeId} {l : List UInt8} {c : Nat} (h : Room w g T l c) (i : Nat) (hi : i < l.length) : w.cell? ⟨g, i, none⟩ = some (.int .u8 (l[i].toNat : Int)) := by
  obtain ⟨cs, h1, h2, h3, h4⟩ := h
  rw [cell_of_row w g i _ _ _ h1]
  have : (cs.toList.take l.length)[i]? = (cellsOf l)[i]? := by rw [h4]
  rw [List.getElem?_take_of_lt hi] at this
  simpa [cellsOf, hi] using this

section
variable {P : Program} {ops : Array Oper} {rest : List Oper} {o : Oper} {a : Act} {w : World} {Q : Exit → Act → World → Prop}

/-- append(s, b) where there is room -/
theorem wpList_append_room (hgd : o.guard = none) (s x : Operand) (t : TypeId) (ho : o.op = .call { callee := .builtin .append, args := #[s, x], argTypes := #[t, t] })
    (e : TypeId) (ht : P.underlying t = some (.slice e)) (hi : (P.info? e).map (·.size) = some 1) (g : Nat) (T : TypeId) (l : List UInt8) (c : Nat) (hs : a.eval s = .slice (some ⟨g, 0, none⟩) l.length c)
    (hr : Room w g T l c) (hlt : l.length < c) (ad : Addr) (ca : Nat) (z : Int) (b : UInt8) (hz : z = b.toNat) (hx : a.eval x = .slice (some ad) 1 ca) (hc : w.cell? ad = some (.int .u8 z))
    (h : ∀ w', Room w' g T (l ++ [b]) c → Below g w w' → w'.heap.size = w.heap.size → wpList P ops Q rest (a.put o.dst (.slice (some ⟨g, 0, none⟩) (l ++ [b]).length c)) w') : wpList P ops Q (o :: rest) a w := by
  subst hz
  obtain ⟨cs, h1, h2, h3, h4⟩ := hr
  cases hq : P.info? e with
  | none => simp [hq] at hi
  | some i =>
    have his : i.size = 1 := by simpa [hq] using hi
    have hf := run_firstCells_some (P := P) w i.size 1 ad 1 ca [.int .u8 b.toNat] (by simp [his]) (by
      intro j u hj
      match j, hj with
      | 0, hj => simp at hj; subst hj; have : ad.add 0 = ad := by unfold Addr.add; split <;> simp_all
                 rw [this]; exact hc
      | j + 1, hj => simp at hj)
    have hst := run_storeCells_at P g (l.length * i.size) T [.int .u8 b.toNat] 0 cs w h1 (by simp [his]; omega) (by simp [Value.oneCell'])
    refine wpList_plain hgd fun K hK => ?_
    unfold Oper.wp execOp
    simp only [Nat.add_zero] at hst
    simp [ho, resolve, invoke, builtin, hs, hx, Builtin.append_, run_underlying ht, sizeOf, typeInfo, hq, Builtin.lenOf, hf, Addr.add_lit, hst, show l.length + 1 ≤ c from hlt]
    refine hK _ _ ?_
    have hp := put_setRow w g (cs.toList.take (l.length * i.size) ++ [Value.int .u8 b.toNat] ++ cs.toList.drop (l.length * i.size + 1)).toArray cs T h1
    have := h _ ⟨_, hp.row, ?_, ?_, ?_⟩ (hp.below (Nat.le_refl _)) hp.size
    · simpa using this
    · simp [his]; omega
    · simp; omega
    · rw [cellsOf_append]
      simp only [his, Nat.mul_one, h4, List.length_append, List.length_singleton]
      rw [List.take_left' (by simp [cellsOf_length])]
      rfl

/-- append(s, b), s a row that the call owns, or nil -/
theorem wpList_append_byte (hgd : o.guard = none) (s x : Operand) (t : TypeId) (ho : o.op = .call { callee := .builtin .append, args := #[s, x], argTypes := #[t, t] })
    (e : TypeId) (ht : P.underlying t = some (.slice e)) (hi : (P.info? e).map (fun i => (i.zero, i.size, i.bytes)) = some (some (.int .u8 0), 1, 1)) (B : Nat) (v : Value) (l : List UInt8) (hs : a.eval s = v)
    (hown : w.ownsRow B e 1 v l.length (cellsOf l)) (hB : B ≤ w.heap.size) (hlen : l.length < 140737488355328) (ad : Addr) (ca : Nat) (z : Int) (b : UInt8) (hz : z = b.toNat) (hx : a.eval x = .slice (some ad) 1 ca) (hc : w.cell? ad = some (.int .u8 z))
    (h : ∀ v' w', w'.ownsRow B e 1 v' (l ++ [b]).length (cellsOf (l ++ [b])) → Below B w w' → wpList P ops Q rest (a.put o.dst v') w') : wpList P ops Q (o :: rest) a w := by
  subst hz
  obtain ⟨i, hi2, hz, hs1, hb1⟩ := info_parts hi
  refine wpList_append_own _ hgd s x t ho B e i (.int .u8 0) 1 1 ht hi2 hz hs1 hb1 rfl (by decide) v l.length (cellsOf l) hs hown ad 1 ca [.int .u8 b.toNat] hx rfl ?_ ?_ (by unfold maxLen; omega) (by omega) hB ?_
  · intro j u hj
    match j, hj with
    | 0, hj => simp at hj; subst hj; have : ad.add 0 = ad := by unfold Addr.add; split <;> simp_all
               rw [this]; exact hc
    | j + 1, hj => simp at hj
  · intro u hu; simp at hu; subst hu; rfl
  · intro v' w' ho' hg _
    refine h v' w' ?_ ((Below.refl _ _).grown hg hB fun k hk => (hown.lt k hk).1)
    simpa [cellsOf_append, cellsOf] using ho'

/-- string(v), v a row that the call owns -/
theorem wpList_own_string (hgd : o.guard = none) (src dst e : TypeId) (x : Operand) (ho : o.op = .convert src dst x)
    (hs : P.underlying src = some (.slice e)) (he : P.underlying e = some (.int .u8)) (hd : P.underlying dst = some .string)
    (B : Nat) (v : Value) (l : List UInt8) (hx : a.eval x = v) (hown : w.ownsRow B e 1 v l.length (cellsOf l)) (hpos : 0 < l.length)
    (h : wpList P ops Q rest (a.put o.dst (.string (str l))) w) : wpList P ops Q (o :: rest) a w := by
  rcases hown.2 with ⟨_, h0⟩ | ⟨g, cap, cur, rfl, _⟩
  · omega
  · refine wpList_bytes_string hgd src dst e x ho hs he hd g 0 l.length cap hx l rfl ?_ h
    intro i hi
    rw [Nat.zero_add, hown.cellAt i (by omega)]
    simp [cellsOf, hi]
end
end Go.Proofs.Ytgkadhogfejheaa.Mem
end
/-! All that was there is as it was, but for certain blocks. -/
section
namespace Go.Proofs.Ytgkadhogfejheaa.Mem
open Go.RowKit

structure But (S : Nat → Prop) (w w' : World) : Prop where
  os : w'.os = w.os
  tape : w'.tape = w.tape
  output : w'.output = w.output
  size : w.heap.size ≤ w'.heap.size
  block : ∀ k, k < w.heap.size → ¬ S k → w'.heap[k]? = w.heap[k]?

variable {S : Nat → Prop} {a b c w w1 : World}
theorem But.refl (S : Nat → Prop) (w : World) : But S w w := ⟨rfl, rfl, rfl, Nat.le_refl _, fun _ _ _ => rfl⟩
theorem But.trans (h : But S a b) (k : But S b c) : But S a c :=
  ⟨k.os.trans h.os, k.tape.trans h.tape, k.output.trans h.output, Nat.le_trans h.size k.size, fun i hi hs => (k.block i (Nat.lt_of_lt_of_le hi h.size) hs).trans (h.block i hi hs)⟩
theorem But.mono {T : Nat → Prop} (h : But S a b) (hs : ∀ k, k < a.heap.size → S k → T k) : But T a b := ⟨h.os, h.tape, h.output, h.size, fun k hk hn => h.block k hk fun hh => hn (hs k hk hh)⟩
/-- what was written was not there before -/
theorem But.later {T : Nat → Prop} (h : But S a b) (k : But T b c) (hT : ∀ i, i < a.heap.size → T i → S i) : But S a c :=
  ⟨k.os.trans h.os, k.tape.trans h.tape, k.output.trans h.output, Nat.le_trans h.size k.size, fun i hi hs => (k.block i (Nat.lt_of_lt_of_le hi h.size) fun hh => hs (hT i hi hh)).trans (h.block i hi hs)⟩
theorem But.of_new {cs : Array Value} {t : TypeId} (h : New w w1 cs t) : But S w w1 := ⟨h.below.os, h.below.tape, h.below.output, h.below.size, fun k hk _ => h.below.block k hk⟩
theorem But.of_below (h : Below w.heap.size w w1) : But S w w1 := ⟨h.os, h.tape, h.output, h.size, fun k hk _ => h.block k hk⟩
theorem But.of_put {g : Nat} {cs : Array Value} {t : TypeId} (h : Put w w1 g cs t) (hS : S g) : But S w w1 := ⟨h.os, h.tape, h.output, Nat.le_of_eq h.size.symm, fun k _ hs => h.other k fun e => hs (e ▸ hS)⟩
theorem But.of_setCell (p : Addr) (v : Value) (hS : S p.block) : But S w (w.setCell p v) := ⟨rfl, rfl, rfl, by simp, fun k _ hs => heap_setCell_other w p k v fun e => hs (e ▸ hS)⟩
theorem But.of_drewN (n : Nat) : But S w (w.drewN n) := ⟨rfl, rfl, rfl, Nat.le_refl _, fun _ _ _ => rfl⟩
theorem But.below (h : But S w w1) {B : Nat} (hB : B ≤ w.heap.size) (hS : ∀ k, S k → B ≤ k) : Below B w w1 :=
  ⟨h.os, h.tape, h.output, h.size, fun k hk => h.block k (by omega) fun hs => by have := hS k hs; omega⟩
theorem keep {w w' : World} {x : Addr} {v : Value} (hb : Below w.heap.size w w') (h : w.cell? x = some v) : w'.cell? x = some v := (hb.cell (block_lt_of_cell h)).trans h
theorem keep_but {g : Nat} {w w' : World} {x : Addr} {v : Value} (hb : But (· = g) w w') (hne : ¬ x.block = g) (h : w.cell? x = some v) : w'.cell? x = some v :=
  (World.cell?_of_block (hb.block _ (block_lt_of_cell h) hne)).trans h

theorem results_cell_one {P : Program} {fn : Func} {p : Tmp} {ty : TypeId} (h : fn.results = #[.cell p ty]) (tmps : Array Value) (w : World) (g : Nat) (v : Value) (d : TypeDesc)
    (hp : tmps.getD p undef = .pointer (some ⟨g, 0, none⟩)) (hu : P.underlying ty = some d) (hd : (match d with | .struct _ | .array _ _ => false | _ => true) = true) (hc : w.cell? ⟨g, 0, none⟩ = some v) :
    (results fn tmps).run P w = .ok v w := by
  have hp' : tmps[p]?.getD undef = .pointer (some ⟨g, 0, none⟩) := by simpa using hp
  cases d <;> simp_all [results, asAddr, go_sem, isAgg, run_underlying hu]
end Go.Proofs.Ytgkadhogfejheaa.Mem
end
/-! A store into one cell of a row, said by rows. -/
section
namespace Go.Proofs.Ytgkadhogfejheaa.Mem
open Go.RowKit
variable {P : Program} {ops : Array Oper} {rest : List Oper} {o : Oper} {a : Act} {w : World} {Q : Exit → Act → World → Prop}
theorem wpList_store_cell (hgd : o.guard = none) (ty : TypeId) (x y : Operand) (ho : o.op = .store ty x y) (g i : Nat) (hx : a.eval x = .pointer (some ⟨g, i, none⟩)) (v : Value) (hy : a.eval y = v)
    (h1 : v.oneCell' = true) (hs : (P.info? ty).map (·.size) = some 1) (t : TypeId) (old : Array Value) (hg : w.heap[g]? = some (.cells old t (0, 0))) (hi : i + 1 ≤ old.size)
    (cs : Array Value) (hcs : (old.toList.take i ++ [v] ++ old.toList.drop (i + 1)).toArray = cs)
    (h : ∀ w1, Put w w1 g cs t → wpList P ops Q rest (a.put o.dst undef) w1) : wpList P ops Q (o :: rest) a w :=
  wpList_plain hgd fun _ hK => by
    have hc : v.cells = #[v] := by cases v <;> first | rfl | cases h1
    have hrun := run_storeCells_at (P := P) g i t [v] 0 old w hg (by simpa using hi) (by intro u hu; simp at hu; subst hu; exact h1)
    simp only [Nat.add_zero, List.length_cons, List.length_nil, Nat.zero_add] at hrun
    rw [hcs] at hrun
    have hput := put_setRow w g cs old t hg
    unfold Oper.wp execOp
    cases hq : P.info? ty with
    | none => simp [hq] at hs
    | some inf =>
      have hs1 : inf.size = 1 := by simpa [hq] using hs
      simp [ho, hx, hy, Instr.storeAt, Instr.sureAddr, storeVar, sizeOf, typeInfo, hq, hc, hs1, hrun]
      exact hK _ _ (h _ hput)
end Go.Proofs.Ytgkadhogfejheaa.Mem
end
/-! A slice of one's own that may begin within its block ('s = s[1:]'): what it holds; an element more at its end. No program in sight. -/
section
namespace Go.Proofs.Ytgkadhogfejheaa.Mem
open Go.RowKit

/-- v is a slice of n elements, of size cells each, that lies in a block from base on; xs are its cells. -/
def Row (w : World) (base : Nat) (e : TypeId) (size : Nat) (v : Value) (n : Nat) (xs : List Value) : Prop :=
  xs.length = n * size ∧ ((v = .slice none 0 0 ∧ n = 0) ∨ ∃ b off cap cur, v = .slice (some ⟨b, off, none⟩) n cap ∧ base ≤ b ∧ w.heap[b]? = some (.cells cur e (0, 0)) ∧ n ≤ cap ∧ cap ≤ maxLen ∧ off + cap * size ≤ cur.size ∧ ∀ j u, xs[j]? = some u → cur[off + j]? = some u)

section
variable {w w1 : World} {base size n : Nat} {e : TypeId} {v : Value} {xs : List Value}

theorem row_nil (w : World) (base : Nat) (e : TypeId) (size : Nat) : Row w base e size (.slice none 0 0) 0 [] := ⟨by simp, .inl ⟨rfl, rfl⟩⟩
theorem Row.form (h : Row w base e size v n xs) : ∃ A cap, v = .slice A n cap ∧ n ≤ cap ∧ cap ≤ maxLen := by
  rcases h.2 with ⟨rfl, rfl⟩ | ⟨b, off, cap, cur, rfl, _, _, h1, h2, _⟩
  · exact ⟨none, 0, rfl, Nat.le_refl _, by unfold maxLen; omega⟩
  · exact ⟨_, cap, rfl, h1, h2⟩
theorem Row.block (h : Row w base e size v n xs) {k : Nat} (hk : v.ownBlock = some k) : base ≤ k ∧ k < w.heap.size := by
  rcases h.2 with ⟨rfl, _⟩ | ⟨b, off, cap, cur, rfl, h0, h1, _⟩
  · cases hk
  · simp [Value.ownBlock] at hk
    subst hk
    exact ⟨h0, (Array.getElem?_eq_some_iff.1 h1).1⟩
theorem Row.keep (h : Row w base e size v n xs) (hb : ∀ k, k < w.heap.size → v.ownBlock = some k → w1.heap[k]? = w.heap[k]?) : Row w1 base e size v n xs := by
  obtain ⟨h0, h1⟩ := h
  refine ⟨h0, ?_⟩
  rcases h1 with h1 | ⟨b, off, cap, cur, rfl, h2, h3, r⟩
  · exact .inl h1
  · exact .inr ⟨b, off, cap, cur, rfl, h2, (hb b (Array.getElem?_eq_some_iff.1 h3).1 rfl).trans h3, r⟩
theorem Row.below (h : Row w base e size v n xs) (hb : Below w.heap.size w w1) : Row w1 base e size v n xs := h.keep fun k hk _ => hb.block k hk
theorem Row.drew (h : Row w base e size v n xs) : Row w.drew base e size v n xs := h
theorem Row.alloc (h : Row w base e size v n xs) (o : Obj) : Row (w.alloc o) base e size v n xs := h.keep fun _ hk _ => heap_alloc_old w o hk
theorem Row.mono (h : Row w base e size v n xs) {B : Nat} (hB : B ≤ base) : Row w B e size v n xs := by
  obtain ⟨h0, h1⟩ := h
  refine ⟨h0, ?_⟩
  rcases h1 with h1 | ⟨b, off, cap, cur, rfl, h2, r⟩
  · exact .inl h1
  · exact .inr ⟨b, off, cap, cur, rfl, by omega, r⟩
/-- a cell of it -/
theorem Row.cell (h : Row w base e size v n xs) {A : Option Addr} {c : Nat} (hv : v = .slice A n c) {j : Nat} {u : Value} (hj : xs[j]? = some u) : ∃ a, A = some a ∧ w.cell? (a.add j) = some u := by
  rcases h.2 with ⟨_, h0⟩ | ⟨b, off, cap, cur, rfl, _, h1, _, _, _, h2⟩
  · have := h.1
    rw [h0] at this
    simp at this
    rw [this] at hj
    cases hj
  · cases hv
    refine ⟨_, rfl, ?_⟩
    have := cell_of_row w b (off + j) _ _ _ h1
    simpa [Addr.add_lit] using this.trans (h2 j u hj)

theorem setCells_row (g : Nat) (e : TypeId) (fr : Nat × Nat) : ∀ (vs : List Value) (o : Nat) (w : World) (cur : Array Value), w.heap[g]? = some (.cells cur e fr) → o + vs.length ≤ cur.size →
    ∃ cur', (w.setCells g o vs).heap[g]? = some (.cells cur' e fr) ∧ cur'.size = cur.size ∧ (∀ j, j < o ∨ o + vs.length ≤ j → cur'[j]? = cur[j]?) ∧ ∀ j u, vs[j]? = some u → cur'[o + j]? = some u
  | [], o, w, cur, h, _ => ⟨cur, h, rfl, fun _ _ => rfl, fun j u hj => by simp at hj⟩
  | v :: vs, o, w, cur, h, hle => by
    simp only [List.length_cons] at hle ⊢
    obtain ⟨cur', h1, h2, h3, h4⟩ := setCells_row g e fr vs (o + 1) (w.setCell ⟨g, o, none⟩ v) _ (row_setCell w g o v cur e fr h) (by simp; omega)
    refine ⟨cur', h1, by simpa using h2, fun j hj => ?_, fun j u hj => ?_⟩
    · rw [h3 j (by omega), Array.getElem?_setIfInBounds_ne (by omega)]
    · cases j with
      | zero =>
        simp at hj
        subst hj
        rw [Nat.add_zero, h3 o (by omega), Array.getElem?_setIfInBounds_self_of_lt (by omega)]
      | succ j =>
        rw [show o + (j + 1) = o + 1 + j by omega]
        exact h4 j u (by simpa using hj)

theorem size_setCells (b : Nat) : ∀ (vs : List Value) (o : Nat) (w : World), (w.setCells b o vs).heap.size = w.heap.size
  | [], _, _ => rfl
  | v :: vs, o, w => by
    unfold World.setCells
    rw [size_setCells b vs]
    simp
theorem other_setCells (b : Nat) : ∀ (vs : List Value) (o : Nat) (w : World) (k : Nat), k ≠ b → (w.setCells b o vs).heap[k]? = w.heap[k]?
  | [], _, _, _, _ => rfl
  | v :: vs, o, w, k, hk => by
    unfold World.setCells
    rw [other_setCells b vs _ _ k hk]
    exact heap_setCell_other w _ k v hk
theorem os_setCells (b : Nat) : ∀ (vs : List Value) (o : Nat) (w : World), (w.setCells b o vs).os = w.os ∧ (w.setCells b o vs).tape = w.tape ∧ (w.setCells b o vs).output = w.output
  | [], _, _ => ⟨rfl, rfl, rfl⟩
  | v :: vs, o, w => by
    unfold World.setCells
    exact os_setCells b vs _ _
end

/-- append: one element or more; the block written is the old one, or a new one. -/
theorem run_append_row {P : Program} (w : World) (t ty : TypeId) (base : Nat) (e : TypeId) (i : TypeInfo) (z : Value) (size bytes : Nat) (ht : P.underlying t = some (.slice e)) (hi : P.info? e = some i) (hz : i.zero = some z)
    (hsize : i.size = size) (hby : i.bytes = bytes) (hzs : z.cells.size = size)
    (v : Value) (n : Nat) (xs : List Value) (hown : Row w base e size v n xs)
    (ad : Addr) (m c : Nat) (news : List Value) (hl : news.length = m * size) (hnews : ∀ j u, news[j]? = some u → w.cell? (ad.add j) = some u) (h1 : ∀ u ∈ news, u.oneCell' = true)
    (hm : 0 < m) (h63 : n + m ≤ maxLen) (hbytes : (n + m) * bytes ≤ 140737488355328) (hbase : base ≤ w.heap.size) :
    ∃ v' w', (Builtin.append_ #[t, t] ty #[v, .slice (some ad) m c]).run P w = .ok v' w' ∧ Row w' base e size v' (n + m) (xs ++ news) ∧ w.grownBy w' v.ownBlock ∧
      (v'.ownBlock = v.ownBlock ∨ v'.ownBlock = some w.heap.size) := by
  subst hsize
  subst hby
  have hsmall : n + m ≤ 9223372036854775807 := by simp only [maxLen] at h63; omega
  have hlen : (xs ++ news).length = (n + m) * i.size := by rw [List.length_append, hown.1, hl, Nat.add_mul]
  have grown : ∀ (old : Nat), ∀ (row : Option Nat),
      Row (w.drew.alloc (.cells (xs.toArray ++ news.toArray ++ Builtin.zeroCells z.cells (grownCap w (n + m) old e - (n + m))) e)) base e i.size
        (.slice (some ⟨w.heap.size, 0, none⟩) (n + m) (grownCap w (n + m) old e)) (n + m) (xs ++ news) ∧
      w.grownBy (w.drew.alloc (.cells (xs.toArray ++ news.toArray ++ Builtin.zeroCells z.cells (grownCap w (n + m) old e - (n + m))) e)) row := by
    intro old row
    have hge := grownCap_ge w (n + m) old e
    have hcm : grownCap w (n + m) old e ≤ maxLen := grownCap_le_maxLen w (n + m) old e h63
    refine ⟨⟨hlen, .inr ⟨w.heap.size, 0, _, _, rfl, hbase, heap_alloc_new w.drew _, hge, hcm, ?_, ?_⟩⟩, ⟨rfl, rfl, rfl, by simp, fun k hk _ => heap_alloc_old w.drew _ hk⟩⟩
    · simp only [Array.size_append, List.size_toArray, size_zeroCells, hzs, hown.1, hl, ← Nat.add_mul]
      rw [Nat.zero_add]
      apply Nat.le_of_eq
      congr 1
      omega
    · intro j u hj
      rw [Nat.zero_add, Array.getElem?_append_left (by
        have := (List.getElem?_eq_some_iff.1 hj).1
        simpa using this)]
      simpa using hj
  rcases hown.2 with ⟨rfl, rfl⟩ | ⟨g, off, cap, cur, rfl, hbg, hg, hnc, hcm, hcs, hat⟩
  · have hx : xs = [] := List.eq_nil_of_length_eq_zero (by simpa using hown.1)
    subst hx
    have hr := run_append_nil (P := P) w t ty e i z ht hi hz ad m c news hl hnews (by omega) (by omega) (by have hb := hbytes; simp only [Nat.zero_add] at hb; omega)
    have hgr := grown 0 (Value.ownBlock (.slice none 0 0))
    simp only [Nat.zero_add, List.nil_append, Array.empty_append] at hgr ⊢
    exact ⟨_, _, hr, hgr.1, hgr.2, Or.inr rfl⟩
  · by_cases hroom : n + m ≤ cap
    · have hfit : off + n * i.size + news.length ≤ cur.size := by
        have := Nat.mul_le_mul_right i.size hroom
        rw [Nat.add_mul] at this
        omega
      have hcell : ∀ j, w.cell? ⟨g, j, none⟩ = cur[j]? := fun j => cell_of_row w g j _ _ _ hg
      have hr := run_append_room_cells (P := P) w t ty e i ht hi g off n cap ad m c news hl hnews h1 hroom (fun j hj => by
        rw [hcell, Array.getElem?_eq_getElem (by omega)]; rfl) (fun j _ => frozen_of_row w g _ _ _ hg)
      obtain ⟨cur', r1, r2, r3, r4⟩ := setCells_row g e (0, 0) news (off + n * i.size) w cur hg hfit
      refine ⟨_, _, hr, ⟨hlen, .inr ⟨g, off, cap, cur', rfl, hbg, r1, hroom, hcm, by omega, fun j u hj => ?_⟩⟩,
        ⟨(os_setCells g news _ w).1, (os_setCells g news _ w).2.1, (os_setCells g news _ w).2.2, Nat.le_of_eq (size_setCells g news _ w).symm, fun k _ hk => other_setCells g news _ w k (fun e => hk (by simp [Value.ownBlock, e]))⟩, Or.inl rfl⟩
      rcases Nat.lt_or_ge j xs.length with hjl | hjl
      · rw [List.getElem?_append_left hjl] at hj
        rw [r3 _ (by have := hown.1; omega)]
        exact hat j u hj
      · rw [List.getElem?_append_right hjl] at hj
        have := r4 _ u hj
        rw [hown.1] at this hjl
        rw [show off + n * i.size + (j - n * i.size) = off + j by omega] at this
        exact this
    · have holds : ∀ j u, xs[j]? = some u → w.cell? ((⟨g, off, none⟩ : Addr).add j) = some u := fun j u hj => by
        have := cell_of_row w g (off + j) _ _ _ hg
        simpa [Addr.add_lit] using this.trans (hat j u hj)
      have hr := run_append_grow (P := P) w t ty e i z ht hi hz ⟨g, off, none⟩ n cap xs hown.1 holds ad m c news hl hnews (by omega) (by omega) (growslice_fits (by omega) hbytes)
      have hgr := grown cap (Value.ownBlock (.slice (some ⟨g, off, none⟩) n cap))
      exact ⟨_, _, hr, hgr.1, hgr.2, Or.inr rfl⟩

/-- at the operation -/
theorem wp_append_row {P : Program} (w : World) {o : Oper} {a : Act} {K : Act → World → Prop} {Q : Exit → Act → World → Prop} (s x : Operand) (t : TypeId)
    (ho : o.op = .call { callee := .builtin .append, args := #[s, x], argTypes := #[t, t] })
    (base : Nat) (e : TypeId) (i : TypeInfo) (z : Value) (size bytes : Nat) (ht : P.underlying t = some (.slice e)) (hi : P.info? e = some i) (hz : i.zero = some z)
    (hsize : i.size = size) (hby : i.bytes = bytes) (hzs : z.cells.size = size)
    (v : Value) (n : Nat) (xs : List Value) (hs : a.eval s = v) (hown : Row w base e size v n xs)
    (ad : Addr) (m c : Nat) (news : List Value) (hx : a.eval x = .slice (some ad) m c) (hl : news.length = m * size) (hnews : ∀ j u, news[j]? = some u → w.cell? (ad.add j) = some u) (h1 : ∀ u ∈ news, u.oneCell' = true)
    (hm : 0 < m) (h63 : n + m ≤ maxLen) (hbytes : (n + m) * bytes ≤ 140737488355328) (hbase : base ≤ w.heap.size)
    (h : ∀ v' w', Row w' base e size v' (n + m) (xs ++ news) → w.grownBy w' v.ownBlock → (v'.ownBlock = v.ownBlock ∨ v'.ownBlock = some w.heap.size) → K (a.put o.dst v') w') : o.wp P a w K Q := by
  obtain ⟨v', w', hr, h2, h3, h4⟩ := run_append_row (P := P) w t o.type base e i z size bytes ht hi hz hsize hby hzs v n xs hown ad m c news hl hnews h1 hm h63 hbytes hbase
  unfold Oper.wp execOp
  simp only [ho, resolve, invoke, builtin, Sem.run_bind, Sem.run_pure, Result.andThen_ok, List.map_toArray, List.map_cons, List.map_nil, hs, hx, hr]
  exact h v' w' h2 h3 h4
/-- at a plain region's list -/
theorem wpList_append_row {P : Program} (w : World) {ops : Array Oper} {rest : List Oper} {o : Oper} {a : Act} {Q : Exit → Act → World → Prop} (hgd : o.guard = none) (s x : Operand) (t : TypeId)
    (ho : o.op = .call { callee := .builtin .append, args := #[s, x], argTypes := #[t, t] })
    (base : Nat) (e : TypeId) (i : TypeInfo) (z : Value) (size bytes : Nat) (ht : P.underlying t = some (.slice e)) (hi : P.info? e = some i) (hz : i.zero = some z)
    (hsize : i.size = size) (hby : i.bytes = bytes) (hzs : z.cells.size = size)
    (v : Value) (n : Nat) (xs : List Value) (hs : a.eval s = v) (hown : Row w base e size v n xs)
    (ad : Addr) (m c : Nat) (news : List Value) (hx : a.eval x = .slice (some ad) m c) (hl : news.length = m * size) (hnews : ∀ j u, news[j]? = some u → w.cell? (ad.add j) = some u) (h1 : ∀ u ∈ news, u.oneCell' = true)
    (hm : 0 < m) (h63 : n + m ≤ maxLen) (hbytes : (n + m) * bytes ≤ 140737488355328) (hbase : base ≤ w.heap.size)
    (h : ∀ v' w', Row w' base e size v' (n + m) (xs ++ news) → w.grownBy w' v.ownBlock → (v'.ownBlock = v.ownBlock ∨ v'.ownBlock = some w.heap.size) → wpList P ops Q rest (a.put o.dst v') w') : wpList P ops Q (o :: rest) a w :=
  wpList_plain hgd fun _ hK => wp_append_row w s x t ho base e i z size bytes ht hi hz hsize hby hzs v n xs hs hown ad m c news hx hl hnews h1 hm h63 hbytes hbase fun v' w' h2 h3 h4 => hK _ _ (h v' w' h2 h3 h4)
/-- at a step of a region that draws its order -/
theorem step_append_row {P : Program} (w : World) {ops : Array Oper} {o : Oper} {a : Act} {K : Act → World → Prop} {Q : Exit → Act → World → Prop} {E : Prop} (hgd : o.guard = none) (s x : Operand) (t : TypeId)
    (ho : o.op = .call { callee := .builtin .append, args := #[s, x], argTypes := #[t, t] })
    (base : Nat) (e : TypeId) (i : TypeInfo) (z : Value) (size bytes : Nat) (ht : P.underlying t = some (.slice e)) (hi : P.info? e = some i) (hz : i.zero = some z)
    (hsize : i.size = size) (hby : i.bytes = bytes) (hzs : z.cells.size = size)
    (v : Value) (n : Nat) (xs : List Value) (hs : a.eval s = v) (hown : Row w base e size v n xs)
    (ad : Addr) (m c : Nat) (news : List Value) (hx : a.eval x = .slice (some ad) m c) (hl : news.length = m * size) (hnews : ∀ j u, news[j]? = some u → w.cell? (ad.add j) = some u) (h1 : ∀ u ∈ news, u.oneCell' = true)
    (hm : 0 < m) (h63 : n + m ≤ maxLen) (hbytes : (n + m) * bytes ≤ 140737488355328) (hbase : base ≤ w.heap.size)
    (h : ∀ v' w', Row w' base e size v' (n + m) (xs ++ news) → w.grownBy w' v.ownBlock → (v'.ownBlock = v.ownBlock ∨ v'.ownBlock = some w.heap.size) → K (a.put o.dst v') w') :
    if Region.wanted o (yielded ops a.tmps) = true then Oper.wp P o a w K Q else E := by
  have hw : Region.wanted o (yielded ops a.tmps) = true := by simp [Region.wanted, hgd]
  rw [if_pos hw]
  exact wp_append_row w s x t ho base e i z size bytes ht hi hz hsize hby hzs v n xs hs hown ad m c news hx hl hnews h1 hm h63 hbytes hbase h
end Go.Proofs.Ytgkadhogfejheaa.Mem
end
/-! A region that draws its order: reads and calls that leave the world in a class come first, one operation or some in a row last: one walk of the text's order. No program in sight. -/
section
namespace Go.Proofs.Ytgkadhogfejheaa.Mem
open Go.RowKit
section
variable {P : Program} {ops : Array Oper} {md : Region.Mode} {C : World → Prop}

/-- whatever order is picked among the first n -/
def headAny (P : Program) (md : Region.Mode) (ops : Array Oper) (C : World → Prop) (n : Nat) (L : Array Bool → Act → Prop) : Nat → Array Bool → Act → Prop
  | 0, done, a => L done a
  | f + 1, done, a => Region.ready md ops done ≠ [] ∧ ∀ i ∈ Region.ready md ops done, i < n ∧ qOp P ops C i (headAny P md ops C n L f (done.setIfInBounds i true)) a

theorem headAny_any {n g : Nat} {L : Array Bool → Act → Prop} {Q : Exit → Act → World → Prop} (hL : ∀ done a w, C w → L done a → wpAny P md ops Q g done a w) :
    ∀ (f : Nat) (done : Array Bool) (a : Act) (w : World), C w → headAny P md ops C n L f done a → wpAny P md ops Q (f + g) done a w
  | 0, done, a, w, hw, h => by rw [Nat.zero_add]; exact hL _ _ _ hw h
  | f + 1, done, a, w, hw, h => by
    rw [show f + 1 + g = (f + g) + 1 by omega]
    exact ⟨fun h0 => absurd h0 h.1, fun i hi => wpOp_of_qOp hw (fun a' w' hw' h' => headAny_any hL f _ a' w' hw' h') (h.2 i hi).2⟩

theorem headAny_first {n i : Nat} {o : Oper} {v : Value} {L : Array Bool → Act → Prop} (hi : ops[i]? = some o) (hsel : ∀ (j : Nat) (o : Oper) cs b, ops[j]? = some o → o.op ≠ .select cs b)
    (hs : Region.sinkB md ops n = true) (hc : Region.chainB md ops n = true) (hn : n < ops.size) (hin : i < n) (hend : ∀ done a, L done a → ∀ j ∈ Region.ready md ops done, n ≤ j) :
    ∀ (f : Nat) (done : Array Bool) (a : Act), HeadInv md ops n done →
      (∀ j oj, ops[j]? = some oj → j ≠ i → done.getD j true = false → (∀ e ∈ oj.after, Region.binds md e = true → e.on ≠ i) → o.apart ops oj = true) →
      i ∈ Region.ready md ops done → YieldsIn P ops C o v a →
      headAny P md ops C n L f (done.setIfInBounds i true) (a.put o.dst v) → headAny P md ops C n L (f + 1) done a := by
  intro f
  induction f with
  | zero =>
    intro done a inv _ hr hy H
    have hun := (mem_ready.1 hr).1
    refine ⟨fun h => (by rw [h] at hr; cases hr), fun j hj => ?_⟩
    have hjn : j < n := by
      rcases Nat.lt_or_ge j n with h | h
      · exact h
      · exact absurd hj (tail_waits hs hc hn inv _ i rfl hin hun j h)
    refine ⟨hjn, ?_⟩
    by_cases hji : j = i
    · subst hji; exact hy.qOp hi H
    · have := hend _ _ H j (ready_mono hj hji)
      omega
  | succ f ih =>
    intro done a inv hfree hr hy H
    have hun := (mem_ready.1 hr).1
    refine ⟨fun h => (by rw [h] at hr; cases hr), fun j hj => ?_⟩
    have hjn : j < n := by
      rcases Nat.lt_or_ge j n with h | h
      · exact h
      · exact absurd hj (tail_waits hs hc hn inv _ i rfl hin hun j h)
    refine ⟨hjn, ?_⟩
    by_cases hji : j = i
    · subst hji; exact hy.qOp hi H
    · have h1 := (H.2 j (ready_mono hj hji)).2
      obtain ⟨hjun, oj, hoj, hall⟩ := mem_ready.1 hj
      have hnot : ∀ e ∈ oj.after, Region.binds md e = true → e.on ≠ i := fun e he hb heq => by
        have h1 := hall e he hb
        rw [heq, getD_both hun] at h1
        cases h1
      have h2 := qOp_put hoj (hfree j oj hoj hji hjun hnot) (fun cs b => hsel i o cs b hi) (fun cs b => hsel j oj cs b hoj) hy h1
      have hfree' : ∀ k ok, ops[k]? = some ok → k ≠ i → (done.setIfInBounds j true).getD k true = false →
          (∀ e ∈ ok.after, Region.binds md e = true → e.on ≠ i) → o.apart ops ok = true := fun k ok hk hki hun hno => by
        refine hfree k ok hk hki ?_ hno
        by_cases hjk : j = k
        · subst hjk; exact hjun
        · rw [getD_set_ne true hjk] at hun; exact hun
      refine qOp_mono (fun a' h3 => ih (done.setIfInBounds j true) a' (inv.set hj hjn) hfree' (ready_mono hr (Ne.symm hji)) h3.1 ?_) h2
      rw [Array.setIfInBounds_comm _ _ hji]
      exact h3.2

theorem headAny_text {n g : Nat} {Lq : Act → Prop} (hsel : Region.noSelect ops = true) (hs : Region.sinkB md ops n = true) (hc : Region.chainB md ops n = true) (hn : n < ops.size) :
    ∀ (l : List Oper) (k : Nat) (done : Array Bool) (a : Act), (∀ j, j < l.length → l[j]? = ops[k + j]?) → k + l.length = n → HeadInv md ops n done →
    Region.lexHead md ops g l.length k done = true → wpQuiet P ops C Lq l a →
    headAny P md ops C n (fun done' a' => Region.seqB md ops g n done' = true ∧ Lq a') l.length done a
  | [], k, done, a, _, hk, _, hB, h => by
    have : k = n := by simpa using hk
    subst this
    exact ⟨by simpa [Region.lexHead] using hB, h⟩
  | o :: l, k, done, a, hl, hk, inv, hB, h => by
    have h0 : ops[k]? = some o := by simpa using (hl 0 (by simp)).symm
    simp only [List.length_cons, Region.lexHead, Bool.and_eq_true] at hB
    obtain ⟨⟨hr, hf⟩, hB'⟩ := hB
    have hkn : k < n := by simp only [List.length_cons] at hk; omega
    have hr' : k ∈ Region.ready md ops done := by simpa using hr
    have hst : qOp P ops C k (wpQuiet P ops C Lq l) a := by unfold qOp; simp only [h0]; exact h
    obtain ⟨v, hy, hK⟩ := yieldsIn_of_qOp h0 hst
    exact headAny_first h0 (Region.noSelect_spec hsel) hs hc hn hkn (fun _ _ hL => seqB_ready hL.1) l.length done a inv (Region.free_spec h0 hf) hr' hy
      (headAny_text hsel hs hc hn l (k + 1) _ _ (fun j hj => by have := hl (j + 1) (by simp; omega); simpa [Nat.add_assoc, Nat.add_comm 1 j] using this) (by simp only [List.length_cons] at hk; omega) (inv.set hr' hkn) hB' hK)

theorem wp_region_quiet_tail {id : Nat} {Q : Exit → Act → World → Prop} {a : Act} {w : World} {l : List Oper} (n : Nat) (hm : P.follows .mixedOrders = true) (hB : Region.lexTailB .any l.toArray n = true) (hC : C { w with drawn := w.drawn + 1 })
    (h : wpQuiet P l.toArray C (fun a' => ∀ w', C w' → wpList P l.toArray Q (l.drop n) a' w') (l.take n) a) : (Code.region id l.toArray true).wp P Q a w := by
  simp only [Region.lexTailB, Bool.and_eq_true, decide_eq_true_eq] at hB
  obtain ⟨⟨⟨⟨hsel, hn⟩, hs⟩, hc⟩, hlex⟩ := hB
  have hn' : n < l.length := by simpa using hn
  have htl : (l.take n).length = n := by simp; omega
  have hdl : (l.drop n).length = l.toArray.size - n := by simp
  have inv0 : HeadInv .any l.toArray n (Array.replicate l.toArray.size false) :=
    ⟨by simp, fun j oj _ hl => (by rw [getD_replicate_false] at hl; cases hl), fun t _ ht => getD_in (by simpa using ht) (getD_replicate_false _ _)⟩
  have H := headAny_text (C := C) (md := .any) (g := l.toArray.size - n) hsel hs hc hn (l.take n) 0 _ a (fun j hj => by
    have hj' : j < n := by rw [htl] at hj; exact hj
    simp [hj']) (by simpa using htl) inv0 (by rw [htl]; exact hlex) h
  refine wp_region_any hm ?_
  have := headAny_any (Q := Q) (g := l.toArray.size - n) (fun done a' w' hw' hL => by
    have := wpAny_of_seq (md := .any) (Q' := Q) (l.drop n) n done a' w' (fun j => by simp [List.getElem?_drop]) (by rw [hdl]; exact hL.1) (hL.2 w' hw')
    rwa [hdl] at this) _ _ _ _ hC H
  rw [htl, show n + (l.toArray.size - n) = l.toArray.size by omega] at this
  exact this
end

/-- the class of later worlds -/
theorem wp_region_later_tail {P : Program} {id : Nat} {Q : Exit → Act → World → Prop} {a : Act} {w : World} {l : List Oper} (n : Nat) (hm : P.follows .mixedOrders = true) (hB : Region.lexTailB .any l.toArray n = true)
    (h : wpQuiet P l.toArray (fun w' => ∃ i : Later w, w' = i.w) (fun a' => ∀ w', (∃ i : Later w, w' = i.w) → wpList P l.toArray Q (l.drop n) a' w') (l.take n) a) : (Code.region id l.toArray true).wp P Q a w :=
  wp_region_quiet_tail (C := fun w' => ∃ i : Later w, w' = i.w) n hm hB ⟨⟨w.drew, (Below.refl _ _).drew⟩, rfl⟩ h
end Go.Proofs.Ytgkadhogfejheaa.Mem
end
/-! A region that draws its order: what only reads in worlds of a class is taken first, then a chain of operations that make memory and stay in the class, then one last operation. No program in sight. -/
section
namespace Go.Proofs.Ytgkadhogfejheaa.Mem
open Go.RowKit
section
variable {P : Program} {ops : Array Oper} {md : Region.Mode} {C : World → Prop} {Q : Exit → Act → World → Prop}

/-- whatever order is picked among the first n; behind each the class holds -/
def mixAny (P : Program) (md : Region.Mode) (ops : Array Oper) (C : World → Prop) (Q : Exit → Act → World → Prop) (n : Nat) (L : Array Bool → Act → World → Prop) : Nat → Array Bool → Act → World → Prop
  | 0, done, a, w => L done a w
  | f + 1, done, a, w => Region.ready md ops done ≠ [] ∧ ∀ i ∈ Region.ready md ops done, i < n ∧ wpOp P ops Q i (fun a' w' => C w' ∧ mixAny P md ops C Q n L f (done.setIfInBounds i true) a' w') a w

theorem mixAny_any {n g : Nat} {L : Array Bool → Act → World → Prop} (hL : ∀ done a w, L done a w → wpAny P md ops Q g done a w) :
    ∀ (f : Nat) (done : Array Bool) (a : Act) (w : World), mixAny P md ops C Q n L f done a w → wpAny P md ops Q (f + g) done a w
  | 0, done, a, w, h => by rw [Nat.zero_add]; exact hL _ _ _ h
  | f + 1, done, a, w, h => by
    rw [show f + 1 + g = (f + g) + 1 by omega]
    exact ⟨fun h0 => absurd h0 h.1, fun i hi => wpOp_mono (fun a' w' h' => mixAny_any hL f _ a' w' h'.2) (h.2 i hi).2⟩

theorem mixAny_first {n i : Nat} {o : Oper} {v : Value} {L : Array Bool → Act → World → Prop} (hi : ops[i]? = some o) (hsel : ∀ (j : Nat) (o : Oper) cs b, ops[j]? = some o → o.op ≠ .select cs b)
    (hs : Region.sinkB md ops n = true) (hc : Region.chainB md ops n = true) (hn : n < ops.size) (hin : i < n) (hend : ∀ done a w, L done a w → ∀ j ∈ Region.ready md ops done, n ≤ j)
    (hQ : ∀ c a w, Q (.panic c) (a.put o.dst v) w → Q (.panic c) a w) :
    ∀ (f : Nat) (done : Array Bool) (a : Act) (w : World), HeadInv md ops n done →
      (∀ j oj, ops[j]? = some oj → j ≠ i → done.getD j true = false → (∀ e ∈ oj.after, Region.binds md e = true → e.on ≠ i) → o.apart ops oj = true) →
      i ∈ Region.ready md ops done → YieldsIf P ops C o v a → C w →
      mixAny P md ops C Q n L f (done.setIfInBounds i true) (a.put o.dst v) w → mixAny P md ops C Q n L (f + 1) done a w := by
  intro f
  induction f with
  | zero =>
    intro done a w inv _ hr hy hw H
    have hun := (mem_ready.1 hr).1
    refine ⟨fun h => (by rw [h] at hr; cases hr), fun j hj => ?_⟩
    have hjn : j < n := by
      rcases Nat.lt_or_ge j n with h | h
      · exact h
      · exact absurd hj (tail_waits hs hc hn inv _ i rfl hin hun j h)
    refine ⟨hjn, ?_⟩
    by_cases hji : j = i
    · subst hji; exact hy.wpOp hi hw ⟨hw, H⟩
    · have := hend _ _ _ H j (ready_mono hj hji)
      omega
  | succ f ih =>
    intro done a w inv hfree hr hy hw H
    have hun := (mem_ready.1 hr).1
    refine ⟨fun h => (by rw [h] at hr; cases hr), fun j hj => ?_⟩
    have hjn : j < n := by
      rcases Nat.lt_or_ge j n with h | h
      · exact h
      · exact absurd hj (tail_waits hs hc hn inv _ i rfl hin hun j h)
    refine ⟨hjn, ?_⟩
    by_cases hji : j = i
    · subst hji; exact hy.wpOp hi hw ⟨hw, H⟩
    · have h1 := (H.2 j (ready_mono hj hji)).2
      obtain ⟨hjun, oj, hoj, hall⟩ := mem_ready.1 hj
      have hnot : ∀ e ∈ oj.after, Region.binds md e = true → e.on ≠ i := fun e he hb heq => by
        have h1 := hall e he hb
        rw [heq, getD_both hun] at h1
        cases h1
      have h2 := wpOp_putIf hoj (hfree j oj hoj hji hjun hnot) (fun cs b => hsel i o cs b hi) (fun cs b => hsel j oj cs b hoj) hQ hy h1
      have hfree' : ∀ k ok, ops[k]? = some ok → k ≠ i → (done.setIfInBounds j true).getD k true = false →
          (∀ e ∈ ok.after, Region.binds md e = true → e.on ≠ i) → o.apart ops ok = true := fun k ok hk hki hun hno => by
        refine hfree k ok hk hki ?_ hno
        by_cases hjk : j = k
        · subst hjk; exact hjun
        · rw [getD_set_ne true hjk] at hun; exact hun
      refine wpOp_mono (fun a' w' h3 => ⟨h3.2.1, ih (done.setIfInBounds j true) a' w' (inv.set hj hjn) hfree' (ready_mono hr (Ne.symm hji)) h3.1 h3.2.1 ?_⟩) h2
      rw [Array.setIfInBounds_comm _ _ hji]
      exact h3.2.2

def takeB (md : Region.Mode) (ops : Array Oper) (n : Nat) (k : Array Bool → Bool) : List Nat → Array Bool → Bool
  | [], done => k done
  | i :: r, done => decide (i < n) && ((Region.ready md ops done).contains i && (Region.free md ops done i && takeB md ops n k r (done.setIfInBounds i true)))
/-- reads, one behind the other: each yields its value in every world of the class -/
def takes (P : Program) (ops : Array Oper) (C : World → Prop) (K : Act → Prop) : List Nat → Act → Prop
  | [], a => K a
  | i :: r, a => ∃ o v, ops[i]? = some o ∧ YieldsIf P ops C o v a ∧ takes P ops C K r (a.put o.dst v)
/-- the chain -/
def chain (P : Program) (ops : Array Oper) (C : World → Prop) (Q : Exit → Act → World → Prop) (K : Act → World → Prop) : List Nat → Act → World → Prop
  | [], a, w => K a w
  | i :: r, a, w => ∃ o, ops[i]? = some o ∧ o.guard = none ∧ o.wp P a w (fun a' w' => C w' ∧ chain P ops C Q K r a' w') Q

theorem take_mix {n g : Nat} {L : Array Bool → Act → World → Prop} {k : Array Bool → Bool} {K : Act → Prop} {w : World} (hsel : Region.noSelect ops = true) (hs : Region.sinkB md ops n = true) (hc : Region.chainB md ops n = true) (hn : n < ops.size)
    (hend : ∀ done a w, L done a w → ∀ j ∈ Region.ready md ops done, n ≤ j) (hQ : ∀ (o : Oper) (v : Value) c a w, Q (.panic c) (a.put o.dst v) w → Q (.panic c) a w) (hC : C w)
    (hK : ∀ done a, k done = true → K a → mixAny P md ops C Q n L g done a w) :
    ∀ (hs' : List Nat) (done : Array Bool) (a : Act), HeadInv md ops n done → takeB md ops n k hs' done = true → takes P ops C K hs' a → mixAny P md ops C Q n L (g + hs'.length) done a w
  | [], done, a, _, hB, h => hK done a hB h
  | i :: r, done, a, inv, hB, h => by
    simp only [takeB, Bool.and_eq_true, decide_eq_true_eq] at hB
    obtain ⟨hin, hr, hf, hB'⟩ := hB
    obtain ⟨o, v, ho, hy, hrest⟩ := h
    have hr' : i ∈ Region.ready md ops done := by simpa using hr
    exact mixAny_first ho (Region.noSelect_spec hsel) hs hc hn hin hend (hQ o v) (g + r.length) done a w inv (Region.free_spec ho hf) hr' hy hC
      (take_mix hsel hs hc hn hend hQ hC hK r _ _ (inv.set hr' hin) hB' hrest)

/-- what is left of the rows that begin with i -/
def tailsOf (i : Nat) (tss : List (List Nat)) : List (List Nat) := tss.filterMap fun l => match l with
  | j :: r => if j = i then some r else none
  | [] => none
def rowsB (md : Region.Mode) (ops : Array Oper) (n : Nat) (k : Array Bool → Bool) : Nat → List (List Nat) → Array Bool → Bool
  | 0, _, done => k done
  | f + 1, tss, done => !(Region.ready md ops done).isEmpty && (Region.ready md ops done).all fun i => decide (i < n) && ((tss.filterMap List.head?).contains i && rowsB md ops n k f (tailsOf i tss) (done.setIfInBounds i true))
/-- chains, whichever the order picks -/
def chains (P : Program) (ops : Array Oper) (C : World → Prop) (Q : Exit → Act → World → Prop) (K : Act → World → Prop) : Nat → List (List Nat) → Act → World → Prop
  | 0, _, a, w => K a w
  | f + 1, tss, a, w => ∀ i ∈ tss.filterMap List.head?, ∃ o, ops[i]? = some o ∧ o.guard = none ∧ o.wp P a w (fun a' w' => C w' ∧ chains P ops C Q K f (tailsOf i tss) a' w') Q
theorem chains_mix {n : Nat} {L : Array Bool → Act → World → Prop} {k : Array Bool → Bool} {K : Act → World → Prop} (hL : ∀ done a w, k done = true → K a w → L done a w) :
    ∀ (f : Nat) (tss : List (List Nat)) (done : Array Bool) (a : Act) (w : World), rowsB md ops n k f tss done = true → chains P ops C Q K f tss a w → mixAny P md ops C Q n L f done a w
  | 0, tss, done, a, w, hB, h => hL done a w hB h
  | f + 1, tss, done, a, w, hB, h => by
    simp only [rowsB, Bool.and_eq_true, List.all_eq_true, decide_eq_true_eq] at hB
    refine ⟨fun h0 => by rw [h0] at hB; simp at hB, fun j hj => ?_⟩
    obtain ⟨hin, hhd, hB'⟩ := hB.2 j hj
    obtain ⟨o, ho, hg, hw⟩ := h j (by simpa using hhd)
    refine ⟨hin, ?_⟩
    unfold wpOp
    simp only [ho]
    have hwant : Region.wanted o (yielded ops a.tmps) = true := by simp [Region.wanted, hg]
    rw [if_pos hwant]
    exact .inl (Oper.wp_mono (fun a' w' h' => ⟨h'.1, chains_mix hL f _ _ a' w' hB' h'.2⟩) hw)

theorem wp_region_mixS {id : Nat} {a : Act} {w : World} {l : List Oper} (n : Nat) (hs : List Nat) (f : Nat) (tss : List (List Nat)) (hm : P.follows .mixedOrders = true) (hlen : hs.length + f = n)
    (hB : (Region.noSelect l.toArray && (decide (n < l.length) && (Region.sinkB .any l.toArray n && (Region.chainB .any l.toArray n &&
      takeB .any l.toArray n (fun d => rowsB .any l.toArray n (fun d' => Region.seqB .any l.toArray (l.length - n) n d') f tss d) hs (Array.replicate l.length false))))) = true)
    (C : World → Prop) (hC : C w.drew) (h : takes P l.toArray C (fun a1 => chains P l.toArray C (NoPanic Q) (fun a2 w2 => wpList P l.toArray (NoPanic Q) (l.drop n) a2 w2) f tss a1 w.drew) hs a) : (Code.region id l.toArray true).wp P Q a w := by
  simp only [Bool.and_eq_true, decide_eq_true_eq] at hB
  obtain ⟨hsel, hn', hsk, hch, htk⟩ := hB
  have hn : n < l.toArray.size := by simpa using hn'
  have hdl : (l.drop n).length = l.length - n := by simp
  have inv0 : HeadInv .any l.toArray n (Array.replicate l.length false) :=
    ⟨by simp, fun j oj _ hl => (by rw [getD_replicate_false] at hl; cases hl), fun t _ ht => getD_in (by simpa using ht) (getD_replicate_false _ _)⟩
  refine wp_region_noPanic (wp_region_any hm ?_)
  have H := take_mix (P := P) (C := C) (Q := NoPanic Q) (g := f) (L := fun done a w => Region.seqB .any l.toArray (l.length - n) n done = true ∧ wpList P l.toArray (NoPanic Q) (l.drop n) a w)
    (k := fun d => rowsB .any l.toArray n (fun d' => Region.seqB .any l.toArray (l.length - n) n d') f tss d)
    (K := fun a1 => chains P l.toArray C (NoPanic Q) (fun a2 w2 => wpList P l.toArray (NoPanic Q) (l.drop n) a2 w2) f tss a1 w.drew)
    hsel hsk hch hn (fun _ _ _ hL => seqB_ready hL.1) (fun _ _ _ _ _ h => h.elim) hC
    (fun done a hk hK => chains_mix (fun d a w hd hw => ⟨hd, hw⟩) f tss done a w.drew hk hK) hs _ a inv0 htk h
  have H2 := mixAny_any (g := l.length - n) (fun done a' w' hL => by
    have := wpAny_of_seq (md := .any) (Q' := NoPanic Q) (l.drop n) n done a' w' (fun j => by simp [List.getElem?_drop]) (by rw [hdl]; exact hL.1) hL.2
    rwa [hdl] at this) _ _ _ _ H
  have hsz : l.toArray.size = f + hs.length + (l.length - n) := by simp; omega
  rw [hsz, show f + hs.length + (l.length - n) = l.length by omega]
  rw [show f + hs.length + (l.length - n) = l.length by omega] at H2
  exact H2
end
end Go.Proofs.Ytgkadhogfejheaa.Mem
end
/-! A region that draws its order: reads first, then a forced chain that may make memory, then pure operations, then a forced tail. No program in sight. -/
section
namespace Go.Proofs.Ytgkadhogfejheaa.Mem
open Go.RowKit
section
variable {P : Program} {ops : Array Oper} {md : Region.Mode} {C : World → Prop} {Q : Exit → Act → World → Prop}

def chainB2 (md : Region.Mode) (ops : Array Oper) (n : Nat) : Bool :=
  (List.range ops.size).all fun t => decide (t ≤ n) || (List.range t).any fun j => decide (n ≤ j) && Region.waitsFor md ops t j

theorem tail_waits2 {n : Nat} {listed : Array Bool} (hs : Region.sinkB md ops n = true) (hc : chainB2 md ops n = true) (hn : n < ops.size) (inv : HeadInv md ops n listed) :
    ∀ (d i : Nat), n - i = d → i < n → listed.getD i true = false → ∀ t, n ≤ t → t ∉ Region.ready md ops listed := by
  intro d
  induction d using Nat.strongRecOn with
  | _ d ih =>
    intro i hd hi hun t ht hr
    obtain ⟨_, ot, hot, hall⟩ := mem_ready.1 hr
    have htlt : t < ops.size := (Array.getElem?_eq_some_iff.1 hot).1
    by_cases htn : t = n
    · subst htn
      have h1 := List.all_eq_true.1 hs i (List.mem_range.2 hi)
      obtain ⟨j, hj, hj2⟩ := List.any_eq_true.1 h1
      simp only [Bool.and_eq_true, decide_eq_true_eq] at hj2
      obtain ⟨oj, hoj, e, he, hb, hon⟩ := Region.waitsFor_spec hj2.2
      have hjle : j ≤ t := by have := List.mem_range.1 hj; omega
      by_cases hjt : j = t
      · subst hjt
        have : oj = ot := Option.some.inj (hoj.symm.trans hot)
        subst this
        have h2 := hall e he hb
        rw [hon, getD_both hun] at h2
        cases h2
      · cases hl : listed.getD j false with
        | true =>
          have h2 := inv.closed j oj hoj hl e he hb
          rw [hon, getD_both hun] at h2
          cases h2
        | false =>
          have hjs : j < listed.size := by rw [inv.size]; omega
          exact ih (t - j) (by omega) j rfl (by omega) (getD_in hjs hl) t (Nat.le_refl _) hr
    · have h1 := List.all_eq_true.1 hc t (List.mem_range.2 htlt)
      simp only [Bool.or_eq_true, decide_eq_true_eq] at h1
      rcases h1 with h1 | h1
      · omega
      · obtain ⟨j, hj, hj2⟩ := List.any_eq_true.1 h1
        simp only [Bool.and_eq_true, decide_eq_true_eq] at hj2
        have hjt := List.mem_range.1 hj
        obtain ⟨o', ho', e, he, hb, hon⟩ := Region.waitsFor_spec hj2.2
        have : o' = ot := Option.some.inj (ho'.symm.trans hot)
        subst this
        have h2 := hall e he hb
        rw [hon, getD_both (inv.tail j hj2.1 (by omega))] at h2
        cases h2

theorem mixAny_first2 {n i : Nat} {o : Oper} {v : Value} {L : Array Bool → Act → World → Prop} (hi : ops[i]? = some o) (hsel : ∀ (j : Nat) (o : Oper) cs b, ops[j]? = some o → o.op ≠ .select cs b)
    (hs : Region.sinkB md ops n = true) (hc : chainB2 md ops n = true) (hn : n < ops.size) (hin : i < n) (hend : ∀ done a w, L done a w → ∀ j ∈ Region.ready md ops done, n ≤ j)
    (hQ : ∀ c a w, Q (.panic c) (a.put o.dst v) w → Q (.panic c) a w) :
    ∀ (f : Nat) (done : Array Bool) (a : Act) (w : World), HeadInv md ops n done →
      (∀ j oj, ops[j]? = some oj → j ≠ i → done.getD j true = false → (∀ e ∈ oj.after, Region.binds md e = true → e.on ≠ i) → o.apart ops oj = true) →
      i ∈ Region.ready md ops done → YieldsIf P ops C o v a → C w →
      mixAny P md ops C Q n L f (done.setIfInBounds i true) (a.put o.dst v) w → mixAny P md ops C Q n L (f + 1) done a w := by
  intro f
  induction f with
  | zero =>
    intro done a w inv _ hr hy hw H
    have hun := (mem_ready.1 hr).1
    refine ⟨fun h => (by rw [h] at hr; cases hr), fun j hj => ?_⟩
    have hjn : j < n := by
      rcases Nat.lt_or_ge j n with h | h
      · exact h
      · exact absurd hj (tail_waits2 hs hc hn inv _ i rfl hin hun j h)
    refine ⟨hjn, ?_⟩
    by_cases hji : j = i
    · subst hji; exact hy.wpOp hi hw ⟨hw, H⟩
    · have := hend _ _ _ H j (ready_mono hj hji)
      omega
  | succ f ih =>
    intro done a w inv hfree hr hy hw H
    have hun := (mem_ready.1 hr).1
    refine ⟨fun h => (by rw [h] at hr; cases hr), fun j hj => ?_⟩
    have hjn : j < n := by
      rcases Nat.lt_or_ge j n with h | h
      · exact h
      · exact absurd hj (tail_waits2 hs hc hn inv _ i rfl hin hun j h)
    refine ⟨hjn, ?_⟩
    by_cases hji : j = i
    · subst hji; exact hy.wpOp hi hw ⟨hw, H⟩
    · have h1 := (H.2 j (ready_mono hj hji)).2
      obtain ⟨hjun, oj, hoj, hall⟩ := mem_ready.1 hj
      have hnot : ∀ e ∈ oj.after, Region.binds md e = true → e.on ≠ i := fun e he hb heq => by
        have h1 := hall e he hb
        rw [heq, getD_both hun] at h1
        cases h1
      have h2 := wpOp_putIf hoj (hfree j oj hoj hji hjun hnot) (fun cs b => hsel i o cs b hi) (fun cs b => hsel j oj cs b hoj) hQ hy h1
      have hfree' : ∀ k ok, ops[k]? = some ok → k ≠ i → (done.setIfInBounds j true).getD k true = false →
          (∀ e ∈ ok.after, Region.binds md e = true → e.on ≠ i) → o.apart ops ok = true := fun k ok hk hki hun hno => by
        refine hfree k ok hk hki ?_ hno
        by_cases hjk : j = k
        · subst hjk; exact hjun
        · rw [getD_set_ne true hjk] at hun; exact hun
      refine wpOp_mono (fun a' w' h3 => ⟨h3.2.1, ih (done.setIfInBounds j true) a' w' (inv.set hj hjn) hfree' (ready_mono hr (Ne.symm hji)) h3.1 h3.2.1 ?_⟩) h2
      rw [Array.setIfInBounds_comm _ _ hji]
      exact h3.2.2

theorem take_mix2 {n : Nat} {L : Array Bool → Act → World → Prop} {k : Array Bool → Bool} {K : Act → Prop} {w : World} (hsel : Region.noSelect ops = true) (hs : Region.sinkB md ops n = true) (hc : chainB2 md ops n = true) (hn : n < ops.size)
    (hend : ∀ done a w, L done a w → ∀ j ∈ Region.ready md ops done, n ≤ j) (hQ : ∀ (o : Oper) (v : Value) c a w, Q (.panic c) (a.put o.dst v) w → Q (.panic c) a w) (hC : C w)
    (hK : ∀ done a, k done = true → K a → L done a w) :
    ∀ (hs' : List Nat) (done : Array Bool) (a : Act), HeadInv md ops n done → takeB md ops n k hs' done = true → takes P ops C K hs' a → mixAny P md ops C Q n L hs'.length done a w
  | [], done, a, _, hB, h => hK done a hB h
  | i :: r, done, a, inv, hB, h => by
    simp only [takeB, Bool.and_eq_true, decide_eq_true_eq] at hB
    obtain ⟨hin, hr, hf, hB'⟩ := hB
    obtain ⟨o, v, ho, hy, hrest⟩ := h
    have hr' : i ∈ Region.ready md ops done := by simpa using hr
    exact mixAny_first2 ho (Region.noSelect_spec hsel) hs hc hn hin hend (hQ o v) r.length done a w inv (Region.free_spec ho hf) hr' hy hC
      (take_mix2 hsel hs hc hn hend hQ hC hK r _ _ (inv.set hr' hin) hB' hrest)

/-- a chain, then what no world matters to, then the rest -/
def forced (P : Program) (ops : Array Oper) (Q : Exit → Act → World → Prop) (K : Act → World → Prop) : List Nat → Act → World → Prop
  | [], a, w => K a w
  | i :: r, a, w => ∃ o, ops[i]? = some o ∧ o.guard = none ∧ o.wp P a w (fun a' w' => forced P ops Q K r a' w') Q
def forcedB (md : Region.Mode) (ops : Array Oper) (k : Array Bool → Bool) : List Nat → Array Bool → Bool
  | [], done => k done
  | i :: r, done => decide (Region.ready md ops done = [i]) && forcedB md ops k r (done.setIfInBounds i true)
def pureB (md : Region.Mode) (ops : Array Oper) (k : Array Bool → Bool) : List Nat → Array Bool → Bool
  | [], done => k done
  | i :: r, done => (Region.ready md ops done).contains i && (Region.free md ops done i && pureB md ops k r (done.setIfInBounds i true))
theorem forced_any {g : Nat} {k : Array Bool → Bool} {K : Act → World → Prop} (hL : ∀ done a w, k done = true → K a w → wpAny P md ops Q g done a w) :
    ∀ (ts : List Nat) (done : Array Bool) (a : Act) (w : World), forcedB md ops k ts done = true → forced P ops Q K ts a w → wpAny P md ops Q (g + ts.length) done a w
  | [], done, a, w, hB, h => hL done a w hB h
  | i :: r, done, a, w, hB, h => by
    simp only [forcedB, Bool.and_eq_true, decide_eq_true_eq] at hB
    obtain ⟨hr, hB'⟩ := hB
    obtain ⟨o, ho, hg, hw⟩ := h
    refine ⟨fun h1 => by rw [h1] at hr; simp at hr, fun j hj => ?_⟩
    rw [hr] at hj
    have hji : j = i := by simpa using hj
    subst hji
    unfold wpOp
    simp only [ho]
    have hwant : Region.wanted o (yielded ops a.tmps) = true := by simp [Region.wanted, hg]
    rw [if_pos hwant]
    exact .inl (Oper.wp_mono (fun a' w' h' => forced_any hL r _ a' w' hB' h') hw)
theorem pure_any {g : Nat} {k : Array Bool → Bool} {K : Act → Prop} {w : World} (hs : Region.noSelect ops = true) (hQ : ∀ (o : Oper) (v : Value) c a w, Q (.panic c) (a.put o.dst v) w → Q (.panic c) a w) (hL : ∀ done a, k done = true → K a → wpAny P md ops Q g done a w) :
    ∀ (ps : List Nat) (done : Array Bool) (a : Act), pureB md ops k ps done = true → takes P ops (fun _ => True) K ps a → wpAny P md ops Q (g + ps.length) done a w
  | [], done, a, hB, h => hL done a hB h
  | i :: r, done, a, hB, h => by
    simp only [pureB, Bool.and_eq_true] at hB
    obtain ⟨hr, hf, hB'⟩ := hB
    obtain ⟨o, v, ho, hy, hrest⟩ := h
    exact wpAny_take ho hs hf hr (hQ o v) (hy.imp (fun h => ⟨h.1, fun w => h.2 w trivial⟩) id) (pure_any hs hQ hL r _ _ hB' hrest)
theorem wp_region_forced {id : Nat} {a : Act} {w : World} {l : List Oper} (hs ts ps : List Nat) (m : Nat) (hm : P.follows .mixedOrders = true) (hlen : hs.length + ts.length + ps.length = m)
    (hB : (Region.noSelect l.toArray && (decide (m < l.length) && (Region.sinkB .any l.toArray hs.length && (chainB2 .any l.toArray hs.length && (decide (hs.length < l.length) &&
      takeB .any l.toArray hs.length (fun d => ((Region.ready .any l.toArray d).all fun j => decide (hs.length ≤ j)) && forcedB .any l.toArray (fun d' => pureB .any l.toArray (fun d2 => Region.seqB .any l.toArray (l.length - m) m d2) ps d') ts d) hs (Array.replicate l.length false)))))) = true)
    (h : takes P l.toArray (fun w' => w' = w.drew) (fun a1 => forced P l.toArray (NoPanic Q) (fun a2 w2 => takes P l.toArray (fun _ => True) (fun a3 => wpList P l.toArray (NoPanic Q) (l.drop m) a3 w2) ps a2) ts a1 w.drew) hs a) : (Code.region id l.toArray true).wp P Q a w := by
  simp only [Bool.and_eq_true, decide_eq_true_eq] at hB
  obtain ⟨hsel, hm', hsk, hch, hn', htk⟩ := hB
  have hn : hs.length < l.toArray.size := by simpa using hn'
  have hdl : (l.drop m).length = l.length - m := by simp
  have inv0 : HeadInv .any l.toArray hs.length (Array.replicate l.length false) :=
    ⟨by simp, fun j oj _ hl => (by rw [getD_replicate_false] at hl; cases hl), fun t _ ht => getD_in (by simpa using ht) (getD_replicate_false _ _)⟩
  refine wp_region_noPanic (wp_region_any hm ?_)
  have hQ : ∀ (o : Oper) (v : Value) (c) (a : Act) (w : World), NoPanic Q (.panic c) (a.put o.dst v) w → NoPanic Q (.panic c) a w := fun _ _ _ _ _ h => h.elim
  have H := take_mix2 (P := P) (C := fun w' => w' = w.drew) (Q := NoPanic Q) (w := w.drew) (L := fun done a w' => (∀ j ∈ Region.ready .any l.toArray done, hs.length ≤ j) ∧ wpAny P .any l.toArray (NoPanic Q) (l.length - m + ps.length + ts.length) done a w')
    (k := fun d => ((Region.ready .any l.toArray d).all fun j => decide (hs.length ≤ j)) && forcedB .any l.toArray (fun d' => pureB .any l.toArray (fun d2 => Region.seqB .any l.toArray (l.length - m) m d2) ps d') ts d)
    (K := fun a1 => forced P l.toArray (NoPanic Q) (fun a2 w2 => takes P l.toArray (fun _ => True) (fun a3 => wpList P l.toArray (NoPanic Q) (l.drop m) a3 w2) ps a2) ts a1 w.drew)
    hsel hsk hch hn (fun _ _ _ hL => hL.1) hQ rfl
    (fun done a hk hK => by
      simp only [Bool.and_eq_true, List.all_eq_true, decide_eq_true_eq] at hk
      refine ⟨hk.1, forced_any (fun d2 a2 w2 hd hw => ?_) ts done a w.drew hk.2 hK⟩
      refine pure_any hsel hQ (fun d3 a3 hd3 hw3 => ?_) ps d2 a2 hd hw
      have := wpAny_of_seq (P := P) (md := .any) (ops := l.toArray) (Q' := NoPanic Q) (l.drop m) m d3 a3 w2 (fun j => by simp [List.getElem?_drop]) (by rw [hdl]; exact hd3) hw3
      rwa [hdl] at this) hs _ a inv0 htk h
  have H2 := mixAny_any (g := l.length - m + ps.length + ts.length) (fun done a' w' hL => hL.2) _ _ _ _ H
  have hsz : l.toArray.size = hs.length + (l.length - m + ps.length + ts.length) := by simp; omega
  rw [hsz, show hs.length + (l.length - m + ps.length + ts.length) = l.length by omega]
  rw [show hs.length + (l.length - m + ps.length + ts.length) = l.length by omega] at H2
  exact H2
/-- a whole struct's row read -/
theorem read_row {o : Oper} {a : Act} (ty : TypeId) (x : Operand) (ho : o.op = .load ty x) (hgd : o.guard = none)
    (g : Nat) (hx : a.eval x = .pointer (some ⟨g, 0, none⟩)) (t : TypeId) (cs : Array Value) (fr : Nat × Nat) (d : TypeDesc) (hg : ∀ w, C w → w.heap[g]? = some (.cells cs t fr))
    (hu : P.underlying ty = some d) (hd : (match d with | .struct _ | .array _ _ => true | _ => false) = true) (hi : (P.info? ty).map (·.size) = some cs.size) : YieldsIf P ops C o (.agg cs) a := by
  refine .inl ⟨by simp [Region.wanted, hgd], fun w hw => ?_⟩
  unfold execOp
  simp only [ho, hx, Instr.loadAt, Instr.sureAddr, Sem.run_bind, Sem.run_pure, Result.andThen_ok, run_loadVar_row w g t ty cs fr d (hg w hw) hu hd hi]
end
end Go.Proofs.Ytgkadhogfejheaa.Mem
end
