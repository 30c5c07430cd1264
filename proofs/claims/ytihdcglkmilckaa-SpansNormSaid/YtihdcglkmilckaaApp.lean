/- Words on bytes that are appended; no program in sight. -/
import Derived.Test.YtihdcglkmilckaaMem
namespace Go.Proofs.Ytihdcglkmilckaa.Mem
open Go.RowKit

def cellsOf (l : List UInt8) : List Value := l.map fun c => Value.int .u8 c.toNat
theorem cellsOf_append (a b : List UInt8) : cellsOf (a ++ b) = cellsOf a ++ cellsOf b := by simp [cellsOf]
theorem cellsOf_length (a : List UInt8) : (cellsOf a).length = a.length := by simp [cellsOf]
theorem bytes_eq (l : List UInt8) : bytes l = (cellsOf l).toArray := rfl

/-- row g has room for c bytes and holds l at its head -/
def Room (w : World) (g : Nat) (T : TypeId) (l : List UInt8) (c : Nat) : Prop :=
  ∃ cells : Array Value, w.heap[g]? = some (.cells cells T (0, 0)) ∧ cells.size = c ∧ l.length ≤ c ∧ cells.toList.take l.length = cellsOf l

theorem Room.of_new {w w1 : World} {cs : Array Value} {T : TypeId} (h : New w w1 cs T) : Room w1 w.heap.size T [] cs.size := ⟨cs, h.row, rfl, Nat.zero_le _, rfl⟩
theorem Room.same {w w1 : World} {g : Nat} {T : TypeId} {l : List UInt8} {c : Nat} (h : Room w g T l c) (he : w1.heap[g]? = w.heap[g]?) : Room w1 g T l c := by
  obtain ⟨cs, h1, h2⟩ := h; exact ⟨cs, he.trans h1, h2⟩
theorem Room.lt {w : World} {g : Nat} {T : TypeId} {l : List UInt8} {c : Nat} (h : Room w g T l c) : g < w.heap.size := by
  obtain ⟨cs, h1, h2⟩ := h; exact (Array.getElem?_eq_some_iff.1 h1).1
theorem Room.cell {w : World} {g : Nat} {T : TypeId} {l : List UInt8} {c : Nat} (h : Room w g T l c) (i : Nat) (hi : i < l.length) : w.cell? ⟨g, i, none⟩ = some (.int .u8 (l[i].toNat : Int)) := by
  obtain ⟨cs, h1, h2, h3, h4⟩ := h
  rw [cell_of_row w g i _ _ _ h1]
  have : (cs.toList.take l.length)[i]? = (cellsOf l)[i]? := by rw [h4]
  rw [List.getElem?_take_of_lt hi] at this
  simpa [cellsOf, hi] using this

section
variable {P : Program} {ops : Array Oper} {rest : List Oper} {o : Oper} {a : Act} {w : World} {Q : Exit → Act → World → Prop}

/-- append(s, b) where there is room -/
theorem wpList_append_room (hgd : o.guard = none) (s x : Operand) (t : TypeId) (ho : o.op = .call { callee := .builtin .append, args := #[s, x], argTypes := #[t, t] })
    (e : TypeId) (ht : P.underlying t = some (.slice e)) (hi : (P.info? e).map (·.size) = some 1) (g : Nat) (T : TypeId) (l : List UInt8) (c : Nat) (hs : a.eval s = .slice (some ⟨g, 0, none⟩) l.length c)
    (hr : Room w g T l c) (hlt : l.length < c) (ad : Addr) (ca : Nat) (z : Int) (b : UInt8) (hz : z = b.toNat) (hx : a.eval x = .slice (some ad) 1 ca) (hc : w.cell? ad = some (.int .u8 z))
    (h : ∀ w', Room w' g T (l ++ [b]) c → Below g w w' → w'.heap.size = w.heap.size → wpList P ops Q rest (a.put o.dst (.slice (some ⟨g, 0, none⟩) (l ++ [b]).length c)) w') : wpList P ops Q (o :: rest) a w := by
  subst hz
  obtain ⟨cs, h1, h2, h3, h4⟩ := hr
  cases hq : P.info? e with
  | none => simp [hq] at hi
  | some i =>
    have his : i.size = 1 := by simpa [hq] using hi
    have hf := run_firstCells_some (P := P) w i.size 1 ad 1 ca [.int .u8 b.toNat] (by simp [his]) (by
      intro j u hj
      match j, hj with
      | 0, hj => simp at hj; subst hj; have : ad.add 0 = ad := by unfold Addr.add; split <;> simp_all
                 rw [this]; exact hc
      | j + 1, hj => simp at hj)
    have hst := run_storeCells_at P g (l.length * i.size) T [.int .u8 b.toNat] 0 cs w h1 (by simp [his]; omega) (by simp [Value.oneCell'])
    refine wpList_plain hgd fun K hK => ?_
    unfold Oper.wp execOp
    simp only [Nat.add_zero] at hst
    simp [ho, resolve, invoke, builtin, hs, hx, Builtin.append_, run_underlying ht, sizeOf, typeInfo, hq, Builtin.lenOf, hf, Addr.add_lit, hst, show l.length + 1 ≤ c from hlt]
    refine hK _ _ ?_
    have hp := put_setRow w g (cs.toList.take (l.length * i.size) ++ [Value.int .u8 b.toNat] ++ cs.toList.drop (l.length * i.size + 1)).toArray cs T h1
    have := h _ ⟨_, hp.row, ?_, ?_, ?_⟩ (hp.below (Nat.le_refl _)) hp.size
    · simpa using this
    · simp [his]; omega
    · simp; omega
    · rw [cellsOf_append]
      simp only [his, Nat.mul_one, h4, List.length_append, List.length_singleton]
      rw [List.take_left' (by simp [cellsOf_length])]
      rfl

/-- append(s, b), s a row that the call owns, or nil -/
theorem wpList_append_byte (hgd : o.guard = none) (s x : Operand) (t : TypeId) (ho : o.op = .call { callee := .builtin .append, args := #[s, x], argTypes := #[t, t] })
    (e : TypeId) (ht : P.underlying t = some (.slice e)) (hi : (P.info? e).map (fun i => (i.zero, i.size, i.bytes)) = some (some (.int .u8 0), 1, 1)) (B : Nat) (v : Value) (l : List UInt8) (hs : a.eval s = v)
    (hown : w.ownsRow B e 1 v l.length (cellsOf l)) (hB : B ≤ w.heap.size) (hlen : l.length < 140737488355328) (ad : Addr) (ca : Nat) (z : Int) (b : UInt8) (hz : z = b.toNat) (hx : a.eval x = .slice (some ad) 1 ca) (hc : w.cell? ad = some (.int .u8 z))
    (h : ∀ v' w', w'.ownsRow B e 1 v' (l ++ [b]).length (cellsOf (l ++ [b])) → Below B w w' → wpList P ops Q rest (a.put o.dst v') w') : wpList P ops Q (o :: rest) a w := by
  subst hz
  obtain ⟨i, hi2, hz, hs1, hb1⟩ := info_parts hi
  refine wpList_append_own _ hgd s x t ho B e i (.int .u8 0) 1 1 ht hi2 hz hs1 hb1 rfl (by decide) v l.length (cellsOf l) hs hown ad 1 ca [.int .u8 b.toNat] hx rfl ?_ ?_ (by unfold maxLen; omega) (by omega) hB ?_
  · intro j u hj
    match j, hj with
    | 0, hj => simp at hj; subst hj; have : ad.add 0 = ad := by unfold Addr.add; split <;> simp_all
               rw [this]; exact hc
    | j + 1, hj => simp at hj
  · intro u hu; simp at hu; subst hu; rfl
  · intro v' w' ho' hg _
    refine h v' w' ?_ ((Below.refl _ _).grown hg hB fun k hk => (hown.lt k hk).1)
    simpa [cellsOf_append, cellsOf] using ho'

/-- string(v), v a row that the call owns -/
theorem wpList_own_string (hgd : o.guard = none) (src dst e : TypeId) (x : Operand) (ho : o.op = .convert src dst x)
    (hs : P.underlying src = some (.slice e)) (he : P.underlying e = some (.int .u8)) (hd : P.underlying dst = some .string)
    (B : Nat) (v : Value) (l : List UInt8) (hx : a.eval x = v) (hown : w.ownsRow B e 1 v l.length (cellsOf l)) (hpos : 0 < l.length)
    (h : wpList P ops Q rest (a.put o.dst (.string (str l))) w) : wpList P ops Q (o :: rest) a w := by
  rcases hown.2 with ⟨_, h0⟩ | ⟨g, cap, cur, rfl, _⟩
  · omega
  · refine wpList_bytes_string hgd src dst e x ho hs he hd g 0 l.length cap hx l rfl ?_ h
    intro i hi
    rw [Nat.zero_add, hown.cellAt i (by omega)]
    simp [cellsOf, hi]
end
end Go.Proofs.Ytihdcglkmilckaa.Mem
