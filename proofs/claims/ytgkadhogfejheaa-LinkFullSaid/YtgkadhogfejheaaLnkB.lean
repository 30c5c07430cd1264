/- Words on memory for a link's end: the row of bodies that wait; the map of those that came early; the end itself. -/
import Derived.Test.YtgkadhogfejheaaLnkA
import Derived.Test.YtgkadhogfejheaaRow
import Derived.Maps.OwnSet
import Derived.OwnWalk
namespace Go.Proofs.Ytgkadhogfejheaa
open Go.RowKit

namespace Lnk
structure Wt where
  seq : Nat
  tries : Nat
  sent : Nat
  body : List UInt8
def Wt.vals (s : Wt) : List Value := [.int .i64 s.seq, .int .i64 s.tries, .int .i64 s.sent, .string (Mem.str s.body)]
def flat (l : List Wt) : List Value := l.flatMap Wt.vals
theorem flat_append (l m : List Wt) : flat (l ++ m) = flat l ++ flat m := by unfold flat; rw [List.flatMap_append]
theorem flat_cons (s : Wt) (l : List Wt) : flat (s :: l) = .int .i64 s.seq :: .int .i64 s.tries :: .int .i64 s.sent :: .string (Mem.str s.body) :: flat l := rfl
theorem flat_length (l : List Wt) : (flat l).length = l.length * 4 := by
  induction l with
  | nil => rfl
  | cons s l ih => rw [flat_cons]; simp only [List.length_cons, ih]; omega
theorem flat_at (l : List Wt) (i j : Nat) (x : Wt) (h : l[i]? = some x) (hj : j < 4) : (flat l)[i * 4 + j]? = x.vals[j]? := by
  induction l generalizing i with
  | nil => cases h
  | cons s l ih =>
    cases i with
    | zero =>
      simp at h
      subst h
      rw [flat_cons]
      rcases j with _ | _ | _ | _ | j
      · rfl
      · rfl
      · rfl
      · rfl
      · omega
    | succ i =>
      rw [flat_cons, show (i + 1) * 4 + j = i * 4 + j + 4 by omega]
      simpa using ih i (by simpa using h)
/-- a row of bodies, from block base on -/
def Own (w : World) (base : Nat) (v : Value) (l : List Wt) : Prop := Mem.Row w base 80 4 v l.length (flat l)
theorem own_nil (w : World) (base : Nat) : Own w base (.slice none 0 0) [] := Mem.row_nil w base _ _
theorem info_wt : (Try.prog.info? 80).map (fun i => (i.zero, i.size, i.bytes)) = some (some (.agg #[.int .i64 0, .int .i64 0, .int .i64 0, .string ⟨#[]⟩]), 4, 40) := by kernel_rfl
theorem own_snoc {w : World} {base : Nat} {v : Value} {l : List Wt} {t : Wt} (h : Mem.Row w base 80 4 v (l.length + 1) (flat l ++ t.vals)) : Own w base v (l ++ [t]) := by
  unfold Own
  rw [flat_append, List.length_append]
  simpa [flat] using h

/-- the map of the bodies that came early: block b, at most n entries -/
def Mp (w : World) (b n : Nat) (E : Nat → Option (List UInt8)) : Prop :=
  ∃ D : DataW Unit, w.ownsMap Try.prog 3 (plainElem Try.prog 9) b n D ∧ ∀ k : Nat, k < 4611686018427387904 →
    Maps.has D (.int .i64 k) = (E k).isSome ∧ ∀ z, D.atKey (.int .i64 k) z = match E k with | some s => .lit (.string s) | none => z
theorem key_wf (k : Nat) (hk : k < 4611686018427387904) : (Lit.int .i64 (k : Int)).wf = true := by
  simp only [Lit.wf, Bool.and_eq_true, decide_eq_true_eq]
  constructor
  · exact Int.le_trans (by decide) (Int.natCast_nonneg k)
  · exact Int.le_trans (show (k : Int) ≤ 4611686018427387904 by omega) (by decide)
theorem key_of (k : Nat) (hk : k < 4611686018427387904) : keyOf Try.prog 3 (.int .i64 (k : Int)) = some (.int .i64 (k : Int)) := Maps.keyOf_int_mk Try.underlying3 (key_wf k hk)
theorem keyed : Maps.Keyed Try.prog 3 := Maps.int_keyed Try.underlying3
theorem str_read (s : List UInt8) (hs : s.length ≤ maxLen) : plainElem (H := Unit) Try.prog 9 (.string (Mem.str s)) = some (.lit (.string s), []) := by
  have h : (Mem.str s).size ≤ maxLen := Nat.le_trans (Nat.le_of_eq (Mem.str_size s)) hs
  have h2 := plainElem_string (H := Unit) Try.underlying9 h
  exact h2.trans (by rw [Mem.str_toList])
theorem key_ne {i k : Nat} (h : k ≠ i) : (Lit.int .i64 (k : Int)) ≠ .int .i64 (i : Int) := fun e => h (by injection e; omega)
theorem is_key (k : Nat) : WideAt.IsKeyLit (.int .i64 (k : Int)) := trivial
theorem plain_string_of {P : Program} {e : TypeId} (he : P.underlying e = some .string) {v : Value} {z : DataW Unit × List MemPlace} (h : plainElem P e v = some z) : ∃ s, v = .string s ∧ z = (.lit (.string s.data.toList), []) := by
  unfold plainElem at h
  rw [he] at h
  cases v <;> simp at h
  exact ⟨_, rfl, h.2.symm⟩
theorem plain_string {v : Value} {z : DataW Unit × List MemPlace} (h : plainElem Try.prog 9 v = some z) : ∃ s, v = .string s ∧ z = (.lit (.string s.data.toList), []) := plain_string_of Try.underlying9 h
theorem mp_made (w : World) : Mp (w.alloc (.map #[] 0)) w.heap.size 0 (fun _ => none) :=
  ⟨.map [], World.ownsMap_made w _ _ _, fun _ _ => ⟨rfl, fun _ => rfl⟩⟩
theorem mp_keep {w w1 : World} {b n : Nat} {E : Nat → Option (List UInt8)} (h : Mp w b n E) (hb : w1.heap[b]? = w.heap[b]?) : Mp w1 b n E := by
  obtain ⟨D, ⟨es, clock, h1, r⟩, h2⟩ := h
  exact ⟨D, ⟨es, clock, hb.trans h1, r⟩, h2⟩
theorem mp_lt {w : World} {b n : Nat} {E : Nat → Option (List UInt8)} (h : Mp w b n E) : b < w.heap.size := by
  obtain ⟨D, h1, _⟩ := h
  exact h1.lt
theorem info_str : (Try.prog.info? 9).map (fun i => (i.zero, i.size, i.bytes)) = some (some (.string ⟨#[]⟩), 1, 16) := by kernel_rfl
theorem zero_string (w : World) : (zeroValue 9).run Try.prog w = .ok (.string ⟨#[]⟩) w := by
  obtain ⟨i, hi, hz, _, _⟩ := info_parts info_str
  simp [zeroValue, typeInfo, hi, hz]
/-- v, ok := m[k] -/
theorem mp_look {w : World} {b n : Nat} {E : Nat → Option (List UInt8)} (h : Mp w b n E) (k : Nat) (hk : k < 4611686018427387904) :
    (Instr.lookup 74 (.map (some b)) (.int .i64 k) true).run Try.prog w = .ok (.tuple #[.string (Mem.str ((E k).getD [])), .bool (E k).isSome]) w := by
  obtain ⟨D, h1, h2⟩ := h
  obtain ⟨v, ps, hrun, hv⟩ := h1.look_ok keyed Try.underlying74 (zero_string w) (str_read [] (by simp)) (key_of k hk)
  obtain ⟨s, rfl, hs⟩ := plain_string hv
  simp only [Prod.mk.injEq] at hs
  have hh := h2 k hk
  rw [hrun, hh.1]
  rw [hh.2] at hs
  have he : Mem.str ((E k).getD []) = s := by
    cases he : E k with
    | none => rw [he] at hs; have := hs.1; simp at this; rw [Option.getD_none]; apply ByteArray.ext; rw [this]; rfl
    | some x => rw [he] at hs; have := hs.1; simp at this; rw [Option.getD_some, this]; exact Mem.str_of s
  rw [he]
def upd (E : Nat → Option (List UInt8)) (k : Nat) (x : Option (List UInt8)) : Nat → Option (List UInt8) := fun i => if i = k then x else E i
/-- m[k] = s -/
theorem mp_store {w : World} {b n : Nat} {E : Nat → Option (List UInt8)} (h : Mp w b n E) (k : Nat) (hk : k < 4611686018427387904) (s : List UInt8) (hs : s.length ≤ maxLen) (hn : n < maxLen) :
    ∃ w', (Instr.mapUpdate 74 (.map (some b)) (.int .i64 k) (.string (Mem.str s))).run Try.prog w = .ok () w' ∧ Mp w' b (n + 1) (upd E k (some s)) ∧ w.mapTurned w' b := by
  obtain ⟨D, h1, h2⟩ := h
  obtain ⟨w', hrun, h3, h4⟩ := h1.store keyed Try.underlying74 hn (key_of k hk) (str_read s hs)
  refine ⟨w', hrun, ⟨_, h3, fun i hi => ?_⟩, h4⟩
  by_cases hik : i = k
  · subst hik
    exact ⟨by rw [Maps.has_put_same h1.isMap (is_key i)]; simp [upd], fun z => by rw [Maps.atKey_put_same h1.isMap (is_key i)]; simp [upd]⟩
  · exact ⟨by rw [Maps.has_put_other (key_ne hik), (h2 i hi).1]; simp [upd, hik], fun z => by rw [Maps.atKey_put_other (key_ne hik), (h2 i hi).2]; simp [upd, hik]⟩
/-- delete(m, k) -/
theorem mp_drop {w : World} {b n : Nat} {E : Nat → Option (List UInt8)} (h : Mp w b n E) (k : Nat) (hk : k < 4611686018427387904) (ty : TypeId) :
    ∃ w', (Builtin.delete_ #[74, 3] ty #[.map (some b), .int .i64 k]).run Try.prog w = .ok (.tuple #[]) w' ∧ Mp w' b n (upd E k none) ∧ w.mapTurned w' b := by
  obtain ⟨D, h1, h2⟩ := h
  obtain ⟨w', hrun, h3, h4⟩ := h1.drop keyed Try.underlying74 (key_of k hk) ty
  refine ⟨w', hrun, ⟨_, h3, fun i hi => ?_⟩, h4⟩
  by_cases hik : i = k
  · subst hik
    exact ⟨by rw [Maps.has_del_same]; simp [upd], fun z => by rw [Maps.atKey_del_same]; simp [upd]⟩
  · exact ⟨by rw [Maps.has_del_other (key_ne hik), (h2 i hi).1]; simp [upd, hik], fun z => by rw [Maps.atKey_del_other (key_ne hik), (h2 i hi).2]; simp [upd, hik]⟩

/-- an end -/
structure St where
  site : Nat
  now : Nat
  given : Nat
  top : Nat
  got : Nat
  mean : Nat
  dev : Nat
  any : Bool
  owed : Bool
  refused : Nat
  out : List Wt
  early : Nat → Option (List UInt8)
  room : Nat
def St.cells (e : St) (out early : Value) : Array Value :=
  #[.int .i64 e.site, .int .i64 e.now, out, .int .i64 e.given, .int .i64 e.top, .int .i64 e.got, early, .float .f64 e.mean, .float .f64 e.dev, .bool e.any, .bool e.owed, .int .i64 e.refused]
/-- it lies at block g; its blocks are those of F -/
structure Lie (w : World) (g : Nat) (F : Nat → Prop) (e : St) (out : Value) (b : Nat) : Prop where
  row : w.heap[g]? = some (.cells (e.cells out (.map (some b))) 77 (0, 0))
  own : Own w 0 out e.out
  map : Mp w b e.room e.early
  gb : g ≠ b
  og : out.ownBlock ≠ some g
  ob : out.ownBlock ≠ some b
  fg : F g
  fb : F b
  fo : ∀ k, out.ownBlock = some k → F k
  lt : ∀ k, F k → k < w.heap.size
def At (w : World) (g : Nat) (F : Nat → Prop) (e : St) : Prop := ∃ out b, Lie w g F e out b
theorem Lie.keep {w w1 : World} {g : Nat} {F : Nat → Prop} {e : St} {out : Value} {b : Nat} (h : Lie w g F e out b) {G : Nat → Prop} (hb : Mem.But G w w1) (hG : ∀ k, F k → ¬ G k) : Lie w1 g F e out b where
  row := (hb.block g (h.lt g h.fg) (hG g h.fg)).trans h.row
  own := h.own.keep fun k hk ho => hb.block k hk (hG k (h.fo k ho))
  map := mp_keep h.map (hb.block b (h.lt b h.fb) (hG b h.fb))
  gb := h.gb
  og := h.og
  ob := h.ob
  fg := h.fg
  fb := h.fb
  fo := h.fo
  lt := fun k hk => Nat.lt_of_lt_of_le (h.lt k hk) hb.size
theorem At.keep {w w1 : World} {g : Nat} {F : Nat → Prop} {e : St} (h : At w g F e) {G : Nat → Prop} (hb : Mem.But G w w1) (hG : ∀ k, F k → ¬ G k) : At w1 g F e := by
  obtain ⟨out, b, h⟩ := h
  exact ⟨out, b, h.keep hb hG⟩
theorem At.below {w w1 : World} {g : Nat} {F : Nat → Prop} {e : St} (h : At w g F e) (hb : Below w.heap.size w w1) : At w1 g F e := h.keep (Mem.But.of_below (S := fun _ => False) hb) fun _ _ h => h
end Lnk
end Go.Proofs.Ytgkadhogfejheaa
