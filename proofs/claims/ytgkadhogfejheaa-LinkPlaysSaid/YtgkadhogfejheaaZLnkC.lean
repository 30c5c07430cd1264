/- The walks of link.New and Send. -/
import Derived.Test.YtgkadhogfejheaaQM
import Derived.Maps.OwnSet
import Derived.OwnWalk
import Derived.Deep.RegionLaw
import Derived.Carry
set_option linter.unusedVariables false
set_option linter.unusedSimpArgs false
/-! The small methods of a link's end. -/
namespace Go.Proofs.Ytgkadhogfejheaa
open Go.RowKit

set_option maxHeartbeats 400000 in
theorem waits_at (g : Nat) (A : Option Addr) (n c : Nat) (w : World) (h : w.cell? ⟨g, 2, none⟩ = some (.slice A n c)) : Calls Try.prog 26 #[.pointer (some ⟨g, 0, none⟩)] w fun e w' => e = .returned (.int .i64 n) ∧ w' = w := by
  go_enter Try.func26, Try.ntmps26
  go_wp2
  go_ret
  exact ⟨rfl, rfl⟩

set_option maxHeartbeats 400000 in
theorem got_at (g : Nat) (n : Int) (w : World) (h : w.cell? ⟨g, 5, none⟩ = some (.int .i64 n)) : Calls Try.prog 12 #[.pointer (some ⟨g, 0, none⟩)] w fun e w' => e = .returned (.int .i64 n) ∧ w' = w := by
  go_enter Try.func12, Try.ntmps12
  go_wp2
  go_ret
  exact ⟨rfl, rfl⟩

end Go.Proofs.Ytgkadhogfejheaa

/-! Words on memory for a link's end: the row of bodies that wait; the map of those that came early; the end itself. -/
namespace Go.Proofs.Ytgkadhogfejheaa
open Go.RowKit

namespace Lnk
structure Wt where
  seq : Nat
  tries : Nat
  sent : Nat
  body : List UInt8
def Wt.vals (s : Wt) : List Value := [.int .i64 s.seq, .int .i64 s.tries, .int .i64 s.sent, .string (Mem.str s.body)]
def flat (l : List Wt) : List Value := l.flatMap Wt.vals
theorem flat_append (l m : List Wt) : flat (l ++ m) = flat l ++ flat m := by unfold flat; rw [List.flatMap_append]
theorem flat_cons (s : Wt) (l : List Wt) : flat (s :: l) = .int .i64 s.seq :: .int .i64 s.tries :: .int .i64 s.sent :: .string (Mem.str s.body) :: flat l := rfl
theorem flat_length (l : List Wt) : (flat l).length = l.length * 4 := by
  induction l with
  | nil => rfl
  | cons s l ih => rw [flat_cons]; simp only [List.length_cons, ih]; omega
theorem flat_at (l : List Wt) (i j : Nat) (x : Wt) (h : l[i]? = some x) (hj : j < 4) : (flat l)[i * 4 + j]? = x.vals[j]? := by
  induction l generalizing i with
  | nil => cases h
  | cons s l ih =>
    cases i with
    | zero =>
      simp at h
      subst h
      rw [flat_cons]
      rcases j with _ | _ | _ | _ | j
      · rfl
      · rfl
      · rfl
      · rfl
      · omega
    | succ i =>
      rw [flat_cons, show (i + 1) * 4 + j = i * 4 + j + 4 by omega]
      simpa using ih i (by simpa using h)
/-- a row of bodies, from block base on -/
def Own (w : World) (base : Nat) (v : Value) (l : List Wt) : Prop := Mem.Row w base 80 4 v l.length (flat l)
theorem own_nil (w : World) (base : Nat) : Own w base (.slice none 0 0) [] := Mem.row_nil w base _ _
theorem info_wt : (Try.prog.info? 80).map (fun i => (i.zero, i.size, i.bytes)) = some (some (.agg #[.int .i64 0, .int .i64 0, .int .i64 0, .string ⟨#[]⟩]), 4, 40) := by kernel_rfl
theorem own_snoc {w : World} {base : Nat} {v : Value} {l : List Wt} {t : Wt} (h : Mem.Row w base 80 4 v (l.length + 1) (flat l ++ t.vals)) : Own w base v (l ++ [t]) := by
  unfold Own
  rw [flat_append, List.length_append]
  simpa [flat] using h

/-- the map of the bodies that came early: block b, at most n entries -/
def Mp (w : World) (b n : Nat) (E : Nat → Option (List UInt8)) : Prop :=
  ∃ D : DataW Unit, w.ownsMap Try.prog 3 (plainElem Try.prog 9) b n D ∧ ∀ k : Nat, k < 4611686018427387904 →
    Maps.has D (.int .i64 k) = (E k).isSome ∧ ∀ z, D.atKey (.int .i64 k) z = match E k with | some s => .lit (.string s) | none => z
theorem key_wf (k : Nat) (hk : k < 4611686018427387904) : (Lit.int .i64 (k : Int)).wf = true := by
  simp only [Lit.wf, Bool.and_eq_true, decide_eq_true_eq]
  constructor
  · exact Int.le_trans (by decide) (Int.natCast_nonneg k)
  · exact Int.le_trans (show (k : Int) ≤ 4611686018427387904 by omega) (by decide)
theorem key_of (k : Nat) (hk : k < 4611686018427387904) : keyOf Try.prog 3 (.int .i64 (k : Int)) = some (.int .i64 (k : Int)) := Maps.keyOf_int_mk Try.underlying3 (key_wf k hk)
theorem keyed : Maps.Keyed Try.prog 3 := Maps.int_keyed Try.underlying3
theorem str_read (s : List UInt8) (hs : s.length ≤ maxLen) : plainElem (H := Unit) Try.prog 9 (.string (Mem.str s)) = some (.lit (.string s), []) := by
  have h : (Mem.str s).size ≤ maxLen := Nat.le_trans (Nat.le_of_eq (Mem.str_size s)) hs
  have h2 := plainElem_string (H := Unit) Try.underlying9 h
  exact h2.trans (by rw [Mem.str_toList])
theorem key_ne {i k : Nat} (h : k ≠ i) : (Lit.int .i64 (k : Int)) ≠ .int .i64 (i : Int) := fun e => h (by injection e; omega)
theorem is_key (k : Nat) : WideAt.IsKeyLit (.int .i64 (k : Int)) := trivial
theorem plain_string_of {P : Program} {e : TypeId} (he : P.underlying e = some .string) {v : Value} {z : DataW Unit × List MemPlace} (h : plainElem P e v = some z) : ∃ s, v = .string s ∧ z = (.lit (.string s.data.toList), []) := by
  unfold plainElem at h
  rw [he] at h
  cases v <;> simp at h
  exact ⟨_, rfl, h.2.symm⟩
theorem plain_string {v : Value} {z : DataW Unit × List MemPlace} (h : plainElem Try.prog 9 v = some z) : ∃ s, v = .string s ∧ z = (.lit (.string s.data.toList), []) := plain_string_of Try.underlying9 h
theorem mp_made (w : World) : Mp (w.alloc (.map #[] 0)) w.heap.size 0 (fun _ => none) :=
  ⟨.map [], World.ownsMap_made w _ _ _, fun _ _ => ⟨rfl, fun _ => rfl⟩⟩
theorem mp_keep {w w1 : World} {b n : Nat} {E : Nat → Option (List UInt8)} (h : Mp w b n E) (hb : w1.heap[b]? = w.heap[b]?) : Mp w1 b n E := by
  obtain ⟨D, ⟨es, clock, h1, r⟩, h2⟩ := h
  exact ⟨D, ⟨es, clock, hb.trans h1, r⟩, h2⟩
theorem mp_lt {w : World} {b n : Nat} {E : Nat → Option (List UInt8)} (h : Mp w b n E) : b < w.heap.size := by
  obtain ⟨D, h1, _⟩ := h
  exact h1.lt
theorem info_str : (Try.prog.info? 9).map (fun i => (i.zero, i.size, i.bytes)) = some (some (.string ⟨#[]⟩), 1, 16) := by kernel_rfl
theorem zero_string (w : World) : (zeroValue 9).run Try.prog w = .ok (.string ⟨#[]⟩) w := by
  obtain ⟨i, hi, hz, _, _⟩ := info_parts info_str
  simp [zeroValue, typeInfo, hi, hz]
/-- v, ok := m[k] -/
theorem mp_look {w : World} {b n : Nat} {E : Nat → Option (List UInt8)} (h : Mp w b n E) (k : Nat) (hk : k < 4611686018427387904) :
    (Instr.lookup 74 (.map (some b)) (.int .i64 k) true).run Try.prog w = .ok (.tuple #[.string (Mem.str ((E k).getD [])), .bool (E k).isSome]) w := by
  obtain ⟨D, h1, h2⟩ := h
  obtain ⟨v, ps, hrun, hv⟩ := h1.look_ok keyed Try.underlying74 (zero_string w) (str_read [] (by simp)) (key_of k hk)
  obtain ⟨s, rfl, hs⟩ := plain_string hv
  simp only [Prod.mk.injEq] at hs
  have hh := h2 k hk
  rw [hrun, hh.1]
  rw [hh.2] at hs
  have he : Mem.str ((E k).getD []) = s := by
    cases he : E k with
    | none => rw [he] at hs; have := hs.1; simp at this; rw [Option.getD_none]; apply ByteArray.ext; rw [this]; rfl
    | some x => rw [he] at hs; have := hs.1; simp at this; rw [Option.getD_some, this]; exact Mem.str_of s
  rw [he]
def upd (E : Nat → Option (List UInt8)) (k : Nat) (x : Option (List UInt8)) : Nat → Option (List UInt8) := fun i => if i = k then x else E i
/-- m[k] = s -/
theorem mp_store {w : World} {b n : Nat} {E : Nat → Option (List UInt8)} (h : Mp w b n E) (k : Nat) (hk : k < 4611686018427387904) (s : List UInt8) (hs : s.length ≤ maxLen) (hn : n < maxLen) :
    ∃ w', (Instr.mapUpdate 74 (.map (some b)) (.int .i64 k) (.string (Mem.str s))).run Try.prog w = .ok () w' ∧ Mp w' b (n + 1) (upd E k (some s)) ∧ w.mapTurned w' b := by
  obtain ⟨D, h1, h2⟩ := h
  obtain ⟨w', hrun, h3, h4⟩ := h1.store keyed Try.underlying74 hn (key_of k hk) (str_read s hs)
  refine ⟨w', hrun, ⟨_, h3, fun i hi => ?_⟩, h4⟩
  by_cases hik : i = k
  · subst hik
    exact ⟨by rw [Maps.has_put_same h1.isMap (is_key i)]; simp [upd], fun z => by rw [Maps.atKey_put_same h1.isMap (is_key i)]; simp [upd]⟩
  · exact ⟨by rw [Maps.has_put_other (key_ne hik), (h2 i hi).1]; simp [upd, hik], fun z => by rw [Maps.atKey_put_other (key_ne hik), (h2 i hi).2]; simp [upd, hik]⟩
/-- delete(m, k) -/
theorem mp_drop {w : World} {b n : Nat} {E : Nat → Option (List UInt8)} (h : Mp w b n E) (k : Nat) (hk : k < 4611686018427387904) (ty : TypeId) :
    ∃ w', (Builtin.delete_ #[74, 3] ty #[.map (some b), .int .i64 k]).run Try.prog w = .ok (.tuple #[]) w' ∧ Mp w' b n (upd E k none) ∧ w.mapTurned w' b := by
  obtain ⟨D, h1, h2⟩ := h
  obtain ⟨w', hrun, h3, h4⟩ := h1.drop keyed Try.underlying74 (key_of k hk) ty
  refine ⟨w', hrun, ⟨_, h3, fun i hi => ?_⟩, h4⟩
  by_cases hik : i = k
  · subst hik
    exact ⟨by rw [Maps.has_del_same]; simp [upd], fun z => by rw [Maps.atKey_del_same]; simp [upd]⟩
  · exact ⟨by rw [Maps.has_del_other (key_ne hik), (h2 i hi).1]; simp [upd, hik], fun z => by rw [Maps.atKey_del_other (key_ne hik), (h2 i hi).2]; simp [upd, hik]⟩

/-- an end -/
structure St where
  site : Nat
  now : Nat
  given : Nat
  top : Nat
  got : Nat
  mean : Nat
  dev : Nat
  any : Bool
  owed : Bool
  refused : Nat
  out : List Wt
  early : Nat → Option (List UInt8)
  room : Nat
def St.cells (e : St) (out early : Value) : Array Value :=
  #[.int .i64 e.site, .int .i64 e.now, out, .int .i64 e.given, .int .i64 e.top, .int .i64 e.got, early, .float .f64 e.mean, .float .f64 e.dev, .bool e.any, .bool e.owed, .int .i64 e.refused]
/-- it lies at block g; its blocks are those of F -/
structure Lie (w : World) (g : Nat) (F : Nat → Prop) (e : St) (out : Value) (b : Nat) : Prop where
  row : w.heap[g]? = some (.cells (e.cells out (.map (some b))) 77 (0, 0))
  own : Own w 0 out e.out
  map : Mp w b e.room e.early
  gb : g ≠ b
  og : out.ownBlock ≠ some g
  ob : out.ownBlock ≠ some b
  fg : F g
  fb : F b
  fo : ∀ k, out.ownBlock = some k → F k
  lt : ∀ k, F k → k < w.heap.size
def At (w : World) (g : Nat) (F : Nat → Prop) (e : St) : Prop := ∃ out b, Lie w g F e out b
theorem Lie.keep {w w1 : World} {g : Nat} {F : Nat → Prop} {e : St} {out : Value} {b : Nat} (h : Lie w g F e out b) {G : Nat → Prop} (hb : Mem.But G w w1) (hG : ∀ k, F k → ¬ G k) : Lie w1 g F e out b where
  row := (hb.block g (h.lt g h.fg) (hG g h.fg)).trans h.row
  own := h.own.keep fun k hk ho => hb.block k hk (hG k (h.fo k ho))
  map := mp_keep h.map (hb.block b (h.lt b h.fb) (hG b h.fb))
  gb := h.gb
  og := h.og
  ob := h.ob
  fg := h.fg
  fb := h.fb
  fo := h.fo
  lt := fun k hk => Nat.lt_of_lt_of_le (h.lt k hk) hb.size
theorem At.keep {w w1 : World} {g : Nat} {F : Nat → Prop} {e : St} (h : At w g F e) {G : Nat → Prop} (hb : Mem.But G w w1) (hG : ∀ k, F k → ¬ G k) : At w1 g F e := by
  obtain ⟨out, b, h⟩ := h
  exact ⟨out, b, h.keep hb hG⟩
theorem At.below {w w1 : World} {g : Nat} {F : Nat → Prop} {e : St} (h : At w g F e) (hb : Below w.heap.size w w1) : At w1 g F e := h.keep (Mem.But.of_below (S := fun _ => False) hb) fun _ _ h => h
end Lnk
end Go.Proofs.Ytgkadhogfejheaa

/-! The walks of link.New and Send. -/
namespace Go.Proofs.Ytgkadhogfejheaa
open Go.RowKit

namespace Lnk
def start (n : Nat) : St := ⟨n, 0, 0, 0, 0, 0, 0, false, false, 0, [], fun _ => none, 0⟩
theorem start_lie (n : Nat) (w : World) : Lie ((w.alloc (.map #[] 0)).alloc (.cells ((start n).cells (.slice none 0 0) (.map (some w.heap.size))) 77 (0, 0))) (w.heap.size + 1) (fun k => k = w.heap.size + 1 ∨ k = w.heap.size) (start n) (.slice none 0 0) w.heap.size where
  row := by
    have := heap_alloc_new (w.alloc (.map #[] 0)) (.cells ((start n).cells (.slice none 0 0) (.map (some w.heap.size))) 77 (0, 0))
    simpa using this
  own := own_nil _ _
  map := mp_keep (mp_made w) (heap_alloc_old _ _ (by simp))
  gb := by omega
  og := by simp [Value.ownBlock]
  ob := by simp [Value.ownBlock]
  fg := .inl rfl
  fb := .inr rfl
  fo := fun k h => by simp [Value.ownBlock] at h
  lt := fun k h => by simp; omega
end Lnk

set_option maxHeartbeats 1000000 in
theorem link_new (n : Nat) (hn : 1 ≤ n ∧ n ≤ 16) (w : World) : Calls Try.prog 17 #[.int .i64 n] w fun e w' =>
    e = .returned (.tuple #[.pointer (some ⟨w.heap.size + 1, 0, none⟩), .int .i64 0]) ∧ Lnk.At w' (w.heap.size + 1) (fun k => k = w.heap.size + 1 ∨ k = w.heap.size) (Lnk.start n) ∧ Below w.heap.size w w' := by
  have h1 : ¬ (n : Int) < 1 := by omega
  have h2 : ¬ (16 : Int) < n := by omega
  have hmm := @run_makeMap Try.prog
  go_enter Try.func17, Try.ntmps17
  go_wp2
  refine bodyPost_ret (results_tmp2 rfl _ _ _) rfl ⟨rfl, ⟨_, _, Lnk.start_lie n w⟩, ?_⟩
  exact (((Below.refl _ _).alloc (Nat.le_refl _) _).alloc (by simp) _)

theorem link_new_at (z : Int) (n : Nat) (hz : z = n) (hn : 1 ≤ n ∧ n ≤ 16) (w : World) : Calls Try.prog 17 #[.int .i64 z] w fun e w' =>
    e = .returned (.tuple #[.pointer (some ⟨w.heap.size + 1, 0, none⟩), .int .i64 0]) ∧ Lnk.At w' (w.heap.size + 1) (fun k => k = w.heap.size + 1 ∨ k = w.heap.size) (Lnk.start n) ∧ Below w.heap.size w w' := by
  subst hz
  exact link_new n hn w

set_option maxHeartbeats 1000000 in
theorem link_new_bad (n : Int) (hn : n < 1 ∨ 16 < n) (w : World) : Calls Try.prog 17 #[.int .i64 n] w fun e w' =>
    e = .returned (.tuple #[.pointer none, .int .i64 1]) ∧ w' = w := by
  have hmm := @run_makeMap Try.prog
  by_cases h1 : n < 1
  · go_enter Try.func17, Try.ntmps17
    go_wp2
    exact bodyPost_ret (results_tmp2 rfl _ _ _) rfl ⟨rfl, rfl⟩
  · have h2 : (16 : Int) < n := by omega
    go_enter Try.func17, Try.ntmps17
    go_wp2
    exact bodyPost_ret (results_tmp2 rfl _ _ _) rfl ⟨rfl, rfl⟩

set_option maxHeartbeats 1000000 in
theorem send_full (g : Nat) (F : Nat → Prop) (e : Lnk.St) (s : ByteArray) (hs : s.size ≤ 1048576) (hl : e.out.length = 64) (w : World) (h : Lnk.At w g F e) :
    Calls Try.prog 20 #[.pointer (some ⟨g, 0, none⟩), .string s] w fun e' w' => e' = .returned (.int .i64 6) ∧ w' = w := by
  obtain ⟨out, b, h⟩ := h
  obtain ⟨A, cap, rfl, h1, h2⟩ := h.own.form
  rw [hl] at h
  have c2 : w.cell? ⟨g, 2, none⟩ = some (.slice A 64 cap) := (cell_of_row _ _ 2 _ _ _ h.row).trans rfl
  have hd : ¬ 1048576 < (s.size : Int) := by omega
  clear h
  go_enter Try.func20, Try.ntmps20
  go_wp2
  go_ret
  exact ⟨rfl, rfl⟩

namespace Lnk
def send (e : St) (s : List UInt8) : St := { e with given := e.given + 1, out := e.out ++ [⟨e.given + 1, 0, 0, s⟩] }
end Lnk
set_option maxRecDepth 100000 in
set_option maxHeartbeats 1000000 in
theorem send_ok (g : Nat) (F : Nat → Prop) (e : Lnk.St) (s : List UInt8) (hs : s.length ≤ 1048576) (hl : e.out.length < 64) (hg : e.given < 1099511627776) (w : World) (h : Lnk.At w g F e) :
    Calls Try.prog 20 #[.pointer (some ⟨g, 0, none⟩), .string (Mem.str s)] w fun e' w' => e' = .returned (.int .i64 0) ∧
      Mem.But F w w' ∧ ∃ F', Lnk.At w' g F' (Lnk.send e s) ∧ ∀ k, F' k → F k ∨ w.heap.size ≤ k := by
  obtain ⟨site, now, given, top, got, mean, dev, any, owed, refused, l, early, room⟩ := e
  obtain ⟨out, b, h⟩ := h
  obtain ⟨A, cap, rfl, h1, h2⟩ := h.own.form
  have row := h.row
  unfold Lnk.St.cells at row
  simp only at row hg hl h1
  have cc := fun i => cell_of_row _ _ i _ _ _ row
  have cf := fun i => frozen_of_row w g i _ _ row
  have hsz0 : (Mem.str s).size = s.length := Mem.str_size s
  have hd : ¬ 1048576 < (s.length : Int) := by omega
  have hl2 : ¬ (l.length : Int) = 64 := by omega
  have hg2 : ¬ (given : Int) = 1099511627776 := by omega
  have hw : wrap64 (given + 1) = (given : Int) + 1 := by unfold wrap64; omega
  have H := Lib.hid h
  have R := Lib.hid row
  have HG := Lib.hid hg
  clear h row hg
  go_enter Try.func20, Try.ntmps20
  go_wp2
  have p1 : Mem.Put w (w.setCell ⟨g, 3, none⟩ (.int .i64 ((given : Int) + 1))) g _ 77 := Mem.put_setCell w g 3 (.int .i64 ((given : Int) + 1)) _ _ R.out
  generalize w.setCell ⟨g, 3, none⟩ (.int .i64 ((given : Int) + 1)) = w1 at p1 ⊢
  have P1 := Lib.hid p1
  have b1 : Mem.But (· = g) w w1 := Mem.But.of_put p1 rfl
  have o1 := Lib.hid (H.out.own.keep fun k hk ho => p1.other k (fun e => H.out.og (e ▸ ho)))
  have B1 := Lib.hid b1
  have r1 := p1.row
  clear p1 b1 cc cf
  have c2 : w1.cell? ⟨g, 2, none⟩ = some (.slice A l.length cap) := (cell_of_row _ _ 2 _ _ _ r1).trans rfl
  have c3 : w1.cell? ⟨g, 3, none⟩ = some (.int .i64 ((given : Int) + 1)) := (cell_of_row _ _ 3 _ _ _ r1).trans rfl
  have f2 := frozen_of_row w1 g 2 _ _ r1
  have R1 := Lib.hid r1
  clear r1
  obtain ⟨i, hi, hz, hz1, hz2⟩ := info_parts Lnk.info_wt
  have hA : some g ≠ (Value.slice A l.length cap).ownBlock := fun e => H.out.og e.symm
  have hsz : w1.heap.size = w.heap.size := P1.out.size
  have hgw : g < w1.heap.size := by rw [hsz]; exact H.out.lt g H.out.fg
  have kB : ∀ o, Below w1.heap.size w1 (w1.alloc o).drew := fun o => ((Below.refl w1.heap.size w1).alloc (Nat.le_refl _) o).drew
  have ca : ∀ o, (w1.alloc o).cell? ⟨g, 2, none⟩ = some (.slice A l.length cap) := fun o => Mem.keep ((Below.refl w1.heap.size w1).alloc (Nat.le_refl _) o) c2
  go_region_law (first
    | (refine Mem.step_append_row _ rfl (.tmp 37) (.tmp 44) 73 rfl 0 80 i _ 4 40 Try.underlying73 hi hz hz1 hz2 rfl (.slice A l.length cap) l.length (Lnk.flat l) rfl (Mem.Row.drew (Mem.Row.alloc o1.out _))
        ⟨w.heap.size, 0, none⟩ 1 1 [.int .i64 ((given : Int) + 1), .int .i64 0, .int .i64 0, .string (Mem.str s)] rfl rfl (World.news_of_block (hsz ▸ heap_alloc_new w1 _)) (by intro u hu; simp at hu; rcases hu with rfl | rfl | rfl | rfl <;> rfl) (by omega) (by unfold maxLen; omega) (by omega) (by omega) ?_
       intro v' w2 hown hgrow hat
       obtain ⟨A', cap', hv', _, _⟩ := hown.form
       subst hv'
       have fc := (hgrow.cell_far ⟨g, 2, none⟩ (by simp; omega) hA).trans (Mem.keep (kB _) c2)
       have ff := (hgrow.frozen_far ⟨g, 2, none⟩ (by simp; omega) hA).trans (((kB _).frozen hgw).trans f2)))
  all_goals
    have FC := Lib.hid fc
    clear fc c2 c3 f2 ff ca
    go_wp2
    go_ret
    have hS := H.out
    have hgr := (hgrow.block g (by simp; omega) hA).trans (((kB _).block g hgw).trans R1.out)
    generalize (Value.slice A' (l.length + 1) cap') = v' at *
    have p3 := Mem.put_setCell w2 g 2 v' _ _ hgr
    have hv : v'.ownBlock ≠ some g := fun e => by
      rcases hat with e2 | e2
      · exact hS.og (e2 ▸ e)
      · rw [e2] at e; simp at e; omega
    have hlt2 : w2.heap.size = (w2.setCell ⟨g, 2, none⟩ v').heap.size := by simp
    have hbut : Mem.But F w1 w2 := by
      refine ⟨hgrow.os, hgrow.tape, hgrow.output, ?_, fun k hk hF => ?_⟩
      · have := hgrow.size; simp at this; omega
      · exact (hgrow.block k (by simp; omega) (fun e => hF (hS.fo k e.symm))).trans ((kB _).block k hk)
    have hall : Mem.But F w (w2.setCell ⟨g, 2, none⟩ v') := (B1.out.mono fun k _ e => e ▸ hS.fg).trans (hbut.trans (Mem.But.of_setCell _ _ hS.fg))
    refine ⟨rfl, hall, fun k => F k ∨ v'.ownBlock = some k, ⟨v', b, ?_⟩, fun k hk => ?_⟩
    · refine { row := p3.row, own := ?_, map := ?_, gb := hS.gb, og := hv, ob := ?_, fg := .inl hS.fg, fb := .inl hS.fb, fo := fun k hk => .inr hk, lt := fun k hk => ?_ }
      · exact (Lnk.own_snoc hown).keep fun k _ ho => p3.other k fun e => hv (e ▸ ho)
      · refine Lnk.mp_keep hS.map ?_
        rw [p3.other b (Ne.symm hS.gb), hgrow.block b (by have := Lnk.mp_lt hS.map; simp; omega) (fun e => hS.ob e.symm), (kB _).block b (by have := Lnk.mp_lt hS.map; omega)]
        exact P1.out.other b (Ne.symm hS.gb)
      · intro e
        rcases hat with e2 | e2
        · exact hS.ob (e2 ▸ e)
        · have := Lnk.mp_lt hS.map
          rw [e2] at e; simp at e; omega
      · have hlt : w.heap.size ≤ (w2.setCell ⟨g, 2, none⟩ v').heap.size := hall.size
        rcases hk with hk | hk
        · exact Nat.lt_of_lt_of_le (hS.lt k hk) hlt
        · rw [← hlt2]
          exact (hown.block hk).2
    · rcases hk with hk | hk
      · exact .inl hk
      · rcases hat with e2 | e2
        · exact .inl (hS.fo k (e2 ▸ hk))
        · rw [e2] at hk
          simp at hk
          omega
end Go.Proofs.Ytgkadhogfejheaa
