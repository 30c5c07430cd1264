/- Words on memory for a tick: an end's own cells, a body's cells; what a tick does. -/
import Derived.Test.YtgkadhogfejheaaLnkD
import Derived.Test.YtgkadhogfejheaaFrmQ
namespace Go.Proofs.Ytgkadhogfejheaa
open Go.RowKit

namespace Mem
theorem Row.set {w : World} {base size n cap p off j : Nat} {e : TypeId} {xs : List Value} (h : Row w base e size (.slice (some ⟨p, off, none⟩) n cap) n xs) (hj : j < xs.length) (u : Value) :
    Row (w.setCell ⟨p, off + j, none⟩ u) base e size (.slice (some ⟨p, off, none⟩) n cap) n (xs.set j u) := by
  refine ⟨by rw [List.length_set]; exact h.1, ?_⟩
  rcases h.2 with ⟨h0, _⟩ | ⟨b, off', cap', cur, h0, h1, h2, h3, h4, h5, h6⟩
  · cases h0
  · cases h0
    refine .inr ⟨p, off, cap, _, rfl, h1, row_setCell w p (off + j) u cur e (0, 0) h2, h3, h4, by simpa using h5, fun i v hi => ?_⟩
    have hlt : off + j < cur.size := by
      have h7 := h6 j _ (List.getElem?_eq_getElem hj)
      exact (Array.getElem?_eq_some_iff.1 h7).1
    rw [List.getElem?_set] at hi
    rw [Array.getElem?_setIfInBounds]
    by_cases e : j = i
    · subst e
      rw [if_pos rfl, if_pos hj] at hi
      rw [if_pos rfl, if_pos hlt]
      exact hi
    · rw [if_neg e] at hi
      rw [if_neg (by omega)]
      exact h6 i v hi
end Mem

namespace Lnk
theorem flat_set (l : List Wt) (k : Nat) (x : Wt) (t s : Nat) (h : l[k]? = some x) :
    flat (l.set k { x with tries := t, sent := s }) = ((flat l).set (k * 4 + 1) (.int .i64 t)).set (k * 4 + 2) (.int .i64 s) := by
  induction l generalizing k with
  | nil => cases h
  | cons y l ih =>
    cases k with
    | zero =>
      simp at h
      subst h
      rfl
    | succ k =>
      rw [List.set_cons_succ, flat_cons, flat_cons, ih k (by simpa using h), show (k + 1) * 4 + 1 = k * 4 + 1 + 4 by omega, show (k + 1) * 4 + 2 = k * 4 + 2 + 4 by omega]
      rfl

section
variable {w w1 : World} {g b : Nat} {F : Nat → Prop} {e : St} {out : Value}
theorem Lie.below (h : Lie w g F e out b) (hb : Below w.heap.size w w1) : Lie w1 g F e out b := h.keep (Mem.But.of_below (S := fun _ => False) hb) fun _ _ h => h
theorem Lie.grown {row : Option Nat} (h : Lie w g F e out b) (hb : w.grownBy w1 row) (hr : ∀ k, F k → row ≠ some k) : Lie w1 g F e out b :=
  h.keep (G := fun k => row = some k) ⟨hb.os, hb.tape, hb.output, hb.size, fun k hk hn => hb.block k hk (fun e => hn e.symm)⟩ fun k hk => hr k hk
/-- one of its own cells written -/
theorem Lie.put (h : Lie w g F e out b) (e' : St) (hp : Mem.Put w w1 g (e'.cells out (.map (some b))) 77) (h1 : e'.out = e.out) (h2 : e'.early = e.early) (h3 : e'.room = e.room) : Lie w1 g F e' out b where
  row := hp.row
  own := by rw [h1]; exact h.own.keep fun k _ ho => hp.other k fun e => h.og (e ▸ ho)
  map := by rw [h2, h3]; exact mp_keep h.map (hp.other b (Ne.symm h.gb))
  gb := h.gb
  og := h.og
  ob := h.ob
  fg := h.fg
  fb := h.fb
  fo := h.fo
  lt := fun k hk => by rw [hp.size]; exact h.lt k hk
/-- a body's counts written -/
theorem Lie.body {p off n cap : Nat} (h : Lie w g F e (.slice (some ⟨p, off, none⟩) n cap) b) {k : Nat} {x : Wt} (hx : e.out[k]? = some x) (t s : Nat) :
    Lie ((w.setCell ⟨p, off + k * 4 + 1, none⟩ (.int .i64 t)).setCell ⟨p, off + k * 4 + 2, none⟩ (.int .i64 s)) g F { e with out := e.out.set k { x with tries := t, sent := s } } (.slice (some ⟨p, off, none⟩) n cap) b := by
  have hpg : p ≠ g := fun e => h.og (by simp [Value.ownBlock, e])
  have hpb : p ≠ b := fun e => h.ob (by simp [Value.ownBlock, e])
  have hne : ∀ i, i ≠ p → ((w.setCell ⟨p, off + k * 4 + 1, none⟩ (.int .i64 t)).setCell ⟨p, off + k * 4 + 2, none⟩ (.int .i64 s)).heap[i]? = w.heap[i]? := fun i hi => by
    rw [heap_setCell_other _ _ _ _ hi, heap_setCell_other _ _ _ _ hi]
  have hn : n = e.out.length := by
    obtain ⟨A, c, e1, _⟩ := h.own.form
    injection e1
  have hk : k < e.out.length := (List.getElem?_eq_some_iff.1 hx).1
  exact
    { row := (hne g (Ne.symm hpg)).trans h.row
      own := by
        have h0 := h.own
        unfold Own at h0 ⊢
        rw [List.length_set, flat_set _ _ _ _ _ hx]
        subst hn
        have h1 := h0.set (j := k * 4 + 1) (by rw [flat_length]; omega) (.int .i64 t)
        exact h1.set (j := k * 4 + 2) (by rw [List.length_set, flat_length]; omega) (.int .i64 s)
      map := mp_keep h.map (hne b (Ne.symm hpb))
      gb := h.gb
      og := h.og
      ob := h.ob
      fg := h.fg
      fb := h.fb
      fo := h.fo
      lt := fun k hk => by simp; exact h.lt k hk }
/-- a body's cells -/
theorem Lie.bodyCell {p off n cap : Nat} (h : Lie w g F e (.slice (some ⟨p, off, none⟩) n cap) b) {k : Nat} {x : Wt} (hx : e.out[k]? = some x) {j : Nat} {u : Value} (hj : x.vals[j]? = some u) :
    w.cell? ⟨p, off + k * 4 + j, none⟩ = some u := by
  rw [Nat.add_assoc]
  have hj4 : j < 4 := (List.getElem?_eq_some_iff.1 hj).1
  have hn : n = e.out.length := by
    obtain ⟨A, c, e1, _⟩ := h.own.form
    injection e1
  subst hn
  obtain ⟨a, ha, hc⟩ := h.own.cell rfl ((flat_at e.out k j x hx hj4).trans hj)
  cases ha
  simpa [Addr.add_lit] using hc
theorem Lie.bodyFree {p off n cap : Nat} (h : Lie w g F e (.slice (some ⟨p, off, none⟩) n cap) b) (j : Nat) : w.frozen? ⟨p, j, none⟩ = false := by
  rcases h.own.2 with ⟨h0, _⟩ | ⟨b', off', cap', cur, h0, h1, h2, _⟩
  · cases h0
  · cases h0
    exact frozen_of_row w p j _ _ h2
end

/-- what a tick does to one that waits -/
def step (n now : Nat) (x : Wt) : Wt := if due n now x = true then { x with tries := x.tries + 1, sent := now } else x
def frameOf (e : St) (x : Wt) : List UInt8 := Frm.put ⟨1, e.site, x.seq, e.got, x.body⟩
def rowAt (n now k : Nat) (l : List Wt) : List Wt := (l.take k).map (step n now) ++ l.drop k
def sentAt (e : St) (n now k : Nat) (l : List Wt) : List (List UInt8) := ((l.take k).filter (due n now)).map (frameOf e)
def topAt (n now k top : Nat) (l : List Wt) : Nat := (l.take k).foldl (fun t x => if due n now x = true then max t x.seq else t) top
/-- an end behind a part of a tick -/
def turn (e : St) (now : Nat) (out : List Wt) (top : Nat) : St := { e with now := now, out := out, top := top }
def tick (n : Nat) (e : St) : St × List (List UInt8) :=
  let s := sentAt e n (e.now + 1) 8 e.out
  ({ e with now := e.now + 1, out := rowAt n (e.now + 1) 8 e.out, top := topAt n (e.now + 1) 8 e.top e.out, owed := false },
    if s = [] ∧ e.owed = true then [Frm.put ⟨2, e.site, 0, e.got, []⟩] else s)

section
variable {n now k : Nat} {l : List Wt} {x : Wt}
theorem rowAt_zero : rowAt n now 0 l = l := by simp [rowAt]
theorem rowAt_get (hx : l[k]? = some x) : (rowAt n now k l)[k]? = some x := by
  have hk := (List.getElem?_eq_some_iff.1 hx).1
  unfold rowAt
  rw [List.getElem?_append_right (by simp; omega)]
  simp only [List.length_map, List.length_take, List.getElem?_drop]
  rw [show k + (k - min k l.length) = k by omega]
  exact hx
theorem rowAt_succ (hx : l[k]? = some x) : rowAt n now (k + 1) l = (rowAt n now k l).set k (step n now x) := by
  have hk := (List.getElem?_eq_some_iff.1 hx).1
  unfold rowAt
  rw [List.take_add_one, hx, List.map_append]
  refine Eq.trans ?_ (List.set_append_right k _ (by simp; omega)).symm
  simp only [List.length_map, List.length_take]
  rw [show k - min k l.length = 0 by omega, List.append_assoc]
  congr 1
  rw [List.drop_eq_getElem_cons hk, List.set_cons_zero]
  simp
theorem rowAt_length : (rowAt n now k l).length = l.length := by unfold rowAt; simp; omega
theorem set_same (h : l[k]? = some x) : l.set k x = l := by
  have hk := (List.getElem?_eq_some_iff.1 h).1
  rw [← (List.getElem?_eq_some_iff.1 h).2]
  exact List.set_getElem_self hk
theorem sentAt_yes {e : St} (hx : l[k]? = some x) (hd : due n now x = true) : sentAt e n now (k + 1) l = sentAt e n now k l ++ [frameOf e x] := by
  unfold sentAt
  rw [List.take_add_one, hx]
  simp [hd]
theorem sentAt_no {e : St} (hx : l[k]? = some x) (hd : due n now x = false) : sentAt e n now (k + 1) l = sentAt e n now k l := by
  unfold sentAt
  rw [List.take_add_one, hx]
  simp [hd]
theorem topAt_yes {top : Nat} (hx : l[k]? = some x) (hd : due n now x = true) : topAt n now (k + 1) top l = max (topAt n now k top l) x.seq := by
  unfold topAt
  rw [List.take_add_one, hx]
  simp [hd]
theorem topAt_no {top : Nat} (hx : l[k]? = some x) (hd : due n now x = false) : topAt n now (k + 1) top l = topAt n now k top l := by
  unfold topAt
  rw [List.take_add_one, hx]
  simp [hd]
theorem at_all {e : St} {top : Nat} (h : l.length ≤ k) (h2 : k ≤ 8) : rowAt n now k l = rowAt n now 8 l ∧ sentAt e n now k l = sentAt e n now 8 l ∧ topAt n now k top l = topAt n now 8 top l := by
  unfold rowAt topAt sentAt
  rw [List.take_of_length_le h, List.take_of_length_le (by omega), List.drop_of_length_le h, List.drop_of_length_le (by omega)]
  exact ⟨rfl, rfl, rfl⟩
theorem tick_fst (n : Nat) (e : St) : (tick n e).1 = { turn e (e.now + 1) (rowAt n (e.now + 1) 8 e.out) (topAt n (e.now + 1) 8 e.top e.out) with owed := false } := rfl
theorem tick_fst_calm {n : Nat} {e : St} (h : e.owed = false) : (tick n e).1 = turn e (e.now + 1) (rowAt n (e.now + 1) 8 e.out) (topAt n (e.now + 1) 8 e.top e.out) := by
  rw [tick_fst]
  unfold turn
  rw [← h]
theorem tick_snd {n : Nat} {e : St} (h : ¬ (sentAt e n (e.now + 1) 8 e.out = [] ∧ e.owed = true)) : (tick n e).2 = sentAt e n (e.now + 1) 8 e.out := if_neg h
theorem tick_snd_tell {n : Nat} {e : St} (h : sentAt e n (e.now + 1) 8 e.out = [] ∧ e.owed = true) : (tick n e).2 = [Frm.put ⟨2, e.site, 0, e.got, []⟩] := if_pos h
theorem sentAt_le {e : St} (hk : k ≤ 8) : (sentAt e n now k l).length ≤ 8 := by
  unfold sentAt
  rw [List.length_map]
  have h1 := List.length_filter_le (due n now) (l.take k)
  have h2 : (l.take k).length ≤ k := by simp; omega
  omega
end
end Lnk
end Go.Proofs.Ytgkadhogfejheaa
