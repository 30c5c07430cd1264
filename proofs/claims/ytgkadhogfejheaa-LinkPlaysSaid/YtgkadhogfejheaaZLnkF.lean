/- The walk of an end's Tick. -/
import Derived.Test.YtgkadhogfejheaaZLnkC
import Derived.Test.YtgkadhogfejheaaZPacW
import Derived.Test.YtgkadhogfejheaaZFrmQ
import Derived.Deep.LoopGhost
set_option linter.unusedVariables false
set_option linter.unusedSimpArgs false
/-! The walk of an end's due. -/
namespace Go.Proofs.Ytgkadhogfejheaa
open Go.RowKit

namespace Lnk
/-- how long this pace waits -/
def WaitIs (m d : Nat) (s : Bool) (n : Nat) : Prop := ∀ (t : Int) (w : World), t ≤ 9223372036854775807 →
  Calls Try.prog 44 #[.agg #[.float .f64 m, .float .f64 d, .bool s], .int .i64 t] w fun e w' => e = .returned (.int .i64 (Pac.dbl n t.toNat)) ∧ Below w.heap.size w w'
def due (n now : Nat) (x : Wt) : Bool := decide (x.tries = 0) || decide ((Pac.dbl n (x.tries - 1) : Int) ≤ (now : Int) - x.sent)
end Lnk

set_option maxRecDepth 100000 in
set_option maxHeartbeats 1000000 in
theorem link_due (g p o now m d n : Nat) (s : Bool) (x : Lnk.Wt) (hn : Lnk.WaitIs m d s n) (w : World) (h1 : w.cell? ⟨g, 1, none⟩ = some (.int .i64 now)) (h7 : w.cell? ⟨g, 7, none⟩ = some (.float .f64 m)) (h8 : w.cell? ⟨g, 8, none⟩ = some (.float .f64 d)) (h9 : w.cell? ⟨g, 9, none⟩ = some (.bool s))
    (x1 : w.cell? ⟨p, o + 1, none⟩ = some (.int .i64 x.tries)) (x2 : w.cell? ⟨p, o + 2, none⟩ = some (.int .i64 x.sent)) (hb : now < 1099511627776 ∧ x.sent < 1099511627776 ∧ x.tries < 1099511627776) :
    Calls Try.prog 31 #[.pointer (some ⟨g, 0, none⟩), .pointer (some ⟨p, o, none⟩)] w fun e w' => e = .returned (.bool (Lnk.due n now x)) ∧ Below w.heap.size w w' := by
  obtain ⟨seq, tries, sent, body⟩ := x
  simp only at x1 x2 hb
  unfold Lnk.due
  simp only
  have kc : ∀ {a : Addr} {v : Value} (i : Mem.Later w), w.cell? a = some v → i.w.cell? a = some v := fun i h => i.cell h
  have e1 : ∀ i : Mem.Later w, i.w.cell? ⟨g, 1, none⟩ = some (.int .i64 now) := fun i => i.cell h1
  have e7 : ∀ i : Mem.Later w, i.w.cell? ⟨g, 7, none⟩ = some (.float .f64 m) := fun i => i.cell h7
  have e8 : ∀ i : Mem.Later w, i.w.cell? ⟨g, 8, none⟩ = some (.float .f64 d) := fun i => i.cell h8
  have e9 : ∀ i : Mem.Later w, i.w.cell? ⟨g, 9, none⟩ = some (.bool s) := fun i => i.cell h9
  have f1 : ∀ i : Mem.Later w, i.w.cell? ⟨p, o + 1, none⟩ = some (.int .i64 tries) := fun i => i.cell x1
  have f2 : ∀ i : Mem.Later w, i.w.cell? ⟨p, o + 2, none⟩ = some (.int .i64 sent) := fun i => i.cell x2
  have Hb := Lib.hid hb
  have Hn := Lib.hid hn
  clear h1 h7 h8 h9 x1 x2 hb hn kc
  by_cases ht : tries = 0
  · subst ht
    go_enter Try.func31, Try.ntmps31
    go_wp2
    refine Mem.wp_region_later (by kernel_rfl) (by kernel_rfl) ?_
    repeat (go_big_quiet_step (fail))
    refine wpQuiet_nil ?_
    rintro _ ⟨⟨wr, hr⟩, rfl⟩
    go_wp2
    go_ret
    exact ⟨by simp, hr⟩
  · have d1 : ((tries : Int) == 0) = false := by simp; omega
    have w1 : wrap64 ((tries : Int) - 1) = ((tries - 1 : Nat) : Int) := by have := Hb.out; unfold wrap64; omega
    have w2 : wrap64 ((now : Int) - sent) = (now : Int) - sent := by have := Hb.out; unfold wrap64; omega
    go_enter Try.func31, Try.ntmps31
    go_wp2
    refine Mem.wp_region_later (by kernel_rfl) (by kernel_rfl) ?_
    repeat (go_big_quiet_step ((go_at_call 44; refine Mem.later_call (Hn.out _ _ (by have := Hb.out; omega)))))
    refine wpQuiet_nil ?_
    rintro _ ⟨⟨wr, hr⟩, rfl⟩
    go_wp2
    go_ret
    exact ⟨by simp [ht], hr⟩
end Go.Proofs.Ytgkadhogfejheaa

/-! Words on memory for a tick: an end's own cells, a body's cells; what a tick does. -/
namespace Go.Proofs.Ytgkadhogfejheaa
open Go.RowKit

namespace Mem
theorem Row.set {w : World} {base size n cap p off j : Nat} {e : TypeId} {xs : List Value} (h : Row w base e size (.slice (some ⟨p, off, none⟩) n cap) n xs) (hj : j < xs.length) (u : Value) :
    Row (w.setCell ⟨p, off + j, none⟩ u) base e size (.slice (some ⟨p, off, none⟩) n cap) n (xs.set j u) := by
  refine ⟨by rw [List.length_set]; exact h.1, ?_⟩
  rcases h.2 with ⟨h0, _⟩ | ⟨b, off', cap', cur, h0, h1, h2, h3, h4, h5, h6⟩
  · cases h0
  · cases h0
    refine .inr ⟨p, off, cap, _, rfl, h1, row_setCell w p (off + j) u cur e (0, 0) h2, h3, h4, by simpa using h5, fun i v hi => ?_⟩
    have hlt : off + j < cur.size := by
      have h7 := h6 j _ (List.getElem?_eq_getElem hj)
      exact (Array.getElem?_eq_some_iff.1 h7).1
    rw [List.getElem?_set] at hi
    rw [Array.getElem?_setIfInBounds]
    by_cases e : j = i
    · subst e
      rw [if_pos rfl, if_pos hj] at hi
      rw [if_pos rfl, if_pos hlt]
      exact hi
    · rw [if_neg e] at hi
      rw [if_neg (by omega)]
      exact h6 i v hi
end Mem

namespace Lnk
theorem flat_set (l : List Wt) (k : Nat) (x : Wt) (t s : Nat) (h : l[k]? = some x) :
    flat (l.set k { x with tries := t, sent := s }) = ((flat l).set (k * 4 + 1) (.int .i64 t)).set (k * 4 + 2) (.int .i64 s) := by
  induction l generalizing k with
  | nil => cases h
  | cons y l ih =>
    cases k with
    | zero =>
      simp at h
      subst h
      rfl
    | succ k =>
      rw [List.set_cons_succ, flat_cons, flat_cons, ih k (by simpa using h), show (k + 1) * 4 + 1 = k * 4 + 1 + 4 by omega, show (k + 1) * 4 + 2 = k * 4 + 2 + 4 by omega]
      rfl

section
variable {w w1 : World} {g b : Nat} {F : Nat → Prop} {e : St} {out : Value}
theorem Lie.below (h : Lie w g F e out b) (hb : Below w.heap.size w w1) : Lie w1 g F e out b := h.keep (Mem.But.of_below (S := fun _ => False) hb) fun _ _ h => h
theorem Lie.grown {row : Option Nat} (h : Lie w g F e out b) (hb : w.grownBy w1 row) (hr : ∀ k, F k → row ≠ some k) : Lie w1 g F e out b :=
  h.keep (G := fun k => row = some k) ⟨hb.os, hb.tape, hb.output, hb.size, fun k hk hn => hb.block k hk (fun e => hn e.symm)⟩ fun k hk => hr k hk
/-- one of its own cells written -/
theorem Lie.put (h : Lie w g F e out b) (e' : St) (hp : Mem.Put w w1 g (e'.cells out (.map (some b))) 77) (h1 : e'.out = e.out) (h2 : e'.early = e.early) (h3 : e'.room = e.room) : Lie w1 g F e' out b where
  row := hp.row
  own := by rw [h1]; exact h.own.keep fun k _ ho => hp.other k fun e => h.og (e ▸ ho)
  map := by rw [h2, h3]; exact mp_keep h.map (hp.other b (Ne.symm h.gb))
  gb := h.gb
  og := h.og
  ob := h.ob
  fg := h.fg
  fb := h.fb
  fo := h.fo
  lt := fun k hk => by rw [hp.size]; exact h.lt k hk
/-- a body's counts written -/
theorem Lie.body {p off n cap : Nat} (h : Lie w g F e (.slice (some ⟨p, off, none⟩) n cap) b) {k : Nat} {x : Wt} (hx : e.out[k]? = some x) (t s : Nat) :
    Lie ((w.setCell ⟨p, off + k * 4 + 1, none⟩ (.int .i64 t)).setCell ⟨p, off + k * 4 + 2, none⟩ (.int .i64 s)) g F { e with out := e.out.set k { x with tries := t, sent := s } } (.slice (some ⟨p, off, none⟩) n cap) b := by
  have hpg : p ≠ g := fun e => h.og (by simp [Value.ownBlock, e])
  have hpb : p ≠ b := fun e => h.ob (by simp [Value.ownBlock, e])
  have hne : ∀ i, i ≠ p → ((w.setCell ⟨p, off + k * 4 + 1, none⟩ (.int .i64 t)).setCell ⟨p, off + k * 4 + 2, none⟩ (.int .i64 s)).heap[i]? = w.heap[i]? := fun i hi => by
    rw [heap_setCell_other _ _ _ _ hi, heap_setCell_other _ _ _ _ hi]
  have hn : n = e.out.length := by
    obtain ⟨A, c, e1, _⟩ := h.own.form
    injection e1
  have hk : k < e.out.length := (List.getElem?_eq_some_iff.1 hx).1
  exact
    { row := (hne g (Ne.symm hpg)).trans h.row
      own := by
        have h0 := h.own
        unfold Own at h0 ⊢
        rw [List.length_set, flat_set _ _ _ _ _ hx]
        subst hn
        have h1 := h0.set (j := k * 4 + 1) (by rw [flat_length]; omega) (.int .i64 t)
        exact h1.set (j := k * 4 + 2) (by rw [List.length_set, flat_length]; omega) (.int .i64 s)
      map := mp_keep h.map (hne b (Ne.symm hpb))
      gb := h.gb
      og := h.og
      ob := h.ob
      fg := h.fg
      fb := h.fb
      fo := h.fo
      lt := fun k hk => by simp; exact h.lt k hk }
/-- a body's cells -/
theorem Lie.bodyCell {p off n cap : Nat} (h : Lie w g F e (.slice (some ⟨p, off, none⟩) n cap) b) {k : Nat} {x : Wt} (hx : e.out[k]? = some x) {j : Nat} {u : Value} (hj : x.vals[j]? = some u) :
    w.cell? ⟨p, off + k * 4 + j, none⟩ = some u := by
  rw [Nat.add_assoc]
  have hj4 : j < 4 := (List.getElem?_eq_some_iff.1 hj).1
  have hn : n = e.out.length := by
    obtain ⟨A, c, e1, _⟩ := h.own.form
    injection e1
  subst hn
  obtain ⟨a, ha, hc⟩ := h.own.cell rfl ((flat_at e.out k j x hx hj4).trans hj)
  cases ha
  simpa [Addr.add_lit] using hc
theorem Lie.bodyFree {p off n cap : Nat} (h : Lie w g F e (.slice (some ⟨p, off, none⟩) n cap) b) (j : Nat) : w.frozen? ⟨p, j, none⟩ = false := by
  rcases h.own.2 with ⟨h0, _⟩ | ⟨b', off', cap', cur, h0, h1, h2, _⟩
  · cases h0
  · cases h0
    exact frozen_of_row w p j _ _ h2
end

/-- what a tick does to one that waits -/
def step (n now : Nat) (x : Wt) : Wt := if due n now x = true then { x with tries := x.tries + 1, sent := now } else x
def frameOf (e : St) (x : Wt) : List UInt8 := Frm.put ⟨1, e.site, x.seq, e.got, x.body⟩
def rowAt (n now k : Nat) (l : List Wt) : List Wt := (l.take k).map (step n now) ++ l.drop k
def sentAt (e : St) (n now k : Nat) (l : List Wt) : List (List UInt8) := ((l.take k).filter (due n now)).map (frameOf e)
def topAt (n now k top : Nat) (l : List Wt) : Nat := (l.take k).foldl (fun t x => if due n now x = true then max t x.seq else t) top
/-- an end behind a part of a tick -/
def turn (e : St) (now : Nat) (out : List Wt) (top : Nat) : St := { e with now := now, out := out, top := top }
def tick (n : Nat) (e : St) : St × List (List UInt8) :=
  let s := sentAt e n (e.now + 1) 8 e.out
  ({ e with now := e.now + 1, out := rowAt n (e.now + 1) 8 e.out, top := topAt n (e.now + 1) 8 e.top e.out, owed := false },
    if s = [] ∧ e.owed = true then [Frm.put ⟨2, e.site, 0, e.got, []⟩] else s)

section
variable {n now k : Nat} {l : List Wt} {x : Wt}
theorem rowAt_zero : rowAt n now 0 l = l := by simp [rowAt]
theorem rowAt_get (hx : l[k]? = some x) : (rowAt n now k l)[k]? = some x := by
  have hk := (List.getElem?_eq_some_iff.1 hx).1
  unfold rowAt
  rw [List.getElem?_append_right (by simp; omega)]
  simp only [List.length_map, List.length_take, List.getElem?_drop]
  rw [show k + (k - min k l.length) = k by omega]
  exact hx
theorem rowAt_succ (hx : l[k]? = some x) : rowAt n now (k + 1) l = (rowAt n now k l).set k (step n now x) := by
  have hk := (List.getElem?_eq_some_iff.1 hx).1
  unfold rowAt
  rw [List.take_add_one, hx, List.map_append]
  refine Eq.trans ?_ (List.set_append_right k _ (by simp; omega)).symm
  simp only [List.length_map, List.length_take]
  rw [show k - min k l.length = 0 by omega, List.append_assoc]
  congr 1
  rw [List.drop_eq_getElem_cons hk, List.set_cons_zero]
  simp
theorem rowAt_length : (rowAt n now k l).length = l.length := by unfold rowAt; simp; omega
theorem set_same (h : l[k]? = some x) : l.set k x = l := by
  have hk := (List.getElem?_eq_some_iff.1 h).1
  rw [← (List.getElem?_eq_some_iff.1 h).2]
  exact List.set_getElem_self hk
theorem sentAt_yes {e : St} (hx : l[k]? = some x) (hd : due n now x = true) : sentAt e n now (k + 1) l = sentAt e n now k l ++ [frameOf e x] := by
  unfold sentAt
  rw [List.take_add_one, hx]
  simp [hd]
theorem sentAt_no {e : St} (hx : l[k]? = some x) (hd : due n now x = false) : sentAt e n now (k + 1) l = sentAt e n now k l := by
  unfold sentAt
  rw [List.take_add_one, hx]
  simp [hd]
theorem topAt_yes {top : Nat} (hx : l[k]? = some x) (hd : due n now x = true) : topAt n now (k + 1) top l = max (topAt n now k top l) x.seq := by
  unfold topAt
  rw [List.take_add_one, hx]
  simp [hd]
theorem topAt_no {top : Nat} (hx : l[k]? = some x) (hd : due n now x = false) : topAt n now (k + 1) top l = topAt n now k top l := by
  unfold topAt
  rw [List.take_add_one, hx]
  simp [hd]
theorem at_all {e : St} {top : Nat} (h : l.length ≤ k) (h2 : k ≤ 8) : rowAt n now k l = rowAt n now 8 l ∧ sentAt e n now k l = sentAt e n now 8 l ∧ topAt n now k top l = topAt n now 8 top l := by
  unfold rowAt topAt sentAt
  rw [List.take_of_length_le h, List.take_of_length_le (by omega), List.drop_of_length_le h, List.drop_of_length_le (by omega)]
  exact ⟨rfl, rfl, rfl⟩
theorem tick_fst (n : Nat) (e : St) : (tick n e).1 = { turn e (e.now + 1) (rowAt n (e.now + 1) 8 e.out) (topAt n (e.now + 1) 8 e.top e.out) with owed := false } := rfl
theorem tick_fst_calm {n : Nat} {e : St} (h : e.owed = false) : (tick n e).1 = turn e (e.now + 1) (rowAt n (e.now + 1) 8 e.out) (topAt n (e.now + 1) 8 e.top e.out) := by
  rw [tick_fst]
  unfold turn
  rw [← h]
theorem tick_snd {n : Nat} {e : St} (h : ¬ (sentAt e n (e.now + 1) 8 e.out = [] ∧ e.owed = true)) : (tick n e).2 = sentAt e n (e.now + 1) 8 e.out := if_neg h
theorem tick_snd_tell {n : Nat} {e : St} (h : sentAt e n (e.now + 1) 8 e.out = [] ∧ e.owed = true) : (tick n e).2 = [Frm.put ⟨2, e.site, 0, e.got, []⟩] := if_pos h
theorem sentAt_le {e : St} (hk : k ≤ 8) : (sentAt e n now k l).length ≤ 8 := by
  unfold sentAt
  rw [List.length_map]
  have h1 := List.length_filter_le (due n now) (l.take k)
  have h2 : (l.take k).length ≤ k := by simp; omega
  omega
end
end Lnk
end Go.Proofs.Ytgkadhogfejheaa

/-! The walk of an end's Tick. -/
namespace Go.Proofs.Ytgkadhogfejheaa
open Go.RowKit

namespace Lnk
def Fine (e : St) : Prop := (1 ≤ e.site ∧ e.site ≤ 16) ∧ e.now + 1 < 1099511627776 ∧ e.got ≤ 1099511627776 ∧
  ∀ x ∈ e.out, (1 ≤ x.seq ∧ x.seq ≤ 1099511627776) ∧ x.tries + 1 < 1099511627776 ∧ x.sent < 1099511627776 ∧ x.body.length ≤ 1048576
def strs (l : List (List UInt8)) : List Value := l.map fun s => .string (Mem.str s)
end Lnk

set_option maxRecDepth 100000 in
set_option maxHeartbeats 1000000 in
theorem tick_ok (g : Nat) (F : Nat → Prop) (e : Lnk.St) (n : Nat) (hn : Lnk.WaitIs e.mean e.dev e.any n) (hok : Lnk.Fine e) (w : World) (h : Lnk.At w g F e) :
    Calls Try.prog 18 #[.pointer (some ⟨g, 0, none⟩)] w fun r w' => ∃ v, r = .returned v ∧ Lnk.At w' g F (Lnk.tick n e).1 ∧
      Mem.Row w' w.heap.size 9 1 v (Lnk.tick n e).2.length (Lnk.strs (Lnk.tick n e).2) ∧ Mem.But F w w' := by
  obtain ⟨out, b, h⟩ := h
  obtain ⟨A, cap, rfl, h1, h2⟩ := h.own.form
  have row := h.row
  have c1 : w.cell? ⟨g, 1, none⟩ = some (.int .i64 e.now) := (cell_of_row _ _ 1 _ _ _ row).trans rfl
  have cf := fun i => frozen_of_row w g i _ _ row
  have hw : wrap64 ((e.now : Int) + 1) = (e.now : Int) + 1 := by have := hok.2.1; unfold wrap64; omega
  have p1 : Mem.Put w (w.setCell ⟨g, 1, none⟩ (.int .i64 ((e.now : Int) + 1))) g _ 77 := Mem.put_setCell w g 1 (.int .i64 ((e.now : Int) + 1)) _ _ row
  have l1 : Lnk.Lie (w.setCell ⟨g, 1, none⟩ (.int .i64 ((e.now : Int) + 1))) g F { e with now := e.now + 1 } (.slice A e.out.length cap) b := h.put { e with now := e.now + 1 } p1 rfl rfl rfl
  have b1 : Mem.But F w (w.setCell ⟨g, 1, none⟩ (.int .i64 ((e.now : Int) + 1))) := Mem.But.of_setCell _ _ h.fg
  have H := Lib.hid h
  have Hok := Lib.hid hok
  have Hn := Lib.hid hn
  have L1 := Lib.hid l1
  have B1 := Lib.hid b1
  have k2 : (w.setCell ⟨g, 1, none⟩ (.int .i64 ((e.now : Int) + 1))).cell? ⟨g, 2, none⟩ = some (.slice A e.out.length cap) := (cell_of_row _ _ 2 _ _ _ l1.row).trans rfl
  clear h hok hn l1 b1 p1 row
  go_enter Try.func18, Try.ntmps18
  go_wp2
  go_step3
  go_wp2
  clear c1 cf k2 hw
  generalize w.setCell ⟨g, 1, none⟩ (.int .i64 ((e.now : Int) + 1)) = w1 at L1 B1 ⊢
  have k2 : w1.cell? ⟨g, 2, none⟩ = some (.slice A e.out.length cap) := (cell_of_row _ _ 2 _ _ _ L1.out.row).trans rfl
  go_step3
  go_wp2
  clear k2
  go_loopw [3, 24] (fun v i wr => ∃ k : Nat, k ≤ e.out.length ∧ k ≤ 8 ∧ i = .int .i64 k ∧
    Lnk.Lie wr g F (Lnk.turn e (e.now + 1) (Lnk.rowAt n (e.now + 1) k e.out) (Lnk.topAt n (e.now + 1) k e.top e.out)) (.slice A e.out.length cap) b ∧
    Mem.Row wr w.heap.size 9 1 v (Lnk.sentAt e n (e.now + 1) k e.out).length (Lnk.strs (Lnk.sentAt e n (e.now + 1) k e.out)) ∧ Mem.But F w wr) (fun _ i _ => e.out.length - (intOf i).toNat)
  case atStart =>
    refine ⟨0, by omega, by omega, rfl, ?_, Mem.row_nil _ _ _ _, B1.out⟩
    rw [Lnk.rowAt_zero]
    exact L1.out
  case round =>
    obtain ⟨k, hk, hk8, rfl, hl, hr, hb⟩ := hrel
    obtain ⟨B, c, rfl, hc1, hc2⟩ := hr.form
    by_cases hin : k < e.out.length ∧ k < 8
    · obtain ⟨hk1, hk2⟩ := hin
      have d1 : decide ((k : Int) < (e.out.length : Int)) = true := decide_eq_true (by omega)
      have d2 : ((k : Int) == 8) = false := by simp; omega
      have i1 : (k : Int) < (e.out.length : Int) := by omega
      obtain ⟨p, off, rfl⟩ : ∃ p off, A = some ⟨p, off, none⟩ := by
        rcases hl.own.2 with ⟨e1, _⟩ | ⟨p, off, _, _, e1, _⟩
        · injection e1 with _ e2
          omega
        · injection e1 with e2
          exact ⟨p, off, e2⟩
      obtain ⟨x, hx⟩ : ∃ x, e.out[k]? = some x := ⟨_, List.getElem?_eq_getElem hk1⟩
      have k2 : wr.cell? ⟨g, 2, none⟩ = some (.slice (some ⟨p, off, none⟩) e.out.length cap) := (cell_of_row _ _ 2 _ _ _ hl.row).trans rfl
      have hx2 := Lnk.rowAt_get (n := n) (now := e.now + 1) hx
      have c1 : wr.cell? ⟨g, 1, none⟩ = some (.int .i64 ((e.now + 1 : Nat) : Int)) := (cell_of_row _ _ 1 _ _ _ hl.row).trans rfl
      have c7 : wr.cell? ⟨g, 7, none⟩ = some (.float .f64 e.mean) := (cell_of_row _ _ 7 _ _ _ hl.row).trans rfl
      have c8 : wr.cell? ⟨g, 8, none⟩ = some (.float .f64 e.dev) := (cell_of_row _ _ 8 _ _ _ hl.row).trans rfl
      have c9 : wr.cell? ⟨g, 9, none⟩ = some (.bool e.any) := (cell_of_row _ _ 9 _ _ _ hl.row).trans rfl
      have hxm := Hok.out.2.2.2 x (List.mem_of_getElem? hx)
      have hdue := link_due g p (off + k * 4) (e.now + 1) e.mean e.dev n e.any x Hn.out wr c1 c7 c8 c9 (hl.bodyCell hx2 (j := 1) rfl) (hl.bodyCell hx2 (j := 2) rfl) ⟨Hok.out.2.1, hxm.2.2.1, by omega⟩
      have HL := Lib.hid hl
      have HR := Lib.hid hr
      have HB := Lib.hid hb
      have HX := Lib.hid hx
      have HX2 := Lib.hid hx2
      have HXM := Lib.hid hxm
      clear hl hr hb hx hx2 hxm c1 c7 c8 c9
      by_cases hd : Lnk.due n (e.now + 1) x = true
      · rw [hd] at hdue
        have wt : wrap64 ((x.tries : Int) + 1) = ((x.tries + 1 : Nat) : Int) := by have := HXM.out; unfold wrap64; omega
        have hpg : g ≠ p := fun e => HL.out.og (by simp [Value.ownBlock, e])
        go_wp2_with (go_at_call 31; go_loud (
          refine hdue.mono ?_
          rintro r w2 ⟨rfl, hb2⟩
          have HL2 := Lib.hid (HL.out.below hb2)
          have q1 := HL2.out.bodyCell HX2.out (j := 1) rfl
          have qf := HL2.out.bodyFree
          have s1 : ∀ u, (w2.setCell ⟨p, off + k * 4 + 1, none⟩ u).cell? ⟨g, 1, none⟩ = some (.int .i64 ((e.now + 1 : Nat) : Int)) := fun u => (cell_of_row _ _ 1 _ _ _ ((heap_setCell_other _ _ _ _ hpg).trans HL2.out.row)).trans rfl
          have s2 : ∀ u, (w2.setCell ⟨p, off + k * 4 + 1, none⟩ u).cell? ⟨p, off + k * 4 + 2, none⟩ = some (.int .i64 x.sent) := fun u => (World.cell?_setCell_other _ _ _ _ (by simp)).trans (HL2.out.bodyCell HX2.out (j := 2) rfl)))
        have l4 : Lnk.Lie _ g F (Lnk.turn e (e.now + 1) ((Lnk.rowAt n (e.now + 1) k e.out).set k { x with tries := x.tries + 1, sent := e.now + 1 }) (Lnk.topAt n (e.now + 1) k e.top e.out)) _ b := HL2.out.body HX2.out (x.tries + 1) (e.now + 1)
        have hFp : F p := HL2.out.fo p rfl
        have b4 : Mem.But F w ((w2.setCell ⟨p, off + k * 4 + 1, none⟩ (.int .i64 ((x.tries : Int) + 1))).setCell ⟨p, off + k * 4 + 2, none⟩ (.int .i64 ((e.now : Int) + 1))) :=
          HB.out.trans ((Mem.But.of_below hb2).trans ((Mem.But.of_setCell _ _ hFp).trans (Mem.But.of_setCell _ _ hFp)))
        have r4 : Mem.Row ((w2.setCell ⟨p, off + k * 4 + 1, none⟩ (.int .i64 ((x.tries : Int) + 1))).setCell ⟨p, off + k * 4 + 2, none⟩ (.int .i64 ((e.now : Int) + 1))) w.heap.size 9 1 (.slice B (Lnk.sentAt e n (e.now + 1) k e.out).length c) (Lnk.sentAt e n (e.now + 1) k e.out).length (Lnk.strs (Lnk.sentAt e n (e.now + 1) k e.out)) := by
          refine (HR.out.below hb2).keep fun i hi ho => ?_
          have hip : i ≠ p := fun e => by have := (HR.out.block ho).1; have := H.out.lt p hFp; omega
          rw [heap_setCell_other _ _ _ _ hip, heap_setCell_other _ _ _ _ hip]
        rw [show ((x.tries + 1 : Nat) : Int) = (x.tries : Int) + 1 from rfl, show ((e.now + 1 : Nat) : Int) = (e.now : Int) + 1 from rfl] at l4
        clear q1 qf s1 s2 hdue k2
        generalize ((w2.setCell ⟨p, off + k * 4 + 1, none⟩ (.int .i64 ((x.tries : Int) + 1))).setCell ⟨p, off + k * 4 + 2, none⟩ (.int .i64 ((e.now : Int) + 1))) = w4 at l4 b4 r4 ⊢
        have hst : Lnk.step n (e.now + 1) x = { x with tries := x.tries + 1, sent := e.now + 1 } := by unfold Lnk.step; rw [if_pos hd]
        rw [← hst, ← Lnk.rowAt_succ HX.out] at l4
        have hx4 : (Lnk.rowAt n (e.now + 1) (k + 1) e.out)[k]? = some { x with tries := x.tries + 1, sent := e.now + 1 } := by
          rw [Lnk.rowAt_succ HX.out, hst, List.getElem?_set_self (by rw [Lnk.rowAt_length]; exact hk1)]
        obtain ⟨T, hT⟩ : ∃ T, Lnk.topAt n (e.now + 1) k e.top e.out = T := ⟨_, rfl⟩
        rw [hT] at l4
        have e4 : w4.cell? ⟨g, 4, none⟩ = some (.int .i64 T) := (cell_of_row _ _ 4 _ _ _ l4.row).trans rfl
        have e0 : w4.cell? ⟨p, off + k * 4, none⟩ = some (.int .i64 x.seq) := l4.bodyCell hx4 (j := 0) rfl
        have j4 : ∀ i : Mem.Later w4, i.w.cell? ⟨g, 4, none⟩ = some (.int .i64 T) := fun i => i.cell e4
        have j0 : ∀ i : Mem.Later w4, i.w.cell? ⟨p, off + k * 4, none⟩ = some (.int .i64 x.seq) := fun i => i.cell e0
        have HX4 := Lib.hid hx4
        have HT := Lib.hid hT
        have L4 := Lib.hid l4
        have B4 := Lib.hid b4
        have R4 := Lib.hid r4
        have HD := Lib.hid hd
        clear hx4 hT l4 b4 r4 e4 e0 hst hd
        refine Mem.wp_region_later_tail 12 (by kernel_rfl) (by kernel_rfl) ?_
        simp only [List.take_succ_cons, List.take_zero, List.drop_succ_cons, List.drop_zero]
        repeat (go_big_quiet_step (fail))
        refine wpQuiet_nil ?_
        intro w5 hw5
        obtain ⟨i5, hi5⟩ := hw5
        have h5 : Below w4.heap.size w4 w5 := hi5 ▸ i5.h
        clear hi5 i5
        have l5 := L4.out.below h5
        have k4 : w5.cell? ⟨g, 4, none⟩ = some (.int .i64 T) := (cell_of_row _ _ 4 _ _ _ l5.row).trans rfl
        have f4 := frozen_of_row _ g 4 _ _ l5.row
        have hm : (if T < x.seq then (x.seq : Int) else (T : Int)) = ((max T x.seq : Nat) : Int) := by split <;> omega
        rw [hm]
        have r5 := R4.out.below h5
        have b5 : Mem.But F w (w5.setCell ⟨g, 4, none⟩ (.int .i64 ((max T x.seq : Nat) : Int))) := B4.out.trans ((Mem.But.of_below h5).trans (Mem.But.of_setCell _ _ l5.fg))
        have l6 : Lnk.Lie (w5.setCell ⟨g, 4, none⟩ (.int .i64 ((max T x.seq : Nat) : Int))) g F (Lnk.turn e (e.now + 1) (Lnk.rowAt n (e.now + 1) (k + 1) e.out) (max T x.seq)) (.slice (some ⟨p, off, none⟩) e.out.length cap) b :=
          l5.put _ (Mem.put_setCell w5 g 4 (.int .i64 ((max T x.seq : Nat) : Int)) _ _ l5.row) rfl rfl rfl
        have r6 : Mem.Row (w5.setCell ⟨g, 4, none⟩ (.int .i64 ((max T x.seq : Nat) : Int))) w.heap.size 9 1 (.slice B (Lnk.sentAt e n (e.now + 1) k e.out).length c) (Lnk.sentAt e n (e.now + 1) k e.out).length (Lnk.strs (Lnk.sentAt e n (e.now + 1) k e.out)) :=
          r5.keep fun i hi ho => heap_setCell_other _ _ _ _ (fun e => by have := (r5.block ho).1; have := H.out.lt g H.out.fg; simp at e; omega)
        have L5 := Lib.hid l5
        have L6 := Lib.hid l6
        have B5 := Lib.hid b5
        have R6 := Lib.hid r6
        clear l5 r5 b5 l6 r6 hm h5 j4 j0
        go_wp2
        clear k4 f4
        generalize w5.setCell ⟨g, 4, none⟩ (.int .i64 ((max T x.seq : Nat) : Int)) = w6 at L6 B5 R6 ⊢
        have hx6 : (Lnk.turn e (e.now + 1) (Lnk.rowAt n (e.now + 1) (k + 1) e.out) (max T x.seq)).out[k]? = some { x with tries := x.tries + 1, sent := e.now + 1 } := HX4.out
        have m0 : ∀ i : Mem.Later w6, i.w.cell? ⟨g, 0, none⟩ = some (.int .i64 e.site) := fun i => i.cell ((cell_of_row _ _ 0 _ _ _ L6.out.row).trans rfl)
        have m5 : ∀ i : Mem.Later w6, i.w.cell? ⟨g, 5, none⟩ = some (.int .i64 e.got) := fun i => i.cell ((cell_of_row _ _ 5 _ _ _ L6.out.row).trans rfl)
        have x0 : ∀ i : Mem.Later w6, i.w.cell? ⟨p, off + k * 4, none⟩ = some (.int .i64 x.seq) := fun i => i.cell (L6.out.bodyCell hx6 (j := 0) rfl)
        have x3 : ∀ i : Mem.Later w6, i.w.cell? ⟨p, off + k * 4 + 3, none⟩ = some (.string (Mem.str x.body)) := fun i => i.cell (L6.out.bodyCell hx6 (j := 3) rfl)
        clear hx6
        have hput := fun w => frame_put_one e.site x.seq e.got x.body Hok.out.1 HXM.out.1 Hok.out.2.2.1 HXM.out.2.2.2 w
        refine Mem.wp_region_later (by kernel_rfl) (by kernel_rfl) ?_
        repeat (go_big_quiet_step ((go_at_call 32; exact Mem.later_call (hput _))))
        refine wpQuiet_nil ?_
        intro w7 hw7
        obtain ⟨i7, hi7⟩ := hw7
        have h7 : Below w6.heap.size w6 w7 := hi7 ▸ i7.h
        clear hi7 i7 m0 m5 x0 x3 hput
        have L7 := Lib.hid (L6.out.below h7)
        have R7 := Lib.hid (R6.out.below h7)
        have B7 := Lib.hid (B5.out.trans (Mem.But.of_below h7))
        clear h7
        obtain ⟨S, hS⟩ : ∃ S, Lnk.frameOf e x = S := ⟨_, rfl⟩
        have hS2 : Frm.put { kind := 1, site := (e.site : Int), seq := (x.seq : Int), ack := (e.got : Int), body := x.body } = S := hS
        rw [hS2]
        have HS := Lib.hid hS
        obtain ⟨N, hN⟩ : ∃ N, (Lnk.sentAt e n (e.now + 1) k e.out).length = N := ⟨_, rfl⟩
        have hN8 : N ≤ 8 := hN ▸ Lnk.sentAt_le hk8
        rw [hN] at R7 ⊢
        have HN := Lib.hid hN
        clear hS hS2 hN
        obtain ⟨i, hi, hz, hz1, hz2⟩ := info_parts Lnk.info_str
        have hsz7 : w.heap.size ≤ w7.heap.size := B7.out.size
        go_wp2_with (at_builtin; refine Mem.wpList_append_row _ rfl (.tmp 86) (.tmp 88) 32 rfl w.heap.size 9 i _ 1 16 Try.underlying32 hi hz hz1 hz2 rfl (.slice B N c) N _ rfl (R7.out.alloc _) ⟨w7.heap.size, 0, none⟩ 1 1 [.string (Mem.str S)] rfl rfl (World.news_of_block (heap_alloc_new _ _)) (by intro u hu; simp at hu; subst hu; rfl) (by omega) (by unfold maxLen; omega) (by omega) (by simp; omega) ?_; intro v' w8 hown hgrow hat)
        go_roundw
        case measure => simp [intOf]; omega
        case rel =>
        have hal : Below w7.heap.size w7 (w7.alloc (.cells #[.string (Mem.str S)] 9)) := (Below.refl _ _).alloc (Nat.le_refl _) _
        have hfr : ∀ k', F k' → (Value.slice B N c).ownBlock ≠ some k' := fun k' hk' ho => by
          have := (R7.out.block ho).1
          have := H.out.lt k' hk'
          omega
        refine ⟨k + 1, by omega, by omega, by go_num, ?_, ?_, ?_⟩
        · rw [Lnk.topAt_yes HX.out HD.out, HT.out]
          exact (L7.out.below hal).grown hgrow hfr
        · rw [Lnk.sentAt_yes HX.out HD.out, HS.out, List.length_append, HN.out]
          unfold Lnk.strs
          rw [List.map_append]
          exact hown
        · refine (B7.out.trans (Mem.But.of_below hal)).later (T := fun k' => (Value.slice B N c).ownBlock = some k') ⟨hgrow.os, hgrow.tape, hgrow.output, hgrow.size, fun k' hk' hF => hgrow.block k' hk' fun e => hF e.symm⟩ fun i hi ho => ?_
          have := (R7.out.block ho).1
          omega
      · have hd' : Lnk.due n (e.now + 1) x = false := by simpa using hd
        rw [hd'] at hdue
        go_wp2_with (go_at_call 31; refine hdue.mono ?_; rintro r w2 ⟨rfl, hb2⟩)
        go_roundw
        case measure => simp [intOf]; omega
        case rel =>
        refine ⟨k + 1, by omega, by omega, by go_num, ?_, ?_, HB.out.trans (Mem.But.of_below hb2)⟩
        · rw [Lnk.rowAt_succ HX.out, Lnk.topAt_no HX.out hd']
          unfold Lnk.step
          rw [if_neg hd, Lnk.set_same HX2.out]
          exact HL.out.below hb2
        · rw [Lnk.sentAt_no HX.out hd']
          exact HR.out.below hb2
    · have hall : Lnk.rowAt n (e.now + 1) k e.out = Lnk.rowAt n (e.now + 1) 8 e.out ∧ Lnk.sentAt e n (e.now + 1) k e.out = Lnk.sentAt e n (e.now + 1) 8 e.out ∧ Lnk.topAt n (e.now + 1) k e.top e.out = Lnk.topAt n (e.now + 1) 8 e.top e.out := by
        rcases Nat.lt_or_ge k e.out.length with h | h
        · have : k = 8 := by omega
          subst this
          exact ⟨rfl, rfl, rfl⟩
        · exact Lnk.at_all h hk8
      rw [hall.1, hall.2.2] at hl
      rw [hall.2.1] at hr hc1 ⊢
      clear hall
      obtain ⟨S, hS⟩ : ∃ S, Lnk.sentAt e n (e.now + 1) 8 e.out = S := ⟨_, rfl⟩
      obtain ⟨N, hN⟩ : ∃ N, S.length = N := ⟨_, rfl⟩
      have hN8 : N ≤ 8 := by rw [← hN, ← hS]; exact Lnk.sentAt_le (by omega)
      rw [hS, hN] at hr hc1 ⊢
      have k10 : wr.cell? ⟨g, 10, none⟩ = some (.bool e.owed) := (cell_of_row _ _ 10 _ _ _ hl.row).trans rfl
      have k2 : wr.cell? ⟨g, 2, none⟩ = some (.slice A e.out.length cap) := (cell_of_row _ _ 2 _ _ _ hl.row).trans rfl
      have f10 := frozen_of_row _ g 10 _ _ hl.row
      have HL := Lib.hid hl
      have HR := Lib.hid hr
      have HB := Lib.hid hb
      have HS := Lib.hid hS
      have HN := Lib.hid hN
      clear hl hr hb hS hN
      have hd : (k < e.out.length ∧ k = 8) ∨ (¬ k < e.out.length ∧ (k : Int) = k) := by
        rcases Nat.lt_or_ge k e.out.length with h | h
        · exact .inl ⟨h, by omega⟩
        · exact .inr ⟨by omega, rfl⟩
      clear hin
      by_cases h0 : N = 0
      · subst h0
        have hS0 : S = [] := List.eq_nil_of_length_eq_zero HN.out
        have hR0 : Lnk.strs S = [] := by rw [hS0]; rfl
        cases ho : e.owed with
        | false =>
          have hf1 := Lnk.tick_fst_calm (n := n) ho
          have hf2 : (Lnk.tick n e).2 = S := by
            rw [← HS.out]
            exact Lnk.tick_snd (fun h => by rw [ho] at h; cases h.2)
          have HF1 := Lib.hid hf1
          have HF2 := Lib.hid hf2
          rw [ho] at k10
          have HO := Lib.hid ho
          clear hf1 hf2 ho hS0 hR0
          rcases hd with ⟨d1, rfl⟩ | ⟨d1, -⟩
          all_goals
            go_wp2
            rw [Exit.noGoto_ret]
            go_ret
            rw [HF1.out, HF2.out, HN.out]
            exact ⟨_, rfl, ⟨_, _, HL.out⟩, HR.out, HB.out⟩
        | true =>
          rw [ho] at k10
          have hf2 := Lnk.tick_snd_tell (n := n) (e := e) ⟨HS.out.trans hS0, ho⟩
          have HF2 := Lib.hid hf2
          have m0 : ∀ i : Mem.Later wr, i.w.cell? ⟨g, 0, none⟩ = some (.int .i64 e.site) := fun i => i.cell ((cell_of_row _ _ 0 _ _ _ HL.out.row).trans rfl)
          have m5 : ∀ i : Mem.Later wr, i.w.cell? ⟨g, 5, none⟩ = some (.int .i64 e.got) := fun i => i.cell ((cell_of_row _ _ 5 _ _ _ HL.out.row).trans rfl)
          have hput := fun w => frame_put_two e.site e.got Hok.out.1 Hok.out.2.2.1 w
          have HO := Lib.hid ho
          have HR0 := Lib.hid hR0
          obtain ⟨i, hi, hz, hz1, hz2⟩ := info_parts Lnk.info_str
          clear hf2 ho hS0 hR0
          rcases hd with ⟨d1, rfl⟩ | ⟨d1, -⟩
          all_goals
            go_wp2
            refine Mem.wp_region_later (by kernel_rfl) (by kernel_rfl) ?_
            repeat (go_big_quiet_step ((go_at_call 32; exact Mem.later_call (hput _))))
            refine wpQuiet_nil ?_
            intro w7 hw7
            obtain ⟨i7, hi7⟩ := hw7
            have h7 : Below wr.heap.size wr w7 := hi7 ▸ i7.h
            clear hi7 i7 m0 m5 hput k10 k2 f10
            have hr7 := HR.out.below h7
            rw [HR0.out] at hr7
            have L7 := Lib.hid (HL.out.below h7)
            have R7 := Lib.hid hr7
            have B7 := Lib.hid (HB.out.trans (Mem.But.of_below h7))
            have hsz7 : w.heap.size ≤ w7.heap.size := B7.out.size
            clear h7 hr7
            obtain ⟨S2, hS2⟩ : ∃ S2, Frm.put ⟨2, e.site, 0, e.got, []⟩ = S2 := ⟨_, rfl⟩
            rw [hS2] at HF2 ⊢
            clear hS2
            have hal : Below w7.heap.size w7 (w7.alloc (.cells #[.string (Mem.str S2)] 9)) := (Below.refl _ _).alloc (Nat.le_refl _) _
            have hfr : ∀ k', F k' → (Value.slice B 0 c).ownBlock ≠ some k' := fun k' hk' ho => by
              have := (R7.out.block ho).1
              have := H.out.lt k' hk'
              omega
            have HFR := Lib.hid hfr
            clear hfr
            go_wp2_with (at_builtin; go_loud (
              refine Mem.wpList_append_row _ rfl (.tmp 113) (.tmp 115) 32 rfl w.heap.size 9 i _ 1 16 Try.underlying32 hi hz hz1 hz2 rfl (.slice B 0 c) 0 _ rfl (R7.out.alloc _) ⟨w7.heap.size, 0, none⟩ 1 1 [.string (Mem.str S2)] rfl rfl (World.news_of_block (heap_alloc_new _ _)) (by intro u hu; simp at hu; subst hu; rfl) (by omega) (by unfold maxLen; omega) (by omega) (by simp; omega) ?_
              intro v' w8 hown hgrow hat
              obtain ⟨B', c', hv', _, _⟩ := hown.form
              subst hv'
              have L8 := Lib.hid ((L7.out.below hal).grown hgrow HFR.out)
              have b10 : w8.cell? ⟨g, 10, none⟩ = some (.bool e.owed) := (cell_of_row _ _ 10 _ _ _ L8.out.row).trans rfl
              have ff10 := frozen_of_row _ g 10 _ _ L8.out.row
              have HOWN := Lib.hid hown
              clear hown))
            rw [Exit.noGoto_ret]
            go_ret
            rw [Lnk.tick_fst, HF2.out]
            refine ⟨_, rfl, ⟨_, _, L8.out.put { Lnk.turn e (e.now + 1) (Lnk.rowAt n (e.now + 1) 8 e.out) (Lnk.topAt n (e.now + 1) 8 e.top e.out) with owed := false } (Mem.put_setCell w8 g 10 (.bool false) _ _ L8.out.row) rfl rfl rfl⟩, ?_, ?_⟩
            · exact HOWN.out.keep fun i hi ho => heap_setCell_other _ _ _ _ (fun e => by have := (HOWN.out.block ho).1; have := H.out.lt g H.out.fg; simp at e; omega)
            · refine ((B7.out.trans (Mem.But.of_below hal)).later (T := fun k' => (Value.slice B 0 c).ownBlock = some k') ⟨hgrow.os, hgrow.tape, hgrow.output, hgrow.size, fun k' hk' hF => hgrow.block k' hk' fun e => hF e.symm⟩ fun i hi ho => ?_).trans (Mem.But.of_setCell _ _ L8.out.fg)
              have := (R7.out.block ho).1
              omega
      · have n0 : ((N : Int) == 0) = false := by simp; omega
        have n1 : 0 < N := by omega
        have hSn : S ≠ [] := fun e => h0 (by rw [← HN.out, e]; rfl)
        have hf2 : (Lnk.tick n e).2 = S := by
          rw [← HS.out]
          exact Lnk.tick_snd (fun h => hSn (HS.out ▸ h.1))
        have HF2 := Lib.hid hf2
        clear hf2 hSn
        rcases hd with ⟨d1, rfl⟩ | ⟨d1, -⟩
        all_goals
          go_wp2
          rw [Exit.noGoto_ret]
          go_ret
          rw [Lnk.tick_fst, HF2.out, HN.out]
          refine ⟨_, rfl, ⟨_, _, HL.out.put { Lnk.turn e (e.now + 1) (Lnk.rowAt n (e.now + 1) 8 e.out) (Lnk.topAt n (e.now + 1) 8 e.top e.out) with owed := false } (Mem.put_setCell wr g 10 (.bool false) _ _ HL.out.row) rfl rfl rfl⟩, ?_, HB.out.trans (Mem.But.of_setCell _ _ HL.out.fg)⟩
          exact HR.out.keep fun i hi ho => heap_setCell_other _ _ _ _ (fun e => by have := (HR.out.block ho).1; have := H.out.lt g H.out.fg; simp at e; omega)
end Go.Proofs.Ytgkadhogfejheaa
