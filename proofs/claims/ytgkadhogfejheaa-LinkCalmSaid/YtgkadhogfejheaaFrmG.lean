/- The walks of package frame: getting, the fields. -/
import Derived.Test.YtgkadhogfejheaaFrmL
namespace Go.Proofs.Ytgkadhogfejheaa
open Go.RowKit

namespace Frm
/-- the reader of a frame at block r: what it reads by, at block g, and what it has read -/
def Rr (w : World) (r g : Nat) (f : F) : Prop :=
  w.heap[r]? = some (.cells #[.pointer (some ⟨g, 0, none⟩), .int .i64 f.kind, .int .i64 f.site, .int .i64 f.seq, .int .i64 f.ack, .string (Mem.str f.body)] 112 (0, 0))
theorem Rr.cell {w : World} {r g : Nat} {f : F} (h : Rr w r g f) (i : Nat) {v : Value} (hv : (#[Value.pointer (some ⟨g, 0, none⟩), .int .i64 f.kind, .int .i64 f.site, .int .i64 f.seq, .int .i64 f.ack, .string (Mem.str f.body)] : Array Value)[i]? = some v) :
    w.cell? ⟨r, i, none⟩ = some v := (cell_of_row w r i _ _ _ h).trans hv
theorem Rr.free {w : World} {r g : Nat} {f : F} (h : Rr w r g f) (i : Nat) : w.frozen? ⟨r, i, none⟩ = false := frozen_of_row _ _ _ _ _ h
theorem Rr.lt {w : World} {r g : Nat} {f : F} (h : Rr w r g f) : r < w.heap.size := (Array.getElem?_eq_some_iff.1 h).1
theorem step_x {most : Nat} {l t : List UInt8} {x : Nat} {f f' : Int} (h : Num.step most l f = (x, t, f')) : x ≤ most ∧ t.length ≤ l.length := by
  unfold Num.step at h
  split at h
  · simp at h; obtain ⟨rfl, rfl, _⟩ := h; simp
  · split at h
    · rename_i hr; simp at h; obtain ⟨rfl, rfl, _⟩ := h
      have := Num.read_put hr
      exact ⟨this.2, by rw [this.1]; simp⟩
    · simp at h; obtain ⟨rfl, rfl, _⟩ := h; simp
end Frm

set_option maxRecDepth 100000 in
theorem frame_field1 (r g : Nat) (hne : r ≠ g) (f : Frm.F) (l : List UInt8) (c : Int) (w : World) (hl : l.length < 2 ^ 62) (hr : Frm.Rr w r g f) (hrd : Num.Rd w g l c) :
    Calls Try.prog 66 #[.pointer (some ⟨r, 0, none⟩)] w fun e w' =>
      ∃ (x : Nat) (t : List UInt8) (c' : Int), Num.step 16 l c = (x, t, c') ∧ e = .returned (.tuple #[]) ∧ Frm.Rr w' r g { f with site := x } ∧ Num.Rd w' g t c' ∧ Mem.But (fun k => k = g ∨ k = r) w w' := by
  have e0 := hr.cell 0 rfl
  have Hr := Lib.hid hr
  have Hrd := Lib.hid hrd
  have Hl := Lib.hid hl
  clear hr hrd hl
  go_enter Try.func66, Try.ntmps66
  go_wp2_with (fail)
  refine (nums_Num g 16 l c w (by omega) Hl.out Hrd.out).mono ?_
  rintro e w1 ⟨x, t, c', hst, rfl, hrd1, hbut⟩
  have hx := (Frm.step_x hst).1
  have hw : wrap64 (x : Int) = (x : Int) := by unfold wrap64; omega
  have hr1 : Frm.Rr w1 r g f := (hbut.block r Hr.out.lt hne).trans Hr.out
  have e1 := hr1.cell 2 rfl
  have e2 := hr1.free 2
  have Hr1 := Lib.hid hr1
  have Hst := Lib.hid hst
  have Hrd1 := Lib.hid hrd1
  have Hbut := Lib.hid hbut
  clear hst hrd1 hbut hr1 hx
  go_wp2
  have hp := Mem.put_setCell w1 r 2 (.int .i64 x) _ _ Hr1.out
  refine ⟨rfl, .tuple #[], by simp [results, Try.results66], x, t, c', Hst.out, rfl, hp.row, (hp.other g (Ne.symm hne)).trans Hrd1.out, ?_⟩
  exact (Hbut.out.mono fun _ _ h => .inl h).trans (Mem.But.of_put hp (.inr rfl))
set_option maxRecDepth 100000 in
theorem frame_field2 (r g : Nat) (hne : r ≠ g) (f : Frm.F) (l : List UInt8) (c : Int) (w : World) (hl : l.length < 2 ^ 62) (hr : Frm.Rr w r g f) (hrd : Num.Rd w g l c) :
    Calls Try.prog 68 #[.pointer (some ⟨r, 0, none⟩)] w fun e w' =>
      ∃ (x : Nat) (t : List UInt8) (c' : Int), Num.step 1099511627776 l c = (x, t, c') ∧ e = .returned (.tuple #[]) ∧ Frm.Rr w' r g { f with seq := x } ∧ Num.Rd w' g t c' ∧ Mem.But (fun k => k = g ∨ k = r) w w' := by
  have e0 := hr.cell 0 rfl
  have Hr := Lib.hid hr
  have Hrd := Lib.hid hrd
  have Hl := Lib.hid hl
  clear hr hrd hl
  go_enter Try.func68, Try.ntmps68
  go_wp2_with (fail)
  refine (nums_Num g 1099511627776 l c w (by omega) Hl.out Hrd.out).mono ?_
  rintro e w1 ⟨x, t, c', hst, rfl, hrd1, hbut⟩
  have hx := (Frm.step_x hst).1
  have hw : wrap64 (x : Int) = (x : Int) := by unfold wrap64; omega
  have hr1 : Frm.Rr w1 r g f := (hbut.block r Hr.out.lt hne).trans Hr.out
  have e1 := hr1.cell 3 rfl
  have e2 := hr1.free 3
  have Hr1 := Lib.hid hr1
  have Hst := Lib.hid hst
  have Hrd1 := Lib.hid hrd1
  have Hbut := Lib.hid hbut
  clear hst hrd1 hbut hr1 hx
  go_wp2
  have hp := Mem.put_setCell w1 r 3 (.int .i64 x) _ _ Hr1.out
  refine ⟨rfl, .tuple #[], by simp [results, Try.results68], x, t, c', Hst.out, rfl, hp.row, (hp.other g (Ne.symm hne)).trans Hrd1.out, ?_⟩
  exact (Hbut.out.mono fun _ _ h => .inl h).trans (Mem.But.of_put hp (.inr rfl))

set_option maxRecDepth 100000 in
theorem frame_field3 (r g : Nat) (hne : r ≠ g) (f : Frm.F) (l : List UInt8) (c : Int) (w : World) (hl : l.length < 2 ^ 62) (hr : Frm.Rr w r g f) (hrd : Num.Rd w g l c) :
    Calls Try.prog 69 #[.pointer (some ⟨r, 0, none⟩)] w fun e w' =>
      ∃ (x : Nat) (t : List UInt8) (c' : Int), Num.step 1099511627776 l c = (x, t, c') ∧ e = .returned (.tuple #[]) ∧ Frm.Rr w' r g { f with ack := x } ∧ Num.Rd w' g t c' ∧ Mem.But (fun k => k = g ∨ k = r) w w' := by
  have e0 := hr.cell 0 rfl
  have Hr := Lib.hid hr
  have Hrd := Lib.hid hrd
  have Hl := Lib.hid hl
  clear hr hrd hl
  go_enter Try.func69, Try.ntmps69
  go_wp2_with (fail)
  refine (nums_Num g 1099511627776 l c w (by omega) Hl.out Hrd.out).mono ?_
  rintro e w1 ⟨x, t, c', hst, rfl, hrd1, hbut⟩
  have hx := (Frm.step_x hst).1
  have hw : wrap64 (x : Int) = (x : Int) := by unfold wrap64; omega
  have hr1 : Frm.Rr w1 r g f := (hbut.block r Hr.out.lt hne).trans Hr.out
  have e1 := hr1.cell 4 rfl
  have e2 := hr1.free 4
  have Hr1 := Lib.hid hr1
  have Hst := Lib.hid hst
  have Hrd1 := Lib.hid hrd1
  have Hbut := Lib.hid hbut
  clear hst hrd1 hbut hr1 hx
  go_wp2
  have hp := Mem.put_setCell w1 r 4 (.int .i64 x) _ _ Hr1.out
  refine ⟨rfl, .tuple #[], by simp [results, Try.results69], x, t, c', Hst.out, rfl, hp.row, (hp.other g (Ne.symm hne)).trans Hrd1.out, ?_⟩
  exact (Hbut.out.mono fun _ _ h => .inl h).trans (Mem.But.of_put hp (.inr rfl))

set_option maxRecDepth 100000 in
theorem frame_field4 (r g : Nat) (hne : r ≠ g) (f : Frm.F) (l : List UInt8) (c : Int) (w : World) (hl : l.length < 2 ^ 62) (hr : Frm.Rr w r g f) (hrd : Num.Rd w g l c) :
    Calls Try.prog 70 #[.pointer (some ⟨r, 0, none⟩)] w fun e w' =>
      ∃ (x : List UInt8) (t : List UInt8) (c' : Int), Num.text 1048576 l c = (x, t, c') ∧ e = .returned (.tuple #[]) ∧ Frm.Rr w' r g { f with body := x } ∧ Num.Rd w' g t c' ∧ Mem.But (fun k => k = g ∨ k = r) w w' := by
  have e0 := hr.cell 0 rfl
  have Hr := Lib.hid hr
  have Hrd := Lib.hid hrd
  have Hl := Lib.hid hl
  clear hr hrd hl
  go_enter Try.func70, Try.ntmps70
  go_wp2_with (fail)
  refine (nums_Text g 1048576 l c w (by omega) Hl.out Hrd.out).mono ?_
  rintro e w1 ⟨x, t, c', hst, rfl, hrd1, hbut⟩
  have hr1 : Frm.Rr w1 r g f := (hbut.block r Hr.out.lt hne).trans Hr.out
  have e1 := hr1.cell 5 rfl
  have e2 := hr1.free 5
  have Hr1 := Lib.hid hr1
  have Hst := Lib.hid hst
  have Hrd1 := Lib.hid hrd1
  have Hbut := Lib.hid hbut
  clear hst hrd1 hbut hr1
  go_wp2
  have hp := Mem.put_setCell w1 r 5 (.string (Mem.str x)) _ _ Hr1.out
  refine ⟨rfl, .tuple #[], by simp [results, Try.results70], x, t, c', Hst.out, rfl, hp.row, (hp.other g (Ne.symm hne)).trans Hrd1.out, ?_⟩
  exact (Hbut.out.mono fun _ _ h => .inl h).trans (Mem.But.of_put hp (.inr rfl))

end Go.Proofs.Ytgkadhogfejheaa
