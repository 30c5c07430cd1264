/- The walks of the functions inside spans.walk. -/
import Derived.Test.YtihdcglkmilckaaSpnX
import Derived.Shelf.Abstract
namespace Go.Proofs.Ytihdcglkmilckaa
open Go.RowKit

namespace Wlk
open Spn
/-- what stands behind the edges so far -/
structure St where
  out : List Span
  last : Int
  ina : Bool
  inb : Bool
abbrev Edge := Int × Bool
def upto (what : Bool → Bool → Bool) (p : Int) (s : St) : St := { s with out := if what s.ina s.inb then add s.out ⟨s.last, p - s.last⟩ else s.out, last := p }
def turn (what : Bool → Bool → Bool) (most : Int) : St → List Edge → St × List Edge
  | s, [] => (s, [])
  | s, (q, b) :: R => if q ≤ most then turn what most { upto what q s with inb := b } R else (s, (q, b) :: R)
/-- what a function of being in the one and in the other computes -/
def Does (f : Nat) (what : Bool → Bool → Bool) : Prop := ∀ x y w, Calls Try.prog f #[.bool x, .bool y] w fun e w' => e = .returned (.bool (what x y)) ∧ w = w'
theorem grown_but {w w1 : World} {row : Option Nat} (h : w.grownBy w1 row) : Mem.But (fun k => row = some k) w w1 := ⟨h.os, h.tape, h.output, h.size, fun k hk hn => h.block k hk (fun e => hn e.symm)⟩
theorem but_row {S : Nat → Prop} {w w1 : World} (h : Mem.But S w w1) {g : Nat} {o : Obj} (hg : w.heap[g]? = some o) (hn : ¬ S g) : w1.heap[g]? = some o := (h.block g (Array.getElem?_eq_some_iff.1 hg).1 hn).trans hg
/-- the boxes of the two functions: apart -/
structure Boxes (Bi Ba Bb Bo Bl : Nat) : Prop where
  io : Bi ≠ Bo
  ao : Ba ≠ Bo
  bo : Bb ≠ Bo
  lo : Bl ≠ Bo
  il : Bi ≠ Bl
  al : Ba ≠ Bl
  bl : Bb ≠ Bl
end Wlk

theorem does_any : Wlk.Does 36 (fun x y => x || y) := by
  intro x y w
  cases x
  all_goals
    go_enter Try.func36, Try.ntmps36
    go_wp2
    go_ret
    exact ⟨rfl, rfl⟩
theorem does_both : Wlk.Does 37 (fun x y => x && y) := by
  intro x y w
  cases x
  all_goals
    go_enter Try.func37, Try.ntmps37
    go_wp2
    go_ret
    exact ⟨rfl, rfl⟩
theorem does_less : Wlk.Does 38 (fun x y => x && !y) := by
  intro x y w
  cases x
  all_goals
    go_enter Try.func38, Try.ntmps38
    go_wp2
    go_ret
    exact ⟨rfl, rfl⟩

set_option maxRecDepth 100000 in
set_option maxHeartbeats 1000000 in
theorem walk_upto (f : Nat) (what : Bool → Bool → Bool) (hf : Wlk.Does f what) (he : ∀ args w, (callFunc f args).run Try.prog w = .ok (.enter f args) w) (s : Wlk.St) (p : Int) (Bi Ba Bb Bo Bl base : Nat) (v : Value) (w : World) (hB : Wlk.Boxes Bi Ba Bb Bo Bl)
    (ri : w.heap[Bi]? = some (.cells #[.func (.func f) #[] #[]] 52 (0, 0))) (ra : w.heap[Ba]? = some (.cells #[.bool s.ina] 4 (0, 0))) (rb : w.heap[Bb]? = some (.cells #[.bool s.inb] 4 (0, 0)))
    (ro : w.heap[Bo]? = some (.cells #[v] 22 (0, 0))) (rl : w.heap[Bl]? = some (.cells #[.int .i64 s.last] 3 (0, 0))) (hown : Spn.Own w base v s.out) (hvo : v.ownBlock ≠ some Bo) (hvl : v.ownBlock ≠ some Bl) (hbase : base ≤ w.heap.size)
    (hlen : s.out.length ≤ 10000) (hfits : Spn.Fits s.out) (h0 : 0 ≤ s.last) (h1 : s.last ≤ 20000) (hp0 : 0 ≤ p) (hp1 : p ≤ 20000) :
    Calls Try.prog 46 #[.int .i64 p, .pointer (some ⟨Bi, 0, none⟩), .pointer (some ⟨Ba, 0, none⟩), .pointer (some ⟨Bb, 0, none⟩), .pointer (some ⟨Bo, 0, none⟩), .pointer (some ⟨Bl, 0, none⟩)] w fun e w' =>
      e = .returned (.tuple #[]) ∧ ∃ v', w'.heap[Bo]? = some (.cells #[v'] 22 (0, 0)) ∧ Spn.Own w' base v' (Wlk.upto what p s).out ∧ w'.heap[Bl]? = some (.cells #[.int .i64 p] 3 (0, 0)) ∧
        Mem.But (fun k => k = Bo ∨ k = Bl ∨ v.ownBlock = some k) w w' ∧ (v'.ownBlock = v.ownBlock ∨ ∃ b, v'.ownBlock = some b ∧ w.heap.size ≤ b) := by
  obtain ⟨out, last, ina, inb⟩ := s
  have ci : w.cell? ⟨Bi, 0, none⟩ = some (.func (.func f) #[] #[]) := (cell_of_row _ _ 0 _ _ _ ri).trans rfl
  have ca : w.cell? ⟨Ba, 0, none⟩ = some (.bool ina) := (cell_of_row _ _ 0 _ _ _ ra).trans rfl
  have cb : w.cell? ⟨Bb, 0, none⟩ = some (.bool inb) := (cell_of_row _ _ 0 _ _ _ rb).trans rfl
  have co : w.cell? ⟨Bo, 0, none⟩ = some v := (cell_of_row _ _ 0 _ _ _ ro).trans rfl
  have cl : w.cell? ⟨Bl, 0, none⟩ = some (.int .i64 last) := (cell_of_row _ _ 0 _ _ _ rl).trans rfl
  obtain ⟨A, cap, rfl, hcap, _⟩ := Spn.own_form hown
  have HO := Lib.hid hown
  have HFi := Lib.hid hfits
  have Hf := Lib.hid (show ∀ x y w, Calls Try.prog f #[.bool x, .bool y] w fun e w' => e = .returned (.bool (what x y)) ∧ w = w' from hf)
  have HB := Lib.hid hB
  have Rl := Lib.hid rl
  have Ro := Lib.hid ro
  have Hvo := Lib.hid hvo
  have Hvl := Lib.hid hvl
  have Hbase := Lib.hid hbase
  have Hlen := Lib.hid hlen
  simp only at h0 h1
  have hcall : ∀ x y w, (callFunc f #[.bool x, .bool y]).run Try.prog w = .ok (.enter f #[.bool x, .bool y]) w := fun x y w => he _ _
  clear he
  cases hw : what ina inb with
  | false =>
    have Hw := Lib.hid hw
    have fl := frozen_of_row _ Bl 0 _ _ rl
    clear hown hfits hf hB rl ro ri ra rb hvo hvl hbase hlen hw hcap
    go_enter Try.func46, Try.ntmps46
    go_wp2_with (
      with_reducible refine (Hf.out ina inb _).mono ?_
      rw [Hw.out]
      rintro e w1 ⟨rfl, rfl⟩)
    have hp := Mem.put_setCell w Bl 0 (.int .i64 p) _ _ Rl.out
    go_end0
    refine ⟨rfl, .slice A out.length cap, (hp.other _ (Ne.symm HB.out.lo)).trans Ro.out, ?_, hp.row, (Mem.But.of_put hp (.inr (.inl rfl))), .inl rfl⟩
    have : (Wlk.upto what p ⟨out, last, ina, inb⟩).out = out := by unfold Wlk.upto; simp only; rw [Hw.out]; rfl
    rw [this]
    exact Spn.own_keep HO.out (fun k _ hk => hp.other k (fun e => Hvl.out (by rw [hk, e])))
  | true =>
    have Hw := Lib.hid hw
    have Hcl := Lib.hid cl
    clear hown hfits hf hB rl ro ri ra rb hvo hvl hbase hlen hw hcap
    go_enter Try.func46, Try.ntmps46
    go_wp2_with (first
      | (go_at_call 33
         refine (spans_add out last (p - last) _ base _ HO.out (by have := Hlen.out; omega) (Spn.fits_last HFi.out) (by unfold Spn.Mild; simp only; omega) Hbase.out).mono ?_
         rintro e w1 ⟨v1, rfl, ho1, hg1, hat1⟩
         obtain ⟨A1, cap1, rfl, _, _⟩ := Spn.own_form ho1
         have hb1 := Wlk.grown_but hg1
         have ro1 := Wlk.but_row hb1 Ro.out Hvo.out
         have rl1 := Wlk.but_row hb1 Rl.out Hvl.out
         have co1 : w1.cell? ⟨Bo, 0, none⟩ = some (.slice A out.length cap) := (cell_of_row _ _ 0 _ _ _ ro1).trans rfl
         have cl1 : w1.cell? ⟨Bl, 0, none⟩ = some (.int .i64 last) := (cell_of_row _ _ 0 _ _ _ rl1).trans rfl
         have fo1 := frozen_of_row _ Bo 0 _ _ ro1
         have fl1 := frozen_of_row _ Bl 0 _ _ rl1
         have Ho1 := Lib.hid ho1
         have Hb1 := Lib.hid hb1
         have Hat1 := Lib.hid hat1
         have Ro1 := Lib.hid ro1
         have Rl1 := Lib.hid rl1
         have ne1 : Bl ≠ Bo := HB.out.lo
         have ne2 : Bo ≠ Bl := Ne.symm HB.out.lo
         clear ho1 hg1 hat1 hb1 ro1 rl1 ci ca cb co cl)
      | (with_reducible refine (Hf.out ina inb _).mono ?_
         rw [Hw.out]
         rintro e w0 ⟨rfl, rfl⟩))
    go_end0
    have hp1 := Mem.put_setCell _ Bo 0 (.slice A1 (Spn.add out ⟨last, p - last⟩).length cap1) _ _ Ro1.out
    have rl2 := (hp1.other _ HB.out.lo).trans Rl1.out
    have hp2 := Mem.put_setCell _ Bl 0 (.int .i64 p) _ _ rl2
    have hfar : ∀ k, k < w.heap.size → (Value.slice A1 (Spn.add out ⟨last, p - last⟩).length cap1).ownBlock = some k → k ≠ Bo ∧ k ≠ Bl := by
      intro k hk e
      rcases Hat1.out with h | ⟨b, h, hb⟩
      · rw [h] at e
        exact ⟨fun q => Hvo.out (by rw [e, q]), fun q => Hvl.out (by rw [e, q])⟩
      · rw [e] at h
        obtain rfl : k = b := by simpa using h
        omega
    have hoff : ∀ k, (Value.slice A1 (Spn.add out ⟨last, p - last⟩).length cap1).ownBlock = some k → k ≠ Bo ∧ k ≠ Bl := by
      intro k e
      by_cases hk : k < w.heap.size
      · exact hfar k hk e
      · have h1 := (Array.getElem?_eq_some_iff.1 Ro.out).1
        have h2 := (Array.getElem?_eq_some_iff.1 Rl.out).1
        exact ⟨by omega, by omega⟩
    have hout : (Wlk.upto what p ⟨out, last, ina, inb⟩).out = Spn.add out ⟨last, p - last⟩ := by unfold Wlk.upto; simp only; rw [Hw.out]; rfl
    refine ⟨rfl, _, (hp2.other _ (Ne.symm HB.out.lo)).trans hp1.row, ?_, hp2.row, ?_, Hat1.out⟩
    · rw [hout]
      refine Spn.own_keep Ho1.out (fun k _ hk => (hp2.other k (hoff k hk).2).trans (hp1.other k (hoff k hk).1))
    · refine ⟨Hb1.out.os, Hb1.out.tape, Hb1.out.output, by rw [hp2.size, hp1.size]; exact Hb1.out.size, fun k hk hn => ?_⟩
      exact (hp2.other k (fun e => hn (.inr (.inl e)))).trans ((hp1.other k (fun e => hn (.inl e))).trans (Hb1.out.block k hk (fun e => hn (.inr (.inr e)))))
end Go.Proofs.Ytihdcglkmilckaa
