/- The walks of the functions inside spans.walk. -/
import Derived.Test.YtihdcglkmilckaaSpnX
import Derived.Shelf.Abstract
import Derived.StillTailTactics
namespace Go.Proofs.Ytihdcglkmilckaa
open Go.RowKit

namespace Wlk
open Spn
/-- what stands behind the edges so far -/
structure St where
  out : List Span
  last : Int
  ina : Bool
  inb : Bool
abbrev Edge := Int × Bool
def upto (what : Bool → Bool → Bool) (p : Int) (s : St) : St := { s with out := if what s.ina s.inb then add s.out ⟨s.last, p - s.last⟩ else s.out, last := p }
def turn (what : Bool → Bool → Bool) (most : Int) : St → List Edge → St × List Edge
  | s, [] => (s, [])
  | s, (q, b) :: R => if q ≤ most then turn what most { upto what q s with inb := b } R else (s, (q, b) :: R)
/-- what a function of being in the one and in the other computes -/
def Does (f : Nat) (what : Bool → Bool → Bool) : Prop := ∀ x y w, Calls Try.prog f #[.bool x, .bool y] w fun e w' => e = .returned (.bool (what x y)) ∧ w = w'
theorem grown_but {w w1 : World} {row : Option Nat} (h : w.grownBy w1 row) : Mem.But (fun k => row = some k) w w1 := ⟨h.os, h.tape, h.output, h.size, fun k hk hn => h.block k hk (fun e => hn e.symm)⟩
theorem but_row {S : Nat → Prop} {w w1 : World} (h : Mem.But S w w1) {g : Nat} {o : Obj} (hg : w.heap[g]? = some o) (hn : ¬ S g) : w1.heap[g]? = some o := (h.block g (Array.getElem?_eq_some_iff.1 hg).1 hn).trans hg
/-- the boxes of the two functions: apart -/
structure Boxes (Bi Ba Bb Bo Bl : Nat) : Prop where
  io : Bi ≠ Bo
  ao : Ba ≠ Bo
  bo : Bb ≠ Bo
  lo : Bl ≠ Bo
  il : Bi ≠ Bl
  al : Ba ≠ Bl
  bl : Bb ≠ Bl
end Wlk

theorem does_any : Wlk.Does 36 (fun x y => x || y) := by
  intro x y w
  cases x
  all_goals
    go_enter Try.func36, Try.ntmps36
    go_wp2
    go_ret
    exact ⟨rfl, rfl⟩
theorem does_both : Wlk.Does 37 (fun x y => x && y) := by
  intro x y w
  cases x
  all_goals
    go_enter Try.func37, Try.ntmps37
    go_wp2
    go_ret
    exact ⟨rfl, rfl⟩
theorem does_less : Wlk.Does 38 (fun x y => x && !y) := by
  intro x y w
  cases x
  all_goals
    go_enter Try.func38, Try.ntmps38
    go_wp2
    go_ret
    exact ⟨rfl, rfl⟩

set_option maxRecDepth 100000 in
set_option maxHeartbeats 1000000 in
theorem walk_upto (f : Nat) (what : Bool → Bool → Bool) (hf : Wlk.Does f what) (he : ∀ args w, (callFunc f args).run Try.prog w = .ok (.enter f args) w) (s : Wlk.St) (p : Int) (Bi Ba Bb Bo Bl base : Nat) (v : Value) (w : World) (hB : Wlk.Boxes Bi Ba Bb Bo Bl)
    (ri : w.heap[Bi]? = some (.cells #[.func (.func f) #[] #[]] 52 (0, 0))) (ra : w.heap[Ba]? = some (.cells #[.bool s.ina] 4 (0, 0))) (rb : w.heap[Bb]? = some (.cells #[.bool s.inb] 4 (0, 0)))
    (ro : w.heap[Bo]? = some (.cells #[v] 22 (0, 0))) (rl : w.heap[Bl]? = some (.cells #[.int .i64 s.last] 3 (0, 0))) (hown : Spn.Own w base v s.out) (hvo : v.ownBlock ≠ some Bo) (hvl : v.ownBlock ≠ some Bl) (hbase : base ≤ w.heap.size)
    (hlen : s.out.length ≤ 10000) (hfits : Spn.Fits s.out) (h0 : 0 ≤ s.last) (h1 : s.last ≤ 20000) (hp0 : 0 ≤ p) (hp1 : p ≤ 20000) :
    Calls Try.prog 46 #[.int .i64 p, .pointer (some ⟨Bi, 0, none⟩), .pointer (some ⟨Ba, 0, none⟩), .pointer (some ⟨Bb, 0, none⟩), .pointer (some ⟨Bo, 0, none⟩), .pointer (some ⟨Bl, 0, none⟩)] w fun e w' =>
      e = .returned (.tuple #[]) ∧ ∃ v', w'.heap[Bo]? = some (.cells #[v'] 22 (0, 0)) ∧ Spn.Own w' base v' (Wlk.upto what p s).out ∧ w'.heap[Bl]? = some (.cells #[.int .i64 p] 3 (0, 0)) ∧
        Mem.But (fun k => k = Bo ∨ k = Bl ∨ v.ownBlock = some k) w w' ∧ (v'.ownBlock = v.ownBlock ∨ ∃ b, v'.ownBlock = some b ∧ w.heap.size ≤ b) := by
  obtain ⟨out, last, ina, inb⟩ := s
  have ci : w.cell? ⟨Bi, 0, none⟩ = some (.func (.func f) #[] #[]) := (cell_of_row _ _ 0 _ _ _ ri).trans rfl
  have ca : w.cell? ⟨Ba, 0, none⟩ = some (.bool ina) := (cell_of_row _ _ 0 _ _ _ ra).trans rfl
  have cb : w.cell? ⟨Bb, 0, none⟩ = some (.bool inb) := (cell_of_row _ _ 0 _ _ _ rb).trans rfl
  have co : w.cell? ⟨Bo, 0, none⟩ = some v := (cell_of_row _ _ 0 _ _ _ ro).trans rfl
  have cl : w.cell? ⟨Bl, 0, none⟩ = some (.int .i64 last) := (cell_of_row _ _ 0 _ _ _ rl).trans rfl
  obtain ⟨A, cap, rfl, hcap, _⟩ := Spn.own_form hown
  have HO := Lib.hid hown
  have HFi := Lib.hid hfits
  have Hf := Lib.hid (show ∀ x y w, Calls Try.prog f #[.bool x, .bool y] w fun e w' => e = .returned (.bool (what x y)) ∧ w = w' from hf)
  have HB := Lib.hid hB
  have Rl := Lib.hid rl
  have Ro := Lib.hid ro
  have Hvo := Lib.hid hvo
  have Hvl := Lib.hid hvl
  have Hbase := Lib.hid hbase
  have Hlen := Lib.hid hlen
  simp only at h0 h1
  have hcall : ∀ x y w, (callFunc f #[.bool x, .bool y]).run Try.prog w = .ok (.enter f #[.bool x, .bool y]) w := fun x y w => he _ _
  clear he
  cases hw : what ina inb with
  | false =>
    have Hw := Lib.hid hw
    have fl := frozen_of_row _ Bl 0 _ _ rl
    clear hown hfits hf hB rl ro ri ra rb hvo hvl hbase hlen hw hcap
    go_enter Try.func46, Try.ntmps46
    go_wp2_with (
      with_reducible refine (Hf.out ina inb _).mono ?_
      rw [Hw.out]
      rintro e w1 ⟨rfl, rfl⟩)
    have hp := Mem.put_setCell w Bl 0 (.int .i64 p) _ _ Rl.out
    go_end0
    refine ⟨rfl, .slice A out.length cap, (hp.other _ (Ne.symm HB.out.lo)).trans Ro.out, ?_, hp.row, (Mem.But.of_put hp (.inr (.inl rfl))), .inl rfl⟩
    have : (Wlk.upto what p ⟨out, last, ina, inb⟩).out = out := by unfold Wlk.upto; simp only; rw [Hw.out]; rfl
    rw [this]
    exact Spn.own_keep HO.out (fun k _ hk => hp.other k (fun e => Hvl.out (by rw [hk, e])))
  | true =>
    have Hw := Lib.hid hw
    have Hcl := Lib.hid cl
    clear hown hfits hf hB rl ro ri ra rb hvo hvl hbase hlen hw hcap
    go_enter Try.func46, Try.ntmps46
    go_wp2_with (first
      | (go_at_call 33
         refine (spans_add out last (p - last) _ base _ HO.out (by have := Hlen.out; omega) (Spn.fits_last HFi.out) (by unfold Spn.Mild; simp only; omega) Hbase.out).mono ?_
         rintro e w1 ⟨v1, rfl, ho1, hg1, hat1⟩
         obtain ⟨A1, cap1, rfl, _, _⟩ := Spn.own_form ho1
         have hb1 := Wlk.grown_but hg1
         have ro1 := Wlk.but_row hb1 Ro.out Hvo.out
         have rl1 := Wlk.but_row hb1 Rl.out Hvl.out
         have co1 : w1.cell? ⟨Bo, 0, none⟩ = some (.slice A out.length cap) := (cell_of_row _ _ 0 _ _ _ ro1).trans rfl
         have cl1 : w1.cell? ⟨Bl, 0, none⟩ = some (.int .i64 last) := (cell_of_row _ _ 0 _ _ _ rl1).trans rfl
         have fo1 := frozen_of_row _ Bo 0 _ _ ro1
         have fl1 := frozen_of_row _ Bl 0 _ _ rl1
         have Ho1 := Lib.hid ho1
         have Hb1 := Lib.hid hb1
         have Hat1 := Lib.hid hat1
         have Ro1 := Lib.hid ro1
         have Rl1 := Lib.hid rl1
         have ne1 : Bl ≠ Bo := HB.out.lo
         have ne2 : Bo ≠ Bl := Ne.symm HB.out.lo
         clear ho1 hg1 hat1 hb1 ro1 rl1 ci ca cb co cl)
      | (with_reducible refine (Hf.out ina inb _).mono ?_
         rw [Hw.out]
         rintro e w0 ⟨rfl, rfl⟩))
    go_end0
    have hp1 := Mem.put_setCell _ Bo 0 (.slice A1 (Spn.add out ⟨last, p - last⟩).length cap1) _ _ Ro1.out
    have rl2 := (hp1.other _ HB.out.lo).trans Rl1.out
    have hp2 := Mem.put_setCell _ Bl 0 (.int .i64 p) _ _ rl2
    have hfar : ∀ k, k < w.heap.size → (Value.slice A1 (Spn.add out ⟨last, p - last⟩).length cap1).ownBlock = some k → k ≠ Bo ∧ k ≠ Bl := by
      intro k hk e
      rcases Hat1.out with h | ⟨b, h, hb⟩
      · rw [h] at e
        exact ⟨fun q => Hvo.out (by rw [e, q]), fun q => Hvl.out (by rw [e, q])⟩
      · rw [e] at h
        obtain rfl : k = b := by simpa using h
        omega
    have hoff : ∀ k, (Value.slice A1 (Spn.add out ⟨last, p - last⟩).length cap1).ownBlock = some k → k ≠ Bo ∧ k ≠ Bl := by
      intro k e
      by_cases hk : k < w.heap.size
      · exact hfar k hk e
      · have h1 := (Array.getElem?_eq_some_iff.1 Ro.out).1
        have h2 := (Array.getElem?_eq_some_iff.1 Rl.out).1
        exact ⟨by omega, by omega⟩
    have hout : (Wlk.upto what p ⟨out, last, ina, inb⟩).out = Spn.add out ⟨last, p - last⟩ := by unfold Wlk.upto; simp only; rw [Hw.out]; rfl
    refine ⟨rfl, _, (hp2.other _ (Ne.symm HB.out.lo)).trans hp1.row, ?_, hp2.row, ?_, Hat1.out⟩
    · rw [hout]
      refine Spn.own_keep Ho1.out (fun k _ hk => (hp2.other k (hoff k hk).2).trans (hp1.other k (hoff k hk).1))
    · refine ⟨Hb1.out.os, Hb1.out.tape, Hb1.out.output, by rw [hp2.size, hp1.size]; exact Hb1.out.size, fun k hk hn => ?_⟩
      exact (hp2.other k (fun e => hn (.inr (.inl e)))).trans ((hp1.other k (fun e => hn (.inl e))).trans (Hb1.out.block k hk (fun e => hn (.inr (.inr e)))))
end Go.Proofs.Ytihdcglkmilckaa

namespace Go.Proofs.Ytihdcglkmilckaa
open Go.RowKit

namespace Wlk
open Spn
/-- the edges, as they lie -/
def EdgesAt (w : World) (g off : Nat) (R : List Edge) : Prop := ∀ i q b, R[i]? = some (q, b) → w.cell? ⟨g, off + i * 2, none⟩ = some (.int .i64 q) ∧ w.cell? ⟨g, off + i * 2 + 1, none⟩ = some (.bool b)
theorem edges_tail {w : World} {g off : Nat} {e : Edge} {R : List Edge} (h : EdgesAt w g off (e :: R)) : EdgesAt w g (off + 2) R := fun i q b hi => by
  have := h (i + 1) q b (by simpa using hi)
  rw [show off + (i + 1) * 2 = off + 2 + i * 2 by omega] at this
  exact this
/-- the boxes -/
structure Bx where
  i : Nat
  a : Nat
  b : Nat
  o : Nat
  l : Nat
  r : Nat
  u : Nat
  g : Nat
structure Bx.Apart (B : Bx) : Prop where
  io : B.i ≠ B.o
  il : B.i ≠ B.l
  ib : B.i ≠ B.b
  ir : B.i ≠ B.r
  ao : B.a ≠ B.o
  al : B.a ≠ B.l
  ab : B.a ≠ B.b
  ar : B.a ≠ B.r
  bo : B.b ≠ B.o
  bl : B.b ≠ B.l
  br : B.b ≠ B.r
  lo : B.l ≠ B.o
  lr : B.l ≠ B.r
  ro : B.r ≠ B.o
  uo : B.u ≠ B.o
  ul : B.u ≠ B.l
  ub : B.u ≠ B.b
  ur : B.u ≠ B.r
  go : B.g ≠ B.o
  gl : B.g ≠ B.l
  gb : B.g ≠ B.b
  gr : B.g ≠ B.r
  ia : B.i ≠ B.a
  ua : B.u ≠ B.a
  ga : B.g ≠ B.a
/-- a block that no box is -/
def Bx.Off (B : Bx) (k : Nat) : Prop := k ≠ B.i ∧ k ≠ B.a ∧ k ≠ B.b ∧ k ≠ B.o ∧ k ≠ B.l ∧ k ≠ B.r ∧ k ≠ B.u ∧ k ≠ B.g
structure Ok (s : St) (R : List Edge) : Prop where
  fits : Fits s.out
  l0 : 0 ≤ s.last
  l1 : s.last ≤ 20000
  len : s.out.length + R.length ≤ 10000
  pos : ∀ e ∈ R, 0 ≤ e.1 ∧ e.1 ≤ 20000
/-- the state in memory -/
structure Holds (f : Nat) (B : Bx) (base : Nat) (s : St) (R : List Edge) (v : Value) (A : Option Addr) (c : Nat) (w : World) : Prop where
  ri : w.heap[B.i]? = some (.cells #[.func (.func f) #[] #[]] 52 (0, 0))
  ra : w.heap[B.a]? = some (.cells #[.bool s.ina] 4 (0, 0))
  rb : w.heap[B.b]? = some (.cells #[.bool s.inb] 4 (0, 0))
  ro : w.heap[B.o]? = some (.cells #[v] 22 (0, 0))
  rl : w.heap[B.l]? = some (.cells #[.int .i64 s.last] 3 (0, 0))
  rr : w.heap[B.r]? = some (.cells #[.slice A R.length c] 60 (0, 0))
  ru : w.heap[B.u]? = some (.cells #[.func (.func 46) #[] #[.pointer (some ⟨B.i, 0, none⟩), .pointer (some ⟨B.a, 0, none⟩), .pointer (some ⟨B.b, 0, none⟩), .pointer (some ⟨B.o, 0, none⟩), .pointer (some ⟨B.l, 0, none⟩)]] 66 (0, 0))
  own : Own w base v s.out
  off : ∀ k, v.ownBlock = some k → B.Off k
  hc : R.length ≤ c
  rows : R ≠ [] → ∃ off, A = some ⟨B.g, off, none⟩ ∧ EdgesAt w B.g off R
  hb : base ≤ w.heap.size
  hg : B.g < w.heap.size
theorem upto_ok {what : Bool → Bool → Bool} {s : St} {q : Int} {b : Bool} {R : List Edge} (h : Ok s ((q, b) :: R)) : Ok { upto what q s with inb := b } R := by
  have hp := h.pos (q, b) (by simp)
  simp only at hp
  have hl := h.len
  simp only [List.length_cons] at hl
  have l0 := h.l0
  have l1 := h.l1
  refine ⟨?_, hp.1, hp.2, ?_, fun e he => h.pos e (by simp [he])⟩
  · unfold upto; simp only
    split
    · exact fits_add h.fits h.l0 (by unfold fin; simp only; omega)
    · exact h.fits
  · unfold upto; simp only
    split
    · have := add_len s.out ⟨s.last, q - s.last⟩; omega
    · omega
/-- what turn leaves -/
def TurnPost (f : Nat) (B : Bx) (base : Nat) (F : St × List Edge) (v0 : Value) (w w' : World) : Prop :=
  ∃ v A c, Holds f B base F.1 F.2 v A c w' ∧ Ok F.1 F.2 ∧ Mem.But (fun k => k = B.o ∨ k = B.l ∨ k = B.b ∨ k = B.r ∨ v0.ownBlock = some k) w w' ∧ (v.ownBlock = v0.ownBlock ∨ ∃ b, v.ownBlock = some b ∧ w.heap.size ≤ b)
structure TurnAt (f : Nat) (what : Bool → Bool → Bool) (B : Bx) (base : Nat) (most : Int) (F : St × List Edge) (v0 : Value) (w : World) (s : St) (R : List Edge) (v : Value) (A : Option Addr) (c : Nat) (wr : World) : Prop where
  h : Holds f B base s R v A c wr
  ok : Ok s R
  eq : turn what most s R = F
  but : Mem.But (fun k => k = B.o ∨ k = B.l ∨ k = B.b ∨ k = B.r ∨ v0.ownBlock = some k) w wr
  at_ : v.ownBlock = v0.ownBlock ∨ ∃ b, v.ownBlock = some b ∧ w.heap.size ≤ b
/-- how many edges are left -/
def left (r : Nat) (w : World) : Nat := match w.cell? ⟨r, 0, none⟩ with
  | some (.slice _ n _) => n
  | _ => 0
theorem left_of {r : Nat} {w : World} {A : Option Addr} {n c : Nat} (h : w.heap[r]? = some (.cells #[.slice A n c] 60 (0, 0))) : left r w = n := by
  have : w.cell? ⟨r, 0, none⟩ = some (.slice A n c) := (cell_of_row _ _ 0 _ _ _ h).trans rfl
  unfold left; rw [this]
end Wlk

set_option maxRecDepth 100000 in
set_option maxHeartbeats 2000000 in
theorem walk_turn (f : Nat) (what : Bool → Bool → Bool) (hf : Wlk.Does f what) (he : ∀ args w, (callFunc f args).run Try.prog w = .ok (.enter f args) w) (B : Wlk.Bx) (hB : B.Apart) (base : Nat) (s0 : Wlk.St) (R0 : List Wlk.Edge) (v0 : Value) (A0 : Option Addr) (c0 : Nat) (most : Int) (w : World)
    (H0 : Wlk.Holds f B base s0 R0 v0 A0 c0 w) (hok : Wlk.Ok s0 R0) :
    Calls Try.prog 47 #[.int .i64 most, .pointer (some ⟨B.r, 0, none⟩), .pointer (some ⟨B.u, 0, none⟩), .pointer (some ⟨B.b, 0, none⟩)] w fun e w' =>
      e = .returned (.tuple #[]) ∧ Wlk.TurnPost f B base (Wlk.turn what most s0 R0) v0 w w' := by
  obtain ⟨F, hF⟩ : ∃ F, Wlk.turn what most s0 R0 = F := ⟨_, rfl⟩
  rw [hF]
  have HF := Lib.hid hF
  have HH := Lib.hid H0
  have HO := Lib.hid hok
  have Hf := Lib.hid hf
  have He := Lib.hid he
  have HB := Lib.hid hB
  clear hF H0 hok hf he hB
  go_enter Try.func47, Try.ntmps47
  go_wp2
  go_loopw [] (fun wr => ∃ (s : Wlk.St) (R : List Wlk.Edge) (v : Value) (A : Option Addr) (c : Nat), Wlk.TurnAt f what B base most F v0 w s R v A c wr) (fun wr => Wlk.left B.r wr)
  case atStart => exact ⟨s0, R0, v0, A0, c0, HH.out, HO.out, HF.out, Mem.But.refl _ _, .inl rfl⟩
  case round =>
    obtain ⟨s, R, v, A, c, T⟩ := hrel
    have HT := Lib.hid T
    have cr : wr.cell? ⟨B.r, 0, none⟩ = some (.slice A R.length c) := (cell_of_row _ _ 0 _ _ _ T.h.rr).trans rfl
    clear T
    cases R with
    | nil =>
      simp only [List.length_nil] at cr
      go_wp2
      go_end0
      have := HT.out.eq
      unfold Wlk.turn at this
      rw [← this]
      exact ⟨rfl, v, A, c, HT.out.h, HT.out.ok, HT.out.but, HT.out.at_⟩
    | cons e R =>
      obtain ⟨q, b⟩ := e
      obtain ⟨off, rfl, hrows⟩ := HT.out.h.rows (by simp)
      obtain ⟨e0, e1⟩ := hrows 0 q b rfl
      have e0' : wr.cell? ⟨B.g, off, none⟩ = some (.int .i64 q) := by simpa using e0
      have e1' : wr.cell? ⟨B.g, off + 1, none⟩ = some (.bool b) := by simpa using e1
      simp only [List.length_cons] at cr
      by_cases hq : q ≤ most
      · have d1 : decide (q ≤ most) = true := decide_eq_true hq
        have cu : wr.cell? ⟨B.u, 0, none⟩ = some (.func (.func 46) #[] #[.pointer (some ⟨B.i, 0, none⟩), .pointer (some ⟨B.a, 0, none⟩), .pointer (some ⟨B.b, 0, none⟩), .pointer (some ⟨B.o, 0, none⟩), .pointer (some ⟨B.l, 0, none⟩)]) := (cell_of_row _ _ 0 _ _ _ HT.out.h.ru).trans rfl
        have hcap := HT.out.h.hc
        simp only [List.length_cons] at hcap
        have Hrows := Lib.hid hrows
        have Hq := Lib.hid hq
        clear hrows e0 e1 hq
        go_wp2
        have cr2 : wr.drew.cell? ⟨B.r, 0, none⟩ = some (.slice (some ⟨B.g, off, none⟩) (R.length + 1) c) := cr
        have cu2 : wr.drew.cell? ⟨B.u, 0, none⟩ = _ := cu
        have e02 : wr.drew.cell? ⟨B.g, off, none⟩ = some (.int .i64 q) := e0'
        have e12 : wr.drew.cell? ⟨B.g, off + 1, none⟩ = some (.bool b) := e1'
        have HT2 := Lib.hid (show Wlk.TurnAt f what B base most F v0 w s ((q, b) :: R) v (some ⟨B.g, off, none⟩) c wr.drew from ⟨⟨HT.out.h.ri, HT.out.h.ra, HT.out.h.rb, HT.out.h.ro, HT.out.h.rl, HT.out.h.rr, HT.out.h.ru, HT.out.h.own, HT.out.h.off, HT.out.h.hc, HT.out.h.rows, HT.out.h.hb, HT.out.h.hg⟩, HT.out.ok, HT.out.eq, ⟨HT.out.but.os, HT.out.but.tape, HT.out.but.output, HT.out.but.size, HT.out.but.block⟩, HT.out.at_⟩)
        have Hrows2 := Lib.hid (show Wlk.EdgesAt wr.drew B.g off ((q, b) :: R) from Hrows.out)
        have Hsz : wr.drew.heap.size = wr.heap.size := rfl
        have hlo := Wlk.left_of HT.out.h.rr
        rw [List.length_cons] at hlo
        have HLo := Lib.hid hlo
        clear cr cu e0' e1' HT Hrows hlo
        refine wp_region_still_tail 5 (by kernel_rfl) (by kernel_rfl) ?_
        simp only [List.take_succ_cons, List.take_zero, List.drop_succ_cons, List.drop_zero]
        change wpStill _ _ wr.drew (fun a' => wpList _ _ _ _ a' wr.drew) _ _
        generalize wr.drew = w4 at cr2 cu2 e02 e12 HT2 Hrows2 Hsz ⊢
        repeat still_step
        refine wpStill_nil ?_
        have hoff := HT2.out.h.off
        have hap := HB.out
        have Hcap := Lib.hid hcap
        have key : ∀ (c' : Nat) (A' : Option Addr), R.length ≤ c' → (R ≠ [] → ∃ off', A' = some ⟨B.g, off', none⟩ ∧ Wlk.EdgesAt w4 B.g off' R) → ∀ (w5 : World) (v' : Value), w5.heap[B.o]? = some (.cells #[v'] 22 (0, 0)) → Spn.Own w5 base v' (Wlk.upto what q s).out → w5.heap[B.l]? = some (.cells #[.int .i64 q] 3 (0, 0)) →
            Mem.But (fun k => k = B.o ∨ k = B.l ∨ v.ownBlock = some k) w4 w5 → (v'.ownBlock = v.ownBlock ∨ ∃ b, v'.ownBlock = some b ∧ w4.heap.size ≤ b) →
            Wlk.TurnAt f what B base most F v0 w { Wlk.upto what q s with inb := b } R v' A' c' ((w5.setCell ⟨B.b, 0, none⟩ (.bool b)).setCell ⟨B.r, 0, none⟩ (.slice A' R.length c')) := by
          intro c' A' hc' hA' w5 v' ro5 own5 rl5 hb5 at5
          have T := HT2.out
          have nov : ∀ k, v.ownBlock = some k → B.Off k := hoff
          have far : ∀ k, k = B.i ∨ k = B.a ∨ k = B.b ∨ k = B.r ∨ k = B.u ∨ k = B.g → ¬ (k = B.o ∨ k = B.l ∨ v.ownBlock = some k) := by
            intro k hk hh
            rcases hh with rfl | rfl | hh
            · rcases hk with e | e | e | e | e | e
              · exact hap.io e.symm
              · exact hap.ao e.symm
              · exact hap.bo e.symm
              · exact hap.ro e.symm
              · exact hap.uo e.symm
              · exact hap.go e.symm
            · rcases hk with e | e | e | e | e | e
              · exact hap.il e.symm
              · exact hap.al e.symm
              · exact hap.bl e.symm
              · exact hap.lr e
              · exact hap.ul e.symm
              · exact hap.gl e.symm
            · have := nov k hh
              unfold Wlk.Bx.Off at this
              omega
          have rb5 := Wlk.but_row hb5 T.h.rb (far _ (.inr (.inr (.inl rfl))))
          have rr5 := Wlk.but_row hb5 T.h.rr (far _ (.inr (.inr (.inr (.inl rfl)))))
          have hp1 := Mem.put_setCell w5 B.b 0 (.bool b) _ _ rb5
          have rr6 := (hp1.other B.r (Ne.symm hap.br)).trans rr5
          have hp2 := Mem.put_setCell _ B.r 0 (.slice A' R.length c') _ _ rr6
          have both : ∀ k, k ≠ B.b → k ≠ B.r → ((w5.setCell ⟨B.b, 0, none⟩ (.bool b)).setCell ⟨B.r, 0, none⟩ (.slice A' R.length c')).heap[k]? = w5.heap[k]? := fun k h1 h2 => (hp2.other k h2).trans (hp1.other k h1)
          have noff : ∀ k, v'.ownBlock = some k → B.Off k := by
            intro k hk
            rcases at5 with h | ⟨b', h, hge⟩
            · exact nov k (h ▸ hk)
            · rw [hk] at h
              obtain rfl : k = b' := by simpa using h
              have q1 := (Array.getElem?_eq_some_iff.1 T.h.ri).1
              have q2 := (Array.getElem?_eq_some_iff.1 T.h.ra).1
              have q3 := (Array.getElem?_eq_some_iff.1 T.h.rb).1
              have q4 := (Array.getElem?_eq_some_iff.1 T.h.ro).1
              have q5 := (Array.getElem?_eq_some_iff.1 T.h.rl).1
              have q6 := (Array.getElem?_eq_some_iff.1 T.h.rr).1
              have q7 := (Array.getElem?_eq_some_iff.1 T.h.ru).1
              have q8 := block_lt_of_cell e02
              simp only at q8
              unfold Wlk.Bx.Off
              omega
          have hbut : Mem.But (fun k => k = B.o ∨ k = B.l ∨ k = B.b ∨ k = B.r ∨ v.ownBlock = some k) w4 ((w5.setCell ⟨B.b, 0, none⟩ (.bool b)).setCell ⟨B.r, 0, none⟩ (.slice A' R.length c')) :=
            ⟨hb5.os, hb5.tape, hb5.output, by rw [hp2.size, hp1.size]; exact hb5.size, fun k hk hn => by
              have n1 : k ≠ B.b := fun e => hn (.inr (.inr (.inl e)))
              have n2 : k ≠ B.r := fun e => hn (.inr (.inr (.inr (.inl e))))
              exact (both k n1 n2).trans (hb5.block k hk (fun hh => hn (hh.elim .inl (fun hh => hh.elim (fun e => .inr (.inl e)) (fun e => .inr (.inr (.inr (.inr e))))))))⟩
          refine ⟨⟨?_, ?_, ?_, ?_, ?_, hp2.row, ?_, ?_, noff, hc', ?_, ?_, ?_⟩, Wlk.upto_ok T.ok, ?_, ?_, ?_⟩
          · exact (both _ hap.ib hap.ir).trans (Wlk.but_row hb5 T.h.ri (far _ (.inl rfl)))
          · exact (both _ hap.ab hap.ar).trans (Wlk.but_row hb5 T.h.ra (far _ (.inr (.inl rfl))))
          · exact (hp2.other _ hap.br).trans hp1.row
          · exact (both _ (Ne.symm hap.bo) (Ne.symm hap.ro)).trans ro5
          · exact (both _ (Ne.symm hap.bl) hap.lr).trans rl5
          · exact (both _ hap.ub hap.ur).trans (Wlk.but_row hb5 T.h.ru (far _ (.inr (.inr (.inr (.inr (.inl rfl)))))))
          · exact Spn.own_keep own5 (fun k _ hk => by have := noff k hk; unfold Wlk.Bx.Off at this; exact both k this.2.2.1 this.2.2.2.2.2.1)
          · intro hne
            obtain ⟨off', h1, h2⟩ := hA' hne
            refine ⟨off', h1, fun i q' b' hi => ?_⟩
            obtain ⟨c1, c2⟩ := h2 i q' b' hi
            have hg5 := hb5.block B.g (block_lt_of_cell e02) (far _ (.inr (.inr (.inr (.inr (.inr rfl))))))
            have hg6 := (both B.g hap.gb hap.gr).trans hg5
            exact ⟨(World.cell?_of_block (a := ⟨B.g, off' + i * 2, none⟩) hg6).trans c1, (World.cell?_of_block (a := ⟨B.g, off' + i * 2 + 1, none⟩) hg6).trans c2⟩
          · have := T.h.hb
            have := hbut.size
            omega
          · have := T.h.hg
            have := hbut.size
            omega
          · have := T.eq
            unfold Wlk.turn at this
            rw [if_pos Hq.out] at this
            exact this
          · refine T.but.later hbut (fun k hk hh => ?_)
            rcases hh with e | e | e | e | e
            · exact .inl e
            · exact .inr (.inl e)
            · exact .inr (.inr (.inl e))
            · exact .inr (.inr (.inr (.inl e)))
            · rcases T.at_ with h | ⟨b', h, hge⟩
              · exact .inr (.inr (.inr (.inr (h ▸ e))))
              · rw [e] at h
                obtain rfl : k = b' := by simpa using h
                omega
          · rcases at5 with h | ⟨b', h, hge⟩
            · rw [h]; exact T.at_
            · exact .inr ⟨b', h, Nat.le_trans T.but.size hge⟩
        have Key := Lib.hid key
        have HBoxes := Lib.hid (show Wlk.Boxes B.i B.a B.b B.o B.l from ⟨hap.io, hap.ao, hap.bo, hap.lo, hap.il, hap.al, hap.bl⟩)
        have HU := Lib.hid (walk_upto f what Hf.out He.out s q B.i B.a B.b B.o B.l base v w4 HBoxes.out HT2.out.h.ri HT2.out.h.ra HT2.out.h.rb HT2.out.h.ro HT2.out.h.rl HT2.out.h.own
          (fun h => (hoff _ h).2.2.2.1 rfl) (fun h => (hoff _ h).2.2.2.2.1 rfl) HT2.out.h.hb (by have := HT2.out.ok.len; omega) HT2.out.ok.fits HT2.out.ok.l0 HT2.out.ok.l1 (HT2.out.ok.pos (q, b) (by simp)).1 (HT2.out.ok.pos (q, b) (by simp)).2)
        have Hoff := Lib.hid hoff
        have ne1 : B.r ≠ B.b := Ne.symm hap.br
        have ne2 : B.b ≠ B.r := hap.br
        have ne3 : B.g ≠ B.b := hap.gb
        have ne4 : B.g ≠ B.r := hap.gr
        have Hap := Lib.hid hap
        clear key hoff hap hcap
        by_cases hc1 : c = 1
        · have hR0 : R = [] := by
            have := Hcap.out
            exact List.eq_nil_of_length_eq_zero (by omega)
          subst hc1
          subst hR0
          go_wp2_with (
            go_at_call 46
            with_reducible refine HU.out.mono ?_
            rintro e w5 ⟨rfl, v', ro5, own5, rl5, hb5, at5⟩
            have nr : ¬ (B.r = B.o ∨ B.r = B.l ∨ v.ownBlock = some B.r) := fun h => h.elim Hap.out.ro (fun h => h.elim (fun e => Hap.out.lr e.symm) (fun h => (Hoff.out _ h).2.2.2.2.2.1 rfl))
            have ng : ¬ (B.g = B.o ∨ B.g = B.l ∨ v.ownBlock = some B.g) := fun h => h.elim Hap.out.go (fun h => h.elim Hap.out.gl (fun h => (Hoff.out _ h).2.2.2.2.2.2.2 rfl))
            have nb : ¬ (B.b = B.o ∨ B.b = B.l ∨ v.ownBlock = some B.b) := fun h => h.elim Hap.out.bo (fun h => h.elim Hap.out.bl (fun h => (Hoff.out _ h).2.2.1 rfl))
            have rr5 := Wlk.but_row hb5 HT2.out.h.rr nr
            have rb5 := Wlk.but_row hb5 HT2.out.h.rb nb
            have cr5 : w5.cell? ⟨B.r, 0, none⟩ = some (.slice (some ⟨B.g, off, none⟩) 1 1) := (cell_of_row _ _ 0 _ _ _ rr5).trans rfl
            have fr5 := frozen_of_row _ B.r 0 _ _ rr5
            have cb5 : w5.cell? ⟨B.b, 0, none⟩ = some (.bool s.inb) := (cell_of_row _ _ 0 _ _ _ rb5).trans rfl
            have fb5 := frozen_of_row _ B.b 0 _ _ rb5
            have hg5 := hb5.block B.g (block_lt_of_cell e02) ng
            have e05 : w5.cell? ⟨B.g, off, none⟩ = some (.int .i64 q) := (World.cell?_of_block (a := ⟨B.g, off, none⟩) hg5).trans e02
            have e15 : w5.cell? ⟨B.g, off + 1, none⟩ = some (.bool b) := (World.cell?_of_block (a := ⟨B.g, off + 1, none⟩) hg5).trans e12
            have K5 := Lib.hid (Key.out 0 (some ⟨B.g, off, none⟩) (by simp) (fun h => absurd rfl h) w5 v' ro5 own5 rl5 hb5 at5)
            clear ro5 own5 rl5 hb5 at5 nr ng nb rr5 rb5 hg5 cr2 cu2 e02 e12)
          go_roundw
          case rel => exact ⟨_, _, _, _, _, K5.out⟩
          case measure =>
            have h1 := Wlk.left_of K5.out.h.rr
            rw [List.length_nil] at h1
            have h2 := HLo.out
            rw [h1, h2]; simp
        · have hc2 : 2 ≤ c := by have := Hcap.out; omega
          have hc3 : R.length + 1 ≤ c := Hcap.out
          have hc4 : (1 : Int) ≤ (R.length : Int) + 1 := by omega
          go_wp2_with (
            go_at_call 46
            with_reducible refine HU.out.mono ?_
            rintro e w5 ⟨rfl, v', ro5, own5, rl5, hb5, at5⟩
            have nr : ¬ (B.r = B.o ∨ B.r = B.l ∨ v.ownBlock = some B.r) := fun h => h.elim Hap.out.ro (fun h => h.elim (fun e => Hap.out.lr e.symm) (fun h => (Hoff.out _ h).2.2.2.2.2.1 rfl))
            have ng : ¬ (B.g = B.o ∨ B.g = B.l ∨ v.ownBlock = some B.g) := fun h => h.elim Hap.out.go (fun h => h.elim Hap.out.gl (fun h => (Hoff.out _ h).2.2.2.2.2.2.2 rfl))
            have nb : ¬ (B.b = B.o ∨ B.b = B.l ∨ v.ownBlock = some B.b) := fun h => h.elim Hap.out.bo (fun h => h.elim Hap.out.bl (fun h => (Hoff.out _ h).2.2.1 rfl))
            have rr5 := Wlk.but_row hb5 HT2.out.h.rr nr
            have rb5 := Wlk.but_row hb5 HT2.out.h.rb nb
            have cr5 : w5.cell? ⟨B.r, 0, none⟩ = some (.slice (some ⟨B.g, off, none⟩) (R.length + 1) c) := (cell_of_row _ _ 0 _ _ _ rr5).trans rfl
            have fr5 := frozen_of_row _ B.r 0 _ _ rr5
            have cb5 : w5.cell? ⟨B.b, 0, none⟩ = some (.bool s.inb) := (cell_of_row _ _ 0 _ _ _ rb5).trans rfl
            have fb5 := frozen_of_row _ B.b 0 _ _ rb5
            have hg5 := hb5.block B.g (block_lt_of_cell e02) ng
            have e05 : w5.cell? ⟨B.g, off, none⟩ = some (.int .i64 q) := (World.cell?_of_block (a := ⟨B.g, off, none⟩) hg5).trans e02
            have e15 : w5.cell? ⟨B.g, off + 1, none⟩ = some (.bool b) := (World.cell?_of_block (a := ⟨B.g, off + 1, none⟩) hg5).trans e12
            have K5 := Lib.hid (Key.out (c - 1) (some ⟨B.g, off + 2, none⟩) (by have := Hcap.out; omega) (fun _ => ⟨off + 2, rfl, Wlk.edges_tail Hrows2.out⟩) w5 v' ro5 own5 rl5 hb5 at5)
            clear ro5 own5 rl5 hb5 at5 nr ng nb rr5 rb5 hg5 cr2 cu2 e02 e12)
          go_roundw
          case rel => exact ⟨_, _, _, _, _, K5.out⟩
          case measure =>
            have h1 := Wlk.left_of K5.out.h.rr
            have h2 := HLo.out
            rw [h1, h2]; omega
      · have d1 : decide (q ≤ most) = false := decide_eq_false hq
        clear hrows e0 e1
        go_wp2
        go_end0
        have := HT.out.eq
        unfold Wlk.turn at this
        rw [if_neg (by omega)] at this
        rw [← this]
        exact ⟨rfl, v, _, c, HT.out.h, HT.out.ok, HT.out.but, HT.out.at_⟩
end Go.Proofs.Ytihdcglkmilckaa
