/- The reference's Tick: the walk. -/
import Derived.Test.YtgkadhogfejheaaZPlyA
import Derived.Test.YtgkadhogfejheaaZRefG
import Derived.Deep.MidRow
set_option linter.unusedVariables false
set_option linter.unusedSimpArgs false
namespace Go.Proofs.Ytgkadhogfejheaa
open Go.RowKit

namespace Ply
open Lnk
def RWaitIs (m d : Nat) (s : Bool) (n : Nat) : Prop := ∀ (t : Int) (w : World), t ≤ 9223372036854775807 →
  Calls Try.prog 33 #[.agg #[.float .f64 m, .float .f64 d, .bool s], .int .i64 t] w fun e w' => e = .returned (.int .i64 (Pac.dbl n t.toNat)) ∧ Below w.heap.size w w'
theorem bone3 (s : ByteArray) (a b : Int) : (#[Value.string s, .int .i64 a, .int .i64 b]).all (·.oneCell') = true := by simp [Value.oneCell']
theorem bflat_cons (x : Wt) (l : List Wt) : bflat (x :: l) = .string (Mem.str x.body) :: .int .i64 x.tries :: .int .i64 x.sent :: bflat l := rfl
theorem bflat_at (l : List Wt) (k j : Nat) (x : Wt) (h : l[k]? = some x) (hj : j < 3) : (bflat l)[k * 3 + j]? = (bvals x)[j]? := by
  induction l generalizing k with
  | nil => simp at h
  | cons y l ih =>
    cases k with
    | zero =>
      simp at h
      subst h
      rw [Nat.zero_mul, Nat.zero_add, bflat_cons]
      match j, hj with
      | 0, _ => rfl
      | 1, _ => rfl
      | 2, _ => rfl
    | succ k =>
      rw [bflat_cons, show (k + 1) * 3 + j = k * 3 + j + 1 + 1 + 1 by omega, List.getElem?_cons_succ, List.getElem?_cons_succ, List.getElem?_cons_succ]
      exact ih k (by simpa using h)
theorem bflat_set (l : List Wt) (k : Nat) (x y : Wt) (h : l[k]? = some x) :
    bflat (l.set k y) = (((bflat l).set (k * 3) (.string (Mem.str y.body))).set (k * 3 + 1) (.int .i64 y.tries)).set (k * 3 + 2) (.int .i64 y.sent) := by
  induction l generalizing k with
  | nil => simp at h
  | cons z l ih =>
    cases k with
    | zero => rfl
    | succ k =>
      rw [List.set_cons_succ, bflat_cons, bflat_cons, ih k (by simpa using h), show (k + 1) * 3 = k * 3 + 3 by omega, show k * 3 + 3 + 1 = k * 3 + 1 + 3 by omega, show k * 3 + 3 + 2 = k * 3 + 2 + 3 by omega]
      rfl
section
variable {w w1 : World} {B n c p off : Nat} {l : List Wt}
theorem body_range (h : Mem.Row w B 86 3 (.slice (some ⟨p, off, none⟩) n c) n (bflat l)) {k : Nat} {x : Wt} (hx : l[k]? = some x) :
    w.rangeAt p (off + k * 3) [.string (Mem.str x.body), .int .i64 x.tries, .int .i64 x.sent] := by
  intro j v hj
  have hj3 : j < 3 := (List.getElem?_eq_some_iff.1 hj).1
  obtain ⟨a, ha, hc⟩ := Mem.Row.cell h rfl ((bflat_at l k j x hx hj3).trans hj)
  cases ha
  rw [Nat.add_assoc]
  simpa [Addr.add_lit] using hc
theorem body_there (h : Mem.Row w B 86 3 (.slice (some ⟨p, off, none⟩) n c) n (bflat l)) {k : Nat} {x : Wt} (hx : l[k]? = some x) : w.there p (off + k * 3) 3 := by
  intro j hj
  refine ⟨?_, ?_⟩
  · have hr := body_range h hx
    exact hr.isSome j hj
  · rcases h.2 with ⟨h0, _⟩ | ⟨b', off', cap', cur, h0, h1, h2, _⟩
    · cases h0
    · cases h0
      exact frozen_of_row w p _ _ _ h2
theorem body_set (h : Mem.Row w B 86 3 (.slice (some ⟨p, off, none⟩) n c) n (bflat l)) {k : Nat} {x : Wt} (hx : l[k]? = some x) (y : Wt) :
    Mem.Row (w.setCells p (off + k * 3) [.string (Mem.str y.body), .int .i64 y.tries, .int .i64 y.sent]) B 86 3 (.slice (some ⟨p, off, none⟩) n c) n (bflat (l.set k y)) := by
  rw [bflat_set l k x y hx]
  have hk := (List.getElem?_eq_some_iff.1 hx).1
  have hl : k * 3 + 2 < (bflat l).length := by rw [bflat_length]; omega
  have h1 := h.set (j := k * 3) (by omega) (.string (Mem.str y.body))
  have h2 := h1.set (j := k * 3 + 1) (by rw [List.length_set]; omega) (.int .i64 y.tries)
  exact h2.set (j := k * 3 + 2) (by rw [List.length_set, List.length_set]; omega) (.int .i64 y.sent)
theorem setCells_other {b o k : Nat} (x y z : Value) (h : k ≠ b) : (w.setCells b o [x, y, z]).heap[k]? = w.heap[k]? := by
  show (((w.setCell _ _).setCell _ _).setCell _ _).heap[k]? = _
  rw [heap_setCell_other _ _ _ _ h, heap_setCell_other _ _ _ _ h, heap_setCell_other _ _ _ _ h]
theorem setCells_below {b o B : Nat} (x y z : Value) (h : B ≤ b) : Below B w (w.setCells b o [x, y, z]) := (((Below.refl B w).setCell h _).setCell h _).setCell h _
/-- the reference's end amid a tick: its own block g, its bodies' row from B on -/
structure TLie (w : World) (g B : Nat) (e : St) (pre : List Wt) (va vi : Value) : Prop where
  row : w.heap[g]? = some (.cells (rcells e pre.length va vi) 52 (0, 0))
  all : Mem.Row w B 86 3 va (pre.length + e.out.length) (bflat (pre ++ e.out))
  gB : g < B
variable {g : Nat} {e : St} {pre : List Wt} {va vi : Value}
theorem TLie.below (h : TLie w g B e pre va vi) (hb : Below w.heap.size w w1) : TLie w1 g B e pre va vi :=
  ⟨(hb.block g (Array.getElem?_eq_some_iff.1 h.row).1).trans h.row, h.all.below hb, h.gB⟩
theorem TLie.put (h : TLie w g B e pre va vi) {e' : St} (i : Nat) (v : Value) (h1 : (rcells e pre.length va vi).setIfInBounds i v = rcells e' pre.length va vi) (h2 : e'.out = e.out) : TLie (w.setCell ⟨g, i, none⟩ v) g B e' pre va vi :=
  ⟨by rw [← h1]; exact Mem.row_setCell _ _ _ _ _ _ _ h.row, by rw [h2]; exact h.all.keep fun k hk ho => heap_setCell_other _ _ _ _ (by have := (Mem.Row.block h.all ho).1; have := h.gB; show k ≠ g; omega), h.gB⟩
theorem pre_at {k : Nat} {x : Wt} {l : List Wt} (hx : l[k]? = some x) : (pre ++ l)[pre.length + k]? = some x := by
  rw [List.getElem?_append_right (by omega), Nat.add_sub_cancel_left]
  exact hx
theorem pre_set (k : Nat) (y : Wt) (l : List Wt) : (pre ++ l).set (pre.length + k) y = pre ++ l.set k y := by
  rw [List.set_append_right _ _ (by omega), Nat.add_sub_cancel_left]
theorem TLie.keep (h : TLie w g B e pre va vi) (hk : ∀ k, k < w.heap.size → (k = g ∨ va.ownBlock = some k) → w1.heap[k]? = w.heap[k]?) : TLie w1 g B e pre va vi :=
  ⟨(hk g (Array.getElem?_eq_some_iff.1 h.row).1 (.inl rfl)).trans h.row, h.all.keep fun k hk1 ho => hk k hk1 (.inr ho), h.gB⟩
def zs : Array Value := #[.int .i64 0, .int .i64 0, .slice none 0 0, .int .i64 0, .int .i64 0, .int .i64 0, .slice none 0 0, .float .f64 0, .float .f64 0, .bool false, .bool false, .int .i64 0]
/-- all that a tick holds -/
structure RS (w0 w : World) (g g2 : Nat) (e : St) (pre : List Wt) (va vi v : Value) (l : List (List UInt8)) : Prop where
  lie : TLie w g (g + 2) e pre va vi
  out : Mem.Row w (g + 2) 9 1 v l.length (strs l)
  res : w.heap[g2]? = some (.cells zs 52 (0, 0))
  bel : Below g w0 w
  two : g2 = g + 1
  apart : ∀ b, va.ownBlock = some b → v.ownBlock ≠ some b
variable {w0 : World} {g2 : Nat} {v : Value} {m : List (List UInt8)}
theorem RS.lt (h : RS w0 w g g2 e pre va vi v m) : g2 < w.heap.size := (Array.getElem?_eq_some_iff.1 h.res).1
theorem RS.below (h : RS w0 w g g2 e pre va vi v m) (hb : Below w.heap.size w w1) : RS w0 w1 g g2 e pre va vi v m :=
  ⟨h.lie.below hb, h.out.below hb, (hb.block _ h.lt).trans h.res, h.bel.trans (hb.mono (by have := h.lt; have := h.two; omega)), h.two, h.apart⟩
theorem RS.far (h : RS w0 w g g2 e pre va vi v m) {b : Nat} (hb : w.heap.size ≤ b) : b ≠ g ∧ b ≠ g2 ∧ va.ownBlock ≠ some b ∧ v.ownBlock ≠ some b := by
  have h1 := h.lt
  have h2 := h.two
  exact ⟨by omega, by omega, fun ho => by have := (Mem.Row.block h.lie.all ho).2; omega, fun ho => by have := (Mem.Row.block h.out ho).2; omega⟩
theorem RS.but (h : RS w0 w g g2 e pre va vi v m) {b : Nat} (hb : Mem.But (· = b) w w1) (hf : b ≠ g ∧ b ≠ g2 ∧ va.ownBlock ≠ some b ∧ v.ownBlock ≠ some b) (hg : g ≤ b) : RS w0 w1 g g2 e pre va vi v m :=
  ⟨h.lie.keep fun k hk ho => hb.block k hk fun e2 => by
      subst e2
      rcases ho with ho | ho
      · exact hf.1 ho
      · exact hf.2.2.1 ho,
    h.out.keep fun k hk ho => hb.block k hk fun e2 => by subst e2; exact hf.2.2.2 ho,
    (hb.block g2 h.lt fun e2 => hf.2.1 e2.symm).trans h.res, h.bel.trans (hb.below (by have := h.lt; have := h.two; omega) fun k hk => by subst hk; exact hg), h.two, h.apart⟩
/-- one of its own cells written -/
theorem RS.put (h : RS w0 w g g2 e pre va vi v m) {e' : St} (i : Nat) (u : Value) (h1 : (rcells e pre.length va vi).setIfInBounds i u = rcells e' pre.length va vi) (h2 : e'.out = e.out) : RS w0 (w.setCell ⟨g, i, none⟩ u) g g2 e' pre va vi v m :=
  ⟨h.lie.put i u h1 h2, h.out.keep fun k hk ho => heap_setCell_other _ _ _ _ (by have := (Mem.Row.block h.out ho).1; show k ≠ g; omega), (heap_setCell_other _ _ _ _ (by have := h.two; show g2 ≠ g; omega)).trans h.res, h.bel.setCell (Nat.le_refl _) _, h.two, h.apart⟩
/-- a body written anew -/
theorem RS.body {p off c k : Nat} {x : Wt} {T : Nat} (h : RS w0 w g g2 e pre (.slice (some ⟨p, off, none⟩) T c) vi v m) (hT : pre.length + e.out.length = T) (hx : e.out[k]? = some x) (y : Wt) :
    RS w0 (w.setCells p (off + (pre.length + k) * 3) [.string (Mem.str y.body), .int .i64 y.tries, .int .i64 y.sent]) g g2 { e with out := e.out.set k y } pre (.slice (some ⟨p, off, none⟩) T c) vi v m := by
  have hall := h.lie.all
  rw [hT] at hall
  have hp : g + 2 ≤ p := (Mem.Row.block hall rfl).1
  have h2 := h.two
  refine ⟨⟨(setCells_other _ _ _ (by omega)).trans h.lie.row, ?_, h.lie.gB⟩, h.out.keep fun i hi ho => setCells_other _ _ _ fun e2 => ?_, (setCells_other _ _ _ (by omega)).trans h.res, h.bel.trans (setCells_below _ _ _ (by omega)), h2, h.apart⟩
  · have := body_set hall (pre_at (pre := pre) hx) y
    rw [pre_set] at this
    show Mem.Row _ _ _ _ _ (pre.length + (e.out.set k y).length) _
    rw [List.length_set, hT]
    exact this
  · subst e2
    exact h.apart i rfl ho
/-- a frame appended -/
theorem RS.grow (h : RS w0 w g g2 e pre va vi v m) {v' : Value} {m' : List (List UInt8)} (hg : w.grownBy w1 v.ownBlock) (ho : Mem.Row w1 (g + 2) 9 1 v' m'.length (strs m')) (hat : v'.ownBlock = v.ownBlock ∨ v'.ownBlock = some w.heap.size) : RS w0 w1 g g2 e pre va vi v' m' := by
  have hv : ∀ b, v.ownBlock = some b → g + 2 ≤ b := fun b hb => (Mem.Row.block h.out hb).1
  have h2 := h.two
  refine ⟨h.lie.keep fun k hk hor => hg.block k hk fun e2 => ?_, ho, (hg.block g2 h.lt fun e2 => by have := hv g2 e2.symm; omega).trans h.res, h.bel.trans (grown_below hg (fun b hb => by have := hv b hb; omega) (by have := h.lt; omega)), h2, fun b hb hb2 => ?_⟩
  · rcases hor with hor | hor
    · have := hv k e2.symm
      omega
    · exact h.apart k hor e2.symm
  · rcases hat with h3 | h3
    · exact h.apart b hb (h3 ▸ hb2)
    · rw [h3] at hb2
      injection hb2 with hb2
      have := (Mem.Row.block h.lie.all hb).2
      omega
theorem rcells_one2 (e : St) (p : Nat) {A : Option Addr} {n c : Nat} {vi : Value} (h2 : ∃ B m d, vi = .slice B m d) : (rcells e p (.slice A n c) vi).all (·.oneCell') = true := by
  obtain ⟨B, m, d, rfl⟩ := h2
  simp [rcells, Value.oneCell']
theorem row_get {n now m : Nat} {l : List Wt} {k : Nat} {y : Wt} (h : (Lnk.rowAt n now m l)[k]? = some y) : ∃ x, l[k]? = some x ∧ y.seq = x.seq := by
  have hk := (List.getElem?_eq_some_iff.1 h).1
  rw [rowAt_length] at hk
  obtain ⟨x, hx⟩ : ∃ x, l[k]? = some x := ⟨_, List.getElem?_eq_getElem hk⟩
  refine ⟨x, hx, ?_⟩
  unfold Lnk.rowAt at h
  rcases Nat.lt_or_ge k m with hm | hm
  · rw [List.getElem?_append_left (by simp; omega), List.getElem?_map, List.getElem?_take, if_pos hm, hx] at h
    have h2 : Lnk.step n now x = y := by simpa using h
    rw [← h2]
    unfold Lnk.step
    split <;> rfl
  · rw [List.getElem?_append_right (by simp; omega)] at h
    simp only [List.length_map, List.length_take, List.getElem?_drop] at h
    rw [show m + (k - min m l.length) = k by omega, hx] at h
    have h2 : x = y := by simpa using h
    rw [h2]
theorem top_le (n now M : Nat) : ∀ (l : List Wt) (t : Nat), t ≤ M → (∀ x ∈ l, x.seq ≤ M) → l.foldl (fun t x => if Lnk.due n now x = true then max t x.seq else t) t ≤ M
  | [], _, h, _ => h
  | y :: l, t, h, hl => by
    rw [List.foldl_cons]
    refine top_le n now M l _ ?_ fun x hx => hl x (List.mem_cons_of_mem _ hx)
    have := hl y (by simp)
    split <;> omega
theorem Ok.tick {e : St} {pre : List Wt} {inn : List (Nat × List UInt8)} (h : Ok e pre inn) (n : Nat) : Ok (Lnk.tick n e).1 pre inn where
  seqs := fun k y hy => by
    obtain ⟨x, hx, hs⟩ := row_get (show (Lnk.rowAt n (e.now + 1) 8 e.out)[k]? = some y from hy)
    rw [hs]
    exact h.seqs k x hx
  given := by
    have hl : (Lnk.tick n e).1.out.length = e.out.length := rowAt_length
    rw [hl]
    exact h.given
  top := top_le _ _ _ _ _ h.top fun x hx => by
    obtain ⟨k, hk⟩ := List.getElem?_of_mem (List.mem_of_mem_take hx)
    have h1 := h.seqs k x hk
    have h2 := (List.getElem?_eq_some_iff.1 hk).1
    have h3 := h.given
    show x.seq ≤ e.given
    omega
  keys := h.keys
  nodup := h.nodup
  early := h.early
  low := h.low
  norm := h.norm
theorem RS.done {M : Nat} (h : RS w0 w g g2 e pre va vi v m) (hp : Mem.Put w w1 g2 (rcells e pre.length va vi) 52) {e0 : St} {inn : List (Nat × List UInt8)} {va0 : Value} {S : Nat → Prop} (hL : RLie w0 e0 pre inn va0 vi M S) (hg : w0.heap.size = g) (hok : Ok e pre inn) (hS : ∀ b, S b → b < w0.heap.size) :
    RAt w1 e (.agg (rcells e pre.length va vi)) M S ∧ Txt w1 w0.heap.size v m ∧ Below w0.heap.size w0 w1 := by
  have h2 := h.two
  have hb : Below g w0 w1 := h.bel.trans (hp.below (by omega))
  rw [hg]
  refine ⟨⟨pre, inn, va, vi, rfl, ⟨(h.lie.all.keep fun k hk ho => hp.other k (by have := (Mem.Row.block h.lie.all ho).1; omega)).mono (Nat.zero_le _), hL.came.below (hg ▸ hb), hok, hL.small, fun b hb => ?_⟩⟩, ?_, hb⟩
  · rcases hb with hb | hb
    · have h3 := (Mem.Row.block h.lie.all hb).1
      intro h4
      have h5 := hS b h4
      omega
    · exact hL.apart b (.inr hb)
  exact (h.out.keep fun k hk ho => hp.other k (by have := (Mem.Row.block h.out ho).1; omega)).mono (by omega)
end
end Ply

set_option maxRecDepth 100000 in
set_option maxHeartbeats 1000000 in
theorem ref_tick (e : Lnk.St) (v : Value) (N n : Nat) (hn : Ply.RWaitIs e.mean e.dev e.any n) (hok : Lnk.Fine e) (hg5 : e.given < 100000) {S : Nat → Prop} (w : World) (hS : ∀ b, S b → b < w.heap.size) (h : Ply.RAt w e v N S) :
    Calls Try.prog 19 #[v] w fun r w' => ∃ v' o, r = .returned (.tuple #[v', o]) ∧ Ply.RAt w' (Lnk.tick n e).1 v' N S ∧ Lnk.Txt w' w.heap.size o (Lnk.tick n e).2 ∧ Below w.heap.size w w' := by
  obtain ⟨pre, inn, va, vi, rfl, h⟩ := h
  have HSS := Lib.hid hS
  clear hS
  have HL := Lib.hid h
  have hone := Lib.hid (Ply.rcells_one h pre.length)
  obtain ⟨A, c, eva, hc1, hc2⟩ := h.all.form
  have hgiven := h.ok.given
  have hrow := h.all
  obtain ⟨T, hT⟩ : ∃ T, pre.length + e.out.length = T := ⟨_, rfl⟩
  rw [hT] at eva hrow
  subst eva
  obtain ⟨p, hp⟩ : ∃ p, pre.length = p := ⟨_, rfl⟩
  rw [hp]
  rw [hp] at hone
  have HP := Lib.hid hp
  have HT := Lib.hid hT
  have HT5 := Lib.hid (show T < 100000 by omega)
  have HP5 := Lib.hid (show p ≤ T by omega)
  have HROW := Lib.hid hrow
  have Hok := Lib.hid hok
  have Hn := Lib.hid hn
  have hw1 : wrap64 ((e.now : Int) + 1) = (e.now : Int) + 1 := by have := hok.2.1; unfold wrap64; omega
  obtain ⟨ib, hib, hz, hz1, hz2⟩ := info_parts Ply.info_body
  clear h hn hok hgiven hg5 hrow hp hT hc1 hc2
  go_enter Try.func19, Try.ntmps19
  go_upto_region 1 with (first
    | (with_reducible refine Mem.wpList_box (o := ⟨some 1, _, _, _, _, _⟩) ?_ 52 (.tmp 0) ?_ (.agg (Ply.rcells e p (.slice A T c) vi)) ?_ ?_
       · rfl
       · rfl
       · rfl
       intro w1 hn1
       have N1 := Lib.hid hn1
       clear hn1)
    | (refine Mem.wpList_alloc (o := ⟨some 2, _, _, _, _, _⟩) rfl 52 rfl _ Ply.zero_end ?_
       intro w2 hn2
       have R2 := Lib.hid ((hn2.old (show w.heap.size < w1.heap.size by rw [N1.out.size]; omega)).trans N1.out.row)
       have Q2 := Lib.hid hn2.row
       have B2 := Lib.hid (Mem.then_ N1.out.below hn2.below)
       have S2 := Lib.hid hn2.size
       clear hn2))
  obtain ⟨g, hg⟩ : ∃ g, w.heap.size = g := ⟨_, rfl⟩
  obtain ⟨g2, hg2⟩ : ∃ g2, w1.heap.size = g2 := ⟨_, rfl⟩
  have hgg : g2 = g + 1 := by rw [← hg, ← hg2]; exact N1.out.size
  have hs2 : w2.heap.size = g + 2 := by rw [S2.out, hg2, hgg]
  rw [hg] at R2 B2 ⊢
  rw [hg2] at Q2 ⊢
  have HG := Lib.hid hg
  have HGG := Lib.hid hgg
  have HS2 := Lib.hid hs2
  clear hg hg2 hgg hs2 N1 S2
  have c1 : w2.cell? ⟨g, 1, none⟩ = some (.int .i64 e.now) := (cell_of_row _ _ 1 _ _ _ R2.out).trans rfl
  have f1 := frozen_of_row w2 g 1 _ _ R2.out
  go_upto_region 2 with (fail)
  have R3 := Lib.hid (Mem.row_setCell w2 g 1 (.int .i64 ((e.now : Int) + 1)) _ _ _ R2.out)
  have Q3 := Lib.hid ((heap_setCell_other w2 ⟨g, 1, none⟩ g2 (.int .i64 ((e.now : Int) + 1)) (by have := HGG.out; show g2 ≠ g; omega)).trans Q2.out)
  have B3 := Lib.hid (B2.out.setCell (p := ⟨g, 1, none⟩) (Nat.le_refl _) (.int .i64 ((e.now : Int) + 1)))
  have S3 := Lib.hid (show (w2.setCell ⟨g, 1, none⟩ (.int .i64 ((e.now : Int) + 1))).heap.size = g + 2 by simp; exact HS2.out)
  clear c1 f1 R2 Q2 B2
  try rw [hw1]
  clear hw1
  generalize w2.setCell ⟨g, 1, none⟩ (.int .i64 ((e.now : Int) + 1)) = w3 at R3 Q3 B3 S3 ⊢
  clear HS2 w2
  have c2 : w3.cell? ⟨g, 2, none⟩ = some (.slice A T c) := (cell_of_row _ _ 2 _ _ _ R3.out).trans rfl
  have ca : ∀ o, (w3.alloc o).cell? ⟨g, 2, none⟩ = some (.slice A T c) := fun o => Mem.keep (Ply.below_new _ _) c2
  have hgw3 : g < w3.heap.size := by rw [S3.out]; omega
  go_upto_region 3 with (
       refine Mem.wpList_append_rows _ rfl (.tmp 11) (.tmp 13) 46 rfl w3.heap.size 86 ib _ 3 32 Try.underlying46 hib hz hz1 hz2 rfl (.slice (some ⟨w3.heap.size, 0, none⟩) 0 0) 0 [] rfl (Ply.row_new _ _) (.slice A T c) T 0 (Ply.bflat (pre ++ e.out)) rfl ((HROW.out.below (HG.out.symm ▸ B3.out)).below (Ply.below_new _ _)) (Ply.bone _) (by have := HT5.out; unfold maxLen; omega) (by have := HT5.out; omega) (by simp) ?_
       intro v1 w4 hown1 hgrow1 hat1
       rw [Nat.zero_add, List.nil_append] at hown1
       obtain ⟨A1, c1, rfl, _, _⟩ := hown1.form
       have b4 : Below w3.heap.size w3 w4 := (Ply.below_new _ _).trans (Ply.grown_below hgrow1 (fun b hb => by simp [Value.ownBlock] at hb; omega) (by simp))
       have O4 := Lib.hid hown1
       have r4 := (b4.block _ hgw3).trans R3.out
       have k4 : w4.cell? ⟨g, 2, none⟩ = some (.slice A T c) := (cell_of_row _ _ 2 _ _ _ r4).trans rfl
       have f4 := frozen_of_row w4 g 2 _ _ r4
       have R4 := Lib.hid r4
       have Q4 := Lib.hid ((b4.block g2 (by rw [S3.out]; have := HGG.out; omega)).trans Q3.out)
       have B4 := Lib.hid (B3.out.trans (b4.mono (Nat.le_of_lt hgw3)))
       have Z4 := Lib.hid (Nat.le_trans (Nat.le_of_eq S3.out.symm) b4.size)
       clear hown1 hgrow1 hat1 b4 c2 ca r4)
  have L5 : Ply.TLie (w4.setCell ⟨g, 2, none⟩ (.slice A1 T c1)) g (g + 2) (Lnk.turn e (e.now + 1) e.out e.top) pre (.slice A1 T c1) vi := by
    refine ⟨?_, ?_, by omega⟩
    · rw [HP.out]
      exact Mem.row_setCell w4 g 2 (.slice A1 T c1) _ _ _ R4.out
    · have := O4.out.keep (w1 := w4.setCell ⟨g, 2, none⟩ (.slice A1 T c1)) fun k hk ho => heap_setCell_other _ _ _ _ (by have := (Mem.Row.block O4.out ho).1; show k ≠ g; omega)
      show Mem.Row _ _ _ _ _ (pre.length + e.out.length) (Ply.bflat (pre ++ e.out))
      rw [HT.out]
      exact this.mono (Nat.le_of_eq S3.out.symm)
  have H5 := Lib.hid L5
  have Q5 := Lib.hid ((heap_setCell_other w4 ⟨g, 2, none⟩ g2 (.slice A1 T c1) (by have := HGG.out; show g2 ≠ g; omega)).trans Q4.out)
  have B5 := Lib.hid (B4.out.setCell (p := ⟨g, 2, none⟩) (Nat.le_refl _) (.slice A1 T c1))
  have Z5 := Lib.hid (show g + 2 ≤ (w4.setCell ⟨g, 2, none⟩ (.slice A1 T c1)).heap.size by simp; exact Z4.out)
  clear L5 R4 Q4 B4 Z4 O4 k4 f4 R3 Q3 B3 S3 hgw3
  generalize w4.setCell ⟨g, 2, none⟩ (.slice A1 T c1) = w5 at H5 Q5 B5 Z5 ⊢
  clear w4
  have c3 : w5.cell? ⟨g, 3, none⟩ = some (.int .i64 p) := by rw [← HP.out]; exact (cell_of_row _ _ 3 _ _ _ H5.out.row).trans rfl
  go_wp2
  clear c3
  go_loopw [4, 5] (fun v i wr => ∃ k : Nat, k ≤ e.out.length ∧ k ≤ 8 ∧ i = .int .i64 ((p + k : Nat) : Int) ∧
    Ply.RS w wr g g2 (Lnk.turn e (e.now + 1) (Lnk.rowAt n (e.now + 1) k e.out) (Lnk.topAt n (e.now + 1) k e.top e.out)) pre (.slice A1 T c1) vi v (Lnk.sentAt e n (e.now + 1) k e.out)) (fun _ i _ => p + 8 - (intOf i).toNat)
  case atStart =>
    refine ⟨0, by omega, by omega, rfl, ?_, Mem.row_nil _ _ _ _, Q5.out, B5.out, HGG.out, fun b _ h => by cases h⟩
    rw [Lnk.rowAt_zero]
    exact H5.out
  case round =>
    obtain ⟨k, hk, hk8, rfl, hrs⟩ := hrel
    obtain ⟨Bo, co, hBo, -, -⟩ := hrs.out.form
    obtain ⟨N0, hN0⟩ : ∃ N, (Lnk.sentAt e n (e.now + 1) k e.out).length = N := ⟨_, rfl⟩
    rw [hN0] at hBo
    subst hBo
    have HN0 := Lib.hid hN0
    have HN8 := Lib.hid (show N0 ≤ 8 by rw [← hN0]; exact Lnk.sentAt_le hk8)
    clear hN0
    have hl := hrs.lie
    obtain ⟨jj, hjj⟩ : ∃ j, p + k = j := ⟨_, rfl⟩
    rw [hjj]
    have kA : wr.cell? ⟨g, 2, none⟩ = some (.slice A1 T c1) := (cell_of_row _ _ 2 _ _ _ hl.row).trans rfl
    have kP : wr.cell? ⟨g, 3, none⟩ = some (.int .i64 p) := by rw [← HP.out]; exact (cell_of_row _ _ 3 _ _ _ hl.row).trans rfl
    obtain ⟨Q8, hQ8⟩ : ∃ q, p + 8 = q := ⟨_, rfl⟩
    have HW8 := Lib.hid (show wrap64 ((p : Int) + 8) = (Q8 : Int) by have := HT5.out; have := HP5.out; unfold wrap64; omega)
    by_cases hin : k < e.out.length ∧ k < 8
    · obtain ⟨hk1, hk2⟩ := hin
      have hjT : (jj : Int) < (T : Int) := by have := HT.out; have := HP.out; omega
      have hjQ : (jj : Int) < (Q8 : Int) := by omega
      have d1 : decide ((jj : Int) < (T : Int)) = true := decide_eq_true hjT
      have d2 : decide ((jj : Int) < (Q8 : Int)) = true := decide_eq_true hjQ
      have hw8 := HW8.out
      go_upto_region 7 with (fail)
      clear hw8
      obtain ⟨pA, off, rfl⟩ : ∃ pA off, A1 = some ⟨pA, off, none⟩ := by
        rcases hl.all.2 with ⟨e1, _⟩ | ⟨pA, off, _, _, e1, _⟩
        · injection e1 with _ e2
          omega
        · injection e1 with e2
          exact ⟨pA, off, e2⟩
      have hlen : pre.length + (Lnk.turn e (e.now + 1) (Lnk.rowAt n (e.now + 1) k e.out) (Lnk.topAt n (e.now + 1) k e.top e.out)).out.length = T := by
        show pre.length + (Lnk.rowAt n (e.now + 1) k e.out).length = T
        rw [Lnk.rowAt_length]
        exact HT.out
      have hall := hl.all
      rw [hlen] at hall
      have hpA : g + 2 ≤ pA := (Mem.Row.block hall rfl).1
      obtain ⟨⟨seq, tries, sent, body⟩, hx⟩ : ∃ x, e.out[k]? = some x := ⟨_, List.getElem?_eq_getElem hk1⟩
      have hxm := Hok.out.2.2.2 _ (List.mem_of_getElem? hx)
      simp only at hxm
      have hseq : seq = jj + 1 := by have := HL.out.ok.seqs k _ hx; simp only at this; have := HP.out; omega
      have hxj : (pre ++ Lnk.rowAt n (e.now + 1) k e.out)[jj]? = some ⟨seq, tries, sent, body⟩ := by
        have := Ply.pre_at (pre := pre) (Lnk.rowAt_get (n := n) (now := e.now + 1) hx)
        rw [HP.out, hjj] at this
        exact this
      have hrng := Ply.body_range hall hxj
      simp only at hrng
      have HRS := Lib.hid hrs
      have HALL := Lib.hid hall
      have HX := Lib.hid hx
      have HXM := Lib.hid hxm
      have HXJ := Lib.hid hxj
      have HSEQ := Lib.hid hseq
      have HJJ := Lib.hid hjj
      have HQ8 := Lib.hid hQ8
      have HPA := Lib.hid hpA
      have HLEN := Lib.hid hlen
      clear hl hrs hall hx hxm hxj hseq hlen hjj hQ8 hpA d1 d2
      go_wp2_with (first
        | (with_reducible refine wpList_load_mid (op := ⟨some 36, _, _, _, _, _⟩) ?_ 86 (.tmp 35) ?_ pA (off + jj * 3) ?_ [.string (Mem.str body), .int .i64 tries, .int .i64 sent] _ hrng Try.underlying86 ?_ ?_ ?_
           · rfl
           · rfl
           · rfl
           · rfl
           · exact Ply.size_body)
        | (with_reducible refine Mem.wpList_alloc (o := ⟨some 6, _, _, _, _, _⟩) ?_ 86 ?_ _ Ply.zero_body ?_
           · rfl
           · rfl
           intro w6 hn6
           have N6 := Lib.hid hn6
           clear hn6)
        | (with_reducible refine Mem.wpList_store ?_ 86 (.tmp 6) (.tmp 36) ?_ wr.heap.size #[.string (Mem.str body), .int .i64 tries, .int .i64 sent] ?_ ?_ 86 _ N6.out.row ?_ ?_ ?_ ?_
           · rfl
           · rfl
           · rfl
           · rfl
           · exact Ply.size_body
           · rfl
           · exact Ply.bone3 _ _ _
           intro w7 hp7
           have P7 := Lib.hid hp7
           clear hp7))
      clear kA kP hrng
      simp only [Act.put, List.setIfInBounds_toArray, List.set_cons_zero, List.set_cons_succ]
      have HF := Lib.hid (HRS.out.far (Nat.le_refl wr.heap.size))
      have h67 : Below wr.heap.size wr w7 := N6.out.below.trans (P7.out.below (Nat.le_refl _))
      have l7 := HRS.out.below h67
      have HB7 := Lib.hid (P7.out.row)
      have hs7 : wr.heap.size < w7.heap.size := by rw [P7.out.size, N6.out.size]; omega
      obtain ⟨gb, hgb⟩ : ∃ gb, wr.heap.size = gb := ⟨_, rfl⟩
      rw [hgb] at HF HB7 hs7 ⊢
      have hggb : g + 2 ≤ gb := by have := HRS.out.lt; have := HRS.out.two; omega
      have hpb2 : pA < wr.heap.size := (Mem.Row.block HALL.out rfl).2
      have hpb : pA ≠ gb := by omega
      have HGB := Lib.hid hgb
      have HGGB := Lib.hid hggb
      have HPB := Lib.hid hpb
      have HS7 := Lib.hid hs7
      clear h67 hgb hggb hpb hpb2 hs7 N6 P7
      have m1 : ∀ i : Mem.Later w7, i.w.cell? ⟨g, 1, none⟩ = some (.int .i64 ((e.now : Int) + 1)) := fun i => i.cell ((cell_of_row _ _ 1 _ _ _ l7.lie.row).trans rfl)
      have m7 : ∀ i : Mem.Later w7, i.w.cell? ⟨g, 7, none⟩ = some (.float .f64 e.mean) := fun i => i.cell ((cell_of_row _ _ 7 _ _ _ l7.lie.row).trans rfl)
      have m8 : ∀ i : Mem.Later w7, i.w.cell? ⟨g, 8, none⟩ = some (.float .f64 e.dev) := fun i => i.cell ((cell_of_row _ _ 8 _ _ _ l7.lie.row).trans rfl)
      have m9 : ∀ i : Mem.Later w7, i.w.cell? ⟨g, 9, none⟩ = some (.bool e.any) := fun i => i.cell ((cell_of_row _ _ 9 _ _ _ l7.lie.row).trans rfl)
      have y1 : ∀ i : Mem.Later w7, i.w.cell? ⟨gb, 1, none⟩ = some (.int .i64 tries) := fun i => i.cell ((cell_of_row _ _ 1 _ _ _ HB7.out).trans rfl)
      have y2 : ∀ i : Mem.Later w7, i.w.cell? ⟨gb, 2, none⟩ = some (.int .i64 sent) := fun i => i.cell ((cell_of_row _ _ 2 _ _ _ HB7.out).trans rfl)
      have L7 := Lib.hid l7
      clear l7
      by_cases hdue : Lnk.due n (e.now + 1) ⟨seq, tries, sent, body⟩ = true
      · have HD := Lib.hid hdue
        by_cases ht0 : tries = 0
        · have i0 : ¬ (0 : Int) < (tries : Int) := by omega
          have d0 : decide ((0 : Int) < (tries : Int)) = false := decide_eq_false i0
          have n0 : ¬ 0 < tries := by omega
          have d2 : decide (0 < tries) = false := decide_eq_false n0
          clear ht0 hdue
          refine Mem.wp_region_later (by kernel_rfl) (by kernel_rfl) ?_
          repeat (go_big_quiet_step (fail))
          refine wpQuiet_nil ?_
          intro w8 hw8
          obtain ⟨i8, hi8⟩ := hw8
          have h8 : Below w7.heap.size w7 w8 := hi8 ▸ i8.h
          clear hi8 i8 m1 m7 m8 m9 y1 y2
          have HWT := Lib.hid (show wrap64 ((tries : Int) + 1) = (tries : Int) + 1 by have := HXM.out; unfold wrap64; omega)
          have l8 := L7.out.below h8
          have b8 := (h8.block gb HS7.out).trans HB7.out
          have y1 : w8.cell? ⟨gb, 1, none⟩ = some (.int .i64 tries) := (cell_of_row _ _ 1 _ _ _ b8).trans rfl
          have fb := fun i => frozen_of_row w8 gb i _ _ b8
          have s1 : ∀ u, (w8.setCell ⟨gb, 1, none⟩ u).cell? ⟨g, 1, none⟩ = some (.int .i64 ((e.now : Int) + 1)) := fun u => (World.cell?_setCell_other _ _ _ _ (fun e2 => HF.out.1 (congrArg Addr.block e2))).trans ((cell_of_row _ _ 1 _ _ _ l8.lie.row).trans rfl)
          have s2 : ∀ u, (w8.setCell ⟨gb, 1, none⟩ u).cell? ⟨gb, 2, none⟩ = some (.int .i64 sent) := fun u => (World.cell?_setCell_other _ _ _ _ (by simp)).trans ((cell_of_row _ _ 2 _ _ _ b8).trans rfl)
          have L8 := Lib.hid l8
          have B8 := Lib.hid b8
          have hwt := HWT.out
          clear l8 b8 h8 i0 d0 n0 d2
          go_upto_region 11 with (fail)
          try rw [hwt]
          clear y1 fb s1 s2 hwt
          have B10 := Lib.hid (show ((w8.setCell ⟨gb, 1, none⟩ (.int .i64 ((tries : Int) + 1))).setCell ⟨gb, 2, none⟩ (.int .i64 ((e.now : Int) + 1))).heap[gb]? = some (.cells #[.string (Mem.str body), .int .i64 ((tries : Int) + 1), .int .i64 ((e.now : Int) + 1)] 86 (0, 0)) from Mem.row_setCell _ _ _ _ _ _ _ (Mem.row_setCell _ _ _ _ _ _ _ B8.out))
          have L10 := Lib.hid (L8.out.but (b := gb) ((Mem.But.of_setCell (S := (· = gb)) ⟨gb, 1, none⟩ (.int .i64 ((tries : Int) + 1)) rfl).trans (Mem.But.of_setCell ⟨gb, 2, none⟩ (.int .i64 ((e.now : Int) + 1)) rfl)) HF.out (by have := HGGB.out; omega))
          generalize (w8.setCell ⟨gb, 1, none⟩ (.int .i64 ((tries : Int) + 1))).setCell ⟨gb, 2, none⟩ (.int .i64 ((e.now : Int) + 1)) = w10 at B10 L10 ⊢
          clear L8 B8
          have k2 : w10.cell? ⟨g, 2, none⟩ = some (.slice (some ⟨pA, off, none⟩) T c1) := (cell_of_row _ _ 2 _ _ _ L10.out.lie.row).trans rfl
          have hall10 := L10.out.lie.all
          rw [HLEN.out] at hall10
          have hthere := Ply.body_there hall10 HXJ.out
          clear hall10
          go_upto_region 12 with (first
            | (with_reducible refine wpList_load_row (o := ⟨some 64, _, _, _, _, _⟩) ?_ 86 (.tmp 6) ?_ gb ?_ 86 #[.string (Mem.str body), .int .i64 ((tries : Int) + 1), .int .i64 ((e.now : Int) + 1)] (0, 0) _ ?_ Try.underlying86 ?_ ?_ ?_
               · rfl
               · rfl
               · rfl
               · exact B10.out
               · rfl
               · exact Ply.size_body)
            | (with_reducible refine wpList_store_mid ?_ 86 (.tmp 65) (.tmp 64) ?_ pA (off + jj * 3) #[.string (Mem.str body), .int .i64 ((tries : Int) + 1), .int .i64 ((e.now : Int) + 1)] ?_ ?_ ?_ ?_ ?_ ?_
               · rfl
               · rfl
               · rfl
               · rfl
               · exact hthere
               · exact Ply.size_body
               · exact Ply.bone3 _ _ _))
          clear k2 hthere
          simp only [Act.put, List.setIfInBounds_toArray, List.set_cons_zero, List.set_cons_succ]
          have hst : Lnk.step n (e.now + 1) ⟨seq, tries, sent, body⟩ = ⟨seq, tries + 1, e.now + 1, body⟩ := by unfold Lnk.step; rw [if_pos HD.out]
          obtain ⟨Tp, hTp⟩ : ∃ T, Lnk.topAt n (e.now + 1) k e.top e.out = T := ⟨_, rfl⟩
          have l12 : Ply.RS w (w10.setCells pA (off + jj * 3) [.string (Mem.str body), .int .i64 ((tries : Int) + 1), .int .i64 ((e.now : Int) + 1)]) g g2 (Lnk.turn e (e.now + 1) (Lnk.rowAt n (e.now + 1) (k + 1) e.out) Tp) pre (.slice (some ⟨pA, off, none⟩) T c1) vi (.slice Bo N0 co) (Lnk.sentAt e n (e.now + 1) k e.out) := by
            have h12 := L10.out.body HLEN.out (k := k) (Lnk.rowAt_get HX.out) ⟨seq, tries + 1, e.now + 1, body⟩
            rw [show pre.length + k = jj by have := HP.out; have := HJJ.out; omega, hTp] at h12
            rw [Lnk.rowAt_succ HX.out, hst]
            exact h12
          have B12 := Lib.hid (show (w10.setCells pA (off + jj * 3) [.string (Mem.str body), .int .i64 ((tries : Int) + 1), .int .i64 ((e.now : Int) + 1)]).heap[gb]? = some (.cells #[.string (Mem.str body), .int .i64 ((tries : Int) + 1), .int .i64 ((e.now : Int) + 1)] 86 (0, 0)) from (Ply.setCells_other _ _ _ (Ne.symm HPB.out)).trans B10.out)
          have L12 := Lib.hid l12
          have HTP := Lib.hid hTp
          clear l12 hst hTp B10 L10
          generalize w10.setCells pA (off + jj * 3) [.string (Mem.str body), .int .i64 ((tries : Int) + 1), .int .i64 ((e.now : Int) + 1)] = w12 at B12 L12 ⊢
          have c4 : w12.cell? ⟨g, 4, none⟩ = some (.int .i64 Tp) := (cell_of_row _ _ 4 _ _ _ L12.out.lie.row).trans rfl
          have HWJ := Lib.hid (show wrap64 ((jj : Int) + 1) = (jj : Int) + 1 by have := HT5.out; unfold wrap64; omega)
          by_cases hc : Tp < jj + 1
          · have f4 := frozen_of_row w12 g 4 _ _ L12.out.lie.row
            have iT : (Tp : Int) < (jj : Int) + 1 := by omega
            have dT : decide ((Tp : Int) < (jj : Int) + 1) = true := decide_eq_true iT
            have hm : max Tp seq = jj + 1 := by have := HSEQ.out; omega
            have L13 := Lib.hid (L12.out.put (e' := Lnk.turn e (e.now + 1) (Lnk.rowAt n (e.now + 1) (k + 1) e.out) (max Tp seq)) 4 (.int .i64 ((jj : Int) + 1)) (by rw [hm]; rfl) rfl)
            have B13 := Lib.hid ((heap_setCell_other w12 ⟨g, 4, none⟩ gb (.int .i64 ((jj : Int) + 1)) HF.out.1).trans B12.out)
            have hwj := HWJ.out
            clear hc hm
            go_upto_region 14 with (fail)
            try rw [hwj]
            clear c4 f4 iT dT hwj B12 L12
            generalize w12.setCell ⟨g, 4, none⟩ (.int .i64 ((jj : Int) + 1)) = w13 at L13 B13 ⊢
            have j0 : w13.cell? ⟨g, 0, none⟩ = some (.int .i64 e.site) := (cell_of_row _ _ 0 _ _ _ L13.out.lie.row).trans rfl
            have j5 : w13.cell? ⟨g, 5, none⟩ = some (.int .i64 e.got) := (cell_of_row _ _ 5 _ _ _ L13.out.lie.row).trans rfl
            have jb : w13.cell? ⟨gb, 0, none⟩ = some (.string (Mem.str body)) := (cell_of_row _ _ 0 _ _ _ B13.out).trans rfl
            obtain ⟨S, hS⟩ : ∃ S, Lnk.frameOf e ⟨seq, tries, sent, body⟩ = S := ⟨_, rfl⟩
            have hput : ∀ w', Calls Try.prog 25 #[.agg #[.int .i64 1, .int .i64 e.site, .int .i64 (wrap64 ((jj : Int) + 1)), .int .i64 e.got, .string (Mem.str body)]] w' fun r w'' => r = .returned (.string (Mem.str S)) ∧ Below w'.heap.size w' w'' := fun w' => by
              have hokf : Frm.okB ⟨1, e.site, seq, e.got, body⟩ = true := by
                obtain ⟨⟨a1, a2⟩, a3, a4, a5⟩ := Hok.out
                obtain ⟨⟨b1, b2⟩, b3, b4, b5⟩ := HXM.out
                rw [Frm.ok_iff]
                exact ⟨⟨by simp only; omega, by simp only; omega⟩, ⟨by simp only; omega, by simp only; omega⟩, .inr ⟨rfl, ⟨by simp only; omega, by simp only; omega⟩, b5⟩⟩
              have h := frame_refput ⟨1, e.site, seq, e.got, body⟩ hokf w'
              rw [← hS]
              have e2 : ((seq : Nat) : Int) = (jj : Int) + 1 := by rw [HSEQ.out]; rfl
              rw [HWJ.out, ← e2]
              exact h
            have HMX := Lib.hid (show N0 + 1 ≤ maxLen ∧ (N0 + 1) * 16 ≤ 140737488355328 by have := HN8.out; unfold maxLen; omega)
            have HZ := Lib.hid (show g + 2 ≤ w13.heap.size by have := L13.out.lt; have := L13.out.two; omega)
            have HS := Lib.hid hS
            obtain ⟨is, his, hsz, hsz1, hsz2⟩ := info_parts Lnk.info_str
            clear hS
            go_wp2_with (first
              | (go_at_call 25
                 refine (hput _).mono ?_
                 rintro r w14 ⟨rfl, hb14⟩
                 have L14 := Lib.hid (L13.out.below hb14)
                 have O14 := Lib.hid (show Mem.Row w14 (g + 2) 9 1 (.slice Bo N0 co) N0 (Lnk.strs (Lnk.sentAt e n (e.now + 1) k e.out)) by have h14 := (L13.out.below hb14).out; rw [HN0.out] at h14; exact h14)
                 have Z14 := Lib.hid (Nat.le_trans HZ.out hb14.size)
                 clear hb14)
              | (at_builtin
                 refine Mem.wpList_append_row _ rfl (.tmp 74) (.tmp 85) 32 rfl (g + 2) 9 is _ 1 16 Try.underlying32 his hsz hsz1 hsz2 rfl (.slice Bo N0 co) N0 (Lnk.strs (Lnk.sentAt e n (e.now + 1) k e.out)) rfl (O14.out.alloc _) ⟨w14.heap.size, 0, none⟩ 1 1 [.string (Mem.str S)] rfl rfl (World.news_of_block (heap_alloc_new _ _)) (by intro u hu; simp at hu; subst hu; rfl) (by omega) HMX.out.1 HMX.out.2 (by have := Z14.out; simp; omega) ?_
                 intro v' w15 hown hgrow hat
                 have L15 := Lib.hid ((L14.out.below (Ply.below_new _ _)).grow (m' := Lnk.sentAt e n (e.now + 1) (k + 1) e.out) hgrow (by rw [Lnk.sentAt_yes HX.out HD.out, HS.out, List.length_append, HN0.out]; unfold Lnk.strs; rw [List.map_append]; exact hown) hat)
                 clear hown hgrow hat))
            rw [HWJ.out]
            go_roundw
            case measure =>
              have hm1 : ((jj : Int) + 1).toNat = jj + 1 := rfl
              have hm2 : ((jj : Nat) : Int).toNat = jj := rfl
              show p + 8 - ((jj : Int) + 1).toNat < p + 8 - ((jj : Nat) : Int).toNat
              rw [hm1, hm2]
              have := HJJ.out
              omega
            case rel => exact ⟨k + 1, hk1, hk2, congrArg (Value.int .i64) (by have := HJJ.out; omega), by rw [Lnk.topAt_yes HX.out HD.out, HTP.out]; exact L15.out⟩
          · have iT : ¬ (Tp : Int) < (jj : Int) + 1 := by omega
            have dT : decide ((Tp : Int) < (jj : Int) + 1) = false := decide_eq_false iT
            have hm : max Tp seq = Tp := by have := HSEQ.out; omega
            have L13 := Lib.hid (show Ply.RS w w12 g g2 (Lnk.turn e (e.now + 1) (Lnk.rowAt n (e.now + 1) (k + 1) e.out) (max Tp seq)) pre (.slice (some ⟨pA, off, none⟩) T c1) vi (.slice Bo N0 co) (Lnk.sentAt e n (e.now + 1) k e.out) by rw [hm]; exact L12.out)
            have B13 := B12
            have hwj := HWJ.out
            clear hc hm
            go_upto_region 14 with (fail)
            try rw [hwj]
            clear c4 iT dT hwj B12 L12
            generalize w12 = w13 at L13 B13 ⊢
            have j0 : w13.cell? ⟨g, 0, none⟩ = some (.int .i64 e.site) := (cell_of_row _ _ 0 _ _ _ L13.out.lie.row).trans rfl
            have j5 : w13.cell? ⟨g, 5, none⟩ = some (.int .i64 e.got) := (cell_of_row _ _ 5 _ _ _ L13.out.lie.row).trans rfl
            have jb : w13.cell? ⟨gb, 0, none⟩ = some (.string (Mem.str body)) := (cell_of_row _ _ 0 _ _ _ B13.out).trans rfl
            obtain ⟨S, hS⟩ : ∃ S, Lnk.frameOf e ⟨seq, tries, sent, body⟩ = S := ⟨_, rfl⟩
            have hput : ∀ w', Calls Try.prog 25 #[.agg #[.int .i64 1, .int .i64 e.site, .int .i64 (wrap64 ((jj : Int) + 1)), .int .i64 e.got, .string (Mem.str body)]] w' fun r w'' => r = .returned (.string (Mem.str S)) ∧ Below w'.heap.size w' w'' := fun w' => by
              have hokf : Frm.okB ⟨1, e.site, seq, e.got, body⟩ = true := by
                obtain ⟨⟨a1, a2⟩, a3, a4, a5⟩ := Hok.out
                obtain ⟨⟨b1, b2⟩, b3, b4, b5⟩ := HXM.out
                rw [Frm.ok_iff]
                exact ⟨⟨by simp only; omega, by simp only; omega⟩, ⟨by simp only; omega, by simp only; omega⟩, .inr ⟨rfl, ⟨by simp only; omega, by simp only; omega⟩, b5⟩⟩
              have h := frame_refput ⟨1, e.site, seq, e.got, body⟩ hokf w'
              rw [← hS]
              have e2 : ((seq : Nat) : Int) = (jj : Int) + 1 := by rw [HSEQ.out]; rfl
              rw [HWJ.out, ← e2]
              exact h
            have HMX := Lib.hid (show N0 + 1 ≤ maxLen ∧ (N0 + 1) * 16 ≤ 140737488355328 by have := HN8.out; unfold maxLen; omega)
            have HZ := Lib.hid (show g + 2 ≤ w13.heap.size by have := L13.out.lt; have := L13.out.two; omega)
            have HS := Lib.hid hS
            obtain ⟨is, his, hsz, hsz1, hsz2⟩ := info_parts Lnk.info_str
            clear hS
            go_wp2_with (first
              | (go_at_call 25
                 refine (hput _).mono ?_
                 rintro r w14 ⟨rfl, hb14⟩
                 have L14 := Lib.hid (L13.out.below hb14)
                 have O14 := Lib.hid (show Mem.Row w14 (g + 2) 9 1 (.slice Bo N0 co) N0 (Lnk.strs (Lnk.sentAt e n (e.now + 1) k e.out)) by have h14 := (L13.out.below hb14).out; rw [HN0.out] at h14; exact h14)
                 have Z14 := Lib.hid (Nat.le_trans HZ.out hb14.size)
                 clear hb14)
              | (at_builtin
                 refine Mem.wpList_append_row _ rfl (.tmp 74) (.tmp 85) 32 rfl (g + 2) 9 is _ 1 16 Try.underlying32 his hsz hsz1 hsz2 rfl (.slice Bo N0 co) N0 (Lnk.strs (Lnk.sentAt e n (e.now + 1) k e.out)) rfl (O14.out.alloc _) ⟨w14.heap.size, 0, none⟩ 1 1 [.string (Mem.str S)] rfl rfl (World.news_of_block (heap_alloc_new _ _)) (by intro u hu; simp at hu; subst hu; rfl) (by omega) HMX.out.1 HMX.out.2 (by have := Z14.out; simp; omega) ?_
                 intro v' w15 hown hgrow hat
                 have L15 := Lib.hid ((L14.out.below (Ply.below_new _ _)).grow (m' := Lnk.sentAt e n (e.now + 1) (k + 1) e.out) hgrow (by rw [Lnk.sentAt_yes HX.out HD.out, HS.out, List.length_append, HN0.out]; unfold Lnk.strs; rw [List.map_append]; exact hown) hat)
                 clear hown hgrow hat))
            rw [HWJ.out]
            go_roundw
            case measure =>
              have hm1 : ((jj : Int) + 1).toNat = jj + 1 := rfl
              have hm2 : ((jj : Nat) : Int).toNat = jj := rfl
              show p + 8 - ((jj : Int) + 1).toNat < p + 8 - ((jj : Nat) : Int).toNat
              rw [hm1, hm2]
              have := HJJ.out
              omega
            case rel => exact ⟨k + 1, hk1, hk2, congrArg (Value.int .i64) (by have := HJJ.out; omega), by rw [Lnk.topAt_yes HX.out HD.out, HTP.out]; exact L15.out⟩
        · obtain ⟨D, hD⟩ : ∃ D, Pac.dbl n (tries - 1) = D := ⟨_, rfl⟩
          have i0 : (0 : Int) < (tries : Int) := by omega
          have d0 : decide ((0 : Int) < (tries : Int)) = true := decide_eq_true i0
          have n0 : 0 < tries := by omega
          have d2 : decide (0 < tries) = true := decide_eq_true n0
          have hle : ((tries - 1 : Nat) : Int) ≤ 9223372036854775807 := by have := HXM.out; omega
          have iW : ¬ (e.now : Int) + 1 - (sent : Int) < (D : Int) := by
            unfold Lnk.due at hdue
            simp only [Bool.or_eq_true, decide_eq_true_eq] at hdue
            rw [hD] at hdue
            rcases hdue with h | h
            · exact absurd h ht0
            · have e2 : ((e.now + 1 : Nat) : Int) = (e.now : Int) + 1 := rfl
              omega
          have dW : decide ((e.now : Int) + 1 - (sent : Int) < (D : Int)) = false := decide_eq_false iW
          have hWait : ∀ w', Calls Try.prog 33 #[.agg #[.float .f64 e.mean, .float .f64 e.dev, .bool e.any], .int .i64 ((tries - 1 : Nat) : Int)] w' fun r w'' => r = .returned (.int .i64 D) ∧ Below w'.heap.size w' w'' := fun w' => by
            have := Hn.out ((tries - 1 : Nat) : Int) w' hle
            rw [Int.toNat_natCast, hD] at this
            exact this
          have hnw : e.now + 1 < 1099511627776 := Hok.out.2.1
          have hsn : sent < 1099511627776 := HXM.out.2.2.1
          have hv1 : wrap64 ((tries : Int) - 1) = ((tries - 1 : Nat) : Int) := by have := HXM.out; unfold wrap64; omega
          have hv2 : wrap64 ((e.now : Int) + 1 - (sent : Int)) = (e.now : Int) + 1 - (sent : Int) := by unfold wrap64; omega
          clear ht0 hdue hle hnw hsn hD
          refine Mem.wp_region_later (by kernel_rfl) (by kernel_rfl) ?_
          repeat (go_big_quiet_step ((go_at_call 33; exact Mem.later_call (hWait _))))
          clear hWait hv1 hv2
          refine wpQuiet_nil ?_
          intro w8 hw8
          obtain ⟨i8, hi8⟩ := hw8
          have h8 : Below w7.heap.size w7 w8 := hi8 ▸ i8.h
          clear hi8 i8 m1 m7 m8 m9 y1 y2
          have HWT := Lib.hid (show wrap64 ((tries : Int) + 1) = (tries : Int) + 1 by have := HXM.out; unfold wrap64; omega)
          have l8 := L7.out.below h8
          have b8 := (h8.block gb HS7.out).trans HB7.out
          have y1 : w8.cell? ⟨gb, 1, none⟩ = some (.int .i64 tries) := (cell_of_row _ _ 1 _ _ _ b8).trans rfl
          have fb := fun i => frozen_of_row w8 gb i _ _ b8
          have s1 : ∀ u, (w8.setCell ⟨gb, 1, none⟩ u).cell? ⟨g, 1, none⟩ = some (.int .i64 ((e.now : Int) + 1)) := fun u => (World.cell?_setCell_other _ _ _ _ (fun e2 => HF.out.1 (congrArg Addr.block e2))).trans ((cell_of_row _ _ 1 _ _ _ l8.lie.row).trans rfl)
          have s2 : ∀ u, (w8.setCell ⟨gb, 1, none⟩ u).cell? ⟨gb, 2, none⟩ = some (.int .i64 sent) := fun u => (World.cell?_setCell_other _ _ _ _ (by simp)).trans ((cell_of_row _ _ 2 _ _ _ b8).trans rfl)
          have L8 := Lib.hid l8
          have B8 := Lib.hid b8
          have hwt := HWT.out
          clear l8 b8 h8 i0 d0 n0 d2
          go_upto_region 11 with (fail)
          try rw [hwt]
          clear y1 fb s1 s2 hwt
          have B10 := Lib.hid (show ((w8.setCell ⟨gb, 1, none⟩ (.int .i64 ((tries : Int) + 1))).setCell ⟨gb, 2, none⟩ (.int .i64 ((e.now : Int) + 1))).heap[gb]? = some (.cells #[.string (Mem.str body), .int .i64 ((tries : Int) + 1), .int .i64 ((e.now : Int) + 1)] 86 (0, 0)) from Mem.row_setCell _ _ _ _ _ _ _ (Mem.row_setCell _ _ _ _ _ _ _ B8.out))
          have L10 := Lib.hid (L8.out.but (b := gb) ((Mem.But.of_setCell (S := (· = gb)) ⟨gb, 1, none⟩ (.int .i64 ((tries : Int) + 1)) rfl).trans (Mem.But.of_setCell ⟨gb, 2, none⟩ (.int .i64 ((e.now : Int) + 1)) rfl)) HF.out (by have := HGGB.out; omega))
          generalize (w8.setCell ⟨gb, 1, none⟩ (.int .i64 ((tries : Int) + 1))).setCell ⟨gb, 2, none⟩ (.int .i64 ((e.now : Int) + 1)) = w10 at B10 L10 ⊢
          clear L8 B8
          have k2 : w10.cell? ⟨g, 2, none⟩ = some (.slice (some ⟨pA, off, none⟩) T c1) := (cell_of_row _ _ 2 _ _ _ L10.out.lie.row).trans rfl
          have hall10 := L10.out.lie.all
          rw [HLEN.out] at hall10
          have hthere := Ply.body_there hall10 HXJ.out
          clear hall10
          go_upto_region 12 with (first
            | (with_reducible refine wpList_load_row (o := ⟨some 64, _, _, _, _, _⟩) ?_ 86 (.tmp 6) ?_ gb ?_ 86 #[.string (Mem.str body), .int .i64 ((tries : Int) + 1), .int .i64 ((e.now : Int) + 1)] (0, 0) _ ?_ Try.underlying86 ?_ ?_ ?_
               · rfl
               · rfl
               · rfl
               · exact B10.out
               · rfl
               · exact Ply.size_body)
            | (with_reducible refine wpList_store_mid ?_ 86 (.tmp 65) (.tmp 64) ?_ pA (off + jj * 3) #[.string (Mem.str body), .int .i64 ((tries : Int) + 1), .int .i64 ((e.now : Int) + 1)] ?_ ?_ ?_ ?_ ?_ ?_
               · rfl
               · rfl
               · rfl
               · rfl
               · exact hthere
               · exact Ply.size_body
               · exact Ply.bone3 _ _ _))
          clear k2 hthere
          simp only [Act.put, List.setIfInBounds_toArray, List.set_cons_zero, List.set_cons_succ]
          have hst : Lnk.step n (e.now + 1) ⟨seq, tries, sent, body⟩ = ⟨seq, tries + 1, e.now + 1, body⟩ := by unfold Lnk.step; rw [if_pos HD.out]
          obtain ⟨Tp, hTp⟩ : ∃ T, Lnk.topAt n (e.now + 1) k e.top e.out = T := ⟨_, rfl⟩
          have l12 : Ply.RS w (w10.setCells pA (off + jj * 3) [.string (Mem.str body), .int .i64 ((tries : Int) + 1), .int .i64 ((e.now : Int) + 1)]) g g2 (Lnk.turn e (e.now + 1) (Lnk.rowAt n (e.now + 1) (k + 1) e.out) Tp) pre (.slice (some ⟨pA, off, none⟩) T c1) vi (.slice Bo N0 co) (Lnk.sentAt e n (e.now + 1) k e.out) := by
            have h12 := L10.out.body HLEN.out (k := k) (Lnk.rowAt_get HX.out) ⟨seq, tries + 1, e.now + 1, body⟩
            rw [show pre.length + k = jj by have := HP.out; have := HJJ.out; omega, hTp] at h12
            rw [Lnk.rowAt_succ HX.out, hst]
            exact h12
          have B12 := Lib.hid (show (w10.setCells pA (off + jj * 3) [.string (Mem.str body), .int .i64 ((tries : Int) + 1), .int .i64 ((e.now : Int) + 1)]).heap[gb]? = some (.cells #[.string (Mem.str body), .int .i64 ((tries : Int) + 1), .int .i64 ((e.now : Int) + 1)] 86 (0, 0)) from (Ply.setCells_other _ _ _ (Ne.symm HPB.out)).trans B10.out)
          have L12 := Lib.hid l12
          have HTP := Lib.hid hTp
          clear l12 hst hTp B10 L10
          generalize w10.setCells pA (off + jj * 3) [.string (Mem.str body), .int .i64 ((tries : Int) + 1), .int .i64 ((e.now : Int) + 1)] = w12 at B12 L12 ⊢
          have c4 : w12.cell? ⟨g, 4, none⟩ = some (.int .i64 Tp) := (cell_of_row _ _ 4 _ _ _ L12.out.lie.row).trans rfl
          have HWJ := Lib.hid (show wrap64 ((jj : Int) + 1) = (jj : Int) + 1 by have := HT5.out; unfold wrap64; omega)
          by_cases hc : Tp < jj + 1
          · have f4 := frozen_of_row w12 g 4 _ _ L12.out.lie.row
            have iT : (Tp : Int) < (jj : Int) + 1 := by omega
            have dT : decide ((Tp : Int) < (jj : Int) + 1) = true := decide_eq_true iT
            have hm : max Tp seq = jj + 1 := by have := HSEQ.out; omega
            have L13 := Lib.hid (L12.out.put (e' := Lnk.turn e (e.now + 1) (Lnk.rowAt n (e.now + 1) (k + 1) e.out) (max Tp seq)) 4 (.int .i64 ((jj : Int) + 1)) (by rw [hm]; rfl) rfl)
            have B13 := Lib.hid ((heap_setCell_other w12 ⟨g, 4, none⟩ gb (.int .i64 ((jj : Int) + 1)) HF.out.1).trans B12.out)
            have hwj := HWJ.out
            clear hc hm
            go_upto_region 14 with (fail)
            try rw [hwj]
            clear c4 f4 iT dT hwj B12 L12
            generalize w12.setCell ⟨g, 4, none⟩ (.int .i64 ((jj : Int) + 1)) = w13 at L13 B13 ⊢
            have j0 : w13.cell? ⟨g, 0, none⟩ = some (.int .i64 e.site) := (cell_of_row _ _ 0 _ _ _ L13.out.lie.row).trans rfl
            have j5 : w13.cell? ⟨g, 5, none⟩ = some (.int .i64 e.got) := (cell_of_row _ _ 5 _ _ _ L13.out.lie.row).trans rfl
            have jb : w13.cell? ⟨gb, 0, none⟩ = some (.string (Mem.str body)) := (cell_of_row _ _ 0 _ _ _ B13.out).trans rfl
            obtain ⟨S, hS⟩ : ∃ S, Lnk.frameOf e ⟨seq, tries, sent, body⟩ = S := ⟨_, rfl⟩
            have hput : ∀ w', Calls Try.prog 25 #[.agg #[.int .i64 1, .int .i64 e.site, .int .i64 (wrap64 ((jj : Int) + 1)), .int .i64 e.got, .string (Mem.str body)]] w' fun r w'' => r = .returned (.string (Mem.str S)) ∧ Below w'.heap.size w' w'' := fun w' => by
              have hokf : Frm.okB ⟨1, e.site, seq, e.got, body⟩ = true := by
                obtain ⟨⟨a1, a2⟩, a3, a4, a5⟩ := Hok.out
                obtain ⟨⟨b1, b2⟩, b3, b4, b5⟩ := HXM.out
                rw [Frm.ok_iff]
                exact ⟨⟨by simp only; omega, by simp only; omega⟩, ⟨by simp only; omega, by simp only; omega⟩, .inr ⟨rfl, ⟨by simp only; omega, by simp only; omega⟩, b5⟩⟩
              have h := frame_refput ⟨1, e.site, seq, e.got, body⟩ hokf w'
              rw [← hS]
              have e2 : ((seq : Nat) : Int) = (jj : Int) + 1 := by rw [HSEQ.out]; rfl
              rw [HWJ.out, ← e2]
              exact h
            have HMX := Lib.hid (show N0 + 1 ≤ maxLen ∧ (N0 + 1) * 16 ≤ 140737488355328 by have := HN8.out; unfold maxLen; omega)
            have HZ := Lib.hid (show g + 2 ≤ w13.heap.size by have := L13.out.lt; have := L13.out.two; omega)
            have HS := Lib.hid hS
            obtain ⟨is, his, hsz, hsz1, hsz2⟩ := info_parts Lnk.info_str
            clear hS
            go_wp2_with (first
              | (go_at_call 25
                 refine (hput _).mono ?_
                 rintro r w14 ⟨rfl, hb14⟩
                 have L14 := Lib.hid (L13.out.below hb14)
                 have O14 := Lib.hid (show Mem.Row w14 (g + 2) 9 1 (.slice Bo N0 co) N0 (Lnk.strs (Lnk.sentAt e n (e.now + 1) k e.out)) by have h14 := (L13.out.below hb14).out; rw [HN0.out] at h14; exact h14)
                 have Z14 := Lib.hid (Nat.le_trans HZ.out hb14.size)
                 clear hb14)
              | (at_builtin
                 refine Mem.wpList_append_row _ rfl (.tmp 74) (.tmp 85) 32 rfl (g + 2) 9 is _ 1 16 Try.underlying32 his hsz hsz1 hsz2 rfl (.slice Bo N0 co) N0 (Lnk.strs (Lnk.sentAt e n (e.now + 1) k e.out)) rfl (O14.out.alloc _) ⟨w14.heap.size, 0, none⟩ 1 1 [.string (Mem.str S)] rfl rfl (World.news_of_block (heap_alloc_new _ _)) (by intro u hu; simp at hu; subst hu; rfl) (by omega) HMX.out.1 HMX.out.2 (by have := Z14.out; simp; omega) ?_
                 intro v' w15 hown hgrow hat
                 have L15 := Lib.hid ((L14.out.below (Ply.below_new _ _)).grow (m' := Lnk.sentAt e n (e.now + 1) (k + 1) e.out) hgrow (by rw [Lnk.sentAt_yes HX.out HD.out, HS.out, List.length_append, HN0.out]; unfold Lnk.strs; rw [List.map_append]; exact hown) hat)
                 clear hown hgrow hat))
            rw [HWJ.out]
            go_roundw
            case measure =>
              have hm1 : ((jj : Int) + 1).toNat = jj + 1 := rfl
              have hm2 : ((jj : Nat) : Int).toNat = jj := rfl
              show p + 8 - ((jj : Int) + 1).toNat < p + 8 - ((jj : Nat) : Int).toNat
              rw [hm1, hm2]
              have := HJJ.out
              omega
            case rel => exact ⟨k + 1, hk1, hk2, congrArg (Value.int .i64) (by have := HJJ.out; omega), by rw [Lnk.topAt_yes HX.out HD.out, HTP.out]; exact L15.out⟩
          · have iT : ¬ (Tp : Int) < (jj : Int) + 1 := by omega
            have dT : decide ((Tp : Int) < (jj : Int) + 1) = false := decide_eq_false iT
            have hm : max Tp seq = Tp := by have := HSEQ.out; omega
            have L13 := Lib.hid (show Ply.RS w w12 g g2 (Lnk.turn e (e.now + 1) (Lnk.rowAt n (e.now + 1) (k + 1) e.out) (max Tp seq)) pre (.slice (some ⟨pA, off, none⟩) T c1) vi (.slice Bo N0 co) (Lnk.sentAt e n (e.now + 1) k e.out) by rw [hm]; exact L12.out)
            have B13 := B12
            have hwj := HWJ.out
            clear hc hm
            go_upto_region 14 with (fail)
            try rw [hwj]
            clear c4 iT dT hwj B12 L12
            generalize w12 = w13 at L13 B13 ⊢
            have j0 : w13.cell? ⟨g, 0, none⟩ = some (.int .i64 e.site) := (cell_of_row _ _ 0 _ _ _ L13.out.lie.row).trans rfl
            have j5 : w13.cell? ⟨g, 5, none⟩ = some (.int .i64 e.got) := (cell_of_row _ _ 5 _ _ _ L13.out.lie.row).trans rfl
            have jb : w13.cell? ⟨gb, 0, none⟩ = some (.string (Mem.str body)) := (cell_of_row _ _ 0 _ _ _ B13.out).trans rfl
            obtain ⟨S, hS⟩ : ∃ S, Lnk.frameOf e ⟨seq, tries, sent, body⟩ = S := ⟨_, rfl⟩
            have hput : ∀ w', Calls Try.prog 25 #[.agg #[.int .i64 1, .int .i64 e.site, .int .i64 (wrap64 ((jj : Int) + 1)), .int .i64 e.got, .string (Mem.str body)]] w' fun r w'' => r = .returned (.string (Mem.str S)) ∧ Below w'.heap.size w' w'' := fun w' => by
              have hokf : Frm.okB ⟨1, e.site, seq, e.got, body⟩ = true := by
                obtain ⟨⟨a1, a2⟩, a3, a4, a5⟩ := Hok.out
                obtain ⟨⟨b1, b2⟩, b3, b4, b5⟩ := HXM.out
                rw [Frm.ok_iff]
                exact ⟨⟨by simp only; omega, by simp only; omega⟩, ⟨by simp only; omega, by simp only; omega⟩, .inr ⟨rfl, ⟨by simp only; omega, by simp only; omega⟩, b5⟩⟩
              have h := frame_refput ⟨1, e.site, seq, e.got, body⟩ hokf w'
              rw [← hS]
              have e2 : ((seq : Nat) : Int) = (jj : Int) + 1 := by rw [HSEQ.out]; rfl
              rw [HWJ.out, ← e2]
              exact h
            have HMX := Lib.hid (show N0 + 1 ≤ maxLen ∧ (N0 + 1) * 16 ≤ 140737488355328 by have := HN8.out; unfold maxLen; omega)
            have HZ := Lib.hid (show g + 2 ≤ w13.heap.size by have := L13.out.lt; have := L13.out.two; omega)
            have HS := Lib.hid hS
            obtain ⟨is, his, hsz, hsz1, hsz2⟩ := info_parts Lnk.info_str
            clear hS
            go_wp2_with (first
              | (go_at_call 25
                 refine (hput _).mono ?_
                 rintro r w14 ⟨rfl, hb14⟩
                 have L14 := Lib.hid (L13.out.below hb14)
                 have O14 := Lib.hid (show Mem.Row w14 (g + 2) 9 1 (.slice Bo N0 co) N0 (Lnk.strs (Lnk.sentAt e n (e.now + 1) k e.out)) by have h14 := (L13.out.below hb14).out; rw [HN0.out] at h14; exact h14)
                 have Z14 := Lib.hid (Nat.le_trans HZ.out hb14.size)
                 clear hb14)
              | (at_builtin
                 refine Mem.wpList_append_row _ rfl (.tmp 74) (.tmp 85) 32 rfl (g + 2) 9 is _ 1 16 Try.underlying32 his hsz hsz1 hsz2 rfl (.slice Bo N0 co) N0 (Lnk.strs (Lnk.sentAt e n (e.now + 1) k e.out)) rfl (O14.out.alloc _) ⟨w14.heap.size, 0, none⟩ 1 1 [.string (Mem.str S)] rfl rfl (World.news_of_block (heap_alloc_new _ _)) (by intro u hu; simp at hu; subst hu; rfl) (by omega) HMX.out.1 HMX.out.2 (by have := Z14.out; simp; omega) ?_
                 intro v' w15 hown hgrow hat
                 have L15 := Lib.hid ((L14.out.below (Ply.below_new _ _)).grow (m' := Lnk.sentAt e n (e.now + 1) (k + 1) e.out) hgrow (by rw [Lnk.sentAt_yes HX.out HD.out, HS.out, List.length_append, HN0.out]; unfold Lnk.strs; rw [List.map_append]; exact hown) hat)
                 clear hown hgrow hat))
            rw [HWJ.out]
            go_roundw
            case measure =>
              have hm1 : ((jj : Int) + 1).toNat = jj + 1 := rfl
              have hm2 : ((jj : Nat) : Int).toNat = jj := rfl
              show p + 8 - ((jj : Int) + 1).toNat < p + 8 - ((jj : Nat) : Int).toNat
              rw [hm1, hm2]
              have := HJJ.out
              omega
            case rel => exact ⟨k + 1, hk1, hk2, congrArg (Value.int .i64) (by have := HJJ.out; omega), by rw [Lnk.topAt_yes HX.out HD.out, HTP.out]; exact L15.out⟩
      · have hd' : Lnk.due n (e.now + 1) ⟨seq, tries, sent, body⟩ = false := by simpa using hdue
        have ht0 : tries ≠ 0 := fun h => hdue (by unfold Lnk.due; simp [h])
        have HD := Lib.hid hdue
        have HD2 := Lib.hid hd'
        obtain ⟨D, hD⟩ : ∃ D, Pac.dbl n (tries - 1) = D := ⟨_, rfl⟩
        have i0 : (0 : Int) < (tries : Int) := by omega
        have d0 : decide ((0 : Int) < (tries : Int)) = true := decide_eq_true i0
        have n0 : 0 < tries := by omega
        have d2 : decide (0 < tries) = true := decide_eq_true n0
        have hle : ((tries - 1 : Nat) : Int) ≤ 9223372036854775807 := by have := HXM.out; omega
        have iW : (e.now : Int) + 1 - (sent : Int) < (D : Int) := by
          unfold Lnk.due at hd'
          simp only [Bool.or_eq_false_iff, decide_eq_false_iff_not] at hd'
          rw [hD] at hd'
          have e2 : ((e.now + 1 : Nat) : Int) = (e.now : Int) + 1 := rfl
          omega
        have dW : decide ((e.now : Int) + 1 - (sent : Int) < (D : Int)) = true := decide_eq_true iW
        have hWait : ∀ w', Calls Try.prog 33 #[.agg #[.float .f64 e.mean, .float .f64 e.dev, .bool e.any], .int .i64 ((tries - 1 : Nat) : Int)] w' fun r w'' => r = .returned (.int .i64 D) ∧ Below w'.heap.size w' w'' := fun w' => by
          have := Hn.out ((tries - 1 : Nat) : Int) w' hle
          rw [Int.toNat_natCast, hD] at this
          exact this
        have hnw : e.now + 1 < 1099511627776 := Hok.out.2.1
        have hsn : sent < 1099511627776 := HXM.out.2.2.1
        have HWJ := Lib.hid (show wrap64 ((jj : Int) + 1) = (jj : Int) + 1 by have := HT5.out; unfold wrap64; omega)
        have hv1 : wrap64 ((tries : Int) - 1) = ((tries - 1 : Nat) : Int) := by have := HXM.out; unfold wrap64; omega
        have hv2 : wrap64 ((e.now : Int) + 1 - (sent : Int)) = (e.now : Int) + 1 - (sent : Int) := by unfold wrap64; omega
        clear ht0 hdue hd' hle hnw hsn hD
        refine Mem.wp_region_later (by kernel_rfl) (by kernel_rfl) ?_
        repeat (go_big_quiet_step ((go_at_call 33; exact Mem.later_call (hWait _))))
        clear hWait hv1 hv2
        refine wpQuiet_nil ?_
        intro w8 hw8
        obtain ⟨i8, hi8⟩ := hw8
        have h8 : Below w7.heap.size w7 w8 := hi8 ▸ i8.h
        clear hi8 i8 m1 m7 m8 m9 y1 y2
        have L8 := Lib.hid (L7.out.below h8)
        clear h8 i0 n0 d0 d2
        go_wp2
        rw [HWJ.out]
        go_roundw
        case measure =>
          have hm1 : ((jj : Int) + 1).toNat = jj + 1 := rfl
          have hm2 : ((jj : Nat) : Int).toNat = jj := rfl
          show p + 8 - ((jj : Int) + 1).toNat < p + 8 - ((jj : Nat) : Int).toNat
          rw [hm1, hm2]
          have := HJJ.out
          omega
        case rel =>
          refine ⟨k + 1, hk1, hk2, congrArg (Value.int .i64) (by have := HJJ.out; omega), ?_⟩
          rw [Lnk.topAt_no HX.out HD2.out, Lnk.sentAt_no HX.out HD2.out, Lnk.rowAt_succ HX.out]
          unfold Lnk.step
          rw [if_neg HD.out, Lnk.set_same (Lnk.rowAt_get HX.out)]
          exact L8.out
    · have hcase : (k < e.out.length ∧ k = 8) ∨ (e.out.length ≤ k) := by omega
      have hall : Lnk.rowAt n (e.now + 1) k e.out = Lnk.rowAt n (e.now + 1) 8 e.out ∧ Lnk.sentAt e n (e.now + 1) k e.out = Lnk.sentAt e n (e.now + 1) 8 e.out ∧ Lnk.topAt n (e.now + 1) k e.top e.out = Lnk.topAt n (e.now + 1) 8 e.top e.out := by
        rcases hcase with ⟨h, h8⟩ | h
        · subst h8
          exact ⟨rfl, rfl, rfl⟩
        · exact Lnk.at_all h hk8
      rw [hall.1, hall.2.1, hall.2.2] at hrs
      have HN9 := Lib.hid (show (Lnk.sentAt e n (e.now + 1) 8 e.out).length = N0 by rw [← hall.2.1]; exact HN0.out)
      obtain ⟨e8, he8⟩ : ∃ e8, Lnk.turn e (e.now + 1) (Lnk.rowAt n (e.now + 1) 8 e.out) (Lnk.topAt n (e.now + 1) 8 e.top e.out) = e8 := ⟨_, rfl⟩
      obtain ⟨S8, hS8⟩ : ∃ S, Lnk.sentAt e n (e.now + 1) 8 e.out = S := ⟨_, rfl⟩
      have ho8 : e8.owed = e.owed := by rw [← he8]; rfl
      have hs8 : e8.site = e.site := by rw [← he8]; rfl
      have hg8 : e8.got = e.got := by rw [← he8]; rfl
      have h1 : (Lnk.tick n e).1 = { e8 with owed := false } := by rw [← he8]; rfl
      have h2 : (Lnk.tick n e).2 = if S8 = [] ∧ e.owed = true then [Frm.put ⟨2, e.site, 0, e.got, []⟩] else S8 := by rw [← hS8]; rfl
      have hok8 : Ply.Ok (Lnk.tick n e).1 pre inn := HL.out.ok.tick n
      rw [he8, hS8] at hrs
      rw [hS8] at HN9
      rw [h1] at hok8
      have H1 := Lib.hid h1
      have H2 := Lib.hid h2
      have k10 : wr.cell? ⟨g, 10, none⟩ = some (.bool e.owed) := by rw [← ho8]; exact (cell_of_row _ _ 10 _ _ _ hrs.lie.row).trans rfl
      have f10 := frozen_of_row wr g 10 _ _ hrs.lie.row
      have HRS := Lib.hid hrs
      have HOK8 := Lib.hid hok8
      have HO8 := Lib.hid ho8
      have HS8 := Lib.hid hs8
      have HG8 := Lib.hid hg8
      have hvi : ∃ B m d, vi = .slice B m d := by obtain ⟨B, d, e1, _, _⟩ := HL.out.came.form; exact ⟨_, _, _, e1⟩
      have HVI := Lib.hid hvi
      have hd : (decide ((jj : Int) < (T : Int)) = true ∧ (jj : Int) < (T : Int)) ∧ decide ((jj : Int) < (Q8 : Int)) = false ∧ ¬ (jj : Int) < (Q8 : Int) ∨ decide ((jj : Int) < (T : Int)) = false ∧ ¬ (jj : Int) < (T : Int) := by
        have a1 := HT.out
        have a2 := HP.out
        rcases hcase with ⟨h, h8⟩ | h
        · have b1 : (jj : Int) < (T : Int) := by omega
          have b2 : ¬ (jj : Int) < (Q8 : Int) := by omega
          exact .inl ⟨⟨decide_eq_true b1, b1⟩, decide_eq_false b2, b2⟩
        · have b1 : ¬ (jj : Int) < (T : Int) := by omega
          exact .inr ⟨decide_eq_false b1, b1⟩
      clear hl hrs hall hcase he8 hS8 ho8 hs8 hg8 h1 h2 hok8 hvi hk hk8 hin hQ8
      clear hjj
      by_cases h0 : N0 = 0
      · subst h0
        have hS0 : S8 = [] := List.eq_nil_of_length_eq_zero HN9.out
        subst hS0
        cases ho : e.owed with
        | false =>
          rw [ho] at k10
          have h88 : { e8 with owed := false } = e8 := by
            have h3 := HO8.out.trans ho
            cases e8
            simp only at h3 ⊢
            rw [h3]
          have HH := Lib.hid h88
          have HT2 := Lib.hid (show (Lnk.tick n e).2 = [] by rw [H2.out]; simp [ho])
          have hw8 := HW8.out
          clear ho h88 H2
          rcases hd with ⟨⟨q1, q2⟩, q3, q4⟩ | ⟨q1, q2⟩
          all_goals
            go_wp2_with (first
              | (with_reducible refine wpList_load_row (o := ⟨some 107, _, _, _, _, _⟩) ?_ 52 (.tmp 1) ?_ g ?_ 52 (Ply.rcells e8 pre.length (.slice A1 T c1) vi) (0, 0) _ ?_ Try.underlying52 ?_ ?_ ?_
                 · rfl
                 · rfl
                 · rfl
                 · exact HRS.out.lie.row
                 · rfl
                 · exact Ply.size_end)
              | (with_reducible refine Mem.wpList_store ?_ 52 (.tmp 2) (.tmp 107) ?_ g2 (Ply.rcells e8 pre.length (.slice A1 T c1) vi) ?_ ?_ 52 _ HRS.out.res ?_ ?_ ?_ ?_
                 · rfl
                 · rfl
                 · rfl
                 · rfl
                 · exact Ply.size_end
                 · rfl
                 · exact Ply.rcells_one2 _ _ HVI.out
                 intro w16 hp16
                 have P16 := Lib.hid hp16
                 clear hp16))
            refine bodyPost_ret (Frm.results_row_tmp rfl _ _ g2 (.slice Bo 0 co) _ _ _ _ rfl rfl P16.out.row Try.underlying52 rfl Ply.size_end) rfl ⟨_, _, rfl, ?_⟩
            rw [H1.out, HT2.out, HH.out]
            exact HRS.out.done P16.out HL.out HG.out (by have h3 := HOK8.out; rw [HH.out] at h3; exact h3) HSS.out
        | true =>
          rw [ho] at k10
          have HT2 := Lib.hid (show (Lnk.tick n e).2 = [Frm.put ⟨2, e.site, 0, e.got, []⟩] by rw [H2.out]; simp [ho])
          obtain ⟨S, hS⟩ : ∃ S, Frm.put ⟨2, e.site, 0, e.got, []⟩ = S := ⟨_, rfl⟩
          have hput : ∀ w', Calls Try.prog 25 #[.agg #[.int .i64 2, .int .i64 e.site, .int .i64 0, .int .i64 e.got, .string ⟨#[]⟩]] w' fun r w'' => r = .returned (.string (Mem.str S)) ∧ Below w'.heap.size w' w'' := fun w' => by
            have hokf : Frm.okB ⟨2, e.site, 0, e.got, []⟩ = true := by
              obtain ⟨⟨a1, a2⟩, a3, a4, a5⟩ := Hok.out
              rw [Frm.ok_iff]
              exact ⟨⟨by simp only; omega, by simp only; omega⟩, ⟨by simp only; omega, by simp only; omega⟩, .inl ⟨rfl, rfl, rfl⟩⟩
            have h := frame_refput ⟨2, e.site, 0, e.got, []⟩ hokf w'
            rw [← hS]
            exact h
          have k0 : wr.cell? ⟨g, 0, none⟩ = some (.int .i64 e.site) := by rw [← HS8.out]; exact (cell_of_row _ _ 0 _ _ _ HRS.out.lie.row).trans rfl
          have k5 : wr.cell? ⟨g, 5, none⟩ = some (.int .i64 e.got) := by rw [← HG8.out]; exact (cell_of_row _ _ 5 _ _ _ HRS.out.lie.row).trans rfl
          have HZ := Lib.hid (show g + 2 ≤ wr.heap.size by have := HRS.out.lt; have := HRS.out.two; omega)
          have HS := Lib.hid hS
          have HOW := Lib.hid (HO8.out.trans ho)
          obtain ⟨is, his, hsz, hsz1, hsz2⟩ := info_parts Lnk.info_str
          have hw8 := HW8.out
          clear ho hS H2
          rcases hd with ⟨⟨q1, q2⟩, q3, q4⟩ | ⟨q1, q2⟩
          all_goals
            go_wp2_with (first
              | (go_at_call 25
                 refine (hput _).mono ?_
                 rintro r w14 ⟨rfl, hb14⟩
                 have L14 := Lib.hid (HRS.out.below hb14)
                 have O14 := Lib.hid (show Mem.Row w14 (g + 2) 9 1 (.slice Bo 0 co) 0 [] from (HRS.out.below hb14).out)
                 have Z14 := Lib.hid (Nat.le_trans HZ.out hb14.size)
                 clear hb14)
              | (at_builtin
                 refine Mem.wpList_append_row _ rfl (.tmp 94) (.tmp 101) 32 rfl (g + 2) 9 is _ 1 16 Try.underlying32 his hsz hsz1 hsz2 rfl (.slice Bo 0 co) 0 [] rfl (O14.out.alloc _) ⟨w14.heap.size, 0, none⟩ 1 1 [.string (Mem.str S)] rfl rfl (World.news_of_block (heap_alloc_new _ _)) (by intro u hu; simp at hu; subst hu; rfl) (by omega) (by unfold maxLen; omega) (by omega) (by have := Z14.out; simp; omega) ?_
                 intro v' w15 hown hgrow hat
                 have l15 := (L14.out.below (Ply.below_new _ _)).grow (m' := [S]) hgrow hown hat
                 rw [Nat.zero_add] at hown
                 obtain ⟨A', c', rfl, _, _⟩ := hown.form
                 have k15 : w15.cell? ⟨g, 10, none⟩ = some (.bool true) := by rw [← HOW.out]; exact (cell_of_row _ _ 10 _ _ _ l15.lie.row).trans rfl
                 have f15 := frozen_of_row w15 g 10 _ _ l15.lie.row
                 have L16 := Lib.hid (l15.put (e' := { e8 with owed := false }) 10 (.bool false) rfl rfl)
                 clear hown hgrow hat l15)
              | (with_reducible refine wpList_load_row (o := ⟨some 107, _, _, _, _, _⟩) ?_ 52 (.tmp 1) ?_ g ?_ 52 (Ply.rcells { e8 with owed := false } pre.length (.slice A1 T c1) vi) (0, 0) _ ?_ Try.underlying52 ?_ ?_ ?_
                 · rfl
                 · rfl
                 · rfl
                 · exact L16.out.lie.row
                 · rfl
                 · exact Ply.size_end)
              | (with_reducible refine Mem.wpList_store ?_ 52 (.tmp 2) (.tmp 107) ?_ g2 (Ply.rcells { e8 with owed := false } pre.length (.slice A1 T c1) vi) ?_ ?_ 52 _ L16.out.res ?_ ?_ ?_ ?_
                 · rfl
                 · rfl
                 · rfl
                 · rfl
                 · exact Ply.size_end
                 · rfl
                 · exact Ply.rcells_one2 _ _ HVI.out
                 intro w16 hp16
                 have P16 := Lib.hid hp16
                 clear hp16))
            refine bodyPost_ret (Frm.results_row_tmp rfl _ _ g2 (.slice A' 1 c') _ _ _ _ rfl rfl P16.out.row Try.underlying52 rfl Ply.size_end) rfl ⟨_, _, rfl, ?_⟩
            rw [H1.out, HT2.out, HS.out]
            exact L16.out.done P16.out HL.out HG.out HOK8.out HSS.out
      · have hne : S8 ≠ [] := fun h => h0 (by rw [← HN9.out, h]; rfl)
        have HT2 := Lib.hid (show (Lnk.tick n e).2 = S8 by rw [H2.out]; simp [hne])
        have z1 : ((N0 : Int) == 0) = false := by simp; omega
        have z2 : (0 : Int) < (N0 : Int) := by omega
        have z3 : decide ((0 : Int) < (N0 : Int)) = true := decide_eq_true z2
        have z4 : 0 < N0 := by omega
        have z5 : decide (0 < N0) = true := decide_eq_true z4
        have L16 := Lib.hid (HRS.out.put (e' := { e8 with owed := false }) 10 (.bool false) rfl rfl)
        have hw8 := HW8.out
        clear h0 hne H2
        rcases hd with ⟨⟨q1, q2⟩, q3, q4⟩ | ⟨q1, q2⟩
        all_goals
          go_wp2_with (first
            | (with_reducible refine wpList_load_row (o := ⟨some 107, _, _, _, _, _⟩) ?_ 52 (.tmp 1) ?_ g ?_ 52 (Ply.rcells { e8 with owed := false } pre.length (.slice A1 T c1) vi) (0, 0) _ ?_ Try.underlying52 ?_ ?_ ?_
               · rfl
               · rfl
               · rfl
               · exact L16.out.lie.row
               · rfl
               · exact Ply.size_end)
            | (with_reducible refine Mem.wpList_store ?_ 52 (.tmp 2) (.tmp 107) ?_ g2 (Ply.rcells { e8 with owed := false } pre.length (.slice A1 T c1) vi) ?_ ?_ 52 _ L16.out.res ?_ ?_ ?_ ?_
               · rfl
               · rfl
               · rfl
               · rfl
               · exact Ply.size_end
               · rfl
               · exact Ply.rcells_one2 _ _ HVI.out
               intro w16 hp16
               have P16 := Lib.hid hp16
               clear hp16))
          refine bodyPost_ret (Frm.results_row_tmp rfl _ _ g2 (.slice Bo N0 co) _ _ _ _ rfl rfl P16.out.row Try.underlying52 rfl Ply.size_end) rfl ⟨_, _, rfl, ?_⟩
          rw [H1.out, HT2.out]
          exact L16.out.done P16.out HL.out HG.out HOK8.out HSS.out
end Go.Proofs.Ytgkadhogfejheaa
