/- The reference's end on memory; its Waits and Send. -/
import Derived.Test.YtgkadhogfejheaaZLnkM
set_option linter.unusedVariables false
set_option linter.unusedSimpArgs false
namespace Go.Proofs.Ytgkadhogfejheaa
open Go.RowKit

namespace Ply
open Lnk
/-- the cells of a body, of one that came -/
def bvals (x : Wt) : List Value := [.string (Mem.str x.body), .int .i64 x.tries, .int .i64 x.sent]
def bflat (l : List Wt) : List Value := l.flatMap bvals
def cvals (x : Nat × List UInt8) : List Value := [.int .i64 x.1, .string (Mem.str x.2)]
def cflat (l : List (Nat × List UInt8)) : List Value := l.flatMap cvals
theorem bflat_append (l m : List Wt) : bflat (l ++ m) = bflat l ++ bflat m := by unfold bflat; rw [List.flatMap_append]
theorem cflat_append (l m : List (Nat × List UInt8)) : cflat (l ++ m) = cflat l ++ cflat m := by unfold cflat; rw [List.flatMap_append]
theorem bflat_length (l : List Wt) : (bflat l).length = l.length * 3 := by
  induction l with
  | nil => rfl
  | cons x l ih =>
    show (bvals x ++ bflat l).length = _
    rw [List.length_append, ih]
    simp [bvals]
    omega
theorem bone (l : List Wt) : ∀ u ∈ bflat l, u.oneCell' = true := by
  intro u hu
  obtain ⟨x, _, hx⟩ := List.mem_flatMap.1 hu
  simp [bvals] at hx
  rcases hx with rfl | rfl | rfl <;> rfl
theorem cone (l : List (Nat × List UInt8)) : ∀ u ∈ cflat l, u.oneCell' = true := by
  intro u hu
  obtain ⟨x, _, hx⟩ := List.mem_flatMap.1 hu
  simp [cvals] at hx
  rcases hx with rfl | rfl <;> rfl
/-- how all that was given, and all that came, goes with an end's state -/
structure Ok (e : St) (pre : List Wt) (inn : List (Nat × List UInt8)) : Prop where
  seqs : ∀ k x, e.out[k]? = some x → x.seq = pre.length + k + 1
  given : e.given = pre.length + e.out.length
  top : e.top ≤ e.given
  keys : ∀ x ∈ inn, 1 ≤ x.1
  nodup : (inn.map (·.1)).Nodup
  early : ∀ k b, e.got < k → (e.early k = some b ↔ (k, b) ∈ inn)
  low : ∀ k, 1 ≤ k → k ≤ e.got → ∃ b, (k, b) ∈ inn
  norm : e.early (e.got + 1) = none
def rcells (e : St) (p : Nat) (va vi : Value) : Array Value := #[.int .i64 e.site, .int .i64 e.now, va, .int .i64 p, .int .i64 e.top, .int .i64 e.got, vi, .float .f64 e.mean, .float .f64 e.dev, .bool e.any, .bool e.owed, .int .i64 e.refused]
structure RLie (w : World) (e : St) (pre : List Wt) (inn : List (Nat × List UInt8)) (va vi : Value) (N : Nat) (S : Nat → Prop) : Prop where
  all : Mem.Row w 0 86 3 va (pre.length + e.out.length) (bflat (pre ++ e.out))
  came : Mem.Row w 0 96 2 vi inn.length (cflat inn)
  ok : Ok e pre inn
  small : inn.length ≤ N
  apart : ∀ b, va.ownBlock = some b ∨ vi.ownBlock = some b → ¬ S b
def RAt (w : World) (e : St) (v : Value) (N : Nat) (S : Nat → Prop) : Prop := ∃ pre inn va vi, v = .agg (rcells e pre.length va vi) ∧ RLie w e pre inn va vi N S
theorem RLie.below {w w1 : World} {e : St} {pre : List Wt} {inn : List (Nat × List UInt8)} {va vi : Value} {N : Nat} {S : Nat → Prop} (h : RLie w e pre inn va vi N S) (hb : Below w.heap.size w w1) : RLie w1 e pre inn va vi N S :=
  ⟨h.all.below hb, h.came.below hb, h.ok, h.small, h.apart⟩
theorem RAt.below {w w1 : World} {e : St} {v : Value} {N : Nat} {S : Nat → Prop} (h : RAt w e v N S) (hb : Below w.heap.size w w1) : RAt w1 e v N S := by
  obtain ⟨pre, inn, va, vi, h1, h2⟩ := h
  exact ⟨pre, inn, va, vi, h1, h2.below hb⟩
theorem rcells_one {w : World} {e : St} {pre : List Wt} {inn : List (Nat × List UInt8)} {va vi : Value} {N : Nat} {S : Nat → Prop} (h : RLie w e pre inn va vi N S) (p : Nat) : (rcells e p va vi).all (·.oneCell') = true := by
  obtain ⟨A, c, rfl, _, _⟩ := h.all.form
  obtain ⟨B, d, rfl, _, _⟩ := h.came.form
  simp [rcells, Value.oneCell']
theorem row_new (w : World) (e : TypeId) {size : Nat} : Mem.Row (w.alloc (.cells #[] e)) w.heap.size e size (.slice (some ⟨w.heap.size, 0, none⟩) 0 0) 0 [] :=
  ⟨by simp, .inr ⟨w.heap.size, 0, 0, #[], rfl, Nat.le_refl _, heap_alloc_new w _, Nat.le_refl _, by unfold maxLen; omega, by simp, fun j u hj => by simp at hj⟩⟩
theorem below_new (w : World) (o : Obj) : Below w.heap.size w (w.alloc o) := (Below.refl _ _).alloc (Nat.le_refl _) o
theorem grown_below {w w' : World} {r : Option Nat} {B : Nat} (h : w.grownBy w' r) (hr : ∀ b, r = some b → B ≤ b) (hB : B ≤ w.heap.size) : Below B w w' :=
  ⟨h.os, h.tape, h.output, h.size, fun b hb => h.block b (Nat.lt_of_lt_of_le hb hB) fun e => by have := hr b e.symm; omega⟩
theorem one_set {C : Array Value} (h : C.all (·.oneCell') = true) {i : Nat} {A : Option Addr} {n c : Nat} : (C.setIfInBounds i (.slice A n c)).all (·.oneCell') = true := by
  rw [Array.all_eq_true_iff_forall_mem] at h ⊢
  intro u hu
  rcases Array.mem_or_eq_of_mem_setIfInBounds hu with h1 | h1
  · exact h u h1
  · subst h1; rfl
theorem Ok.send {e : St} {pre : List Wt} {inn : List (Nat × List UInt8)} (h : Ok e pre inn) (s : List UInt8) : Ok (Lnk.send e s) pre inn where
  seqs := fun k x hx => by
    simp only [Lnk.send] at hx
    rcases Nat.lt_or_ge k e.out.length with hk | hk
    · rw [List.getElem?_append_left hk] at hx
      exact h.seqs k x hx
    · rw [List.getElem?_append_right hk] at hx
      have hk2 := (List.getElem?_eq_some_iff.1 hx).1
      simp only [List.length_cons, List.length_nil] at hk2
      have hk3 : k = e.out.length := by omega
      subst hk3
      simp at hx
      subst hx
      simp only
      rw [h.given]
  given := by
    have := h.given
    simp only [Lnk.send, List.length_append, List.length_cons, List.length_nil]
    omega
  top := by
    have := h.top
    simp only [Lnk.send]
    omega
  keys := h.keys
  nodup := h.nodup
  early := h.early
  low := h.low
  norm := h.norm
theorem zero_end : (Try.prog.info? 52).bind (·.zero) = some (.agg #[.int .i64 0, .int .i64 0, .slice none 0 0, .int .i64 0, .int .i64 0, .int .i64 0, .slice none 0 0, .float .f64 0, .float .f64 0, .bool false, .bool false, .int .i64 0]) := by kernel_rfl
theorem size_end : (Try.prog.info? 52).map (·.size) = some 12 := by kernel_rfl
theorem zero_body : (Try.prog.info? 86).bind (·.zero) = some (.agg #[.string ⟨#[]⟩, .int .i64 0, .int .i64 0]) := by kernel_rfl
theorem info_body : (Try.prog.info? 86).map (fun i => (i.zero, i.size, i.bytes)) = some (some (.agg #[.string ⟨#[]⟩, .int .i64 0, .int .i64 0]), 3, 32) := by kernel_rfl
theorem info_came : (Try.prog.info? 96).map (fun i => (i.zero, i.size, i.bytes)) = some (some (.agg #[.int .i64 0, .string ⟨#[]⟩]), 2, 24) := by kernel_rfl
theorem size_body : (Try.prog.info? 86).map (·.size) = some 3 := by kernel_rfl
end Ply

set_option maxRecDepth 100000 in
set_option maxHeartbeats 1000000 in
theorem ref_waits (e : Lnk.St) (v : Value) (N : Nat) (hN : e.given < 1099511627776) {S : Nat → Prop} (w : World) (h : Ply.RAt w e v N S) :
    Calls Try.prog 27 #[v] w fun r w' => r = .returned (.int .i64 e.out.length) ∧ Below w.heap.size w w' := by
  obtain ⟨pre, inn, va, vi, rfl, h⟩ := h
  obtain ⟨A, c, rfl, hc1, hc2⟩ := h.all.form
  have hg := h.ok.given
  obtain ⟨n, hn⟩ : ∃ n, pre.length + e.out.length = n := ⟨_, rfl⟩
  rw [hn]
  obtain ⟨p, hp⟩ : ∃ p, pre.length = p := ⟨_, rfl⟩
  rw [hp]
  have hw : wrap64 ((n : Int) - (p : Int)) = (e.out.length : Int) := by unfold wrap64; omega
  clear h hg hc1 hc2 hn hp
  go_enter Try.func27, Try.ntmps27
  go_wp2_with (with_reducible refine Mem.wpList_box (o := ⟨some 1, _, _, _, _, _⟩) ?_ 52 (.tmp 0) ?_ (.agg (Ply.rcells e p (.slice A n c) vi)) ?_ ?_
               · rfl
               · rfl
               · rfl
               intro w1 hn1
               have k2 := hn1.cell1 2 (v := .slice A n c) rfl
               have k3 := hn1.cell1 3 (v := .int .i64 p) rfl
               have Hn1 := Lib.hid hn1
               clear hn1)
  go_ret
  exact ⟨congrArg (fun z => Ending.returned (.int .i64 z)) hw, Hn1.out.below⟩

set_option maxRecDepth 100000 in
set_option maxHeartbeats 1000000 in
theorem ref_send_full (e : Lnk.St) (v : Value) (N : Nat) (s : List UInt8) (hs : s.length ≤ 1048576) (hN : e.given < 1099511627776) (hl : 64 ≤ e.out.length) {S : Nat → Prop} (w : World) (h : Ply.RAt w e v N S) :
    Calls Try.prog 21 #[v, .string (Mem.str s)] w fun r w' => r = .returned (.tuple #[v, .int .i64 6]) ∧ Below w.heap.size w w' := by
  have hwaits := fun w1 ha => ref_waits (S := S) e v N hN w1 ha
  have H := Lib.hid h
  obtain ⟨pre, inn, va, vi, rfl, h⟩ := h
  have hone := Lib.hid (Ply.rcells_one h pre.length)
  obtain ⟨C, hC⟩ : ∃ C, Ply.rcells e pre.length va vi = C := ⟨_, rfl⟩
  have hC12 : C.size = 12 := by rw [← hC]; rfl
  rw [hC] at hwaits H hone ⊢
  have HC12 := Lib.hid hC12
  have hsz := Mem.str_size s
  have hd : decide ((1048576 : Int) < (s.length : Int)) = false := decide_eq_false (by omega)
  have hi : ¬ (1048576 : Int) < (s.length : Int) := by omega
  have hd2 : decide ((64 : Int) ≤ (e.out.length : Int)) = true := decide_eq_true (by omega)
  have hi2 : (64 : Int) ≤ (e.out.length : Int) := by omega
  clear h hs hN hl hC hC12
  go_enter Try.func21, Try.ntmps21
  go_wp2_with (first
    | (with_reducible refine Mem.wpList_box (o := ⟨some 2, _, _, _, _, _⟩) ?_ 52 (.tmp 0) ?_ (.agg C) ?_ ?_
       · rfl
       · rfl
       · rfl
       intro w1 hn1
       have N1 := Lib.hid hn1
       clear hn1)
    | (refine Mem.wpList_alloc (o := ⟨some 4, _, _, _, _, _⟩) rfl 52 rfl _ Ply.zero_end ?_
       intro w2 hn2
       have R2 := Lib.hid ((hn2.old (show w.heap.size < w1.heap.size by rw [N1.out.size]; omega)).trans N1.out.row)
       have Q2 := Lib.hid hn2.row
       have B2 := Lib.hid (Mem.then_ N1.out.below hn2.below)
       have S2 := Lib.hid hn2.size
       clear hn2)
    | (with_reducible refine wpList_load_row (o := ⟨some 9, _, _, _, _, _⟩) ?_ 52 (.tmp 2) ?_ w.heap.size ?_ 52 C (0, 0) _ ?_ Try.underlying52 ?_ ?_ ?_
       · rfl
       · rfl
       · rfl
       · exact R2.out
       · rfl
       · rw [HC12.out]; exact Ply.size_end)
    | (with_reducible refine wpList_load_row (o := ⟨some 10, _, _, _, _, _⟩) ?_ 52 (.tmp 2) ?_ w.heap.size ?_ 52 C (0, 0) _ ?_ Try.underlying52 ?_ ?_ ?_
       · rfl
       · rfl
       · rfl
       · exact R2.out
       · rfl
       · rw [HC12.out]; exact Ply.size_end)
    | (go_at_call 27
       refine (hwaits _ (H.out.below B2.out)).mono ?_
       rintro r w3 ⟨rfl, hb3⟩
       have R3 := Lib.hid ((hb3.block _ (show w.heap.size < w2.heap.size by rw [S2.out, N1.out.size]; omega)).trans R2.out)
       have Q3 := Lib.hid ((hb3.block _ (show w1.heap.size < w2.heap.size by rw [S2.out]; omega)).trans Q2.out)
       have B3 := Lib.hid (Mem.then_ B2.out hb3)
       clear hb3)
    | (with_reducible refine wpList_load_row (o := ⟨some 13, _, _, _, _, _⟩) ?_ 52 (.tmp 2) ?_ w.heap.size ?_ 52 C (0, 0) _ ?_ Try.underlying52 ?_ ?_ ?_
       · rfl
       · rfl
       · rfl
       · exact R3.out
       · rfl
       · rw [HC12.out]; exact Ply.size_end)
    | (refine Mem.wpList_store rfl 52 (.tmp 4) (.tmp 13) rfl w1.heap.size C rfl rfl 52 _ Q3.out (by rw [HC12.out]; exact Ply.size_end) (by rw [HC12.out]; rfl) hone.out ?_
       intro w4 hp4
       have P4 := Lib.hid hp4
       clear hp4))
  refine bodyPost_ret (Frm.results_row_tmp rfl _ _ w1.heap.size (.int .i64 6) _ _ _ _ rfl rfl P4.out.row Try.underlying52 rfl (by rw [HC12.out]; exact Ply.size_end)) rfl ⟨rfl, B3.out.trans (P4.out.below (by rw [N1.out.size]; omega))⟩

set_option maxRecDepth 100000 in
set_option maxHeartbeats 1000000 in
theorem ref_send (e : Lnk.St) (v : Value) (N : Nat) (s : List UInt8) (hs : s.length ≤ 1048576) (hN : e.given < 100000) (hl : e.out.length < 64) {S : Nat → Prop} (w : World) (hS : ∀ b, S b → b < w.heap.size) (h : Ply.RAt w e v N S) :
    Calls Try.prog 21 #[v, .string (Mem.str s)] w fun r w' => ∃ v', r = .returned (.tuple #[v', .int .i64 0]) ∧ Ply.RAt w' (Lnk.send e s) v' N S ∧ Below w.heap.size w w' := by
  have hwaits := fun w1 ha => ref_waits (S := S) e v N (by omega) w1 ha
  have H := Lib.hid h
  have HSS := Lib.hid hS
  obtain ⟨pre, inn, va, vi, rfl, h⟩ := h
  have HL := Lib.hid h
  have hone := Lib.hid (Ply.rcells_one h pre.length)
  obtain ⟨A, c, eva, hc1, hc2⟩ := h.all.form
  obtain ⟨n, hn⟩ : ∃ n, pre.length + e.out.length = n := ⟨_, rfl⟩
  have hgiven := h.ok.given
  have hn5 : n < 100000 := by omega
  rw [hn] at eva hc1
  have hrow := h.all
  rw [hn] at hrow
  have HROW := Lib.hid hrow
  have HN := Lib.hid hn
  have hC12 : (Ply.rcells e pre.length va vi).size = 12 := rfl
  have hC2 : (Ply.rcells e pre.length va vi)[2]? = some va := rfl
  obtain ⟨C, hC⟩ : ∃ C, Ply.rcells e pre.length va vi = C := ⟨_, rfl⟩
  rw [hC] at hwaits H hone hC12 hC2 ⊢
  have HC := Lib.hid hC
  have HC12 := Lib.hid hC12
  have HC2 := Lib.hid hC2
  have hsz := Mem.str_size s
  have hd : decide ((1048576 : Int) < (s.length : Int)) = false := decide_eq_false (by omega)
  have hi : ¬ (1048576 : Int) < (s.length : Int) := by omega
  have hd2 : decide ((64 : Int) ≤ (e.out.length : Int)) = false := decide_eq_false (by omega)
  have hi2 : ¬ (64 : Int) ≤ (e.out.length : Int) := by omega
  obtain ⟨ib, hib, hz, hz1, hz2⟩ := info_parts Ply.info_body
  clear hS h hs hN hl hC hC12 hC2 hrow hn hgiven hc2
  subst eva
  go_enter Try.func21, Try.ntmps21
  go_wp2_with (first
    | (with_reducible refine Mem.wpList_box (o := ⟨some 2, _, _, _, _, _⟩) ?_ 52 (.tmp 0) ?_ (.agg C) ?_ ?_
       · rfl
       · rfl
       · rfl
       intro w1 hn1
       have N1 := Lib.hid hn1
       clear hn1)
    | (refine Mem.wpList_alloc (o := ⟨some 4, _, _, _, _, _⟩) rfl 52 rfl _ Ply.zero_end ?_
       intro w2 hn2
       have R2 := Lib.hid ((hn2.old (show w.heap.size < w1.heap.size by rw [N1.out.size]; omega)).trans N1.out.row)
       have Q2 := Lib.hid hn2.row
       have B2 := Lib.hid (Mem.then_ N1.out.below hn2.below)
       have S2 := Lib.hid hn2.size
       clear hn2)
    | (with_reducible refine wpList_load_row (o := ⟨some 10, _, _, _, _, _⟩) ?_ 52 (.tmp 2) ?_ w.heap.size ?_ 52 C (0, 0) _ ?_ Try.underlying52 ?_ ?_ ?_
       · rfl
       · rfl
       · rfl
       · exact R2.out
       · rfl
       · rw [HC12.out]; exact Ply.size_end)
    | (go_at_call 27
       refine (hwaits _ (H.out.below B2.out)).mono ?_
       rintro r w3 ⟨rfl, hb3⟩
       have hs2 : w.heap.size < w2.heap.size := by rw [S2.out, N1.out.size]; omega
       have R3 := Lib.hid ((hb3.block _ hs2).trans R2.out)
       have Q3 := Lib.hid ((hb3.block _ (show w1.heap.size < w2.heap.size by rw [S2.out]; omega)).trans Q2.out)
       have B3 := Lib.hid (Mem.then_ B2.out hb3)
       have Z3 := Lib.hid (Nat.lt_of_lt_of_le (show w1.heap.size < w2.heap.size by rw [S2.out]; omega) hb3.size)
       have k2 : w3.cell? ⟨w.heap.size, 2, none⟩ = some (.slice A n c) := (cell_of_row _ _ 2 _ _ _ R3.out).trans HC2.out
       have ka : ∀ o, (w3.alloc o).cell? ⟨w.heap.size, 2, none⟩ = some (.slice A n c) := fun o => Mem.keep (Ply.below_new _ _) k2
       clear hb3 hs2)
    | (refine Mem.wpList_append_rows _ rfl (.tmp 14) (.tmp 16) 46 rfl w3.heap.size 86 ib _ 3 32 Try.underlying46 hib hz hz1 hz2 rfl (.slice (some ⟨w3.heap.size, 0, none⟩) 0 0) 0 [] rfl (Ply.row_new _ _) (.slice A n c) n 0 (Ply.bflat (pre ++ e.out)) rfl ((HROW.out.below B3.out).below (Ply.below_new _ _)) (Ply.bone _) (by unfold maxLen; omega) (by omega) (by simp) ?_
       intro v1 w4 hown1 hgrow1 hat1
       rw [Nat.zero_add, List.nil_append] at hown1
       obtain ⟨A1, c1, rfl, _, _⟩ := hown1.form
       have b4 : Below w3.heap.size w3 w4 := (Ply.below_new _ _).trans (Ply.grown_below hgrow1 (fun b hb => by simp [Value.ownBlock] at hb; omega) (by simp))
       have O4 := Lib.hid hown1
       have R4 := Lib.hid ((b4.block _ (Nat.lt_trans (by rw [N1.out.size]; omega) Z3.out)).trans R3.out)
       have Q4 := Lib.hid ((b4.block _ Z3.out).trans Q3.out)
       have B4 := Lib.hid b4
       clear hown1 hgrow1 hat1 b4 k2 ka)
    | (refine Mem.wpList_append_row _ rfl (.tmp 17) (.tmp 20) 46 rfl w3.heap.size 86 ib _ 3 32 Try.underlying46 hib hz hz1 hz2 rfl (.slice A1 n c1) n (Ply.bflat (pre ++ e.out)) rfl (O4.out.alloc _)
        ⟨w4.heap.size, 0, none⟩ 1 1 [.string (Mem.str s), .int .i64 0, .int .i64 0] rfl rfl (World.news_of_block (heap_alloc_new _ _)) (by intro u hu; simp at hu; rcases hu with rfl | rfl | rfl <;> rfl) (by omega) (by unfold maxLen; omega) (by omega) (by have := B4.out.size; simp; omega) ?_
       intro v2 w5 hown2 hgrow2 hat2
       obtain ⟨A2, c2, rfl, _, _⟩ := hown2.form
       have b5 : Below w3.heap.size w4 w5 := ((Below.refl _ _).alloc B4.out.size _).trans (Ply.grown_below hgrow2 (fun b hb => (Mem.Row.block O4.out hb).1) (by have := B4.out.size; simp; omega))
       have O5 := Lib.hid hown2
       have r5 := (b5.block _ (Nat.lt_trans (by rw [N1.out.size]; omega) Z3.out)).trans R4.out
       have k5 : w5.cell? ⟨w.heap.size, 2, none⟩ = some (.slice (A) n c) := (cell_of_row _ _ 2 _ _ _ r5).trans HC2.out
       have f5 : w5.frozen? ⟨w.heap.size, 2, none⟩ = false := frozen_of_row _ _ 2 _ _ r5
       have R5 := Lib.hid r5
       have Q5 := Lib.hid ((b5.block _ Z3.out).trans Q4.out)
       have B5 := Lib.hid b5
       clear hown2 hgrow2 hat2 b5 r5)
    | (with_reducible refine wpList_load_row (o := ⟨some 23, _, _, _, _, _⟩) ?_ 52 (.tmp 2) ?_ w.heap.size ?_ 52 (C.setIfInBounds 2 (.slice A2 (n + 1) c2)) (0, 0) _ ?_ Try.underlying52 ?_ ?_ ?_
       · rfl
       · rfl
       · rfl
       · exact Mem.row_setCell _ _ _ _ _ _ _ R5.out
       · rfl
       · rw [Array.size_setIfInBounds, HC12.out]; exact Ply.size_end)
    | (refine Mem.wpList_store rfl 52 (.tmp 4) (.tmp 23) rfl w1.heap.size (C.setIfInBounds 2 (.slice A2 (n + 1) c2)) rfl rfl 52 _ ((heap_setCell_other _ _ _ _ (by show w1.heap.size ≠ w.heap.size; rw [N1.out.size]; omega)).trans Q5.out) (by rw [Array.size_setIfInBounds, HC12.out]; exact Ply.size_end) (by rw [Array.size_setIfInBounds, HC12.out]; rfl) (Ply.one_set hone.out) ?_
       intro w6 hp6
       have P6 := Lib.hid hp6
       clear hp6))
  have hb35 : Below w3.heap.size w3 w5 := B4.out.trans B5.out
  have hsz3 : w.heap.size < w3.heap.size := Nat.lt_trans (by rw [N1.out.size]; omega) Z3.out
  have hb5 : Below w.heap.size w w5 := B3.out.trans (hb35.mono (Nat.le_of_lt hsz3))
  have hbs : Below w.heap.size w (w5.setCell ⟨w.heap.size, 2, none⟩ (.slice A2 (n + 1) c2)) := hb5.setCell (Nat.le_refl _) _
  have hb6 : Below w.heap.size w w6 := hbs.trans (P6.out.below (by rw [N1.out.size]; omega))
  refine bodyPost_ret (Frm.results_row_tmp rfl _ _ w1.heap.size (.int .i64 0) _ _ _ _ rfl rfl P6.out.row Try.underlying52 rfl (by rw [Array.size_setIfInBounds, HC12.out]; exact Ply.size_end)) rfl ⟨_, rfl, ⟨pre, inn, .slice A2 (n + 1) c2, vi, by rw [← HC.out]; rfl, ?_⟩, hb6⟩
  have hall : Mem.Row w6 0 86 3 (.slice A2 (n + 1) c2) (n + 1) (Ply.bflat (pre ++ e.out) ++ [.string (Mem.str s), .int .i64 0, .int .i64 0]) :=
    (O5.out.keep fun k hk ho => by
      have hk3 := (Mem.Row.block O5.out ho).1
      rw [P6.out.other k (by have := Z3.out; omega), heap_setCell_other _ _ _ _ (show k ≠ w.heap.size by omega)]).mono (Nat.zero_le _)
  refine ⟨?_, HL.out.came.below hb6, HL.out.ok.send s, HL.out.small, fun b hb => ?_⟩
  · have e1 : pre.length + (Lnk.send e s).out.length = n + 1 := by simp only [Lnk.send, List.length_append, List.length_cons, List.length_nil]; have := HN.out; omega
    rw [e1]
    have e2 : Ply.bflat (pre ++ (Lnk.send e s).out) = Ply.bflat (pre ++ e.out) ++ [.string (Mem.str s), .int .i64 0, .int .i64 0] := by
      show Ply.bflat (pre ++ (e.out ++ [_])) = _
      rw [← List.append_assoc, Ply.bflat_append]
      rfl
    rw [e2]
    exact hall
  · rcases hb with hb | hb
    · have h1 := (Mem.Row.block O5.out hb).1
      intro h2
      have h3 := HSS.out b h2
      omega
    · exact HL.out.apart b (.inr hb)
end Go.Proofs.Ytgkadhogfejheaa
