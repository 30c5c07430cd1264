/- The laws of chapter 05: FramePuts. -/
import Derived.Test.YtagbjibpcgipkaaFrmS
namespace Go.Proofs.Ytagbjibpcgipkaa
open Go.RowKit

namespace Frm
theorem shapes (f : F) (h : okB f = true) : (∃ s a : Nat, f = ⟨2, s, 0, a, []⟩ ∧ (1 ≤ s ∧ s ≤ 16) ∧ a ≤ 1099511627776) ∨
    (∃ (s q a : Nat) (b : List UInt8), f = ⟨1, s, q, a, b⟩ ∧ (1 ≤ s ∧ s ≤ 16) ∧ (1 ≤ q ∧ q ≤ 1099511627776) ∧ a ≤ 1099511627776 ∧ b.length ≤ 1048576) := by
  obtain ⟨k, s, q, a, b⟩ := f
  obtain ⟨h1, h2, h3⟩ := (ok_iff _).1 h
  simp only at h1 h2 h3
  rcases h3 with ⟨rfl, rfl, rfl⟩ | ⟨rfl, h4, h5⟩
  · refine .inl ⟨s.toNat, a.toNat, ?_, by omega, by omega⟩
    have e1 : ((s.toNat : Nat) : Int) = s := by omega
    have e2 : ((a.toNat : Nat) : Int) = a := by omega
    rw [e1, e2]
  · refine .inr ⟨s.toNat, q.toNat, a.toNat, b, ?_, by omega, by omega, by omega, h5⟩
    have e1 : ((s.toNat : Nat) : Int) = s := by omega
    have e2 : ((a.toNat : Nat) : Int) = a := by omega
    have e3 : ((q.toNat : Nat) : Int) = q := by omega
    rw [e1, e2, e3]
end Frm

theorem frame_put (f : Frm.F) (hok : Frm.okB f = true) (w : World) :
    Calls Try.prog 9 #[Frm.val f] w fun e w' => e = .returned (.tuple #[.string (Mem.str (Frm.put f)), .int .i64 0]) ∧ Below w.heap.size w w' := by
  rcases Frm.shapes f hok with ⟨s, a, rfl, h1, h2⟩ | ⟨s, q, a, b, rfl, h1, h2, h3, h4⟩
  · exact frame_put_two s a h1 h2 w
  · exact frame_put_one s q a b h1 h2 h3 h4 w
theorem frame_refput (f : Frm.F) (hok : Frm.okB f = true) (w : World) :
    Calls Try.prog 13 #[Frm.val f] w fun e w' => e = .returned (.string (Mem.str (Frm.put f))) ∧ Below w.heap.size w w' := by
  rcases Frm.shapes f hok with ⟨s, a, rfl, h1, h2⟩ | ⟨s, q, a, b, rfl, h1, h2, h3, h4⟩
  · exact frame_refput_two s a h1 h2 w
  · exact frame_refput_one s q a b h1 h2 h3 h4 w

set_option maxRecDepth 100000 in
set_option maxHeartbeats 1000000 in
theorem framePuts_main (k s q a : Int) (b : List UInt8) (w : World) (hb : b.length ≤ 3000) :
    Calls Try.prog 3 #[Frm.val ⟨k, s, q, a, b⟩] w fun e w' => e = .returned (.bool true) ∧ Below w.heap.size w w' := by
  have hsz := Mem.str_size b
  have hd : decide ((3000 : Int) < b.length) = false := by rw [decide_eq_false_iff_not]; omega
  have hi : ¬ (3000 : Int) < b.length := by omega
  clear hb
  by_cases hok : Frm.okB ⟨k, s, q, a, b⟩ = true
  · have Hok := Lib.hid hok
    clear hok
    unfold Frm.val Frm.cells
    go_enter Try.func3, Try.ntmps3
    go_wp2_with (first
      | (refine Mem.wpList_box (o := ⟨some 1, _, _, _, _, _⟩) rfl 23 _ rfl (.agg #[.int .i64 k, .int .i64 s, .int .i64 q, .int .i64 a, .string (Mem.str b)]) rfl ?_
         intro w1 hn1
         have e0 := hn1.cell1 0 (v := .int .i64 k) rfl
         have e1 := hn1.cell1 1 (v := .int .i64 s) rfl
         have e2 := hn1.cell1 2 (v := .int .i64 q) rfl
         have e3 := hn1.cell1 3 (v := .int .i64 a) rfl
         have e4 := hn1.cell1 4 (v := .string (Mem.str b)) rfl
         have Hn1 := Lib.hid hn1
         clear hn1)
      | (go_at_call 8
         refine (frame_alive _).mono ?_
         rintro e w2 ⟨rfl, hb2⟩
         have f0 := Mem.keep hb2 e0
         have f1 := Mem.keep hb2 e1
         have f2 := Mem.keep hb2 e2
         have f3 := Mem.keep hb2 e3
         have f4 := Mem.keep hb2 e4
         have Hb2 := Lib.hid hb2
         clear hb2 e0 e1 e2 e3 e4)
      | (go_at_call 10
         refine (frame_of ⟨k, s, q, a, b⟩ _).mono ?_
         rintro e w3 ⟨rfl, hb3⟩
         have g0 := Mem.keep hb3 f0
         have g1 := Mem.keep hb3 f1
         have g2 := Mem.keep hb3 f2
         have g3 := Mem.keep hb3 f3
         have g4 := Mem.keep hb3 f4
         have Hb3 := Lib.hid hb3
         clear hb3 f0 f1 f2 f3 f4)
      | (go_at_call 9
         refine (frame_put ⟨k, s, q, a, b⟩ Hok.out _).mono ?_
         rintro e w4 ⟨rfl, hb4⟩
         have f0 := Mem.keep hb4 g0
         have f1 := Mem.keep hb4 g1
         have f2 := Mem.keep hb4 g2
         have f3 := Mem.keep hb4 g3
         have f4 := Mem.keep hb4 g4
         have Hb4 := Lib.hid hb4
         clear hb4 g0 g1 g2 g3 g4))
    go_region_held (fun w' => w'.cell? ⟨w.heap.size, 0, none⟩ = some (.int .i64 k) ∧ w'.cell? ⟨w.heap.size, 1, none⟩ = some (.int .i64 s) ∧ w'.cell? ⟨w.heap.size, 2, none⟩ = some (.int .i64 q) ∧ w'.cell? ⟨w.heap.size, 3, none⟩ = some (.int .i64 a) ∧ w'.cell? ⟨w.heap.size, 4, none⟩ = some (.string (Mem.str b)))
      (first | go_keep | (go_split_ands; exact ⟨Mem.keep (by assumption) (by assumption), Mem.keep (by assumption) (by assumption), Mem.keep (by assumption) (by assumption), Mem.keep (by assumption) (by assumption), Mem.keep (by assumption) (by assumption)⟩))
      (first
        | (go_at_call 10; refine (frame_of ⟨k, s, q, a, b⟩ _).mono ?_; rintro e w5 ⟨rfl, hb5⟩)
        | (go_at_call 11; refine (frame_may ⟨k, s, q, a, b⟩ _).mono ?_; rw [Hok.out]; rintro e w6 ⟨rfl, hb6⟩)
        | (go_at_call 12; refine (frame_refmay ⟨k, s, q, a, b⟩ _).mono ?_; rw [Hok.out]; rintro e w7 ⟨rfl, hb7⟩))
    rename_i hheld
    obtain ⟨i0, i1, i2, i3, i4⟩ := hheld
    have Hb7 := Lib.hid (Mem.then_ (Mem.then_ ((Below.refl w4.heap.size w4).drew.trans hb5) hb6) hb7)
    clear f0 f1 f2 f3 f4 hb5 hb6 hb7
    go_wp2_with (first
      | (go_at_call 12
         refine (frame_refmay ⟨k, s, q, a, b⟩ _).mono ?_
         rw [Hok.out]
         rintro e w8 ⟨rfl, hb8⟩
         have f0 := Mem.keep hb8 i0
         have f1 := Mem.keep hb8 i1
         have f2 := Mem.keep hb8 i2
         have f3 := Mem.keep hb8 i3
         have f4 := Mem.keep hb8 i4
         have Hb8 := Lib.hid hb8
         clear hb8 i0 i1 i2 i3 i4)
      | (go_at_call 13
         refine (frame_refput ⟨k, s, q, a, b⟩ Hok.out _).mono ?_
         rintro e w9 ⟨rfl, hb9⟩
         have Hb9 := Lib.hid hb9
         clear hb9))
    go_ret
    exact ⟨rfl, Mem.then_ (Mem.then_ (Mem.then_ (Mem.then_ (Mem.then_ (Mem.then_ Hn1.out.below Hb2.out) Hb3.out) Hb4.out) Hb7.out) Hb8.out) Hb9.out⟩
  · have Hok := Lib.hid (show Frm.okB ⟨k, s, q, a, b⟩ = false by simpa using hok)
    clear hok
    unfold Frm.val Frm.cells
    go_enter Try.func3, Try.ntmps3
    go_wp2_with (first
      | (refine Mem.wpList_box (o := ⟨some 1, _, _, _, _, _⟩) rfl 23 _ rfl (.agg #[.int .i64 k, .int .i64 s, .int .i64 q, .int .i64 a, .string (Mem.str b)]) rfl ?_
         intro w1 hn1
         have e0 := hn1.cell1 0 (v := .int .i64 k) rfl
         have e1 := hn1.cell1 1 (v := .int .i64 s) rfl
         have e2 := hn1.cell1 2 (v := .int .i64 q) rfl
         have e3 := hn1.cell1 3 (v := .int .i64 a) rfl
         have e4 := hn1.cell1 4 (v := .string (Mem.str b)) rfl
         have Hn1 := Lib.hid hn1
         clear hn1)
      | (go_at_call 8
         refine (frame_alive _).mono ?_
         rintro e w2 ⟨rfl, hb2⟩
         have f0 := Mem.keep hb2 e0
         have f1 := Mem.keep hb2 e1
         have f2 := Mem.keep hb2 e2
         have f3 := Mem.keep hb2 e3
         have f4 := Mem.keep hb2 e4
         have Hb2 := Lib.hid hb2
         clear hb2 e0 e1 e2 e3 e4)
      | (go_at_call 10
         refine (frame_of ⟨k, s, q, a, b⟩ _).mono ?_
         rintro e w3 ⟨rfl, hb3⟩
         have g0 := Mem.keep hb3 f0
         have g1 := Mem.keep hb3 f1
         have g2 := Mem.keep hb3 f2
         have g3 := Mem.keep hb3 f3
         have g4 := Mem.keep hb3 f4
         have Hb3 := Lib.hid hb3
         clear hb3 f0 f1 f2 f3 f4)
      | (go_at_call 9
         refine (frame_put_bad ⟨k, s, q, a, b⟩ Hok.out _).mono ?_
         rintro e w4 ⟨rfl, hb4⟩
         have f0 := Mem.keep hb4 g0
         have f1 := Mem.keep hb4 g1
         have f2 := Mem.keep hb4 g2
         have f3 := Mem.keep hb4 g3
         have f4 := Mem.keep hb4 g4
         have Hb4 := Lib.hid hb4
         clear hb4 g0 g1 g2 g3 g4))
    go_region_held (fun w' => w'.cell? ⟨w.heap.size, 0, none⟩ = some (.int .i64 k) ∧ w'.cell? ⟨w.heap.size, 1, none⟩ = some (.int .i64 s) ∧ w'.cell? ⟨w.heap.size, 2, none⟩ = some (.int .i64 q) ∧ w'.cell? ⟨w.heap.size, 3, none⟩ = some (.int .i64 a) ∧ w'.cell? ⟨w.heap.size, 4, none⟩ = some (.string (Mem.str b)))
      (first | go_keep | (go_split_ands; exact ⟨Mem.keep (by assumption) (by assumption), Mem.keep (by assumption) (by assumption), Mem.keep (by assumption) (by assumption), Mem.keep (by assumption) (by assumption), Mem.keep (by assumption) (by assumption)⟩))
      (first
        | (go_at_call 10; refine (frame_of ⟨k, s, q, a, b⟩ _).mono ?_; rintro e w5 ⟨rfl, hb5⟩)
        | (go_at_call 11; refine (frame_may ⟨k, s, q, a, b⟩ _).mono ?_; rw [Hok.out]; rintro e w6 ⟨rfl, hb6⟩)
        | (go_at_call 12; refine (frame_refmay ⟨k, s, q, a, b⟩ _).mono ?_; rw [Hok.out]; rintro e w7 ⟨rfl, hb7⟩))
    rename_i hheld
    obtain ⟨i0, i1, i2, i3, i4⟩ := hheld
    have Hb7 := Lib.hid (Mem.then_ (Mem.then_ ((Below.refl w4.heap.size w4).drew.trans hb5) hb6) hb7)
    clear f0 f1 f2 f3 f4 hb5 hb6 hb7
    go_wp2_with (
      go_at_call 12
      refine (frame_refmay ⟨k, s, q, a, b⟩ _).mono ?_
      rw [Hok.out]
      rintro e w8 ⟨rfl, hb8⟩
      have Hb8 := Lib.hid hb8
      clear hb8 i0 i1 i2 i3 i4)
    go_ret
    exact ⟨rfl, Mem.then_ (Mem.then_ (Mem.then_ (Mem.then_ (Mem.then_ Hn1.out.below Hb2.out) Hb3.out) Hb4.out) Hb7.out) Hb8.out⟩

set_option maxRecDepth 100000 in
theorem framePuts_walk (a0_0 : Int) (a0_1 : Int) (a0_2 : Int) (a0_3 : Int) (a0_4 : ByteArray) (w : World) (_wa0_0 : (Lit.int .i64 a0_0).wf = true) (_wa0_1 : (Lit.int .i64 a0_1).wf = true) (_wa0_2 : (Lit.int .i64 a0_2).wf = true) (_wa0_3 : (Lit.int .i64 a0_3).wf = true) (_wa0_4 : a0_4.size ≤ maxLen) :
    Calls Try.prog 3 #[.agg #[.int .i64 a0_0, .int .i64 a0_1, .int .i64 a0_2, .int .i64 a0_3, .string a0_4]] w fun e w' => e = .returned (.bool true) ∧ Below w.heap.size w w' := by
  have hl : a0_4.data.toList.length = a0_4.size := by simp
  by_cases hs : a0_4.size ≤ 3000
  · have := framePuts_main a0_0 a0_1 a0_2 a0_3 a0_4.data.toList w (by omega)
    unfold Frm.val Frm.cells at this
    rw [Mem.str_of] at this
    exact this
  · have hd : decide ((3000 : Int) < a0_4.size) = true := by rw [decide_eq_true_iff]; omega
    have hi : (3000 : Int) < a0_4.size := by omega
    clear hl hs
    go_enter Try.func3, Try.ntmps3
    go_wp2_with (first
      | (refine Mem.wpList_box (o := ⟨some 1, _, _, _, _, _⟩) rfl 23 _ rfl (.agg #[.int .i64 a0_0, .int .i64 a0_1, .int .i64 a0_2, .int .i64 a0_3, .string a0_4]) rfl ?_
         intro w1 hn1
         have e4 := hn1.cell1 4 (v := .string a0_4) rfl
         have Hn1 := Lib.hid hn1
         clear hn1)
      | (go_at_call 8
         refine (frame_alive _).mono ?_
         rintro e w2 ⟨rfl, hb2⟩
         have f4 := Mem.keep hb2 e4
         have Hb2 := Lib.hid hb2
         clear hb2 e4))
    go_ret
    exact ⟨rfl, Mem.then_ Hn1.out.below Hb2.out⟩
end Go.Proofs.Ytagbjibpcgipkaa
