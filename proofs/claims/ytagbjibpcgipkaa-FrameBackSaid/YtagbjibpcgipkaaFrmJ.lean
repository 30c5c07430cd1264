/- The laws of chapter 05: FrameOne. -/
import Derived.Test.YtagbjibpcgipkaaFrmI
namespace Go.Proofs.Ytagbjibpcgipkaa
open Go.RowKit

set_option maxRecDepth 100000 in
set_option maxHeartbeats 1000000 in
theorem frameOne_main (s : List UInt8) (w : World) (hb : s.length ≤ 3000) :
    Calls Try.prog 6 #[.string (Mem.str s)] w fun e w' => e = .returned (.bool true) ∧ Below w.heap.size w w' := by
  have hsz := Mem.str_size s
  have hd : decide ((3000 : Int) < s.length) = false := by rw [decide_eq_false_iff_not]; omega
  have hi : ¬ (3000 : Int) < s.length := by omega
  have Hl := Lib.hid (show s.length < 2 ^ 61 by omega)
  clear hb
  by_cases h0 : (Frm.get s).2 = 0
  · obtain ⟨hok, hput⟩ := Frm.get_back s h0
    obtain ⟨f, hf⟩ : ∃ f, (Frm.get s).1 = f := ⟨_, rfl⟩
    rw [hf] at hok hput
    have Hf := Lib.hid hf
    have H0 := Lib.hid h0
    have Hok := Lib.hid hok
    have Hput := Lib.hid hput
    clear hf h0 hok hput
    have hself : ((Mem.str s).toList == (Mem.str s).toList) = true := beq_self_eq_true _
    go_enter Try.func6, Try.ntmps6
    go_wp2_with (first
      | (go_at_call 8
         refine (frame_alive _).mono ?_
         rintro e w2 ⟨rfl, hb2⟩
         have Hb2 := Lib.hid hb2
         clear hb2)
      | (go_at_call 14
         refine (frame_get s Hl.out _).mono ?_
         rw [Hf.out, H0.out]
         rintro e w3 ⟨rfl, hb3⟩
         have Hb3 := Lib.hid hb3
         clear hb3)
      | (refine Mem.wpList_alloc (o := ⟨some 3, _, _, _, _, _⟩) rfl 28 rfl _ Frm.zero_frame ?_
         intro w4 hn4
         have Hn4 := Lib.hid hn4
         clear hn4)
      | (refine Mem.wpList_store rfl 28 (.tmp 3) (.tmp 15) rfl _ #[.int .i64 f.kind, .int .i64 f.site, .int .i64 f.seq, .int .i64 f.ack, .string (Mem.str f.body)] rfl rfl _ _ Hn4.out.row Frm.size_frame rfl (Frm.one_cells _ _ _ _ _) ?_
         intro w5 hp
         have e0 := Mem.put_cell1 hp 0 (v := .int .i64 f.kind) rfl
         have e1 := Mem.put_cell1 hp 1 (v := .int .i64 f.site) rfl
         have e2 := Mem.put_cell1 hp 2 (v := .int .i64 f.seq) rfl
         have e3 := Mem.put_cell1 hp 3 (v := .int .i64 f.ack) rfl
         have e4 := Mem.put_cell1 hp 4 (v := .string (Mem.str f.body)) rfl
         have Hp := Lib.hid hp
         clear hp)
      | (go_at_call 9
         refine (frame_put f Hok.out _).mono ?_
         rw [← Hput.out]
         rintro e w6 ⟨rfl, hb6⟩
         have f0 := Mem.keep hb6 e0
         have f1 := Mem.keep hb6 e1
         have f2 := Mem.keep hb6 e2
         have f3 := Mem.keep hb6 e3
         have f4 := Mem.keep hb6 e4
         have Hb6 := Lib.hid hb6
         clear hb6 e0 e1 e2 e3 e4)
      | (go_at_call 11
         refine (frame_may f _).mono ?_
         rw [Hok.out]
         rintro e w7 ⟨rfl, hb7⟩
         have Hb7 := Lib.hid hb7
         clear hb7))
    go_ret
    exact ⟨rfl, Mem.then_ (Mem.then_ ((Mem.then_ (Mem.then_ Hb2.out Hb3.out) Hn4.out.below).trans (Hp.out.below (Nat.le_trans Hb2.out.size Hb3.out.size))) Hb6.out) Hb7.out⟩
  · have hz := Frm.get_zero s h0
    obtain ⟨c, hc⟩ : ∃ c, (Frm.get s).2 = c := ⟨_, rfl⟩
    rw [hc] at h0
    have hcb : (c == 0) = false := beq_eq_false_iff_ne.2 h0
    have hcd : decide (c = 0) = false := decide_eq_false h0
    have Hz := Lib.hid hz
    have Hc := Lib.hid hc
    clear hz hc h0
    go_enter Try.func6, Try.ntmps6
    go_wp2_with (first
      | (go_at_call 8
         refine (frame_alive _).mono ?_
         rintro e w2 ⟨rfl, hb2⟩
         have Hb2 := Lib.hid hb2
         clear hb2)
      | (go_at_call 14
         refine (frame_get s Hl.out _).mono ?_
         rw [Hz.out, Hc.out]
         rintro e w3 ⟨rfl, hb3⟩
         have Hb3 := Lib.hid hb3
         clear hb3)
      | (refine Mem.wpList_alloc (o := ⟨some 3, _, _, _, _, _⟩) rfl 28 rfl _ Frm.zero_frame ?_
         intro w4 hn4
         have Hn4 := Lib.hid hn4
         clear hn4)
      | (refine Mem.wpList_store rfl 28 (.tmp 3) (.tmp 15) rfl _ #[.int .i64 0, .int .i64 0, .int .i64 0, .int .i64 0, .string ⟨#[]⟩] rfl rfl _ _ Hn4.out.row Frm.size_frame rfl (Frm.one_cells _ _ _ _ _) ?_
         intro w5 hp
         have e0 := Mem.put_cell1 hp 0 (v := .int .i64 0) rfl
         have e1 := Mem.put_cell1 hp 1 (v := .int .i64 0) rfl
         have e2 := Mem.put_cell1 hp 2 (v := .int .i64 0) rfl
         have e3 := Mem.put_cell1 hp 3 (v := .int .i64 0) rfl
         have e4 := Mem.put_cell1 hp 4 (v := .string ⟨#[]⟩) rfl
         have Hp := Lib.hid hp
         clear hp))
    go_ret
    exact ⟨rfl, ((Mem.then_ (Mem.then_ Hb2.out Hb3.out) Hn4.out.below).trans (Hp.out.below (Nat.le_trans Hb2.out.size Hb3.out.size)))⟩

set_option maxRecDepth 100000 in
theorem frameOne_walk (a0 : ByteArray) (w : World) (_wa0 : a0.size ≤ maxLen) :
    Calls Try.prog 6 #[.string a0] w fun e w' => e = .returned (.bool true) ∧ Below w.heap.size w w' := by
  have hl : a0.data.toList.length = a0.size := by simp
  by_cases hs : a0.size ≤ 3000
  · have := frameOne_main a0.data.toList w (by omega)
    rw [Mem.str_of] at this
    exact this
  · have hd : decide ((3000 : Int) < a0.size) = true := by rw [decide_eq_true_iff]; omega
    have hi : (3000 : Int) < a0.size := by omega
    clear hl hs
    go_enter Try.func6, Try.ntmps6
    go_wp2_with (
      go_at_call 8
      refine (frame_alive _).mono ?_
      rintro e w2 ⟨rfl, hb2⟩
      have Hb2 := Lib.hid hb2
      clear hb2)
    go_ret
    exact ⟨rfl, Hb2.out⟩
end Go.Proofs.Ytagbjibpcgipkaa
