/- The walks of the laws of the CRC chapter. -/
import Derived.Test.YtpngdjkljmefaaaCrcX
namespace Go.Proofs.Ytpngdjkljmefaaa
open Go.RowKit

theorem crc_sum_eq (s : ByteArray) (v : Nat) (w : World) (hs : s.size ≤ maxLen) (h : (Crc.sum s.data.toList).toNat = v) :
    Calls Try.prog 12 #[.string s] w fun e w' => e = .returned (.int .u32 (v : Nat)) ∧ Below w.heap.size w w' :=
  (crc_sum s w hs).mono fun e w' ⟨he, hb⟩ => ⟨by rw [he, h], hb⟩

namespace Crc
theorem sum_nine : (sum [49, 50, 51, 52, 53, 54, 55, 56, 57]).toNat = 3808858755 := by decide +kernel
theorem sum_none : (sum []).toNat = 0 := by decide +kernel
end Crc

set_option maxRecDepth 100000 in
set_option maxHeartbeats 400000 in
theorem crc_alive (w : World) : Calls Try.prog 9 #[] w fun e w' => e = .returned (.bool true) ∧ Below w.heap.size w w' := by
  go_enter Try.func9, Try.ntmps9
  go_wp2_with fail
  refine (crc_sum_eq _ 3808858755 _ (by unfold maxLen; decide) (by exact Crc.sum_nine)).mono ?_
  rintro e w1 ⟨rfl, hb1⟩
  go_wp2_with fail
  refine (crc_sum_eq _ 0 _ (by unfold maxLen; decide) (by exact Crc.sum_none)).mono ?_
  rintro e w2 ⟨rfl, hb2⟩
  go_wp2_with fail
  go_ret
  exact ⟨rfl, hb1.trans (hb2.mono hb1.size)⟩

/-! ### CrcTable -/
set_option maxRecDepth 100000 in
set_option maxHeartbeats 400000 in
theorem crcTable_walk  (w : World)  :
    Calls Try.prog 3 #[] w fun e w' => e = .returned (.bool true) ∧ Below w.heap.size w w' := by
  go_enter Try.func3, Try.ntmps3
  go_wp2_with (first
    | (go_at_call 9; refine (crc_alive _).mono ?_; rintro e w0 ⟨rfl, hb0⟩)
    | (go_at_call 10; refine (crc_table _).mono ?_; rintro e w1 ⟨rfl, hb1⟩)
    | (refine Mem.wpList_alloc rfl 24 rfl _ Crc.zero_tab ?_; intro w2 hn; have Hn := Lib.hid hn; clear hn)
    | (refine Mem.wpList_store rfl 24 (.tmp 1) (.tmp 5) rfl _ _ rfl rfl 24 _ Hn.out.row (by rw [Crc.row_size]; kernel_rfl) (by simp [Value.cells, Crc.row_size]) (Crc.row_one _ _) ?_; intro w3 hp; have Hp := Lib.hid hp; clear hp))
  have hb : Below w.heap.size w w3 := ((hb0.trans (hb1.mono hb0.size)).trans (Hn.out.belowB (Nat.le_trans hb0.size hb1.size))).trans (Hp.out.below (Nat.le_trans hb0.size hb1.size))
  go_loopw [2] (fun i wr => ∃ (k : Nat), k ≤ 256 ∧ i = .int .i64 k ∧ Mem.Drawn w3 wr) (fun i _ => 256 - (intOf i).toNat)
  case atStart => exact ⟨0, by omega, rfl, Mem.Drawn.refl _⟩
  case round =>
    obtain ⟨k, hk, rfl, hdr⟩ := hrel
    by_cases hlt : k < 256
    · have hd : decide ((k : Int) < 256) = true := by simp; omega
      have hi : (k : Int) < 256 := by omega
      have hc : wr.cell? ⟨w1.heap.size, k, none⟩ = some (Crc.word (Crc.stepN 8 (BitVec.ofNat 32 k))) := by
        rw [hdr.cell, cell_of_row w3 _ _ _ _ _ Hp.out.row, Crc.row_get _ _ _ hlt]
      unfold Crc.word at hc
      go_wp2
      go_quiet ((go_at_call 11; refine Mem.quiet (ref_word k hlt _)))
      go_wp2
      exact ⟨⟨k + 1, by omega, by go_num, hdr.drew _⟩, by simp [intOf]; omega⟩
    · have : k = 256 := by omega
      subst this
      go_wp2
      go_ret
      exact ⟨rfl, hb.trans (hdr.below _)⟩
/-! ### CrcSums -/
namespace Crc
theorem of_u32 {n : Int} (h : (Lit.int .u32 n).wf = true) : ∃ x : BitVec 32, n = x.toNat := by
  have h2 : 0 ≤ n ∧ n ≤ 4294967295 := by simpa [Lit.wf, IntKind.min, IntKind.max, IntKind.signed, IntKind.bits] using h
  exact ⟨BitVec.ofNat 32 n.toNat, by rw [BitVec.toNat_ofNat]; omega⟩
end Crc
set_option maxRecDepth 100000 in
set_option maxHeartbeats 400000 in
theorem crcSums_walk (a0 : ByteArray) (a1 : Int) (w : World) (wa0 : a0.size ≤ maxLen) (wa1 : (Lit.int .u32 a1).wf = true) :
    Calls Try.prog 6 #[.string a0, .int .u32 a1] w fun e w' => e = .returned (.bool true) ∧ Below w.heap.size w w' := by
  obtain ⟨x, rfl⟩ := Crc.of_u32 wa1
  clear wa1
  have wa := Lib.hid wa0
  clear wa0
  by_cases hl : 2000 < a0.size
  · have hl2 : (2000 : Int) < (a0.size : Int) := by omega
    clear hl
    go_enter Try.func6, Try.ntmps6
    go_wp2_with (go_at_call 9; refine (crc_alive _).mono ?_; rintro e w0 ⟨rfl, hb0⟩)
    go_ret
    exact ⟨rfl, hb0⟩
  · have hl2 : ¬ (2000 : Int) < (a0.size : Int) := by omega
    clear hl
    go_enter Try.func6, Try.ntmps6
    go_wp2_with (first
      | (go_at_call 9; refine (crc_alive _).mono ?_; rintro e w0 ⟨rfl, hb0⟩)
      | (go_at_call 12; refine (crc_sum _ _ wa.out).mono ?_; rintro e w1 ⟨rfl, hb1⟩)
      | (go_at_call 13; refine (ref_sum _ _ wa.out).mono ?_; rintro e w9 ⟨rfl, rfl⟩)
      | (go_at_call 14; refine (crc_more _ _ _ wa.out).mono ?_; rintro e w2 ⟨rfl, hb2⟩)
      | (go_at_call 15; refine (ref_more _ _ _ wa.out).mono ?_; rintro e w9 ⟨rfl, rfl⟩)
      | (go_at_call 16; refine (crc_put _ _).mono ?_; rintro e w3 ⟨rfl, hb3⟩)
      | (go_at_call 17; refine (ref_put _ _).mono ?_; rintro e w4 ⟨rfl, hb4⟩))
    go_ret
    exact ⟨rfl, Mem.then_ (Mem.then_ (Mem.then_ (Mem.then_ hb0 hb1) hb2) hb3) hb4⟩

end Go.Proofs.Ytpngdjkljmefaaa
