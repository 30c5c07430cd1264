/- The walks of the laws CrcAround, CrcJoins, CrcRaw. -/
import Derived.Test.YtpngdjkljmefaaaCrcL
namespace Go.Proofs.Ytpngdjkljmefaaa
open Go.RowKit
set_option linter.unusedVariables false

/-! ### CrcAround -/
namespace Crc
theorem toList_append (s t : ByteArray) : (s ++ t).data.toList = s.data.toList ++ t.data.toList := by
  rw [ByteArray.data_append, Array.toList_append]
theorem size_append (s t : ByteArray) : (s ++ t).size = s.size + t.size := ByteArray.size_append
theorem around_bool (x a b y : List UInt8) (hl : a.length = b.length) :
    ((((sum a).toNat : Int) == ((sum b).toNat : Int)) == (((sum (x ++ (a ++ y))).toNat : Int) == ((sum (x ++ (b ++ y))).toNat : Int))) = true := by
  have h := around a b x y hl
  simp only [List.append_assoc] at h
  have e : ∀ u v : BitVec 32, ((u.toNat : Int) == (v.toNat : Int)) = decide (u = v) := by
    intro u v; rw [Bool.eq_iff_iff]; simp only [beq_iff_eq, decide_eq_true_eq, ← BitVec.toNat_inj]; omega
  rw [e, e]
  by_cases hh : sum a = sum b
  · have := h.2 hh; simp [hh, this]
  · have : ¬ sum (x ++ (a ++ y)) = sum (x ++ (b ++ y)) := fun q => hh (h.1 q)
    simp [hh, this]
theorem beq_sums (x y : BitVec 32) : ((x.toNat : Int) == (y.toNat : Int)) = decide (x = y) := by
  rw [Bool.eq_iff_iff]; simp only [beq_iff_eq, decide_eq_true_eq, ← BitVec.toNat_inj]; omega
end Crc
set_option maxRecDepth 100000 in
set_option maxHeartbeats 400000 in
theorem crcAround_walk (a0 : ByteArray) (a1 : ByteArray) (a2_0 : ByteArray) (a2_1 : ByteArray) (w : World) (wa0 : a0.size ≤ maxLen) (wa1 : a1.size ≤ maxLen) (wa2_0 : a2_0.size ≤ maxLen) (wa2_1 : a2_1.size ≤ maxLen) :
    Calls Try.prog 5 #[.string a0, .string a1, .agg #[.string a2_0, .string a2_1]] w fun e w' => e = .returned (.bool true) ∧ Below w.heap.size w w' := by
  go_enter Try.func5, Try.ntmps5
  go_wp2_with (first
    | (refine Mem.wpList_box rfl 31 (.tmp 2) rfl _ rfl ?_; intro wb hn; have hb0 := hn.below; have Hn := Lib.hid hn; clear hn)
    | (go_at_call 9; refine (crc_alive _).mono ?_; rintro e w0 ⟨rfl, hb1⟩; have hc0 := Hn.out.cell hb1 0 (v := .string a2_0) rfl; have hc1 := Hn.out.cell hb1 1 (v := .string a2_1) rfl))
  all_goals first | (go_ret; exact ⟨rfl, Mem.then_ hb0 hb1⟩) | skip
  have hs0 : a0.size ≤ 2000 := by omega
  have hs1 : a1.size ≤ 2000 := by omega
  have hs2 : a2_0.size ≤ 2000 := by omega
  have hs3 : a2_1.size ≤ 2000 := by omega
  have heq : a0.size = a1.size := by omega
  have Heq := Lib.hid heq
  clear heq
  have l0 : ∀ i : Mem.Later w0, i.w.cell? ⟨w.heap.size, 0, none⟩ = some (.string a2_0) := fun i => i.cell hc0
  have l1 : ∀ i : Mem.Later w0, i.w.cell? ⟨w.heap.size, 1, none⟩ = some (.string a2_1) := fun i => i.cell hc1
  clear hc0 hc1
  refine Mem.wp_region_later (by kernel_rfl) (by kernel_rfl) ?_
  repeat (go_big_quiet_step ((go_at_call 12; refine Mem.later_call (crc_sum _ _ ?_); (try simp only [Crc.size_append]); unfold maxLen; omega)))
  refine wpQuiet_nil ?_
  rintro _ ⟨⟨wq, hq⟩, rfl⟩
  go_wp2
  go_ret
  exact ⟨congrArg (fun b => Ending.returned (.bool b)) (Crc.around_bool _ _ _ _ (by simpa using Heq.out)), Mem.then_ (Mem.then_ hb0 hb1) hq⟩

/-! ### CrcJoins -/
set_option maxRecDepth 100000 in
set_option maxHeartbeats 400000 in
theorem crcJoins_walk (a0 : ByteArray) (a1 : ByteArray) (w : World) (wa0 : a0.size ≤ maxLen) (wa1 : a1.size ≤ maxLen) :
    Calls Try.prog 7 #[.string a0, .string a1] w fun e w' => e = .returned (.bool true) ∧ Below w.heap.size w w' := by
  go_enter Try.func7, Try.ntmps7
  go_wp2_with (go_at_call 9; refine (crc_alive _).mono ?_; rintro e w0 ⟨rfl, hb0⟩)
  all_goals first | (go_ret; exact ⟨rfl, hb0⟩) | skip
  have hs0 : a0.size ≤ 2000 := by omega
  have hs1 : a1.size ≤ 2000 := by omega
  have hl1 : a1.size ≤ maxLen := by unfold maxLen; omega
  have H0 := Lib.hid wa0
  have H1 := Lib.hid hl1
  clear wa0 wa1 hl1
  obtain ⟨tot, htot⟩ : ∃ tot, tot = Crc.sum (a0.data.toList ++ a1.data.toList) := ⟨_, rfl⟩
  have hsum : Crc.sum (a0 ++ a1).data.toList = tot := by rw [Crc.toList_append, htot]
  have hjoin : Crc.stepN (8 * (a1.size : Int).toNat) (Crc.sum a0.data.toList) ^^^ Crc.sum a1.data.toList = tot := by
    rw [htot, Crc.sum_join]; simp
  have hmore : Crc.more (Crc.sum a0.data.toList) a1.data.toList = tot := by
    rw [htot]; unfold Crc.sum; rw [Crc.more_append]
  have Hsum := Lib.hid hsum
  have Hjoin := Lib.hid hjoin
  have Hmore := Lib.hid hmore
  have Hlen := Lib.hid (show (a0 ++ a1).size ≤ maxLen by rw [Crc.size_append]; unfold maxLen; omega)
  clear hsum hjoin hmore htot
  refine (ref_sum _ _ Hlen.out).mono ?_
  rintro e w9 ⟨rfl, rfl⟩
  rw [Hsum.out]
  go_wp2_with fail
  refine (crc_sum _ _ H0.out).mono ?_
  rintro e w1 ⟨rfl, hb1⟩
  go_wp2_with fail
  refine (crc_sum _ _ H1.out).mono ?_
  rintro e w2 ⟨rfl, hb2⟩
  go_wp2_with fail
  refine (crc_join _ _ _ (by omega) (by omega) _).mono ?_
  rintro e w3 ⟨rfl, hb3⟩
  rw [Hjoin.out]
  go_wp2_with fail
  refine (crc_sum _ _ H0.out).mono ?_
  rintro e w4 ⟨rfl, hb4⟩
  go_wp2_with fail
  refine (crc_more _ _ _ H1.out).mono ?_
  rintro e w5 ⟨rfl, hb5⟩
  rw [Hmore.out]
  go_wp2_with fail
  refine (crc_sum _ _ Hlen.out).mono ?_
  rintro e w6 ⟨rfl, hb6⟩
  rw [Hsum.out]
  go_wp2_with fail
  go_ret
  exact ⟨rfl, Mem.then_ (Mem.then_ (Mem.then_ (Mem.then_ (Mem.then_ (Mem.then_ hb0 hb1) hb2) hb3) hb4) hb5) hb6⟩
end Go.Proofs.Ytpngdjkljmefaaa
