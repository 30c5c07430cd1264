/- The walks of package nums: small ones. -/
import Derived.Test.YtmalckdjkoegkaaNumX
namespace Go.Proofs.Ytmalckdjkoegkaa
open Go.RowKit

namespace Num
def turn (n : Int) : Nat := if n < 0 then (-2 * n - 1).toNat else (2 * n).toNat
def back (u : Nat) : Int := if u % 2 = 0 then (u / 2 : Nat) else -((u / 2 : Nat) : Int) - 1
theorem back_turn (n : Int) : back (turn n) = n := by unfold back turn; split <;> split <;> omega
theorem xor_all (a : Nat) (h : a < 18446744073709551616) : a ^^^ 18446744073709551615 = 18446744073709551615 - a := by
  have h1 : (BitVec.ofNat 64 a ^^^ BitVec.allOnes 64).toNat = (~~~(BitVec.ofNat 64 a)).toNat := by rw [BitVec.xor_allOnes]
  rw [BitVec.toNat_xor, BitVec.toNat_not, BitVec.toNat_ofNat, Nat.mod_eq_of_lt (by omega)] at h1
  exact h1
theorem turn_bits (n : Int) (h0 : -9223372036854775808 ≤ n) (h1 : n ≤ 9223372036854775807) :
    bits .xor .u64 (IntKind.u64.wrap (wrap64 (n * 2))) (IntKind.u64.wrap (n / 9223372036854775808)) = (turn n : Int) := by
  obtain ⟨a, ha⟩ : ∃ a : Nat, IntKind.u64.wrap (wrap64 (n * 2)) = (a : Int) := ⟨(IntKind.u64.wrap (wrap64 (n * 2))).toNat, by rw [IntKind.wrap_u64]; omega⟩
  have ha2 : a < 18446744073709551616 := by rw [IntKind.wrap_u64] at ha; omega
  rw [ha]
  rw [IntKind.wrap_u64] at ha ⊢
  unfold wrap64 at ha
  by_cases hn : n < 0
  · have e : n / 9223372036854775808 % 18446744073709551616 = ((18446744073709551615 : Nat) : Int) := by omega
    rw [e, bits_xor_u64_nat a _ ha2 (by omega), xor_all a ha2]
    unfold turn; rw [if_pos hn]; omega
  · have e : n / 9223372036854775808 % 18446744073709551616 = ((0 : Nat) : Int) := by omega
    rw [e, bits_xor_u64_nat a _ ha2 (by omega), Nat.xor_zero]
    unfold turn; rw [if_neg hn]; omega
theorem back_bits (u : Nat) (h1 : u < 2 ^ 64) : bits .xor .i64 (wrap64 ((u : Int) / 2)) (wrap64 (-wrap64 (bits .and .u64 (u : Int) 1))) = back u := by
  have e1 : bits .and .u64 (u : Int) 1 = ((u % 2 : Nat) : Int) := by
    have := bits_and_u64_nat u 1 (by omega) (by omega)
    rw [Nat.and_one_is_mod] at this; exact this
  have e2 : wrap64 ((u : Int) / 2) = ((u / 2 : Nat) : Int) := by unfold wrap64; omega
  rw [e1, e2]
  have hx : (BitVec.ofInt 64 ((u / 2 : Nat) : Int)).toNat = u / 2 := by
    rw [BitVec.ofInt_natCast, BitVec.toNat_ofNat]; exact Nat.mod_eq_of_lt (by omega)
  by_cases hu : u % 2 = 0
  · have e3 : wrap64 (-wrap64 ((u % 2 : Nat) : Int)) = 0 := by rw [hu]; simp [wrap64]
    rw [e3]
    show IntKind.i64.wrap ((BitVec.ofInt 64 ((u / 2 : Nat) : Int) ^^^ 0#64).toNat : Int) = _
    rw [BitVec.xor_zero, hx, IntKind.wrap_i64]
    unfold back; rw [if_pos hu]; omega
  · have hu2 : u % 2 = 1 := by omega
    have e3 : wrap64 (-wrap64 ((u % 2 : Nat) : Int)) = -1 := by rw [hu2]; simp [wrap64]
    rw [e3]
    show IntKind.i64.wrap ((BitVec.ofInt 64 ((u / 2 : Nat) : Int) ^^^ BitVec.allOnes 64).toNat : Int) = _
    rw [BitVec.xor_allOnes, BitVec.toNat_not, hx, IntKind.wrap_i64]
    unfold back; rw [if_neg hu]; omega
theorem ref_neg (n : Int) (h0 : -9223372036854775808 ≤ n) (hn : n < 0) :
    IntKind.u64.wrap (IntKind.u64.wrap (2 * IntKind.u64.wrap (wrap64 (-wrap64 (n + 1)))) + 1) = (turn n : Int) := by
  simp only [IntKind.wrap_u64, wrap64, turn, if_pos hn]; omega
theorem ref_pos (n : Int) (h1 : n ≤ 9223372036854775807) (hn : ¬ n < 0) : IntKind.u64.wrap (2 * IntKind.u64.wrap n) = (turn n : Int) := by
  simp only [IntKind.wrap_u64, turn, if_neg hn]; omega
theorem str_cat (a : List UInt8) (s : ByteArray) : Mem.str a ++ s = Mem.str (a ++ s.data.toList) := by
  apply ByteArray.ext
  simp [Mem.str]
theorem turn_lt (n : Int) (h0 : -9223372036854775808 ≤ n) (h1 : n ≤ 9223372036854775807) : turn n < 2 ^ 64 := by unfold turn; split <;> omega
end Num

theorem nums_turn (n : Int) (h0 : -9223372036854775808 ≤ n) (h1 : n ≤ 9223372036854775807) (w : World) :
    Calls Try.prog 20 #[.int .i64 n] w fun e w' => e = .returned (.int .u64 (Num.turn n)) ∧ w = w' := by
  have H0 := Lib.hid h0
  have H1 := Lib.hid h1
  clear h0 h1
  go_enter Try.func20, Try.ntmps20
  go_wp2
  go_ret
  exact ⟨congrArg (fun x => Ending.returned (.int .u64 x)) (Num.turn_bits n H0.out H1.out), rfl⟩

theorem nums_back (u : Nat) (h1 : u < 2 ^ 64) (w : World) :
    Calls Try.prog 24 #[.int .u64 u] w fun e w' => e = .returned (.int .i64 (Num.back u)) ∧ w = w' := by
  have H1 := Lib.hid h1
  clear h1
  go_enter Try.func24, Try.ntmps24
  go_wp2
  go_ret
  exact ⟨congrArg (fun x => Ending.returned (.int .i64 x)) (Num.back_bits u H1.out), rfl⟩

theorem nums_Read (s : ByteArray) (w : World) :
    Calls Try.prog 13 #[.string s] w fun e w' => e = .returned (.pointer (some ⟨w.heap.size, 0, none⟩)) ∧ Num.Rd w' w.heap.size s.data.toList 0 ∧ Below w.heap.size w w' := by
  go_enter Try.func13, Try.ntmps13
  go_wp2_with (
    refine Mem.wpList_box rfl 42 _ rfl (.agg #[.string s, .int .i64 0]) rfl ?_
    intro w1 hn1
    have Hn1 := Lib.hid hn1
    clear hn1)
  go_ret
  refine ⟨rfl, ?_, Hn1.out.below⟩
  have := Hn1.out.row
  unfold Num.Rd
  rw [Mem.str_of]; exact this

theorem nums_Left (g : Nat) (l : List UInt8) (f : Int) (w : World) (hrd : Num.Rd w g l f) :
    Calls Try.prog 18 #[.pointer (some ⟨g, 0, none⟩)] w fun e w' => e = .returned (.int .i64 l.length) ∧ w = w' := by
  have h0 := hrd.rest
  have hsz := Mem.str_size l
  clear hrd
  go_enter Try.func18, Try.ntmps18
  go_wp2
  go_ret
  exact ⟨rfl, rfl⟩

theorem nums_Fault (g : Nat) (l : List UInt8) (f : Int) (w : World) (hrd : Num.Rd w g l f) :
    Calls Try.prog 19 #[.pointer (some ⟨g, 0, none⟩)] w fun e w' => e = .returned (.int .i64 f) ∧ w = w' := by
  have h0 := hrd.fault
  clear hrd
  go_enter Try.func19, Try.ntmps19
  go_wp2
  go_ret
  exact ⟨rfl, rfl⟩

theorem nums_End (g : Nat) (l : List UInt8) (f : Int) (w : World) (_hl : l.length < 2 ^ 62) (hrd : Num.Rd w g l f) :
    Calls Try.prog 15 #[.pointer (some ⟨g, 0, none⟩)] w fun e w' => e = .returned (.int .i64 (if f ≠ 0 then f else if 0 < l.length then 11 else 0)) ∧ w = w' := by
  have h0 := hrd.rest
  have hsz := Mem.str_size l
  have Hrd := Lib.hid hrd
  clear hrd
  by_cases hf : f = 0
  · subst hf
    by_cases hp : 0 < l.length
    · go_enter Try.func15, Try.ntmps15
      have hd : decide ((0 : Int) < l.length) = true := by simp; omega
      have hi : (0 : Int) < l.length := by omega
      go_wp2_with (go_at_call 19; refine (nums_Fault g l 0 _ Hrd.out).mono ?_; rintro e w1 ⟨rfl, rfl⟩)
      go_ret
      exact ⟨by simp, rfl⟩
    · go_enter Try.func15, Try.ntmps15
      have hd : decide ((0 : Int) < l.length) = false := by rw [decide_eq_false_iff_not]; omega
      have hi : ¬ (0 : Int) < l.length := by omega
      go_wp2_with (go_at_call 19; refine (nums_Fault g l 0 _ Hrd.out).mono ?_; rintro e w1 ⟨rfl, rfl⟩)
      go_ret
      exact ⟨by simp, rfl⟩
  · go_enter Try.func15, Try.ntmps15
    have hd : decide (f = 0) = false := by simp [hf]
    go_wp2_with (go_at_call 19; refine (nums_Fault g l f _ Hrd.out).mono ?_; rintro e w1 ⟨rfl, rfl⟩)
    go_ret
    exact ⟨by simp, rfl⟩

theorem nums_Int (g : Nat) (l : List UInt8) (f : Int) (w : World) (hl : l.length < 2 ^ 62) (hrd : Num.Rd w g l f) :
    Calls Try.prog 16 #[.pointer (some ⟨g, 0, none⟩)] w fun e w' =>
      ∃ x t f', Num.step 18446744073709551615 l f = (x, t, f') ∧ e = .returned (.int .i64 (Num.back x)) ∧ Num.Rd w' g t f' ∧ Mem.But (· = g) w w' := by
  have Hrd := Lib.hid hrd
  have Hl := Lib.hid hl
  clear hrd hl
  go_enter Try.func16, Try.ntmps16
  go_wp2_with (fail)
  refine (nums_Num g 18446744073709551615 l f w (by omega) Hl.out Hrd.out).mono ?_
  rintro e w1 ⟨x, t, f', hst, rfl, hrd1, hbut⟩
  have hx : x < 2 ^ 64 := by
    unfold Num.step at hst
    split at hst
    · simp at hst; omega
    · split at hst
      · rename_i h; simp at hst; have := (Num.read_put h).2; omega
      · simp at hst; omega
  have H1 := Lib.hid hst
  have H2 := Lib.hid hrd1
  have H3 := Lib.hid hbut
  have H4 := Lib.hid hx
  clear hst hrd1 hbut hx
  go_wp2_with (go_at_call 24; refine (nums_back x H4.out _).mono ?_; rintro e w2 ⟨rfl, rfl⟩)
  go_ret
  exact ⟨x, t, f', H1.out, rfl, H2.out, H3.out⟩

theorem nums_putint (n : Int) (h0 : -9223372036854775808 ≤ n) (h1 : n ≤ 9223372036854775807) (w : World) :
    Calls Try.prog 9 #[.int .i64 n] w fun e w' => e = .returned (.string (Mem.str (Num.put (Num.turn n)))) ∧ Below w.heap.size w w' := by
  have H0 := Lib.hid h0
  have H1 := Lib.hid h1
  clear h0 h1
  go_enter Try.func9, Try.ntmps9
  go_wp2_with (first
    | (go_at_call 20; refine (nums_turn n H0.out H1.out _).mono ?_; rintro e w2 ⟨rfl, rfl⟩)
    | (go_at_call 7; refine (nums_put (Num.turn n) (Num.turn_lt n H0.out H1.out) _).mono ?_; rintro e w3 ⟨rfl, hb⟩; have Hb := Lib.hid hb; clear hb))
  go_ret
  exact ⟨rfl, Hb.out⟩

theorem nums_refputint (n : Int) (h0 : -9223372036854775808 ≤ n) (h1 : n ≤ 9223372036854775807) (w : World) :
    Calls Try.prog 10 #[.int .i64 n] w fun e w' => e = .returned (.string (Mem.str (Num.put (Num.turn n)))) ∧ Below w.heap.size w w' := by
  have H0 := Lib.hid h0
  have H1 := Lib.hid h1
  clear h0 h1
  by_cases hn : n < 0
  · have hd : decide (n < 0) = true := by simp [hn]
    go_enter Try.func10, Try.ntmps10
    go_wp2_with (go_at_call 8; rw [Num.ref_neg n H0.out hn]; refine (nums_refput (Num.turn n) (Num.turn_lt n H0.out H1.out) _).mono ?_; rintro e w3 ⟨rfl, hb⟩; have Hb := Lib.hid hb; clear hb)
    go_ret
    exact ⟨rfl, Hb.out⟩
  · have hd : decide (n < 0) = false := by simp [hn]
    go_enter Try.func10, Try.ntmps10
    go_wp2_with (go_at_call 8; rw [Num.ref_pos n H1.out hn]; refine (nums_refput (Num.turn n) (Num.turn_lt n H0.out H1.out) _).mono ?_; rintro e w3 ⟨rfl, hb⟩; have Hb := Lib.hid hb; clear hb)
    go_ret
    exact ⟨rfl, Hb.out⟩

theorem nums_puttext (s : ByteArray) (hs : s.size < 2 ^ 62) (w : World) :
    Calls Try.prog 11 #[.string s] w fun e w' => e = .returned (.string (Mem.str (Num.put s.size ++ s.data.toList))) ∧ Below w.heap.size w w' := by
  have Hs := Lib.hid hs
  have hw : IntKind.u64.wrap (s.size : Int) = (s.size : Int) := by rw [IntKind.wrap_u64]; omega
  have hcat : ¬ 9223372036854775807 < (Mem.str (Num.put s.size)).size + s.size := by
    rw [Mem.str_size]; have := Num.put_ten (n := s.size) (by omega); omega
  clear hs
  go_enter Try.func11, Try.ntmps11
  go_wp2_with (go_at_call 7; refine (nums_put s.size (by have := Hs.out; omega) _).mono ?_; rintro e w3 ⟨rfl, hb⟩; have Hb := Lib.hid hb; clear hb)
  go_ret
  exact ⟨congrArg (fun x => Ending.returned (.string x)) (Num.str_cat _ s), Hb.out⟩

theorem nums_refputtext (s : ByteArray) (hs : s.size < 2 ^ 62) (w : World) :
    Calls Try.prog 12 #[.string s] w fun e w' => e = .returned (.string (Mem.str (Num.put s.size ++ s.data.toList))) ∧ Below w.heap.size w w' := by
  have Hs := Lib.hid hs
  have hw : IntKind.u64.wrap (s.size : Int) = (s.size : Int) := by rw [IntKind.wrap_u64]; omega
  have hcat : ¬ 9223372036854775807 < (Mem.str (Num.put s.size)).size + s.size := by
    rw [Mem.str_size]; have := Num.put_ten (n := s.size) (by omega); omega
  clear hs
  go_enter Try.func12, Try.ntmps12
  go_wp2_with (go_at_call 8; refine (nums_refput s.size (by have := Hs.out; omega) _).mono ?_; rintro e w3 ⟨rfl, hb⟩; have Hb := Lib.hid hb; clear hb)
  go_ret
  exact ⟨congrArg (fun x => Ending.returned (.string x)) (Num.str_cat _ s), Hb.out⟩

end Go.Proofs.Ytmalckdjkoegkaa
