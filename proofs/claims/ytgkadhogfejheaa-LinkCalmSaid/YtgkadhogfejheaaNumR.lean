/- The walks of package nums: the reader. -/
import Derived.Test.YtgkadhogfejheaaNumP
import Derived.Recover
namespace Go.Proofs.Ytgkadhogfejheaa
open Go.RowKit

namespace Num
/-- the reader at block g holds what is left, and a fault -/
def Rd (w : World) (g : Nat) (l : List UInt8) (f : Int) : Prop := w.heap[g]? = some (.cells #[.string (Mem.str l), .int .i64 f] 134 (0, 0))
theorem Rd.rest {w : World} {g : Nat} {l : List UInt8} {f : Int} (h : Rd w g l f) : w.cell? ⟨g, 0, none⟩ = some (.string (Mem.str l)) := by
  unfold Rd at h; simp [World.cell?, h]
theorem Rd.fault {w : World} {g : Nat} {l : List UInt8} {f : Int} (h : Rd w g l f) : w.cell? ⟨g, 1, none⟩ = some (.int .i64 f) := by
  unfold Rd at h; simp [World.cell?, h]
theorem Rd.free {w : World} {g : Nat} {l : List UInt8} {f : Int} (h : Rd w g l f) (i : Nat) : w.frozen? ⟨g, i, none⟩ = false := frozen_of_row _ _ _ _ _ h
/-- what is left of a call that reads a number: the number, and the rest; or the fault -/
def NumPost (w : World) (g most : Nat) (l : List UInt8) (e : Ending) (w' : World) : Prop :=
  (∃ x t, read most l = .ok (x, t) ∧ e = .returned (.int .u64 x) ∧ w.setCell ⟨g, 0, none⟩ (.string (Mem.str t)) = w') ∨
  (∃ c, read most l = .error c ∧ e = .panicked [{ v := .iface 145 (.agg #[.int .i64 c]), recovered := false }] ∧ w = w')
theorem str_extract (l : List UInt8) (a b : Nat) : (Mem.str l).extract a b = Mem.str ((l.take b).drop a) := by
  apply ByteArray.ext
  simp only [Mem.str, ByteArray.data_extract, List.extract_toArray]
  simp [List.drop_take]
theorem str_drop (l : List UInt8) (a : Nat) : (Mem.str l).extract a l.length = Mem.str (l.drop a) := by
  rw [str_extract, List.take_length]
theorem and_u8 (b : UInt8) : bits .and .u8 (b.toNat : Int) 127 = ((b.toNat % 128 : Nat) : Int) := by
  have := (bits_nat .u8 8 (by decide) (fun n h0 h1 => by rw [IntKind.wrap_u8]; omega) b.toNat 127 (by have := b.toNat_lt; omega) (by omega)).1
  rw [and_127] at this
  exact this
set_option maxRecDepth 100000 in
theorem or_u64 (b : UInt8) (n k : Nat) (hn : n < 128 ^ k) (hk : k ≤ 9) :
    bits .or .u64 (n : Int) (IntKind.u64.wrap (IntKind.u64.wrap (bits .and .u8 (b.toNat : Int) 127) * 2 ^ (7 * k))) = ((n + (b.toNat % 128 * 128 ^ k) % 2 ^ 64 : Nat) : Int) := by
  have hlt : n < 18446744073709551616 := by
    have : (128:Nat) ^ k ≤ 128 ^ 9 := Nat.pow_le_pow_right (by omega) hk
    rw [pow9] at this; omega
  have h1 : (b.toNat % 128) <<< (7 * k) % 2 ^ 64 < 18446744073709551616 := Nat.mod_lt _ (by omega)
  have := bits_or_u64_nat n ((b.toNat % 128) <<< (7 * k) % 2 ^ 64) hlt h1
  rw [or_shift hn hk] at this
  rw [← this, and_u8]
  congr 1
  obtain ⟨x, hx⟩ : ∃ x, b.toNat % 128 = x := ⟨_, rfl⟩
  have hx2 : x < 128 := by omega
  rw [hx, IntKind.wrap_u64, IntKind.wrap_u64, Nat.shiftLeft_eq, Int.natCast_emod, Int.natCast_mul, Int.natCast_pow]
  have : (x : Int) % 18446744073709551616 = x := by omega
  rw [this]; rfl
theorem or_u64_9 (b : UInt8) (n : Nat) (hn : n < 128 ^ 9) :
    bits .or .u64 (n : Int) (IntKind.u64.wrap (IntKind.u64.wrap (bits .and .u8 (b.toNat : Int) 127) * 9223372036854775808)) = ((n + (b.toNat % 128 * 128 ^ 9) % 2 ^ 64 : Nat) : Int) :=
  or_u64 b n 9 hn (by omega)
end Num

set_option maxRecDepth 100000 in
set_option maxHeartbeats 400000 in
theorem nums_num (g most : Nat) (l : List UInt8) (f : Int) (w : World) (hmost : most < 2 ^ 64) (hl : l.length < 2 ^ 62) (hrd : Num.Rd w g l f) :
    Calls Try.prog 83 #[.pointer (some ⟨g, 0, none⟩), .int .u64 most] w (Num.NumPost w g most l) := by
  have hcr := hrd.rest
  have hfr := hrd.free 0
  have hsz := Mem.str_size l
  have Hrd := Lib.hid hrd
  have Hmost := Lib.hid hmost
  have Hl := Lib.hid hl
  clear hrd hmost hl
  go_enter Try.func83, Try.ntmps83
  go_wp2
  go_loopw [5, 6] (fun q v wr => ∃ (k n : Nat), k ≤ 10 ∧ k ≤ l.length ∧ n < 128 ^ k ∧ q = .int .u64 n ∧ v = .int .i64 k ∧ Num.read most l = Num.go most (l.drop k) k n ∧ w = wr) (fun _ v _ => 10 - (intOf v).toNat)
  case atStart => exact ⟨0, 0, by omega, by omega, by simp, rfl, rfl, rfl, rfl⟩
  case round =>
    obtain ⟨k, n, hk, hkl, hn, rfl, rfl, hread, rfl⟩ := hrel
    have Hread := Lib.hid hread
    have Hn := Lib.hid hn
    clear hread hn
    by_cases h10 : k = 10
    · subst h10
      go_wp2
      exact ⟨rfl, .inr ⟨9, by rw [Hread.out, Num.go_ten], rfl, rfl⟩⟩
    · have hd10 : decide ((k : Int) = 10) = false := by simp; omega
      have hi10 : ¬ (k : Int) = 10 := by omega
      by_cases hks : k = l.length
      · subst hks
        go_wp2
        refine ⟨rfl, .inr ⟨8, ?_, rfl, rfl⟩⟩
        rw [Hread.out]; simp [Num.go, h10]
      · have hdl : decide ((k : Int) = l.length) = false := by simp; omega
        have hil : ¬ (k : Int) = l.length := by omega
        have hlt : k < l.length := by omega
        have hltI : (k : Int) < l.length := by omega
        obtain ⟨b, hb⟩ : ∃ b, l[k] = b := ⟨_, rfl⟩
        have hget : ∀ h, (Mem.str l)[k]'h = b := fun h => hb
        have hcons : l.drop k = b :: l.drop (k + 1) := by rw [List.drop_eq_getElem_cons hlt, hb]
        have hread2 := Hread.out
        rw [hcons] at hread2
        have Hread2 := Lib.hid hread2
        clear hcons hb Hread hread2
        by_cases h9 : k = 9
        · subst h9
          have hN := Num.or_u64_9 b n Hn.out
          obtain ⟨N, hNe⟩ : ∃ N, n + (b.toNat % 128 * 128 ^ 9) % 2 ^ 64 = N := ⟨_, rfl⟩
          rw [hNe] at hN
          have HNe := Lib.hid hNe
          clear hNe
          by_cases hb128 : b.toNat < 128
          · have hdb : decide ((b.toNat : Int) < 128) = true := by simp; omega
            have hib : (b.toNat : Int) < 128 := by omega
            go_wp2
            all_goals try (refine ⟨rfl, .inr ⟨9, ?_, rfl, rfl⟩⟩; rw [Hread2.out]; simp only [Num.go, HNe.out])
            all_goals try go_ret
            all_goals try (refine .inl ⟨N, l.drop 10, ?_, rfl, ?_⟩; rw [Hread2.out]; simp only [Num.go, HNe.out])
            all_goals try ((repeat' split) <;> first | rfl | (exfalso; omega) | (exfalso; simp at *; omega))
            all_goals rw [Num.str_drop]
          · have hdb : decide ((b.toNat : Int) < 128) = false := by simp; omega
            have hib : ¬ (b.toNat : Int) < 128 := by omega
            go_wp2
            refine ⟨⟨10, N, by omega, by omega, ?_, rfl, rfl, ?_, trivial⟩, by simp [intOf]⟩
            · rw [← HNe.out]; exact Num.go_lt Hn.out
            · rw [Hread2.out]; simp only [Num.go]
              rw [if_neg (by omega), if_neg (by omega), if_neg hb128, HNe.out]
        · have hk8 : k ≤ 8 := by omega
          have hi9 : ¬ (k : Int) = 9 := by omega
          have hd9 : decide ((k : Int) = 9) = false := by simp; omega
          have hN := Num.or_u64 b n k Hn.out (by omega)
          obtain ⟨N, hNe⟩ : ∃ N, n + (b.toNat % 128 * 128 ^ k) % 2 ^ 64 = N := ⟨_, rfl⟩
          rw [hNe] at hN
          have HNe := Lib.hid hNe
          clear hNe
          by_cases hb128 : b.toNat < 128
          · have hdb : decide ((b.toNat : Int) < 128) = true := by simp; omega
            have hib : (b.toNat : Int) < 128 := by omega
            go_wp2
            all_goals try (refine ⟨rfl, .inr ⟨9, ?_, rfl, rfl⟩⟩; rw [Hread2.out]; simp only [Num.go, HNe.out])
            all_goals try go_ret
            all_goals try (refine .inl ⟨N, l.drop (k + 1), ?_, rfl, ?_⟩; rw [Hread2.out]; simp only [Num.go, HNe.out])
            all_goals try ((repeat' split) <;> first | rfl | (exfalso; omega) | (exfalso; simp at *; omega))
            all_goals rw [Num.str_drop]
          · have hdb : decide ((b.toNat : Int) < 128) = false := by simp; omega
            have hib : ¬ (b.toNat : Int) < 128 := by omega
            go_wp2
            refine ⟨⟨k + 1, N, by omega, by omega, ?_, rfl, by go_num, ?_, trivial⟩, by simp [intOf]; omega⟩
            · rw [← HNe.out]; exact Num.go_lt Hn.out
            · rw [Hread2.out]; simp only [Num.go]
              rw [if_neg (by omega), if_neg (by omega), if_neg hb128, HNe.out]
end Go.Proofs.Ytgkadhogfejheaa
