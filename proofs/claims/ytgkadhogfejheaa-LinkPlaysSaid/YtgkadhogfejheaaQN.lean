/- Numbers by seven bits: the plain law; no program in sight. -/
import Derived.Test.YtgkadhogfejheaaQM
import Derived.Recover
import Derived.Tactics
import Derived.Tactics2
import Derived.Defers
set_option linter.unusedVariables false
set_option linter.unusedSimpArgs false
section
namespace Go.Proofs.Ytgkadhogfejheaa.Num

def put (n : Nat) : List UInt8 := if h : n < 128 then [UInt8.ofNat n] else UInt8.ofNat (n % 128 + 128) :: put (n / 128)
termination_by n
decreasing_by omega

/-- what is read at most, of a list, k bytes having been read whose number is n -/
def go (most : Nat) : List UInt8 → Nat → Nat → Except Nat (Nat × List UInt8)
  | [], k, _ => if k = 10 then .error 9 else .error 8
  | b :: t, k, n =>
    if k = 10 then .error 9 else
    if k = 9 ∧ 1 < b.toNat ∧ b.toNat < 128 then .error 9 else
    if b.toNat < 128 then
      if (0 < k ∧ b.toNat = 0) ∨ most < n + (b.toNat % 128 * 128 ^ k) % 2 ^ 64 then .error 9 else .ok (n + (b.toNat % 128 * 128 ^ k) % 2 ^ 64, t)
    else go most t (k + 1) (n + (b.toNat % 128 * 128 ^ k) % 2 ^ 64)
def read (most : Nat) (l : List UInt8) : Except Nat (Nat × List UInt8) := go most l 0 0

theorem put_lt {n : Nat} (h : n < 128) : put n = [UInt8.ofNat n] := by rw [put, dif_pos h]
theorem put_ge {n : Nat} (h : ¬ n < 128) : put n = UInt8.ofNat (n % 128 + 128) :: put (n / 128) := by rw [put, dif_neg h]

theorem put_length : ∀ (k n : Nat), n < 128 ^ (k + 1) → (put n).length ≤ k + 1 := by
  intro k
  induction k with
  | zero => intro n h; rw [put_lt (by simpa using h)]; simp
  | succ k ih =>
    intro n h
    by_cases h1 : n < 128
    · rw [put_lt h1]; simp
    · rw [put_ge h1]
      have := ih (n / 128) (by rw [Nat.div_lt_iff_lt_mul (by omega)]; rw [Nat.pow_succ] at h; exact h)
      simp; omega
theorem put_ten {n : Nat} (h : n < 2 ^ 64) : (put n).length ≤ 10 := by
  have : (2:Nat) ^ 64 < 128 ^ (9 + 1) := by decide
  exact put_length 9 n (by omega)
theorem put_pos (n : Nat) : 0 < (put n).length := by rw [put]; split <;> simp

theorem pow9 : (128 : Nat) ^ 9 = 9223372036854775808 := by decide

theorem pow_le {k : Nat} (h : k ≤ 8) : (128 : Nat) ^ k ≤ 72057594037927936 := by
  have : (128 : Nat) ^ k ≤ 128 ^ 8 := Nat.pow_le_pow_right (by omega) h
  simpa using this

theorem mod_small {b k : Nat} (hb : b < 128) (hk : k ≤ 9) (h9 : k = 9 → b ≤ 1) : (b * 128 ^ k) % 2 ^ 64 = b * 128 ^ k := by
  apply Nat.mod_eq_of_lt
  by_cases e : k = 9
  · subst e; have := h9 rfl; rw [pow9]; omega
  · have := pow_le (show k ≤ 8 by omega)
    have : b * 128 ^ k ≤ 127 * 72057594037927936 := Nat.mul_le_mul (by omega) this
    omega

theorem go_ten (most : Nat) (l : List UInt8) (n : Nat) : go most l 10 n = .error 9 := by
  cases l <;> simp [go]

/-- what was read was put so -/
theorem go_put (most : Nat) : ∀ (l : List UInt8) (k n x : Nat) (t : List UInt8), k ≤ 9 → go most l k n = .ok (x, t) →
    ∃ m, l = put m ++ t ∧ x = n + m * 128 ^ k ∧ (0 < k → 0 < m) ∧ x ≤ most := by
  intro l
  induction l with
  | nil => intro k n x t hk h; simp only [go] at h; split at h <;> simp at h
  | cons b l ih =>
    intro k n x t hk h
    simp only [go] at h
    rw [if_neg (by omega)] at h
    split at h
    · simp at h
    rename_i hA
    split at h
    · rename_i hb
      split at h
      · simp at h
      rename_i hB
      have hbm : b.toNat % 128 = b.toNat := Nat.mod_eq_of_lt hb
      rw [hbm] at h hB
      rw [mod_small hb hk (by intro e; omega)] at h hB
      simp only [Except.ok.injEq, Prod.mk.injEq] at h
      refine ⟨b.toNat, ?_, h.1.symm, by omega, by omega⟩
      rw [put_lt hb]; simp [h.2]
    · rename_i hb
      by_cases e : k = 9
      · subst e; rw [go_ten] at h; simp at h
      obtain ⟨m, h1, h2, h3, h4⟩ := ih (k + 1) _ x t (by omega) h
      rw [mod_small (by omega) hk (by omega)] at h2
      have hm := h3 (by omega)
      have hb2 := b.toNat_lt
      refine ⟨b.toNat % 128 + 128 * m, ?_, ?_, by omega, h4⟩
      · rw [put_ge (by omega), h1]
        have e1 : (b.toNat % 128 + 128 * m) % 128 + 128 = b.toNat := by omega
        have e2 : (b.toNat % 128 + 128 * m) / 128 = m := by omega
        rw [e1, e2]; simp
      · rw [h2, Nat.pow_succ, Nat.add_mul]
        have : m * (128 ^ k * 128) = 128 * m * 128 ^ k := by rw [Nat.mul_comm (128 ^ k), ← Nat.mul_assoc, Nat.mul_comm m]
        omega
theorem read_put {most : Nat} {l t : List UInt8} {x : Nat} (h : read most l = .ok (x, t)) : l = put x ++ t ∧ x ≤ most := by
  obtain ⟨m, h1, h2, _, h4⟩ := go_put most l 0 0 x t (by omega) h
  simp at h2; subst h2; exact ⟨h1, h4⟩

/-- an error is no zero -/
theorem go_err (most : Nat) : ∀ (l : List UInt8) (k n c : Nat), go most l k n = .error c → c ≠ 0 := by
  intro l
  induction l with
  | nil => intro k n c h; simp only [go] at h; split at h <;> simp at h <;> omega
  | cons b l ih =>
    intro k n c h
    simp only [go] at h
    split at h
    · simp at h; omega
    split at h
    · simp at h; omega
    split at h
    · split at h
      · simp at h; omega
      · simp at h
    · exact ih _ _ _ h
theorem read_err {most : Nat} {l : List UInt8} {c : Nat} (h : read most l = .error c) : c ≠ 0 := go_err most l 0 0 c h
/-- what was put is read so -/
theorem put_go (most : Nat) (hmost : most < 2 ^ 64) (t : List UInt8) : ∀ (m k n : Nat), k ≤ 9 → n + m * 128 ^ k ≤ most → (0 < k → 0 < m) → go most (put m ++ t) k n = .ok (n + m * 128 ^ k, t) := by
  intro m
  induction m using Nat.strongRecOn with
  | ind m ih =>
    intro k n hk hle hpos
    have h9 : k = 9 → m ≤ 1 := by intro e; subst e; rw [pow9] at hle; omega
    by_cases h1 : m < 128
    · rw [put_lt h1]
      have e1 : (UInt8.ofNat m).toNat = m := by simp [UInt8.toNat_ofNat']; omega
      simp only [List.cons_append, List.nil_append, go, e1]
      rw [if_neg (by omega), if_neg (by omega), if_pos h1, Nat.mod_eq_of_lt h1, mod_small h1 hk h9, if_neg (by omega)]
    · rw [put_ge h1]
      have e1 : (UInt8.ofNat (m % 128 + 128)).toNat = m % 128 + 128 := by simp [UInt8.toNat_ofNat']; omega
      simp only [List.cons_append, go, e1]
      have e2 : (m % 128 + 128) % 128 = m % 128 := by omega
      rw [if_neg (by omega), if_neg (by omega), if_neg (by omega), e2, mod_small (by omega) hk (by omega)]
      have e3 : n + m % 128 * 128 ^ k + m / 128 * 128 ^ (k + 1) = n + m * 128 ^ k := by
        rw [Nat.pow_succ]
        have : m / 128 * (128 ^ k * 128) = 128 * (m / 128) * 128 ^ k := by rw [Nat.mul_comm (128 ^ k), ← Nat.mul_assoc, Nat.mul_comm (m / 128)]
        rw [this, Nat.add_assoc, ← Nat.add_mul]
        congr 2; omega
      rw [ih (m / 128) (by omega) (k + 1) _ (by omega) (by rw [e3]; exact hle) (by omega), e3]
theorem put_read (most : Nat) (hmost : most < 2 ^ 64) (t : List UInt8) (m : Nat) (h : m ≤ most) : read most (put m ++ t) = .ok (m, t) := by
  have := put_go most hmost t m 0 0 (by omega) (by simpa using h) (by omega)
  simpa [read] using this

/-! ### The bits -/
theorem or_128 (n : Nat) : (n % 256) ||| 128 = n % 128 + 128 := by
  have h : ∀ b : Nat, b < 256 → b ||| 128 = b % 128 + 128 := by decide +kernel
  rw [h _ (Nat.mod_lt _ (by omega))]; omega
theorem and_127 (b : Nat) : b &&& 127 = b % 128 := by
  rw [show (127:Nat) = 2 ^ 7 - 1 by rfl, Nat.and_two_pow_sub_one_eq_mod]
theorem or_shift {n k b : Nat} (hn : n < 128 ^ k) (hk : k ≤ 9) : n ||| ((b % 128) <<< (7 * k) % 2 ^ 64) = n + (b % 128 * 128 ^ k) % 2 ^ 64 := by
  have e : (128 : Nat) ^ k = 2 ^ (7 * k) := by rw [Nat.pow_mul]
  rw [Nat.shiftLeft_eq, ← e]
  have h64 : (2:Nat) ^ 64 = 128 ^ k * 2 ^ (64 - 7 * k) := by rw [e, ← Nat.pow_add]; congr 1; omega
  rw [Nat.mul_comm (b % 128), h64, Nat.mul_mod_mul_left, e]
  rw [e] at hn
  rw [Nat.or_comm, ← Nat.two_pow_add_eq_or_of_lt hn, Nat.add_comm]
theorem go_lt {n k b : Nat} (hn : n < 128 ^ k) : n + (b % 128 * 128 ^ k) % 2 ^ 64 < 128 ^ (k + 1) := by
  have : (b % 128 * 128 ^ k) % 2 ^ 64 ≤ b % 128 * 128 ^ k := Nat.mod_le _ _
  have : b % 128 * 128 ^ k ≤ 127 * 128 ^ k := Nat.mul_le_mul_right _ (by omega)
  rw [Nat.pow_succ]; omega
end Go.Proofs.Ytgkadhogfejheaa.Num
end
/-! The walks of package nums: how numbers are put. -/
section
namespace Go.Proofs.Ytgkadhogfejheaa
open Go.RowKit

namespace Num
theorem zero_ten : (Try.prog.info? 131).bind (·.zero) = some (.agg (Array.replicate 10 (.int .u8 0))) := by kernel_rfl
theorem size_byte : (Try.prog.info? 5).map (·.size) = some 1 := by kernel_rfl
theorem info_byte : (Try.prog.info? 5).map (fun i => (i.zero, i.size, i.bytes)) = some (some (.int .u8 0), 1, 1) := by kernel_rfl
theorem or_u8 (n : Nat) : bits .or .u8 ((n : Int) % 256) 128 = ((UInt8.ofNat (n % 128 + 128)).toNat : Int) := by
  have := (bits_nat .u8 8 (by decide) (fun n h0 h1 => by rw [IntKind.wrap_u8]; omega) (n % 256) 128 (by omega) (by omega)).2
  have e : ((n % 256 : Nat) : Int) = (n : Int) % 256 := by omega
  rw [e] at this
  refine this.trans ?_
  rw [or_128]
  simp [UInt8.toNat_ofNat']; omega
theorem low_u8 (n : Nat) (h : n < 128) : (n : Int) = ((UInt8.ofNat n).toNat : Int) := by
  simp [UInt8.toNat_ofNat']; omega
theorem room_alloc {w : World} {g : Nat} {T : TypeId} {l : List UInt8} {c : Nat} (h : Mem.Room w g T l c) (o : Obj) : Mem.Room (w.alloc o) g T l c :=
  h.same (heap_alloc_old w o h.lt)
theorem cell_alloc (w : World) (v : Value) (e : TypeId) : (w.alloc (.cells #[v] e)).cell? ⟨w.heap.size, 0, none⟩ = some v := by simp
end Num

set_option maxRecDepth 100000 in
set_option maxHeartbeats 400000 in
theorem nums_put (n : Nat) (hn : n < 2 ^ 64) (w : World) :
    Calls Try.prog 46 #[.int .u64 n] w fun e w' => e = .returned (.string (Mem.str (Num.put n))) ∧ Below w.heap.size w w' := by
  go_enter Try.func46, Try.ntmps46
  go_wp2_with (refine Mem.wpList_alloc rfl 131 rfl _ Num.zero_ten ?_; intro w1 hn1; have Hn1 := Lib.hid hn1; clear hn1)
  have Hr1 := Lib.hid (Mem.Room.of_new Hn1.out)
  have Hln := Lib.hid hn
  clear hn
  go_loopw [0, 4] (fun q v wr => ∃ (m : Nat) (l : List UInt8), Num.put n = l ++ Num.put m ∧ m < 2 ^ 64 ∧ q = .int .u64 m ∧ v = .slice (some ⟨w.heap.size, 0, none⟩) l.length 10 ∧
    Mem.Room wr w.heap.size 131 l 10 ∧ Below w.heap.size w wr) (fun q _ _ => (intOf q).toNat)
  case atStart => exact ⟨n, [], rfl, Hln.out, rfl, rfl, Hr1.out, Hn1.out.below⟩
  case round =>
    obtain ⟨m, l, hput, hm, rfl, rfl, hroom, hbel⟩ := hrel
    have hten := Num.put_ten Hln.out
    rw [hput] at hten
    have hpos := Num.put_pos m
    simp only [List.length_append] at hten
    have hlen : l.length < 10 := by omega
    have Hlen := Lib.hid hlen
    clear hten hpos hlen
    by_cases hlt : m < 128
    · have hd : decide ((m : Int) < 128) = true := by simp; omega
      have hd2 : decide ((128 : Int) ≤ m) = false := by simp; omega
      have Hroom := Lib.hid hroom
      have Hbel := Lib.hid hbel
      have Hput := Lib.hid hput
      have Hm := Lib.hid hm
      clear hroom hbel hput hm
      have Hz := Lib.hid (Num.low_u8 m hlt)
      go_wp2_with (first
        | (at_builtin; refine Mem.wpList_append_room rfl _ _ 97 rfl 5 Try.underlying97 Num.size_byte w.heap.size 131 l 10 rfl (Num.room_alloc Hroom.out _) Hlen.out ⟨wr.heap.size, 0, none⟩ 1 m _ Hz.out rfl (Num.cell_alloc _ _ _) ?_
           intro w2 hr2 hb2 hs2; have Hr2 := Lib.hid hr2; have Hb2 := Lib.hid hb2; clear hr2 hb2 hs2)
        | (refine Mem.wpList_bytes_string (o := ⟨some 21, _, _, _, _, _⟩) rfl 97 9 5 _ rfl Try.underlying97 Try.underlying5 Try.underlying9 w.heap.size 0 _ 10 rfl (l ++ [UInt8.ofNat m]) rfl (fun i hi => by rw [Nat.zero_add]; exact Hr2.out.cell i hi) ?_))
      go_ret
      refine ⟨?_, ?_⟩
      · show Ending.returned (Value.string (Mem.str (l ++ [UInt8.ofNat m]))) = _
        rw [Hput.out, Num.put_lt hlt]
      · exact (Hbel.out.alloc Hbel.out.size _).trans Hb2.out
    · have hd : decide ((m : Int) < 128) = false := by simp; omega
      have hd2 : decide ((128 : Int) ≤ m) = true := by simp; omega
      have Hroom := Lib.hid hroom
      have Hbel := Lib.hid hbel
      have Hput := Lib.hid hput
      have Hm := Lib.hid hm
      clear hroom hbel hput hm
      have Hz := Lib.hid (Num.or_u8 m)
      go_wp2_with (first
        | (at_builtin; refine Mem.wpList_append_room rfl _ _ 97 rfl 5 Try.underlying97 Num.size_byte w.heap.size 131 l 10 rfl (Num.room_alloc Hroom.out _) Hlen.out ⟨wr.heap.size, 0, none⟩ 1 _ _ Hz.out rfl (Num.cell_alloc _ _ _) ?_
           intro w2 hr2 hb2 hs2; have Hr2 := Lib.hid hr2; have Hb2 := Lib.hid hb2; clear hr2 hb2 hs2))
      refine ⟨⟨m / 128, l ++ [UInt8.ofNat (m % 128 + 128)], ?_, by have := Hm.out; omega, by simp, by simp, Hr2.out, (Hbel.out.alloc Hbel.out.size _).trans Hb2.out⟩, by simp [intOf]; omega⟩
      rw [Hput.out, Num.put_ge hlt]; simp

set_option maxRecDepth 100000 in
set_option maxHeartbeats 400000 in
theorem nums_refput (n : Nat) (hn : n < 2 ^ 64) (w : World) :
    Calls Try.prog 40 #[.int .u64 n] w fun e w' => e = .returned (.string (Mem.str (Num.put n))) ∧ Below w.heap.size w w' := by
  go_enter Try.func40, Try.ntmps40
  have Hln := Lib.hid hn
  clear hn
  go_wp2
  go_loopw [0, 3] (fun q v wr => ∃ (m : Nat) (l : List UInt8), Num.put n = l ++ Num.put m ∧ m < 2 ^ 64 ∧ q = .int .u64 m ∧
    wr.ownsRow w.heap.size 5 1 v l.length (Mem.cellsOf l) ∧ Below w.heap.size w wr) (fun q _ _ => (intOf q).toNat)
  case atStart => exact ⟨n, [], rfl, Hln.out, rfl, World.ownsRow_nil _ _ _ _, Below.refl _ _⟩
  case round =>
    obtain ⟨m, l, hput, hm, rfl, hown, hbel⟩ := hrel
    have hten := Num.put_ten Hln.out
    rw [hput] at hten
    simp only [List.length_append] at hten
    have hlen : l.length < 140737488355328 := by omega
    have Hlen := Lib.hid hlen
    clear hten hlen
    have Hown := Lib.hid hown
    have Hbel := Lib.hid hbel
    have Hput := Lib.hid hput
    have Hm := Lib.hid hm
    clear hown hbel hput hm
    by_cases hlt : m < 128
    · have hd : decide ((m : Int) / 128 = 0) = true := by simp; omega
      have hd2 : (m : Int) / 128 = 0 := by omega
      go_wp2_with (first
        | (at_builtin; refine Mem.wpList_append_byte rfl _ _ 97 rfl 5 Try.underlying97 Num.info_byte w.heap.size _ l rfl (Hown.out.alloc _) (Nat.le_trans Hbel.out.size (by simp)) Hlen.out ⟨wr.heap.size, 0, none⟩ 1 _ (UInt8.ofNat (m)) (by simp [UInt8.toNat_ofNat']; omega) rfl (Num.cell_alloc _ _ _) ?_
           intro v2 w2 hr2 hb2; have Hr2 := Lib.hid hr2; have Hb2 := Lib.hid hb2; clear hr2 hb2)
        | (refine Mem.wpList_own_string (o := ⟨some 16, _, _, _, _, _⟩) rfl 97 9 5 _ rfl Try.underlying97 Try.underlying5 Try.underlying9 w.heap.size _ _ rfl Hr2.out (by simp) ?_))
      go_ret
      refine ⟨?_, ?_⟩
      · show Ending.returned (Value.string (Mem.str (l ++ [UInt8.ofNat m]))) = _
        rw [Hput.out, Num.put_lt hlt]
      · exact (Hbel.out.alloc Hbel.out.size _).trans Hb2.out
    · have hd : decide ((m : Int) / 128 = 0) = false := by simp; omega
      have hd2 : ¬ (m : Int) / 128 = 0 := by omega
      have hw : IntKind.u64.wrap ((m : Int) / 128) = ((m / 128 : Nat) : Int) := by rw [IntKind.wrap_u64]; have := Hm.out; omega
      have hd3 : decide (((m / 128 : Nat) : Int) = 0) = false := by simp; omega
      have hd4 : ¬ ((m / 128 : Nat) : Int) = 0 := by omega
      go_wp2_with (first
        | (at_builtin; refine Mem.wpList_append_byte rfl _ _ 97 rfl 5 Try.underlying97 Num.info_byte w.heap.size _ l rfl (Hown.out.alloc _) (Nat.le_trans Hbel.out.size (by simp)) Hlen.out ⟨wr.heap.size, 0, none⟩ 1 _ (UInt8.ofNat (m % 128 + 128)) (by simp [UInt8.toNat_ofNat']; omega) rfl (Num.cell_alloc _ _ _) ?_
           intro v2 w2 hr2 hb2; have Hr2 := Lib.hid hr2; have Hb2 := Lib.hid hb2; clear hr2 hb2))
      refine ⟨⟨m / 128, l ++ [UInt8.ofNat (m % 128 + 128)], ?_, by have := Hm.out; omega, by simp, Hr2.out, (Hbel.out.alloc Hbel.out.size _).trans Hb2.out⟩, by simp [intOf]; omega⟩
      rw [Hput.out, Num.put_ge hlt]; simp
end Go.Proofs.Ytgkadhogfejheaa
end
/-! The walks of package nums: the reader. -/
section
namespace Go.Proofs.Ytgkadhogfejheaa
open Go.RowKit

namespace Num
/-- the reader at block g holds what is left, and a fault -/
def Rd (w : World) (g : Nat) (l : List UInt8) (f : Int) : Prop := w.heap[g]? = some (.cells #[.string (Mem.str l), .int .i64 f] 134 (0, 0))
theorem Rd.rest {w : World} {g : Nat} {l : List UInt8} {f : Int} (h : Rd w g l f) : w.cell? ⟨g, 0, none⟩ = some (.string (Mem.str l)) := by
  unfold Rd at h; simp [World.cell?, h]
theorem Rd.fault {w : World} {g : Nat} {l : List UInt8} {f : Int} (h : Rd w g l f) : w.cell? ⟨g, 1, none⟩ = some (.int .i64 f) := by
  unfold Rd at h; simp [World.cell?, h]
theorem Rd.free {w : World} {g : Nat} {l : List UInt8} {f : Int} (h : Rd w g l f) (i : Nat) : w.frozen? ⟨g, i, none⟩ = false := frozen_of_row _ _ _ _ _ h
/-- what is left of a call that reads a number: the number, and the rest; or the fault -/
def NumPost (w : World) (g most : Nat) (l : List UInt8) (e : Ending) (w' : World) : Prop :=
  (∃ x t, read most l = .ok (x, t) ∧ e = .returned (.int .u64 x) ∧ w.setCell ⟨g, 0, none⟩ (.string (Mem.str t)) = w') ∨
  (∃ c, read most l = .error c ∧ e = .panicked [{ v := .iface 145 (.agg #[.int .i64 c]), recovered := false }] ∧ w = w')
theorem str_extract (l : List UInt8) (a b : Nat) : (Mem.str l).extract a b = Mem.str ((l.take b).drop a) := by
  apply ByteArray.ext
  simp only [Mem.str, ByteArray.data_extract, List.extract_toArray]
  simp [List.drop_take]
theorem str_drop (l : List UInt8) (a : Nat) : (Mem.str l).extract a l.length = Mem.str (l.drop a) := by
  rw [str_extract, List.take_length]
theorem and_u8 (b : UInt8) : bits .and .u8 (b.toNat : Int) 127 = ((b.toNat % 128 : Nat) : Int) := by
  have := (bits_nat .u8 8 (by decide) (fun n h0 h1 => by rw [IntKind.wrap_u8]; omega) b.toNat 127 (by have := b.toNat_lt; omega) (by omega)).1
  rw [and_127] at this
  exact this
set_option maxRecDepth 100000 in
theorem or_u64 (b : UInt8) (n k : Nat) (hn : n < 128 ^ k) (hk : k ≤ 9) :
    bits .or .u64 (n : Int) (IntKind.u64.wrap (IntKind.u64.wrap (bits .and .u8 (b.toNat : Int) 127) * 2 ^ (7 * k))) = ((n + (b.toNat % 128 * 128 ^ k) % 2 ^ 64 : Nat) : Int) := by
  have hlt : n < 18446744073709551616 := by
    have : (128:Nat) ^ k ≤ 128 ^ 9 := Nat.pow_le_pow_right (by omega) hk
    rw [pow9] at this; omega
  have h1 : (b.toNat % 128) <<< (7 * k) % 2 ^ 64 < 18446744073709551616 := Nat.mod_lt _ (by omega)
  have := bits_or_u64_nat n ((b.toNat % 128) <<< (7 * k) % 2 ^ 64) hlt h1
  rw [or_shift hn hk] at this
  rw [← this, and_u8]
  congr 1
  obtain ⟨x, hx⟩ : ∃ x, b.toNat % 128 = x := ⟨_, rfl⟩
  have hx2 : x < 128 := by omega
  rw [hx, IntKind.wrap_u64, IntKind.wrap_u64, Nat.shiftLeft_eq, Int.natCast_emod, Int.natCast_mul, Int.natCast_pow]
  have : (x : Int) % 18446744073709551616 = x := by omega
  rw [this]; rfl
theorem or_u64_9 (b : UInt8) (n : Nat) (hn : n < 128 ^ 9) :
    bits .or .u64 (n : Int) (IntKind.u64.wrap (IntKind.u64.wrap (bits .and .u8 (b.toNat : Int) 127) * 9223372036854775808)) = ((n + (b.toNat % 128 * 128 ^ 9) % 2 ^ 64 : Nat) : Int) :=
  or_u64 b n 9 hn (by omega)
end Num

set_option maxRecDepth 100000 in
set_option maxHeartbeats 400000 in
theorem nums_num (g most : Nat) (l : List UInt8) (f : Int) (w : World) (hmost : most < 2 ^ 64) (hl : l.length < 2 ^ 62) (hrd : Num.Rd w g l f) :
    Calls Try.prog 83 #[.pointer (some ⟨g, 0, none⟩), .int .u64 most] w (Num.NumPost w g most l) := by
  have hcr := hrd.rest
  have hfr := hrd.free 0
  have hsz := Mem.str_size l
  have Hrd := Lib.hid hrd
  have Hmost := Lib.hid hmost
  have Hl := Lib.hid hl
  clear hrd hmost hl
  go_enter Try.func83, Try.ntmps83
  go_wp2
  go_loopw [5, 6] (fun q v wr => ∃ (k n : Nat), k ≤ 10 ∧ k ≤ l.length ∧ n < 128 ^ k ∧ q = .int .u64 n ∧ v = .int .i64 k ∧ Num.read most l = Num.go most (l.drop k) k n ∧ w = wr) (fun _ v _ => 10 - (intOf v).toNat)
  case atStart => exact ⟨0, 0, by omega, by omega, by simp, rfl, rfl, rfl, rfl⟩
  case round =>
    obtain ⟨k, n, hk, hkl, hn, rfl, rfl, hread, rfl⟩ := hrel
    have Hread := Lib.hid hread
    have Hn := Lib.hid hn
    clear hread hn
    by_cases h10 : k = 10
    · subst h10
      go_wp2
      exact ⟨rfl, .inr ⟨9, by rw [Hread.out, Num.go_ten], rfl, rfl⟩⟩
    · have hd10 : decide ((k : Int) = 10) = false := by simp; omega
      have hi10 : ¬ (k : Int) = 10 := by omega
      by_cases hks : k = l.length
      · subst hks
        go_wp2
        refine ⟨rfl, .inr ⟨8, ?_, rfl, rfl⟩⟩
        rw [Hread.out]; simp [Num.go, h10]
      · have hdl : decide ((k : Int) = l.length) = false := by simp; omega
        have hil : ¬ (k : Int) = l.length := by omega
        have hlt : k < l.length := by omega
        have hltI : (k : Int) < l.length := by omega
        obtain ⟨b, hb⟩ : ∃ b, l[k] = b := ⟨_, rfl⟩
        have hget : ∀ h, (Mem.str l)[k]'h = b := fun h => hb
        have hcons : l.drop k = b :: l.drop (k + 1) := by rw [List.drop_eq_getElem_cons hlt, hb]
        have hread2 := Hread.out
        rw [hcons] at hread2
        have Hread2 := Lib.hid hread2
        clear hcons hb Hread hread2
        by_cases h9 : k = 9
        · subst h9
          have hN := Num.or_u64_9 b n Hn.out
          obtain ⟨N, hNe⟩ : ∃ N, n + (b.toNat % 128 * 128 ^ 9) % 2 ^ 64 = N := ⟨_, rfl⟩
          rw [hNe] at hN
          have HNe := Lib.hid hNe
          clear hNe
          by_cases hb128 : b.toNat < 128
          · have hdb : decide ((b.toNat : Int) < 128) = true := by simp; omega
            have hib : (b.toNat : Int) < 128 := by omega
            go_wp2
            all_goals try (refine ⟨rfl, .inr ⟨9, ?_, rfl, rfl⟩⟩; rw [Hread2.out]; simp only [Num.go, HNe.out])
            all_goals try go_ret
            all_goals try (refine .inl ⟨N, l.drop 10, ?_, rfl, ?_⟩; rw [Hread2.out]; simp only [Num.go, HNe.out])
            all_goals try ((repeat' split) <;> first | rfl | (exfalso; omega) | (exfalso; simp at *; omega))
            all_goals rw [Num.str_drop]
          · have hdb : decide ((b.toNat : Int) < 128) = false := by simp; omega
            have hib : ¬ (b.toNat : Int) < 128 := by omega
            go_wp2
            refine ⟨⟨10, N, by omega, by omega, ?_, rfl, rfl, ?_, trivial⟩, by simp [intOf]⟩
            · rw [← HNe.out]; exact Num.go_lt Hn.out
            · rw [Hread2.out]; simp only [Num.go]
              rw [if_neg (by omega), if_neg (by omega), if_neg hb128, HNe.out]
        · have hk8 : k ≤ 8 := by omega
          have hi9 : ¬ (k : Int) = 9 := by omega
          have hd9 : decide ((k : Int) = 9) = false := by simp; omega
          have hN := Num.or_u64 b n k Hn.out (by omega)
          obtain ⟨N, hNe⟩ : ∃ N, n + (b.toNat % 128 * 128 ^ k) % 2 ^ 64 = N := ⟨_, rfl⟩
          rw [hNe] at hN
          have HNe := Lib.hid hNe
          clear hNe
          by_cases hb128 : b.toNat < 128
          · have hdb : decide ((b.toNat : Int) < 128) = true := by simp; omega
            have hib : (b.toNat : Int) < 128 := by omega
            go_wp2
            all_goals try (refine ⟨rfl, .inr ⟨9, ?_, rfl, rfl⟩⟩; rw [Hread2.out]; simp only [Num.go, HNe.out])
            all_goals try go_ret
            all_goals try (refine .inl ⟨N, l.drop (k + 1), ?_, rfl, ?_⟩; rw [Hread2.out]; simp only [Num.go, HNe.out])
            all_goals try ((repeat' split) <;> first | rfl | (exfalso; omega) | (exfalso; simp at *; omega))
            all_goals rw [Num.str_drop]
          · have hdb : decide ((b.toNat : Int) < 128) = false := by simp; omega
            have hib : ¬ (b.toNat : Int) < 128 := by omega
            go_wp2
            refine ⟨⟨k + 1, N, by omega, by omega, ?_, rfl, by go_num, ?_, trivial⟩, by simp [intOf]; omega⟩
            · rw [← HNe.out]; exact Num.go_lt Hn.out
            · rw [Hread2.out]; simp only [Num.go]
              rw [if_neg (by omega), if_neg (by omega), if_neg hb128, HNe.out]
end Go.Proofs.Ytgkadhogfejheaa
end
/-! The walks of package nums: trying, and what is read by trying. -/
section
namespace Go.Proofs.Ytgkadhogfejheaa
open Go.RowKit

theorem Num.is_fault (v : Value) (xT : TypeId) (w : World) : (Instr.typeAssert (.iface 145 v) xT 145 true).run Try.prog w = .ok (.tuple #[v, .bool true]) w := by
  simp [Instr.typeAssert, run_underlying Try.underlying145]
theorem Num.zero_fault : (Try.prog.info? 145).bind (·.zero) = some (.agg #[.int .i64 0]) := by kernel_rfl

set_option maxRecDepth 100000 in
theorem nums_catch (b g : Nat) (l : List UInt8) (f c : Int) (older : List PanicEntry) (w : World) (hc : w.cell? ⟨b, 0, none⟩ = some (.pointer (some ⟨g, 0, none⟩))) (hrd : Num.Rd w g l f) :
    CallsD Try.prog 89 #[.pointer (some ⟨b, 0, none⟩)] (.panicking ({ v := .iface 145 (.agg #[.int .i64 c]), recovered := false } :: older)) w fun e u' w' =>
      e = .returned (.tuple #[]) ∧ u' = .panicking ({ v := .iface 145 (.agg #[.int .i64 c]), recovered := true } :: older) ∧ Num.Rd w' g l c ∧ Mem.But (· = g) w w' := by
  have h0 := hrd.rest
  have hf := hrd.fault
  have hz := hrd.free
  refine callsD_of_wpS Try.func89 rfl fun c₀ cs hu => ?_
  apply wpS_seq
  apply wpS_region
  simp [wpOpsS, go_sem, recoverD, hu, Try.ntmps89, Exit.thenS]
  simp only [Array.replicate, List.replicate, List.setIfInBounds_toArray, List.set, List.append_toArray, List.cons_append, List.nil_append]
  refine wpS_of_wp ?_
  have hta := Num.is_fault
  have Hrd := Lib.hid hrd
  have Hc := Lib.hid hc
  clear hrd h0 hf hz hc
  have hg := block_lt_of_cell Hrd.out.rest
  have hbb := block_lt_of_cell Hc.out
  simp only at hg hbb
  have Hg := Lib.hid hg
  have hne : ¬ g = w.heap.size := by omega
  have hne2 : ¬ b = w.heap.size := by omega
  have hne3 : ¬ w.heap.size = g := by omega
  have hne4 : ¬ w.heap.size = b := by omega
  have hbel : ∀ w1 cs t, Mem.New w w1 cs t → w1.cell? ⟨b, 0, none⟩ = some (.pointer (some ⟨g, 0, none⟩)) ∧ w1.cell? ⟨g, 0, none⟩ = some (.string (Mem.str l)) ∧ w1.cell? ⟨g, 1, none⟩ = some (.int .i64 f) ∧ w1.frozen? ⟨g, 1, none⟩ = false :=
    fun w1 cs t h => ⟨(h.below.cell hbb).trans Hc.out, (h.below.cell hg).trans Hrd.out.rest, (h.below.cell hg).trans Hrd.out.fault, (h.below.frozen (p := ⟨g, 1, none⟩) hg).trans (Hrd.out.free 1)⟩
  have Hbel := Lib.hid hbel
  clear hg hbb hbel
  go_wp2_with (
    refine Mem.wpList_alloc rfl 145 rfl _ Num.zero_fault ?_
    intro w1 hn1
    have Hn1 := Lib.hid hn1
    have e0 := hn1.cell1 0 (v := .int .i64 0) rfl
    have e1 := hn1.free1 0
    obtain ⟨e2, e3, e4, e5⟩ := Hbel.out w1 _ _ hn1
    clear hn1)
  refine ⟨rfl, _, rfl, .tuple #[], by simp [results, Try.results89], rfl, rfl, ?_, ?_⟩
  · have h1 : (w1.setCell ⟨w.heap.size, 0, none⟩ (.int .i64 c)).heap[g]? = w.heap[g]? := (heap_setCell_other w1 _ g _ hne).trans (Hn1.out.old Hg.out)
    exact Mem.row_setCell _ g 1 _ _ _ _ (h1.trans Hrd.out)
  · exact ((Mem.But.of_new Hn1.out).later (Mem.But.of_setCell (S := (· = w.heap.size)) _ _ rfl) (by intro i hi (h : i = w.heap.size); omega)).later (Mem.But.of_setCell (S := (· = g)) _ _ rfl) (fun i _ h => h)

theorem nums_catch_idle (b : Nat) (w : World) :
    CallsD Try.prog 89 #[.pointer (some ⟨b, 0, none⟩)] .returning w fun e u' w' => e = .returned (.tuple #[]) ∧ u' = .returning ∧ w' = w := by
  refine callsD_of_wpS Try.func89 rfl fun c₀ cs hu => ?_
  obtain ⟨fn, tmps, todo, defers, mode, kind, roundOf⟩ := c₀
  obtain rfl : mode = .returning := hu
  apply wpS_seq
  apply wpS_region
  simp [wpOpsS, go_sem, recoverD, Try.ntmps89, Exit.thenS]
  simp only [Array.replicate, List.replicate, List.setIfInBounds_toArray, List.set, List.append_toArray, List.cons_append, List.nil_append]
  refine wpS_of_wp ?_
  go_wp2
  exact ⟨rfl, _, rfl, .tuple #[], by simp [results, Try.results89], rfl, rfl, rfl⟩
end Go.Proofs.Ytgkadhogfejheaa
end
/-! The walks of package nums: try. -/
section
namespace Go.Proofs.Ytgkadhogfejheaa
open Go.RowKit

namespace Num
def thrown (c : Int) : Ending := .panicked [{ v := .iface 145 (.agg #[.int .i64 c]), recovered := false }]
def TryPost (w : World) (g : Nat) (l : List UInt8) (f : Int) (S : Nat → Prop) (Good : List UInt8 → World → Prop) (Bad : Int → World → Prop) (e : Ending) (w' : World) : Prop :=
  (f ≠ 0 ∧ e = .returned (.bool false) ∧ Rd w' g l f ∧ Mem.But (fun _ => False) w w') ∨
  (f = 0 ∧ ∃ t w3, Good t w3 ∧ e = .returned (.bool true) ∧ Rd w' g t 0 ∧ Mem.But (fun k => k = g ∨ S k) w w' ∧ ∀ k, k < w.heap.size → k ≠ g → w'.heap[k]? = w3.heap[k]?) ∨
  (f = 0 ∧ ∃ c w3, Bad c w3 ∧ e = .returned (.bool false) ∧ Rd w' g l c ∧ Mem.But (fun k => k = g ∨ S k) w w' ∧ ∀ k, k < w.heap.size → k ≠ g → w'.heap[k]? = w3.heap[k]?)
def Reads (F : FuncId) (caps : Array Value) (w : World) (l : List UInt8) (S : Nat → Prop) (Good : List UInt8 → World → Prop) (Bad : Int → World → Prop) : Prop :=
  ∀ (w2 : World) (p : Nat), w.heap.size ≤ p → Mem.But (fun _ => False) w w2 → Rd w2 p l 0 → Calls Try.prog F (#[.pointer (some ⟨p, 0, none⟩)] ++ caps) w2 fun e w3 =>
    (∃ t, e = .returned (.tuple #[]) ∧ Rd w3 p t 0 ∧ Good t w3 ∧ Mem.But (fun k => k = p ∨ S k) w2 w3) ∨
    (∃ c, Bad c w3 ∧ e = thrown c ∧ Mem.But (fun k => k = p ∨ S k) w2 w3)
end Num

set_option maxRecDepth 100000 in
theorem nums_try_num (g : Nat) (l : List UInt8) (f : Int) (w : World) (hrd : Num.Rd w g l f) (x y : Addr) (S : Nat → Prop) (hS : ∀ k, S k → k < w.heap.size ∧ k ≠ g) (Good : List UInt8 → World → Prop) (Bad : Int → World → Prop)
    (hF : Num.Reads 82 #[.pointer (some x), .pointer (some y)] w l S Good Bad) :
    Calls Try.prog 81 #[.pointer (some ⟨g, 0, none⟩), .func (.func 82) #[] #[.pointer (some x), .pointer (some y)]] w (Num.TryPost w g l f S Good Bad) := by
  have hmf : ∀ (fn : Fn) (first cap : Array Value) (w : World), (Instr.makeFunc fn first cap).run Try.prog w = .ok (.func fn first cap) w := fun _ _ _ _ => rfl
  have Hrd := Lib.hid hrd
  have HF := Lib.hid hF
  have HS := Lib.hid hS
  have hgl := block_lt_of_cell hrd.rest
  simp only at hgl
  have Hg := Lib.hid hgl
  clear hrd hF hS hgl
  by_cases h0 : f = 0
  · subst h0
    go_enter_defers Try.func81, Try.ntmps81
    go_wp2_with (first
      | (refine Mem.wpList_box (o := ⟨some 2, _, _, _, _, _⟩) rfl 109 _ rfl (.pointer (some ⟨g, 0, none⟩)) rfl ?_
         intro w1 hn1
         have Hn1 := Lib.hid hn1
         have e0 := hn1.cell1 0 (v := .pointer (some ⟨g, 0, none⟩)) rfl
         have e1 : w1.cell? ⟨g, 0, none⟩ = some (.string (Mem.str l)) := (hn1.below.cell Hg.out).trans Hrd.out.rest
         have e2 : w1.cell? ⟨g, 1, none⟩ = some (.int .i64 0) := (hn1.below.cell Hg.out).trans Hrd.out.fault
         clear hn1)
      | (refine Mem.wpList_box (o := ⟨some 21, _, _, _, _, _⟩) rfl 134 _ rfl (.agg #[.string (Mem.str l), .int .i64 0]) rfl ?_
         intro w2 hn2
         have Hn2 := Lib.hid hn2
         have hs1 := Hn1.out.size
         have e3 : w2.cell? ⟨w.heap.size, 0, none⟩ = some (.pointer (some ⟨g, 0, none⟩)) := (hn2.below.cell (p := ⟨w.heap.size, 0, none⟩) (show w.heap.size < w1.heap.size by omega)).trans e0
         clear hn2 hs1))
    have hs1 := Hn1.out.size
    have hs2 := Hn2.out.size
    have hbut2 : Mem.But (fun _ => False) w w2 := (Mem.But.of_new Hn1.out).trans (Mem.But.of_new Hn2.out)
    have hrg2 : w2.heap[g]? = some (.cells #[.string (Mem.str l), .int .i64 0] 134 (0, 0)) := (hbut2.block g Hg.out (fun h => h)).trans Hrd.out
    have hg1 : g < w1.heap.size := by have := Hg.out; omega
    refine (HF.out w2 w1.heap.size (by omega) hbut2 Hn2.out.row).mono ?_
    rintro e w3 (⟨t, rfl, hrt, hgood, hbut3⟩ | ⟨c, hbad, rfl, hbut3⟩)
    · have hne1 : ¬ (w.heap.size = w1.heap.size ∨ S w.heap.size) := by rintro (h | h); omega; have := (HS.out _ h).1; omega
      have hne2 : ¬ (g = w1.heap.size ∨ S g) := by rintro (h | h); omega; exact (HS.out _ h).2 rfl
      have hgr3 : Num.Rd w3 g l 0 := (hbut3.block g (by have := Hg.out; omega) hne2).trans hrg2
      have e4 : w3.cell? ⟨w.heap.size, 0, none⟩ = some (.pointer (some ⟨g, 0, none⟩)) := by
        have : w3.heap[w.heap.size]? = w2.heap[w.heap.size]? := hbut3.block _ (by omega) hne1
        exact (World.cell?_of_block this).trans e3
      have e5 := hrt.rest
      have e6 := hgr3.rest
      have e7 := hgr3.free 0
      have Hrt := Lib.hid hrt
      have Hgr3 := Lib.hid hgr3
      have Hgood := Lib.hid hgood
      have Hbut3 := Lib.hid hbut3
      have Hbut2 := Lib.hid hbut2
      have Hs := Lib.hid (And.intro hs1 hs2)
      clear hrt hgr3 hgood hbut3 hbut2 hs1 hs2 hne1 hne2 hrg2 hg1
      go_wp2
      go_region
      have hp := Mem.put_setCell w3 g 0 (.string (Mem.str t)) _ _ Hgr3.out
      have Hp := Lib.hid hp
      clear hp
      go_wp2
      refine leaves_cons (f := 89) (args := #[.pointer (some ⟨w.heap.size, 0, none⟩)]) (by simp) (by simp [go_sem]) ?_
      refine (nums_catch_idle w.heap.size _).mono ?_
      rintro e u' w'' ⟨rfl, rfl, rfl⟩
      refine ⟨.bool true, by simp [results, Try.results81], .inr (.inl ⟨rfl, t, w3, Hgood.out, rfl, Hp.out.row, ?_, fun k _ hk => Hp.out.other k hk⟩)⟩
      have hA : Mem.But (fun k => k = g ∨ S k) w w3 := (Hbut2.out.mono fun _ _ h => h.elim).later Hbut3.out (by
        intro i hi h
        rcases h with h | h
        · have := Hs.out.1; omega
        · exact .inr h)
      exact hA.trans ((Mem.But.of_put Hp.out (S := fun k => k = g ∨ S k) (.inl rfl)).trans (Mem.But.of_drewN 1))
    · have hne1 : ¬ (w.heap.size = w1.heap.size ∨ S w.heap.size) := by rintro (h | h); omega; have := (HS.out _ h).1; omega
      have hne2 : ¬ (g = w1.heap.size ∨ S g) := by rintro (h | h); omega; exact (HS.out _ h).2 rfl
      have hgr3 : Num.Rd w3 g l 0 := (hbut3.block g (by have := Hg.out; omega) hne2).trans hrg2
      have e4 : w3.cell? ⟨w.heap.size, 0, none⟩ = some (.pointer (some ⟨g, 0, none⟩)) := by
        have : w3.heap[w.heap.size]? = w2.heap[w.heap.size]? := hbut3.block _ (by omega) hne1
        exact (World.cell?_of_block this).trans e3
      refine leaves_cons (f := 89) (args := #[.pointer (some ⟨w.heap.size, 0, none⟩)]) (by simp) (by simp [go_sem]) ?_
      refine (nums_catch w.heap.size g l 0 c [] w3 e4 hgr3).mono ?_
      rintro e u' w'' ⟨rfl, rfl, hrd', hbut'⟩
      refine ⟨.bool false, by simp [results, Try.results81], .inr (.inr ⟨rfl, c, w3, hbad, rfl, hrd', ?_, fun k hk hne => hbut'.block k (Nat.lt_of_lt_of_le hk (Nat.le_trans hbut2.size hbut3.size)) hne⟩)⟩
      have hA : Mem.But (fun k => k = g ∨ S k) w w3 := (hbut2.mono fun _ _ h => h.elim).later hbut3 (by
        intro i hi h
        rcases h with h | h
        · omega
        · exact .inr h)
      exact hA.trans (hbut'.mono fun _ _ h => .inl h)
  · go_enter_defers Try.func81, Try.ntmps81
    have hd0 : decide (f = 0) = false := by simp [h0]
    go_wp2_with (
      refine Mem.wpList_box rfl 109 _ rfl _ rfl ?_
      intro w1 hn1
      have Hn1 := Lib.hid hn1
      have e0 := hn1.cell1 0 (v := .pointer (some ⟨g, 0, none⟩)) rfl
      have e1 : w1.cell? ⟨g, 0, none⟩ = some (.string (Mem.str l)) := (hn1.below.cell Hg.out).trans Hrd.out.rest
      have e2 : w1.cell? ⟨g, 1, none⟩ = some (.int .i64 f) := (hn1.below.cell Hg.out).trans Hrd.out.fault
      clear hn1)
    refine ⟨.bool false, by simp [results, Try.results81], .inl ⟨h0, rfl, ?_, Mem.But.of_new Hn1.out⟩⟩
    exact (Hn1.out.old Hg.out).trans Hrd.out
set_option maxRecDepth 100000 in
theorem nums_try_text (g : Nat) (l : List UInt8) (f : Int) (w : World) (hrd : Num.Rd w g l f) (x y : Addr) (S : Nat → Prop) (hS : ∀ k, S k → k < w.heap.size ∧ k ≠ g) (Good : List UInt8 → World → Prop) (Bad : Int → World → Prop)
    (hF : Num.Reads 84 #[.pointer (some x), .pointer (some y)] w l S Good Bad) :
    Calls Try.prog 81 #[.pointer (some ⟨g, 0, none⟩), .func (.func 84) #[] #[.pointer (some x), .pointer (some y)]] w (Num.TryPost w g l f S Good Bad) := by
  have hmf : ∀ (fn : Fn) (first cap : Array Value) (w : World), (Instr.makeFunc fn first cap).run Try.prog w = .ok (.func fn first cap) w := fun _ _ _ _ => rfl
  have Hrd := Lib.hid hrd
  have HF := Lib.hid hF
  have HS := Lib.hid hS
  have hgl := block_lt_of_cell hrd.rest
  simp only at hgl
  have Hg := Lib.hid hgl
  clear hrd hF hS hgl
  by_cases h0 : f = 0
  · subst h0
    go_enter_defers Try.func81, Try.ntmps81
    go_wp2_with (first
      | (refine Mem.wpList_box (o := ⟨some 2, _, _, _, _, _⟩) rfl 109 _ rfl (.pointer (some ⟨g, 0, none⟩)) rfl ?_
         intro w1 hn1
         have Hn1 := Lib.hid hn1
         have e0 := hn1.cell1 0 (v := .pointer (some ⟨g, 0, none⟩)) rfl
         have e1 : w1.cell? ⟨g, 0, none⟩ = some (.string (Mem.str l)) := (hn1.below.cell Hg.out).trans Hrd.out.rest
         have e2 : w1.cell? ⟨g, 1, none⟩ = some (.int .i64 0) := (hn1.below.cell Hg.out).trans Hrd.out.fault
         clear hn1)
      | (refine Mem.wpList_box (o := ⟨some 21, _, _, _, _, _⟩) rfl 134 _ rfl (.agg #[.string (Mem.str l), .int .i64 0]) rfl ?_
         intro w2 hn2
         have Hn2 := Lib.hid hn2
         have hs1 := Hn1.out.size
         have e3 : w2.cell? ⟨w.heap.size, 0, none⟩ = some (.pointer (some ⟨g, 0, none⟩)) := (hn2.below.cell (p := ⟨w.heap.size, 0, none⟩) (show w.heap.size < w1.heap.size by omega)).trans e0
         clear hn2 hs1))
    have hs1 := Hn1.out.size
    have hs2 := Hn2.out.size
    have hbut2 : Mem.But (fun _ => False) w w2 := (Mem.But.of_new Hn1.out).trans (Mem.But.of_new Hn2.out)
    have hrg2 : w2.heap[g]? = some (.cells #[.string (Mem.str l), .int .i64 0] 134 (0, 0)) := (hbut2.block g Hg.out (fun h => h)).trans Hrd.out
    have hg1 : g < w1.heap.size := by have := Hg.out; omega
    refine (HF.out w2 w1.heap.size (by omega) hbut2 Hn2.out.row).mono ?_
    rintro e w3 (⟨t, rfl, hrt, hgood, hbut3⟩ | ⟨c, hbad, rfl, hbut3⟩)
    · have hne1 : ¬ (w.heap.size = w1.heap.size ∨ S w.heap.size) := by rintro (h | h); omega; have := (HS.out _ h).1; omega
      have hne2 : ¬ (g = w1.heap.size ∨ S g) := by rintro (h | h); omega; exact (HS.out _ h).2 rfl
      have hgr3 : Num.Rd w3 g l 0 := (hbut3.block g (by have := Hg.out; omega) hne2).trans hrg2
      have e4 : w3.cell? ⟨w.heap.size, 0, none⟩ = some (.pointer (some ⟨g, 0, none⟩)) := by
        have : w3.heap[w.heap.size]? = w2.heap[w.heap.size]? := hbut3.block _ (by omega) hne1
        exact (World.cell?_of_block this).trans e3
      have e5 := hrt.rest
      have e6 := hgr3.rest
      have e7 := hgr3.free 0
      have Hrt := Lib.hid hrt
      have Hgr3 := Lib.hid hgr3
      have Hgood := Lib.hid hgood
      have Hbut3 := Lib.hid hbut3
      have Hbut2 := Lib.hid hbut2
      have Hs := Lib.hid (And.intro hs1 hs2)
      clear hrt hgr3 hgood hbut3 hbut2 hs1 hs2 hne1 hne2 hrg2 hg1
      go_wp2
      go_region
      have hp := Mem.put_setCell w3 g 0 (.string (Mem.str t)) _ _ Hgr3.out
      have Hp := Lib.hid hp
      clear hp
      go_wp2
      refine leaves_cons (f := 89) (args := #[.pointer (some ⟨w.heap.size, 0, none⟩)]) (by simp) (by simp [go_sem]) ?_
      refine (nums_catch_idle w.heap.size _).mono ?_
      rintro e u' w'' ⟨rfl, rfl, rfl⟩
      refine ⟨.bool true, by simp [results, Try.results81], .inr (.inl ⟨rfl, t, w3, Hgood.out, rfl, Hp.out.row, ?_, fun k _ hk => Hp.out.other k hk⟩)⟩
      have hA : Mem.But (fun k => k = g ∨ S k) w w3 := (Hbut2.out.mono fun _ _ h => h.elim).later Hbut3.out (by
        intro i hi h
        rcases h with h | h
        · have := Hs.out.1; omega
        · exact .inr h)
      exact hA.trans ((Mem.But.of_put Hp.out (S := fun k => k = g ∨ S k) (.inl rfl)).trans (Mem.But.of_drewN 1))
    · have hne1 : ¬ (w.heap.size = w1.heap.size ∨ S w.heap.size) := by rintro (h | h); omega; have := (HS.out _ h).1; omega
      have hne2 : ¬ (g = w1.heap.size ∨ S g) := by rintro (h | h); omega; exact (HS.out _ h).2 rfl
      have hgr3 : Num.Rd w3 g l 0 := (hbut3.block g (by have := Hg.out; omega) hne2).trans hrg2
      have e4 : w3.cell? ⟨w.heap.size, 0, none⟩ = some (.pointer (some ⟨g, 0, none⟩)) := by
        have : w3.heap[w.heap.size]? = w2.heap[w.heap.size]? := hbut3.block _ (by omega) hne1
        exact (World.cell?_of_block this).trans e3
      refine leaves_cons (f := 89) (args := #[.pointer (some ⟨w.heap.size, 0, none⟩)]) (by simp) (by simp [go_sem]) ?_
      refine (nums_catch w.heap.size g l 0 c [] w3 e4 hgr3).mono ?_
      rintro e u' w'' ⟨rfl, rfl, hrd', hbut'⟩
      refine ⟨.bool false, by simp [results, Try.results81], .inr (.inr ⟨rfl, c, w3, hbad, rfl, hrd', ?_, fun k hk hne => hbut'.block k (Nat.lt_of_lt_of_le hk (Nat.le_trans hbut2.size hbut3.size)) hne⟩)⟩
      have hA : Mem.But (fun k => k = g ∨ S k) w w3 := (hbut2.mono fun _ _ h => h.elim).later hbut3 (by
        intro i hi h
        rcases h with h | h
        · omega
        · exact .inr h)
      exact hA.trans (hbut'.mono fun _ _ h => .inl h)
  · go_enter_defers Try.func81, Try.ntmps81
    have hd0 : decide (f = 0) = false := by simp [h0]
    go_wp2_with (
      refine Mem.wpList_box rfl 109 _ rfl _ rfl ?_
      intro w1 hn1
      have Hn1 := Lib.hid hn1
      have e0 := hn1.cell1 0 (v := .pointer (some ⟨g, 0, none⟩)) rfl
      have e1 : w1.cell? ⟨g, 0, none⟩ = some (.string (Mem.str l)) := (hn1.below.cell Hg.out).trans Hrd.out.rest
      have e2 : w1.cell? ⟨g, 1, none⟩ = some (.int .i64 f) := (hn1.below.cell Hg.out).trans Hrd.out.fault
      clear hn1)
    refine ⟨.bool false, by simp [results, Try.results81], .inl ⟨h0, rfl, ?_, Mem.But.of_new Hn1.out⟩⟩
    exact (Hn1.out.old Hg.out).trans Hrd.out

end Go.Proofs.Ytgkadhogfejheaa
end
/-! The walks of package nums: Num, Text. -/
section
namespace Go.Proofs.Ytgkadhogfejheaa
open Go.RowKit

set_option maxRecDepth 100000 in
theorem nums_num_reads (w : World) (l : List UInt8) (hl : l.length < 2 ^ 62) (most : Nat) (hmost : most < 2 ^ 64) (bx y : Nat) (v0 : Int)
    (hx : w.cell? ⟨bx, 0, none⟩ = some (.int .u64 most)) (hy : w.heap[y]? = some (.cells #[.int .u64 v0] 99 (0, 0))) :
    Num.Reads 82 #[.pointer (some ⟨bx, 0, none⟩), .pointer (some ⟨y, 0, none⟩)] w l (· = y)
      (fun t w3 => ∃ v, Num.read most l = .ok (v, t) ∧ w3.heap[y]? = some (.cells #[.int .u64 v] 99 (0, 0))) (fun c w3 => ∃ n : Nat, c = n ∧ Num.read most l = .error n ∧ w3.heap[y]? = some (.cells #[.int .u64 v0] 99 (0, 0))) := by
  intro w2 p hp hbut hrd
  have hyl : y < w.heap.size := (Array.getElem?_eq_some_iff.1 hy).1
  have hxl := block_lt_of_cell hx
  simp only at hxl
  have hx2 : w2.cell? ⟨bx, 0, none⟩ = some (.int .u64 most) := (World.cell?_of_block (hbut.block bx hxl (fun h => h))).trans hx
  have hy2 : w2.heap[y]? = some (.cells #[.int .u64 v0] 99 (0, 0)) := (hbut.block y hyl (fun h => h)).trans hy
  have hpy : ¬ y = p := by omega
  have hpy2 : ¬ p = y := by omega
  have hy3 : w2.cell? ⟨y, 0, none⟩ = some (.int .u64 v0) := by rw [cell_of_row w2 y 0 _ _ _ hy2]; rfl
  have hy4 : w2.frozen? ⟨y, 0, none⟩ = false := frozen_of_row _ _ _ _ _ hy2
  have Hrd := Lib.hid hrd
  have Hy2 := Lib.hid hy2
  have Hl := Lib.hid hl
  have Hmost := Lib.hid hmost
  clear hx hy hbut hrd hy2 hl hmost
  show Calls _ _ #[.pointer (some ⟨p, 0, none⟩), .pointer (some ⟨bx, 0, none⟩), .pointer (some ⟨y, 0, none⟩)] _ _
  go_enter Try.func82, Try.ntmps82
  go_wp2_with (fail)
  refine (nums_num p most l 0 w2 Hmost.out Hl.out Hrd.out).mono ?_
  rintro e w' (⟨v, t, hr, rfl, rfl⟩ | ⟨c, hr, rfl, rfl⟩)
  · have Hr := Lib.hid hr
    clear hr
    go_wp2
    have hp := Mem.row_setCell w2 p 0 (.string (Mem.str t)) _ _ _ Hrd.out
    have hy5 : (w2.setCell ⟨p, 0, none⟩ (.string (Mem.str t))).heap[y]? = _ := (heap_setCell_other w2 _ y _ hpy).trans Hy2.out
    refine ⟨rfl, .tuple #[], by simp [results, Try.results82], .inl ⟨t, rfl, ?_, ⟨v, Hr.out, ?_⟩, ?_⟩⟩
    · exact (heap_setCell_other _ _ p _ hpy2).trans hp
    · exact Mem.row_setCell _ y 0 _ _ _ _ hy5
    · exact (Mem.But.of_setCell ⟨p, 0, none⟩ _ (.inl rfl)).trans (Mem.But.of_setCell ⟨y, 0, none⟩ _ (.inr rfl))
  · go_wp2
    exact ⟨rfl, .inr ⟨c, ⟨c, rfl, hr, Hy2.out⟩, rfl, Mem.But.refl _ _⟩⟩

namespace Num
def step (most : Nat) (l : List UInt8) (f : Int) : Nat × List UInt8 × Int :=
  if f ≠ 0 then (0, l, f) else match read most l with | .ok (x, t) => (x, t, 0) | .error c => (0, l, c)
theorem zero_u64 : (Try.prog.info? 99).bind (·.zero) = some (.int .u64 0) := by kernel_rfl
theorem zero_string : (Try.prog.info? 9).bind (·.zero) = some (.string ⟨#[]⟩) := by kernel_rfl
end Num

set_option maxRecDepth 100000 in
theorem nums_Num (g most : Nat) (l : List UInt8) (f : Int) (w : World) (hmost : most < 2 ^ 64) (hl : l.length < 2 ^ 62) (hrd : Num.Rd w g l f) :
    Calls Try.prog 67 #[.pointer (some ⟨g, 0, none⟩), .int .u64 most] w fun e w' =>
      ∃ x t f', Num.step most l f = (x, t, f') ∧ e = .returned (.int .u64 x) ∧ Num.Rd w' g t f' ∧ Mem.But (· = g) w w' := by
  have hmf : ∀ (fn : Fn) (first cap : Array Value) (w : World), (Instr.makeFunc fn first cap).run Try.prog w = .ok (.func fn first cap) w := fun _ _ _ _ => rfl
  have hgl := block_lt_of_cell hrd.rest
  simp only at hgl
  have Hrd := Lib.hid hrd
  have Hg := Lib.hid hgl
  have Hl := Lib.hid hl
  have Hmost := Lib.hid hmost
  clear hrd hgl hl hmost
  go_enter Try.func67, Try.ntmps67
  go_wp2_with (first
    | (refine Mem.wpList_box (o := ⟨some 3, _, _, _, _, _⟩) rfl 99 _ rfl (.int .u64 most) rfl ?_
       intro w1 hn1
       have Hn1 := Lib.hid hn1
       clear hn1)
    | (refine Mem.wpList_alloc (o := ⟨some 4, _, _, _, _, _⟩) rfl 99 rfl _ Num.zero_u64 ?_
       intro w2 hn2
       have Hn2 := Lib.hid hn2
       clear hn2))
  have hs1 := Hn1.out.size
  have hs2 := Hn2.out.size
  have hbut2 : Mem.But (fun _ => False) w w2 := (Mem.But.of_new Hn1.out).trans (Mem.But.of_new Hn2.out)
  have hrd2 : Num.Rd w2 g l f := (hbut2.block g Hg.out (fun h => h)).trans Hrd.out
  have hx : w2.cell? ⟨w.heap.size, 0, none⟩ = some (.int .u64 most) := by
    have : w2.heap[w.heap.size]? = w1.heap[w.heap.size]? := Hn2.out.old (by omega)
    rw [World.cell?_of_block this]; exact Hn1.out.cell1 0 rfl
  refine (nums_try_num g l f w2 hrd2 ⟨w.heap.size, 0, none⟩ ⟨w1.heap.size, 0, none⟩ (· = w1.heap.size) (by rintro k rfl; have := Hg.out; omega) _ _
    (nums_num_reads w2 l Hl.out most Hmost.out w.heap.size w1.heap.size 0 hx Hn2.out.row)).mono ?_
  have Hb := Lib.hid hbut2
  have Hs := Lib.hid (And.intro hs1 hs2)
  clear hs1 hs2 hbut2 hrd2 hx
  rintro e w3 (⟨hf, rfl, hrd3, hbut3⟩ | ⟨rfl, t, w4, ⟨v, hread, hrow⟩, rfl, hrd3, hbut3, hsame⟩ | ⟨rfl, c, w4, ⟨n, rfl, hread, hrow⟩, rfl, hrd3, hbut3, hsame⟩)
  · have hy : w3.heap[w1.heap.size]? = some (.cells #[.int .u64 0] 99 (0, 0)) := (hbut3.block _ (by have := Hs.out; omega) (fun h => h)).trans Hn2.out.row
    have e1 : w3.cell? ⟨w1.heap.size, 0, none⟩ = some (.int .u64 0) := by rw [cell_of_row _ _ 0 _ _ _ hy]; rfl
    have e2 : w3.frozen? ⟨w1.heap.size, 0, none⟩ = false := frozen_of_row _ _ _ _ _ hy
    have Hrd3 := Lib.hid hrd3
    have Hbut3 := Lib.hid hbut3
    have Hy := Lib.hid hy
    clear hrd3 hbut3 hy
    go_wp2
    have hp := Mem.put_setCell w3 w1.heap.size 0 (.int .u64 0) _ _ Hy.out
    refine bodyPost_ret (Mem.results_cell_one rfl _ _ w1.heap.size (.int .u64 0) _ rfl Try.underlying99 rfl (by rw [cell_of_row _ _ 0 _ _ _ hp.row]; rfl)) rfl ?_
    refine ⟨0, l, f, by simp [Num.step, hf], rfl, ?_, ?_⟩
    · exact (hp.other g (by have := Hg.out; have := Hs.out; omega)).trans Hrd3.out
    · exact ((Hb.out.trans Hbut3.out).mono fun _ _ h => h.elim).later (Mem.But.of_put hp (S := (· = w1.heap.size)) rfl) (by intro i hi (h : i = w1.heap.size); have := Hs.out; omega)
  · have hlt : w1.heap.size < w2.heap.size := by have := Hs.out; omega
    have hgs : ¬ w1.heap.size = g := by have := Hg.out; have := Hs.out; omega
    have hy : w3.heap[w1.heap.size]? = some (.cells #[.int .u64 v] 99 (0, 0)) := (hsame _ hlt hgs).trans hrow
    have e1 : w3.cell? ⟨w1.heap.size, 0, none⟩ = some (.int .u64 v) := by rw [cell_of_row _ _ 0 _ _ _ hy]; rfl
    have e2 : w3.frozen? ⟨w1.heap.size, 0, none⟩ = false := frozen_of_row _ _ _ _ _ hy
    have Hrd3 := Lib.hid hrd3
    have Hbut3 := Lib.hid hbut3
    have Hy := Lib.hid hy
    have Hread := Lib.hid hread
    clear hrd3 hbut3 hy hread hsame hrow hlt hgs
    go_wp2
    have hp := Mem.put_setCell w3 w1.heap.size 0 (.int .u64 v) _ _ Hy.out
    refine bodyPost_ret (Mem.results_cell_one rfl _ _ w1.heap.size (.int .u64 v) _ rfl Try.underlying99 rfl (by rw [cell_of_row _ _ 0 _ _ _ hp.row]; rfl)) rfl ?_
    refine ⟨v, t, 0, by simp [Num.step, Hread.out], rfl, ?_, ?_⟩
    · exact (hp.other g (by have := Hg.out; have := Hs.out; omega)).trans Hrd3.out
    · refine ((Hb.out.mono (T := (· = g)) fun _ _ h => h.elim).later Hbut3.out ?_).later (Mem.But.of_put hp (S := (· = w1.heap.size)) rfl) (by intro i hi (h : i = w1.heap.size); have := Hs.out; omega)
      intro i hi h
      rcases h with h | h
      · exact h
      · have h : i = w1.heap.size := h
        have := Hs.out; omega
  · have hlt : w1.heap.size < w2.heap.size := by have := Hs.out; omega
    have hgs : ¬ w1.heap.size = g := by have := Hg.out; have := Hs.out; omega
    have hy : w3.heap[w1.heap.size]? = some (.cells #[.int .u64 0] 99 (0, 0)) := (hsame _ hlt hgs).trans hrow
    have e1 : w3.cell? ⟨w1.heap.size, 0, none⟩ = some (.int .u64 0) := by rw [cell_of_row _ _ 0 _ _ _ hy]; rfl
    have e2 : w3.frozen? ⟨w1.heap.size, 0, none⟩ = false := frozen_of_row _ _ _ _ _ hy
    have Hrd3 := Lib.hid hrd3
    have Hbut3 := Lib.hid hbut3
    have Hy := Lib.hid hy
    have Hread := Lib.hid hread
    clear hrd3 hbut3 hy hread hsame hrow hlt hgs
    go_wp2
    have hp := Mem.put_setCell w3 w1.heap.size 0 (.int .u64 0) _ _ Hy.out
    refine bodyPost_ret (Mem.results_cell_one rfl _ _ w1.heap.size (.int .u64 0) _ rfl Try.underlying99 rfl (by rw [cell_of_row _ _ 0 _ _ _ hp.row]; rfl)) rfl ?_
    refine ⟨0, l, n, by simp [Num.step, Hread.out], rfl, ?_, ?_⟩
    · exact (hp.other g (by have := Hg.out; have := Hs.out; omega)).trans Hrd3.out
    · refine ((Hb.out.mono (T := (· = g)) fun _ _ h => h.elim).later Hbut3.out ?_).later (Mem.But.of_put hp (S := (· = w1.heap.size)) rfl) (by intro i hi (h : i = w1.heap.size); have := Hs.out; omega)
      intro i hi h
      rcases h with h | h
      · exact h
      · have h : i = w1.heap.size := h
        have := Hs.out; omega
end Go.Proofs.Ytgkadhogfejheaa
end
/-! The walks of package nums: Text. -/
section
namespace Go.Proofs.Ytgkadhogfejheaa
open Go.RowKit

set_option maxRecDepth 100000 in
set_option maxHeartbeats 400000 in
theorem nums_text_reads (w : World) (l : List UInt8) (hl : l.length < 2 ^ 62) (most : Int) (hmost : most ≤ 9223372036854775807) (bx y : Nat)
    (hx : w.cell? ⟨bx, 0, none⟩ = some (.int .i64 most)) (hy : w.heap[y]? = some (.cells #[.string ⟨#[]⟩] 9 (0, 0))) :
    Num.Reads 84 #[.pointer (some ⟨bx, 0, none⟩), .pointer (some ⟨y, 0, none⟩)] w l (· = y)
      (fun t w3 => ∃ n t0, Num.read (max most 0).toNat l = .ok (n, t0) ∧ n ≤ t0.length ∧ t = t0.drop n ∧ w3.heap[y]? = some (.cells #[.string (Mem.str (t0.take n))] 9 (0, 0)))
      (fun c w3 => ((∃ n : Nat, c = n ∧ Num.read (max most 0).toNat l = .error n) ∨ (c = 8 ∧ ∃ n t0, Num.read (max most 0).toNat l = .ok (n, t0) ∧ t0.length < n)) ∧ w3.heap[y]? = some (.cells #[.string ⟨#[]⟩] 9 (0, 0))) := by
  intro w2 p hp hbut hrd
  have hyl : y < w.heap.size := (Array.getElem?_eq_some_iff.1 hy).1
  have hxl := block_lt_of_cell hx
  simp only at hxl
  have hx2 : w2.cell? ⟨bx, 0, none⟩ = some (.int .i64 most) := (World.cell?_of_block (hbut.block bx hxl (fun h => h))).trans hx
  have hy2 : w2.heap[y]? = some (.cells #[.string ⟨#[]⟩] 9 (0, 0)) := (hbut.block y hyl (fun h => h)).trans hy
  have hpy : ¬ y = p := by omega
  have hpy2 : ¬ p = y := by omega
  have hy3 : w2.cell? ⟨y, 0, none⟩ = some (.string ⟨#[]⟩) := by rw [cell_of_row w2 y 0 _ _ _ hy2]; rfl
  have hy4 : w2.frozen? ⟨y, 0, none⟩ = false := frozen_of_row _ _ _ _ _ hy2
  have hp3 := hrd.rest
  have hp4 := hrd.free 0
  have Hrd := Lib.hid hrd
  have Hy2 := Lib.hid hy2
  have Hl := Lib.hid hl
  have Hmost := Lib.hid hmost
  clear hx hy hbut hrd hy2 hl hmost
  show Calls _ _ #[.pointer (some ⟨p, 0, none⟩), .pointer (some ⟨bx, 0, none⟩), .pointer (some ⟨y, 0, none⟩)] _ _
  go_enter Try.func84, Try.ntmps84
  obtain ⟨M, hM⟩ : ∃ M, (max most 0).toNat = M := ⟨_, rfl⟩
  rw [hM]
  have hMlt : M < 2 ^ 64 := by have := Hmost.out; omega
  have HM := Lib.hid hM
  have HMlt := Lib.hid hMlt
  clear hM hMlt
  go_wp2_with (fail)
  all_goals
    first
      | (have e : IntKind.u64.wrap 0 = (M : Int) := by (rw [IntKind.wrap_u64]; have := HM.out; omega)
         rw [e])
      | (have e : IntKind.u64.wrap most = (M : Int) := by (rw [IntKind.wrap_u64]; have := HM.out; have := Hmost.out; omega)
         rw [e])
    clear e
    refine (nums_num p M l 0 w2 HMlt.out Hl.out Hrd.out).mono ?_
    rintro e w4 (⟨n, t0, hr, rfl, hw4⟩ | ⟨c, hr, rfl, rfl⟩)
    · have hpr : Num.Rd w4 p t0 0 := hw4 ▸ Mem.row_setCell w2 p 0 (.string (Mem.str t0)) _ _ _ Hrd.out
      have hyr : w4.heap[y]? = some (.cells #[.string ⟨#[]⟩] 9 (0, 0)) := hw4 ▸ (heap_setCell_other w2 _ y _ hpy).trans Hy2.out
      have hbut4 : Mem.But (fun k => k = p ∨ k = y) w2 w4 := hw4 ▸ Mem.But.of_setCell ⟨p, 0, none⟩ _ (.inl rfl)
      have e1 := hpr.rest
      have e2 := hpr.free 0
      have e3 : w4.cell? ⟨y, 0, none⟩ = some (.string ⟨#[]⟩) := by rw [cell_of_row w4 y 0 _ _ _ hyr]; rfl
      have e4 : w4.frozen? ⟨y, 0, none⟩ = false := frozen_of_row _ _ _ _ _ hyr
      have htl : t0.length ≤ l.length := by
        have := (Num.read_put hr).1
        rw [this]; simp
      have hsz := Mem.str_size t0
      have Hpr := Lib.hid hpr
      have Hyr := Lib.hid hyr
      have Hbut4 := Lib.hid hbut4
      have Htl := Lib.hid htl
      have Hr := Lib.hid hr
      clear hw4 hpr hyr hbut4 htl hr hx2 hy3 hy4 hp3 hp4
      by_cases hle : n ≤ t0.length
      · have hw : IntKind.u64.wrap (t0.length : Int) = (t0.length : Int) := by rw [IntKind.wrap_u64]; have := Htl.out; have := Hl.out; omega
        have hd1 : decide ((t0.length : Int) < n) = false := by simp; omega
        have hd2 : ¬ (t0.length : Int) < n := by omega
        have hleI : (n : Int) ≤ t0.length := by omega
        go_wp2
        go_region
        go_wp2
        have h1 := Mem.row_setCell w4 y 0 (.string (Mem.str (t0.take n))) _ _ _ Hyr.out
        have h2 : (w4.setCell ⟨y, 0, none⟩ (.string (Mem.str (t0.take n)))).heap[p]? = _ := (heap_setCell_other w4 _ p _ hpy2).trans Hpr.out
        have e5 : (Mem.str t0).extract 0 n = Mem.str (t0.take n) := by rw [Num.str_extract]; rfl
        have e6 : (Mem.str t0).extract n t0.length = Mem.str (t0.drop n) := Num.str_drop t0 n
        rw [e5, e6]
        refine ⟨rfl, .tuple #[], by simp [results, Try.results84], .inl ⟨t0.drop n, rfl, ?_, ⟨n, t0, Hr.out, hle, rfl, ?_⟩, ?_⟩⟩
        · exact Mem.row_setCell _ p 0 _ _ _ _ h2
        · exact (heap_setCell_other _ _ y _ hpy).trans h1
        · exact Hbut4.out.trans ((Mem.But.of_setCell ⟨y, 0, none⟩ _ (.inr rfl)).trans ((Mem.But.of_setCell ⟨p, 0, none⟩ _ (.inl rfl)).trans (Mem.But.of_drewN 1)))
      · have hw : IntKind.u64.wrap (t0.length : Int) = (t0.length : Int) := by rw [IntKind.wrap_u64]; have := Htl.out; have := Hl.out; omega
        have hd1 : decide ((t0.length : Int) < n) = true := by simp; omega
        have hd2 : (t0.length : Int) < n := by omega
        go_wp2
        exact ⟨rfl, .inr ⟨8, ⟨.inr ⟨rfl, n, t0, Hr.out, by omega⟩, Hyr.out⟩, rfl, Hbut4.out⟩⟩
    · go_wp2
      exact ⟨rfl, .inr ⟨c, ⟨.inl ⟨c, rfl, hr⟩, Hy2.out⟩, rfl, Mem.But.refl _ _⟩⟩

namespace Num
def text (most : Int) (l : List UInt8) (f : Int) : List UInt8 × List UInt8 × Int :=
  if f ≠ 0 then ([], l, f) else match read (max most 0).toNat l with
  | .error c => ([], l, c)
  | .ok (n, t) => if t.length < n then ([], l, 8) else (t.take n, t.drop n, 0)
end Num

set_option maxRecDepth 100000 in
theorem nums_Text (g : Nat) (most : Int) (l : List UInt8) (f : Int) (w : World) (hmost : most ≤ 9223372036854775807) (hl : l.length < 2 ^ 62) (hrd : Num.Rd w g l f) :
    Calls Try.prog 71 #[.pointer (some ⟨g, 0, none⟩), .int .i64 most] w fun e w' =>
      ∃ x t f', Num.text most l f = (x, t, f') ∧ e = .returned (.string (Mem.str x)) ∧ Num.Rd w' g t f' ∧ Mem.But (· = g) w w' := by
  have hmf : ∀ (fn : Fn) (first cap : Array Value) (w : World), (Instr.makeFunc fn first cap).run Try.prog w = .ok (.func fn first cap) w := fun _ _ _ _ => rfl
  have hgl := block_lt_of_cell hrd.rest
  simp only at hgl
  have Hrd := Lib.hid hrd
  have Hg := Lib.hid hgl
  have Hl := Lib.hid hl
  have Hmost := Lib.hid hmost
  clear hrd hgl hl hmost
  go_enter Try.func71, Try.ntmps71
  go_wp2_with (first
    | (refine Mem.wpList_box (o := ⟨some 3, _, _, _, _, _⟩) rfl 3 _ rfl (.int .i64 most) rfl ?_
       intro w1 hn1
       have Hn1 := Lib.hid hn1
       clear hn1)
    | (refine Mem.wpList_alloc (o := ⟨some 4, _, _, _, _, _⟩) rfl 9 rfl _ Num.zero_string ?_
       intro w2 hn2
       have Hn2 := Lib.hid hn2
       clear hn2))
  have hs1 := Hn1.out.size
  have hs2 := Hn2.out.size
  have hbut2 : Mem.But (fun _ => False) w w2 := (Mem.But.of_new Hn1.out).trans (Mem.But.of_new Hn2.out)
  have hrd2 : Num.Rd w2 g l f := (hbut2.block g Hg.out (fun h => h)).trans Hrd.out
  have hx : w2.cell? ⟨w.heap.size, 0, none⟩ = some (.int .i64 most) := by
    have : w2.heap[w.heap.size]? = w1.heap[w.heap.size]? := Hn2.out.old (by omega)
    rw [World.cell?_of_block this]; exact Hn1.out.cell1 0 rfl
  refine (nums_try_text g l f w2 hrd2 ⟨w.heap.size, 0, none⟩ ⟨w1.heap.size, 0, none⟩ (· = w1.heap.size) (by rintro k rfl; have := Hg.out; omega) _ _
    (nums_text_reads w2 l Hl.out most Hmost.out w.heap.size w1.heap.size hx Hn2.out.row)).mono ?_
  have Hb := Lib.hid hbut2
  have Hs := Lib.hid (And.intro hs1 hs2)
  clear hs1 hs2 hbut2 hrd2 hx
  rintro e w3 (⟨hf, rfl, hrd3, hbut3⟩ | ⟨rfl, t, w4, ⟨n, t0, hread, hle, ht, hrow⟩, rfl, hrd3, hbut3, hsame⟩ | ⟨rfl, c, w4, ⟨hread, hrow⟩, rfl, hrd3, hbut3, hsame⟩)
  · have hy : w3.heap[w1.heap.size]? = some (.cells #[.string ⟨#[]⟩] 9 (0, 0)) := (hbut3.block _ (by have := Hs.out; omega) (fun h => h)).trans Hn2.out.row
    have e1 : w3.cell? ⟨w1.heap.size, 0, none⟩ = some (.string ⟨#[]⟩) := by rw [cell_of_row _ _ 0 _ _ _ hy]; rfl
    have e2 : w3.frozen? ⟨w1.heap.size, 0, none⟩ = false := frozen_of_row _ _ _ _ _ hy
    have Hrd3 := Lib.hid hrd3
    have Hbut3 := Lib.hid hbut3
    have Hy := Lib.hid hy
    clear hrd3 hbut3 hy
    go_wp2
    have hp := Mem.put_setCell w3 w1.heap.size 0 (.string ⟨#[]⟩) _ _ Hy.out
    refine bodyPost_ret (Mem.results_cell_one rfl _ _ w1.heap.size (.string ⟨#[]⟩) _ rfl Try.underlying9 rfl (by rw [cell_of_row _ _ 0 _ _ _ hp.row]; rfl)) rfl ?_
    refine ⟨[], l, f, by simp [Num.text, hf], rfl, ?_, ?_⟩
    · exact (hp.other g (by have := Hg.out; have := Hs.out; omega)).trans Hrd3.out
    · exact ((Hb.out.trans Hbut3.out).mono fun _ _ h => h.elim).later (Mem.But.of_put hp (S := (· = w1.heap.size)) rfl) (by intro i hi (h : i = w1.heap.size); have := Hs.out; omega)
  · have hlt : w1.heap.size < w2.heap.size := by have := Hs.out; omega
    have hgs : ¬ w1.heap.size = g := by have := Hg.out; have := Hs.out; omega
    have hy : w3.heap[w1.heap.size]? = some (.cells #[.string (Mem.str (t0.take n))] 9 (0, 0)) := (hsame _ hlt hgs).trans hrow
    have e1 : w3.cell? ⟨w1.heap.size, 0, none⟩ = some (.string (Mem.str (t0.take n))) := by rw [cell_of_row _ _ 0 _ _ _ hy]; rfl
    have e2 : w3.frozen? ⟨w1.heap.size, 0, none⟩ = false := frozen_of_row _ _ _ _ _ hy
    have Hrd3 := Lib.hid hrd3
    have Hbut3 := Lib.hid hbut3
    have Hy := Lib.hid hy
    have Hread := Lib.hid hread
    clear hrd3 hbut3 hy hread hsame hrow hlt hgs
    go_wp2
    have hp := Mem.put_setCell w3 w1.heap.size 0 (.string (Mem.str (t0.take n))) _ _ Hy.out
    refine bodyPost_ret (Mem.results_cell_one rfl _ _ w1.heap.size (.string (Mem.str (t0.take n))) _ rfl Try.underlying9 rfl (by rw [cell_of_row _ _ 0 _ _ _ hp.row]; rfl)) rfl ?_
    refine ⟨t0.take n, t, 0, by simp [Num.text, Hread.out, ht, Nat.not_lt.2 hle], rfl, ?_, ?_⟩
    · exact (hp.other g (by have := Hg.out; have := Hs.out; omega)).trans Hrd3.out
    · refine ((Hb.out.mono (T := (· = g)) fun _ _ h => h.elim).later Hbut3.out ?_).later (Mem.But.of_put hp (S := (· = w1.heap.size)) rfl) (by intro i hi (h : i = w1.heap.size); have := Hs.out; omega)
      intro i hi h
      rcases h with h | h
      · exact h
      · have h : i = w1.heap.size := h
        have := Hs.out; omega
  · have hlt : w1.heap.size < w2.heap.size := by have := Hs.out; omega
    have hgs : ¬ w1.heap.size = g := by have := Hg.out; have := Hs.out; omega
    have hy : w3.heap[w1.heap.size]? = some (.cells #[.string ⟨#[]⟩] 9 (0, 0)) := (hsame _ hlt hgs).trans hrow
    have e1 : w3.cell? ⟨w1.heap.size, 0, none⟩ = some (.string ⟨#[]⟩) := by rw [cell_of_row _ _ 0 _ _ _ hy]; rfl
    have e2 : w3.frozen? ⟨w1.heap.size, 0, none⟩ = false := frozen_of_row _ _ _ _ _ hy
    have Hrd3 := Lib.hid hrd3
    have Hbut3 := Lib.hid hbut3
    have Hy := Lib.hid hy
    have Hread := Lib.hid hread
    clear hrd3 hbut3 hy hread hsame hrow hlt hgs
    go_wp2
    have hp := Mem.put_setCell w3 w1.heap.size 0 (.string ⟨#[]⟩) _ _ Hy.out
    refine bodyPost_ret (Mem.results_cell_one rfl _ _ w1.heap.size (.string ⟨#[]⟩) _ rfl Try.underlying9 rfl (by rw [cell_of_row _ _ 0 _ _ _ hp.row]; rfl)) rfl ?_
    refine ⟨[], l, c, by rcases Hread.out with ⟨n, rfl, h⟩ | ⟨rfl, n, t0, h, h2⟩ <;> simp [Num.text, h]; exact h2, rfl, ?_, ?_⟩
    · exact (hp.other g (by have := Hg.out; have := Hs.out; omega)).trans Hrd3.out
    · refine ((Hb.out.mono (T := (· = g)) fun _ _ h => h.elim).later Hbut3.out ?_).later (Mem.But.of_put hp (S := (· = w1.heap.size)) rfl) (by intro i hi (h : i = w1.heap.size); have := Hs.out; omega)
      intro i hi h
      rcases h with h | h
      · exact h
      · have h : i = w1.heap.size := h
        have := Hs.out; omega

end Go.Proofs.Ytgkadhogfejheaa
end
/-! The walks of package nums: small ones. -/
section
namespace Go.Proofs.Ytgkadhogfejheaa
open Go.RowKit

namespace Num
theorem str_cat (a : List UInt8) (s : ByteArray) : Mem.str a ++ s = Mem.str (a ++ s.data.toList) := by
  apply ByteArray.ext
  simp [Mem.str]
end Num

theorem nums_Read (s : ByteArray) (w : World) :
    Calls Try.prog 52 #[.string s] w fun e w' => e = .returned (.pointer (some ⟨w.heap.size, 0, none⟩)) ∧ Num.Rd w' w.heap.size s.data.toList 0 ∧ Below w.heap.size w w' := by
  go_enter Try.func52, Try.ntmps52
  go_wp2_with (
    refine Mem.wpList_box rfl 134 _ rfl (.agg #[.string s, .int .i64 0]) rfl ?_
    intro w1 hn1
    have Hn1 := Lib.hid hn1
    clear hn1)
  go_ret
  refine ⟨rfl, ?_, Hn1.out.below⟩
  have := Hn1.out.row
  unfold Num.Rd
  rw [Mem.str_of]; exact this

theorem nums_Left (g : Nat) (l : List UInt8) (f : Int) (w : World) (hrd : Num.Rd w g l f) :
    Calls Try.prog 55 #[.pointer (some ⟨g, 0, none⟩)] w fun e w' => e = .returned (.int .i64 l.length) ∧ w = w' := by
  have h0 := hrd.rest
  have hsz := Mem.str_size l
  clear hrd
  go_enter Try.func55, Try.ntmps55
  go_wp2
  go_ret
  exact ⟨rfl, rfl⟩

theorem nums_Fault (g : Nat) (l : List UInt8) (f : Int) (w : World) (hrd : Num.Rd w g l f) :
    Calls Try.prog 54 #[.pointer (some ⟨g, 0, none⟩)] w fun e w' => e = .returned (.int .i64 f) ∧ w = w' := by
  have h0 := hrd.fault
  clear hrd
  go_enter Try.func54, Try.ntmps54
  go_wp2
  go_ret
  exact ⟨rfl, rfl⟩

theorem nums_puttext (s : ByteArray) (hs : s.size < 2 ^ 62) (w : World) :
    Calls Try.prog 47 #[.string s] w fun e w' => e = .returned (.string (Mem.str (Num.put s.size ++ s.data.toList))) ∧ Below w.heap.size w w' := by
  have Hs := Lib.hid hs
  have hw : IntKind.u64.wrap (s.size : Int) = (s.size : Int) := by rw [IntKind.wrap_u64]; omega
  have hcat : ¬ 9223372036854775807 < (Mem.str (Num.put s.size)).size + s.size := by
    rw [Mem.str_size]; have := Num.put_ten (n := s.size) (by omega); omega
  clear hs
  go_enter Try.func47, Try.ntmps47
  go_wp2_with (go_at_call 46; refine (nums_put s.size (by have := Hs.out; omega) _).mono ?_; rintro e w3 ⟨rfl, hb⟩; have Hb := Lib.hid hb; clear hb)
  go_ret
  exact ⟨congrArg (fun x => Ending.returned (.string x)) (Num.str_cat _ s), Hb.out⟩

theorem nums_refputtext (s : ByteArray) (hs : s.size < 2 ^ 62) (w : World) :
    Calls Try.prog 41 #[.string s] w fun e w' => e = .returned (.string (Mem.str (Num.put s.size ++ s.data.toList))) ∧ Below w.heap.size w w' := by
  have Hs := Lib.hid hs
  have hw : IntKind.u64.wrap (s.size : Int) = (s.size : Int) := by rw [IntKind.wrap_u64]; omega
  have hcat : ¬ 9223372036854775807 < (Mem.str (Num.put s.size)).size + s.size := by
    rw [Mem.str_size]; have := Num.put_ten (n := s.size) (by omega); omega
  clear hs
  go_enter Try.func41, Try.ntmps41
  go_wp2_with (go_at_call 40; refine (nums_refput s.size (by have := Hs.out; omega) _).mono ?_; rintro e w3 ⟨rfl, hb⟩; have Hb := Lib.hid hb; clear hb)
  go_ret
  exact ⟨congrArg (fun x => Ending.returned (.string x)) (Num.str_cat _ s), Hb.out⟩

end Go.Proofs.Ytgkadhogfejheaa
end
