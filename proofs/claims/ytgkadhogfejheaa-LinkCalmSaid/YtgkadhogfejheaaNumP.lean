/- The walks of package nums: how numbers are put. -/
import Derived.Test.YtgkadhogfejheaaApp
import Derived.Test.YtgkadhogfejheaaNumPure
namespace Go.Proofs.Ytgkadhogfejheaa
open Go.RowKit

namespace Num
theorem zero_ten : (Try.prog.info? 131).bind (·.zero) = some (.agg (Array.replicate 10 (.int .u8 0))) := by kernel_rfl
theorem size_byte : (Try.prog.info? 5).map (·.size) = some 1 := by kernel_rfl
theorem info_byte : (Try.prog.info? 5).map (fun i => (i.zero, i.size, i.bytes)) = some (some (.int .u8 0), 1, 1) := by kernel_rfl
theorem or_u8 (n : Nat) : bits .or .u8 ((n : Int) % 256) 128 = ((UInt8.ofNat (n % 128 + 128)).toNat : Int) := by
  have := (bits_nat .u8 8 (by decide) (fun n h0 h1 => by rw [IntKind.wrap_u8]; omega) (n % 256) 128 (by omega) (by omega)).2
  have e : ((n % 256 : Nat) : Int) = (n : Int) % 256 := by omega
  rw [e] at this
  refine this.trans ?_
  rw [or_128]
  simp [UInt8.toNat_ofNat']; omega
theorem low_u8 (n : Nat) (h : n < 128) : (n : Int) = ((UInt8.ofNat n).toNat : Int) := by
  simp [UInt8.toNat_ofNat']; omega
theorem room_alloc {w : World} {g : Nat} {T : TypeId} {l : List UInt8} {c : Nat} (h : Mem.Room w g T l c) (o : Obj) : Mem.Room (w.alloc o) g T l c :=
  h.same (heap_alloc_old w o h.lt)
theorem cell_alloc (w : World) (v : Value) (e : TypeId) : (w.alloc (.cells #[v] e)).cell? ⟨w.heap.size, 0, none⟩ = some v := by simp
end Num

set_option maxRecDepth 100000 in
set_option maxHeartbeats 400000 in
theorem nums_put (n : Nat) (hn : n < 2 ^ 64) (w : World) :
    Calls Try.prog 46 #[.int .u64 n] w fun e w' => e = .returned (.string (Mem.str (Num.put n))) ∧ Below w.heap.size w w' := by
  go_enter Try.func46, Try.ntmps46
  go_wp2_with (refine Mem.wpList_alloc rfl 131 rfl _ Num.zero_ten ?_; intro w1 hn1; have Hn1 := Lib.hid hn1; clear hn1)
  have Hr1 := Lib.hid (Mem.Room.of_new Hn1.out)
  have Hln := Lib.hid hn
  clear hn
  go_loopw [0, 4] (fun q v wr => ∃ (m : Nat) (l : List UInt8), Num.put n = l ++ Num.put m ∧ m < 2 ^ 64 ∧ q = .int .u64 m ∧ v = .slice (some ⟨w.heap.size, 0, none⟩) l.length 10 ∧
    Mem.Room wr w.heap.size 131 l 10 ∧ Below w.heap.size w wr) (fun q _ _ => (intOf q).toNat)
  case atStart => exact ⟨n, [], rfl, Hln.out, rfl, rfl, Hr1.out, Hn1.out.below⟩
  case round =>
    obtain ⟨m, l, hput, hm, rfl, rfl, hroom, hbel⟩ := hrel
    have hten := Num.put_ten Hln.out
    rw [hput] at hten
    have hpos := Num.put_pos m
    simp only [List.length_append] at hten
    have hlen : l.length < 10 := by omega
    have Hlen := Lib.hid hlen
    clear hten hpos hlen
    by_cases hlt : m < 128
    · have hd : decide ((m : Int) < 128) = true := by simp; omega
      have hd2 : decide ((128 : Int) ≤ m) = false := by simp; omega
      have Hroom := Lib.hid hroom
      have Hbel := Lib.hid hbel
      have Hput := Lib.hid hput
      have Hm := Lib.hid hm
      clear hroom hbel hput hm
      have Hz := Lib.hid (Num.low_u8 m hlt)
      go_wp2_with (first
        | (at_builtin; refine Mem.wpList_append_room rfl _ _ 97 rfl 5 Try.underlying97 Num.size_byte w.heap.size 131 l 10 rfl (Num.room_alloc Hroom.out _) Hlen.out ⟨wr.heap.size, 0, none⟩ 1 m _ Hz.out rfl (Num.cell_alloc _ _ _) ?_
           intro w2 hr2 hb2 hs2; have Hr2 := Lib.hid hr2; have Hb2 := Lib.hid hb2; clear hr2 hb2 hs2)
        | (refine Mem.wpList_bytes_string (o := ⟨some 21, _, _, _, _, _⟩) rfl 97 9 5 _ rfl Try.underlying97 Try.underlying5 Try.underlying9 w.heap.size 0 _ 10 rfl (l ++ [UInt8.ofNat m]) rfl (fun i hi => by rw [Nat.zero_add]; exact Hr2.out.cell i hi) ?_))
      go_ret
      refine ⟨?_, ?_⟩
      · show Ending.returned (Value.string (Mem.str (l ++ [UInt8.ofNat m]))) = _
        rw [Hput.out, Num.put_lt hlt]
      · exact (Hbel.out.alloc Hbel.out.size _).trans Hb2.out
    · have hd : decide ((m : Int) < 128) = false := by simp; omega
      have hd2 : decide ((128 : Int) ≤ m) = true := by simp; omega
      have Hroom := Lib.hid hroom
      have Hbel := Lib.hid hbel
      have Hput := Lib.hid hput
      have Hm := Lib.hid hm
      clear hroom hbel hput hm
      have Hz := Lib.hid (Num.or_u8 m)
      go_wp2_with (first
        | (at_builtin; refine Mem.wpList_append_room rfl _ _ 97 rfl 5 Try.underlying97 Num.size_byte w.heap.size 131 l 10 rfl (Num.room_alloc Hroom.out _) Hlen.out ⟨wr.heap.size, 0, none⟩ 1 _ _ Hz.out rfl (Num.cell_alloc _ _ _) ?_
           intro w2 hr2 hb2 hs2; have Hr2 := Lib.hid hr2; have Hb2 := Lib.hid hb2; clear hr2 hb2 hs2))
      refine ⟨⟨m / 128, l ++ [UInt8.ofNat (m % 128 + 128)], ?_, by have := Hm.out; omega, by simp, by simp, Hr2.out, (Hbel.out.alloc Hbel.out.size _).trans Hb2.out⟩, by simp [intOf]; omega⟩
      rw [Hput.out, Num.put_ge hlt]; simp

set_option maxRecDepth 100000 in
set_option maxHeartbeats 400000 in
theorem nums_refput (n : Nat) (hn : n < 2 ^ 64) (w : World) :
    Calls Try.prog 40 #[.int .u64 n] w fun e w' => e = .returned (.string (Mem.str (Num.put n))) ∧ Below w.heap.size w w' := by
  go_enter Try.func40, Try.ntmps40
  have Hln := Lib.hid hn
  clear hn
  go_wp2
  go_loopw [0, 3] (fun q v wr => ∃ (m : Nat) (l : List UInt8), Num.put n = l ++ Num.put m ∧ m < 2 ^ 64 ∧ q = .int .u64 m ∧
    wr.ownsRow w.heap.size 5 1 v l.length (Mem.cellsOf l) ∧ Below w.heap.size w wr) (fun q _ _ => (intOf q).toNat)
  case atStart => exact ⟨n, [], rfl, Hln.out, rfl, World.ownsRow_nil _ _ _ _, Below.refl _ _⟩
  case round =>
    obtain ⟨m, l, hput, hm, rfl, hown, hbel⟩ := hrel
    have hten := Num.put_ten Hln.out
    rw [hput] at hten
    simp only [List.length_append] at hten
    have hlen : l.length < 140737488355328 := by omega
    have Hlen := Lib.hid hlen
    clear hten hlen
    have Hown := Lib.hid hown
    have Hbel := Lib.hid hbel
    have Hput := Lib.hid hput
    have Hm := Lib.hid hm
    clear hown hbel hput hm
    by_cases hlt : m < 128
    · have hd : decide ((m : Int) / 128 = 0) = true := by simp; omega
      have hd2 : (m : Int) / 128 = 0 := by omega
      go_wp2_with (first
        | (at_builtin; refine Mem.wpList_append_byte rfl _ _ 97 rfl 5 Try.underlying97 Num.info_byte w.heap.size _ l rfl (Hown.out.alloc _) (Nat.le_trans Hbel.out.size (by simp)) Hlen.out ⟨wr.heap.size, 0, none⟩ 1 _ (UInt8.ofNat (m)) (by simp [UInt8.toNat_ofNat']; omega) rfl (Num.cell_alloc _ _ _) ?_
           intro v2 w2 hr2 hb2; have Hr2 := Lib.hid hr2; have Hb2 := Lib.hid hb2; clear hr2 hb2)
        | (refine Mem.wpList_own_string (o := ⟨some 16, _, _, _, _, _⟩) rfl 97 9 5 _ rfl Try.underlying97 Try.underlying5 Try.underlying9 w.heap.size _ _ rfl Hr2.out (by simp) ?_))
      go_ret
      refine ⟨?_, ?_⟩
      · show Ending.returned (Value.string (Mem.str (l ++ [UInt8.ofNat m]))) = _
        rw [Hput.out, Num.put_lt hlt]
      · exact (Hbel.out.alloc Hbel.out.size _).trans Hb2.out
    · have hd : decide ((m : Int) / 128 = 0) = false := by simp; omega
      have hd2 : ¬ (m : Int) / 128 = 0 := by omega
      have hw : IntKind.u64.wrap ((m : Int) / 128) = ((m / 128 : Nat) : Int) := by rw [IntKind.wrap_u64]; have := Hm.out; omega
      have hd3 : decide (((m / 128 : Nat) : Int) = 0) = false := by simp; omega
      have hd4 : ¬ ((m / 128 : Nat) : Int) = 0 := by omega
      go_wp2_with (first
        | (at_builtin; refine Mem.wpList_append_byte rfl _ _ 97 rfl 5 Try.underlying97 Num.info_byte w.heap.size _ l rfl (Hown.out.alloc _) (Nat.le_trans Hbel.out.size (by simp)) Hlen.out ⟨wr.heap.size, 0, none⟩ 1 _ (UInt8.ofNat (m % 128 + 128)) (by simp [UInt8.toNat_ofNat']; omega) rfl (Num.cell_alloc _ _ _) ?_
           intro v2 w2 hr2 hb2; have Hr2 := Lib.hid hr2; have Hb2 := Lib.hid hb2; clear hr2 hb2))
      refine ⟨⟨m / 128, l ++ [UInt8.ofNat (m % 128 + 128)], ?_, by have := Hm.out; omega, by simp, Hr2.out, (Hbel.out.alloc Hbel.out.size _).trans Hb2.out⟩, by simp [intOf]; omega⟩
      rw [Hput.out, Num.put_ge hlt]; simp
end Go.Proofs.Ytgkadhogfejheaa
