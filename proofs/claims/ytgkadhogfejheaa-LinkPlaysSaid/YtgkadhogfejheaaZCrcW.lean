/- The walks of package crc and of its reference. -/
import Derived.Test.YtgkadhogfejheaaRows
import Derived.Test.YtgkadhogfejheaaZCrcPure
import Derived.Test.YtgkadhogfejheaaQM
set_option linter.unusedVariables false
set_option linter.unusedSimpArgs false
namespace Go.Proofs.Ytgkadhogfejheaa
open Go.RowKit

namespace Crc
theorem ofInt_toNat (x : BitVec 32) : BitVec.ofInt 32 (x.toNat : Int) = x := by
  rw [BitVec.ofInt_natCast, BitVec.ofNat_toNat]; simp
theorem wrap_toNat (x : BitVec 32) : IntKind.u32.wrap (x.toNat : Int) = x.toNat := by
  rw [IntKind.wrap_u32]; have := x.isLt; omega
theorem bits_xor (x y : BitVec 32) : bits .xor .u32 x.toNat y.toNat = ((x ^^^ y).toNat : Int) := by
  show IntKind.u32.wrap ((BitVec.ofInt 32 (x.toNat : Int) ^^^ BitVec.ofInt 32 (y.toNat : Int)).toNat : Int) = _
  rw [ofInt_toNat, ofInt_toNat, wrap_toNat]
theorem bits_and (x y : BitVec 32) : bits .and .u32 x.toNat y.toNat = ((x &&& y).toNat : Int) := by
  show IntKind.u32.wrap ((BitVec.ofInt 32 (x.toNat : Int) &&& BitVec.ofInt 32 (y.toNat : Int)).toNat : Int) = _
  rw [ofInt_toNat, ofInt_toNat, wrap_toNat]
theorem shr (x : BitVec 32) (k : Nat) : ((x >>> k).toNat : Int) = (x.toNat : Int) / (2 ^ k : Nat) := by
  rw [BitVec.toNat_ushiftRight, Nat.shiftRight_eq_div_pow]; omega
theorem neg (x : BitVec 32) : ((0#32 - x).toNat : Int) = -(x.toNat : Int) % 4294967296 := by
  rw [BitVec.toNat_sub]; have := x.isLt
  simp; omega
end Crc

set_option maxHeartbeats 400000 in
theorem crc_step (x : BitVec 32) (w : World) :
    Calls Try.prog 88 #[.int .u32 x.toNat] w fun e w' => e = .returned (.int .u32 (Crc.step x).toNat) ∧ w = w' := by
  go_enter Try.func88, Try.ntmps88
  go_wp2
  go_ret
  refine ⟨congrArg (fun n => Ending.returned (.int .u32 n)) ?_, rfl⟩
  rw [← Crc.step_prog]
  have e1 : bits .and .u32 (x.toNat : Int) 1 = ((x &&& 1#32).toNat : Int) := Crc.bits_and x 1#32
  rw [e1, ← Crc.neg]
  have e2 : bits .and .u32 2197175160 ((0#32 - (x &&& 1#32)).toNat : Int) = ((Crc.poly &&& (0#32 - (x &&& 1#32))).toNat : Int) := Crc.bits_and Crc.poly _
  have e3 : ((x >>> 1).toNat : Int) = (x.toNat : Int) / 2 := Crc.shr x 1
  rw [e2, ← e3]
  exact Crc.bits_xor _ _

set_option maxHeartbeats 400000 in
theorem ref_step (x : BitVec 32) (w : World) :
    Calls Try.prog 76 #[.int .u32 x.toNat] w fun e w' => e = .returned (.int .u32 (Crc.step x).toNat) ∧ w = w' := by
  have e3 : ((x >>> 1).toNat : Int) = (x.toNat : Int) / 2 := Crc.shr x 1
  have hl := Crc.lsb_mod x
  have H3 := Lib.hid e3
  have Hl := Lib.hid hl
  clear e3 hl
  go_enter Try.func76, Try.ntmps76
  go_wp2
  · have h : ((x.toNat : Int) % 2 == 1) = true := by assumption
    go_ret
    refine ⟨congrArg (fun n => Ending.returned (.int .u32 n)) ?_, rfl⟩
    have hb : Crc.lsb x = true := by rw [Hl.out]; simp at h; simp; omega
    show bits .xor .u32 ((x.toNat : Int) / 2) 2197175160 = _
    rw [← H3.out, Crc.step, hb]
    exact Crc.bits_xor (x >>> 1) Crc.poly
  · have h : ((x.toNat : Int) % 2 == 1) = false := by assumption
    go_ret
    refine ⟨congrArg (fun n => Ending.returned (.int .u32 n)) ?_, rfl⟩
    have hb : Crc.lsb x = false := by rw [Hl.out]; simp at h; simp; omega
    show ((x.toNat : Int) / 2) = _
    rw [← H3.out, Crc.step, hb]
    simp

/-! ### Rows of words -/
namespace Crc
def word (x : BitVec 32) : Value := .int .u32 x.toNat
def row (n : Nat) (f : Nat → BitVec 32) : Array Value := ((List.range n).map fun i => word (f i)).toArray
theorem row_size (n : Nat) (f : Nat → BitVec 32) : (row n f).size = n := by simp [row]
theorem row_get (n : Nat) (f : Nat → BitVec 32) (i : Nat) (h : i < n) : (row n f)[i]? = some (word (f i)) := by
  simp [row, h]
theorem row_set (n : Nat) (f g : Nat → BitVec 32) (k : Nat) (h : ∀ i, i < n → g i = if i = k then g k else f i) :
    (row n f).setIfInBounds k (word (g k)) = row n g := by
  apply Array.ext
  · simp [row]
  · intro i h1 h2
    have hi : i < n := by simpa [row] using h2
    simp only [row, List.getElem_toArray, List.getElem_map, List.getElem_range]
    rw [h i hi]
    by_cases e : i = k
    · subst e; simp
    · have e2 : ¬ k = i := fun h => e h.symm
      simp [e, e2]
theorem row_one (n : Nat) (f : Nat → BitVec 32) : (row n f).all (·.oneCell') = true := by
  rw [Array.all_eq_true]; intro i hi; simp [row, word, Value.oneCell']
theorem row_congr {n : Nat} {f g : Nat → BitVec 32} (h : ∀ i, i < n → f i = g i) : row n f = row n g := by
  unfold row
  congr 1
  apply List.map_congr_left
  intro i hi
  rw [h i (by simpa using hi)]
theorem zero_tab : (Try.prog.info? 140).bind (·.zero) = some (.agg (row 256 fun _ => 0#32)) := by kernel_rfl
theorem row_step (n : Nat) (F G : Nat → BitVec 32) (k : Nat) : (row n fun j => if j < k then F j else G j).setIfInBounds k (word (F k)) =
    row n fun j => if j < k + 1 then F j else G j := by
  have := row_set n (fun j => if j < k then F j else G j) (fun j => if j < k + 1 then F j else G j) k (by
    intro i hi
    by_cases e : i = k
    · subst e; simp
    · by_cases h : i < k
      · have : i < k + 1 := by omega
        simp [e, h, this]
      · have : ¬ i < k + 1 := by omega
        simp [e, h, this])
  simpa using this
end Crc

set_option maxRecDepth 100000 in
set_option maxHeartbeats 400000 in
theorem crc_table (w : World) :
    Calls Try.prog 80 #[] w fun e w' => e = .returned (.agg (Crc.row 256 fun i => Crc.stepN 8 (BitVec.ofNat 32 i))) ∧ Below w.heap.size w w' := by
  go_enter Try.func80, Try.ntmps80
  go_wp2_with (first
    | (refine Mem.wpList_alloc (o := ⟨some 0, _, _, _, _, _⟩) rfl 140 rfl _ Crc.zero_tab ?_; intro w1 hn1; have Hn1 := Lib.hid hn1; clear hn1)
    | (refine Mem.wpList_alloc (o := ⟨some 1, _, _, _, _, _⟩) rfl 140 rfl _ Crc.zero_tab ?_; intro w2 hn2; have Hn2 := Lib.hid hn2; clear hn2))
  have Hs1 := Lib.hid Hn1.out.size
  go_loopw [4] (fun i wr => ∃ k : Nat, k ≤ 256 ∧ i = .int .i64 k ∧ Below w.heap.size w wr ∧
    (∃ c, wr.heap[w.heap.size]? = some (.cells c 140 (0, 0)) ∧ c.size = 256) ∧
    wr.heap[w1.heap.size]? = some (.cells (Crc.row 256 fun j => if j < k then Crc.stepN 8 (BitVec.ofNat 32 j) else 0#32) 140 (0, 0))) (fun i _ => 256 - (intOf i).toNat)
  case atStart =>
    refine ⟨0, by omega, rfl, Hn1.out.below.trans (Hn2.out.belowB (by rw [Hs1.out]; omega)), ⟨_, (Hn2.out.old (by rw [Hs1.out]; omega)).trans Hn1.out.row, by simp [Value.cells, Crc.row_size]⟩, ?_⟩
    exact Hn2.out.row.trans (congrArg (fun c => some (Obj.cells c 140 (0, 0))) (Crc.row_congr fun i _ => by simp))
  case round =>
    obtain ⟨k, hk, rfl, hbel, ⟨c, hc, hcs⟩, hrow⟩ := hrel
    by_cases hlt : k < 256
    · have hcell : wr.cell? ⟨w1.heap.size, k, none⟩ = some (Crc.word 0#32) := by
        rw [cell_of_row wr _ _ _ _ _ hrow, Crc.row_get _ _ _ hlt]; simp
      have hfz : wr.frozen? ⟨w1.heap.size, k, none⟩ = false := frozen_of_row wr _ _ _ _ hrow
      have e0 : ((BitVec.ofNat 32 k).toNat : Int) = (k : Int) % 4294967296 := by rw [BitVec.toNat_ofNat]; omega
      have H0 := Lib.hid e0
      have Hrow := Lib.hid hrow
      have Hc := Lib.hid hc
      clear e0 hrow hc
      have hd : decide ((k : Int) < 256) = true := by simp; omega
      go_wp2
      go_loop [3, 9] (fun x j => ∃ n : Nat, n ≤ 8 ∧ j = .int .i64 n ∧ x = .int .u32 (Crc.stepN n (BitVec.ofNat 32 k)).toNat) (fun _ j => 8 - (intOf j).toNat)
      case atStart => exact ⟨0, by omega, rfl, by simp [Crc.stepN]; omega⟩
      case round =>
        obtain ⟨n, hn, rfl, rfl⟩ := hrel
        by_cases hltn : n < 8
        · go_wp2_with (go_at_call 88; refine (crc_step _ _).mono ?_; rintro e w' ⟨rfl, rfl⟩)
          go_round
          case rel => exact ⟨n + 1, by omega, by go_num, by rw [Crc.stepN_add]; rfl⟩
          case measure => simp [intOf]; omega
        · have : n = 8 := by omega
          subst this
          go_wp2
          go_roundw
          case rel =>
            refine ⟨k + 1, by omega, by go_num, hbel.setCell (by show w.heap.size ≤ w1.heap.size; rw [Hs1.out]; omega) _, ⟨c, ?_, hcs⟩, ?_⟩
            · rw [heap_setCell_other _ _ _ _ (by show w.heap.size ≠ w1.heap.size; rw [Hs1.out]; omega)]; exact Hc.out
            · have := heap_setCell_same _ _ k _ _ (Crc.word (Crc.stepN 8 (BitVec.ofNat 32 k))) Hrow.out
              rw [show Value.int IntKind.u32 ((Crc.stepN 8 (BitVec.ofNat 32 k)).toNat : Int) = Crc.word (Crc.stepN 8 (BitVec.ofNat 32 k)) from rfl, this]
              exact congrArg (fun c => some (Obj.cells c 140 (0, 0))) (Crc.row_step 256 (fun j => Crc.stepN 8 (BitVec.ofNat 32 j)) (fun _ => 0#32) k)
          case measure => simp [intOf]; omega
    · have : k = 256 := by omega
      subst this
      have Hrow := Lib.hid hrow
      have Hc := Lib.hid hc
      clear hrow hc
      go_wp2_with (first | (refine wpList_load_row rfl 140 (.tmp 1) rfl _ rfl 140 _ _ _ Hrow.out Try.underlying140 rfl (by rw [Crc.row_size]; kernel_rfl) ?_) | (refine wpList_store_row rfl 140 (.tmp 0) (.tmp 18) rfl _ _ rfl rfl 140 _ Hc.out (by rw [Crc.row_size]; kernel_rfl) (by rw [Crc.row_size]; exact hcs) (Crc.row_one _ _) ?_))
      refine bodyPost_ret (results_cell_row rfl _ _ w.heap.size 140 _ _ _ rfl (setRow_heap _ _ _ _ _ _ Hc.out) Try.underlying140 rfl (by rw [Crc.row_size]; kernel_rfl)) rfl ⟨?_, ?_⟩
      · exact congrArg (fun c => Ending.returned (.agg c)) (Crc.row_congr fun i hi => by simp [hi])
      · exact below_setRow hbel (Nat.le_refl _) _
namespace Crc
def tab (i : Nat) : BitVec 32 := stepN 8 (BitVec.ofNat 32 i)
theorem byte_index (x : BitVec 32) (c : UInt8) : ∃ j : Nat, j < 256 ∧ bits .xor .u8 ((x.toNat : Int) % 256) (c.toNat : Int) = (j : Int) ∧ put x c = tab j ^^^ (x >>> 8) := by
  refine ⟨(x.toNat % 256) ^^^ c.toNat, ?_, ?_, put_table x c⟩
  · have h := c.toNat_lt
    exact Nat.xor_lt_two_pow (n := 8) (Nat.mod_lt _ (by omega)) h
  · have h := u8_xor_nat (x.toNat % 256) c.toNat (Nat.mod_lt _ (by omega)) c.toNat_lt
    rw [← h]; congr 1
theorem take_snoc (s : ByteArray) (k : Nat) (h : k < s.size) : s.data.toList.take (k + 1) = s.data.toList.take k ++ [s[k]] := by
  rw [List.take_succ_eq_append_getElem (by simpa using h)]; rfl
theorem all_ones (x : BitVec 32) : bits .xor .u32 4294967295 x.toNat = ((~~~x).toNat : Int) := by
  have := bits_xor (BitVec.allOnes 32) x
  rw [show ((BitVec.allOnes 32).toNat : Int) = 4294967295 from by decide] at this
  rw [this, not_eq, BitVec.xor_comm]
theorem sub_ones (x : BitVec 32) : ((~~~x).toNat : Int) = 4294967295 - x.toNat := by
  rw [BitVec.toNat_not]; have := x.isLt; omega
end Crc

set_option maxRecDepth 100000 in
set_option maxHeartbeats 400000 in
theorem crc_more (x0 : BitVec 32) (s : ByteArray) (w : World) (hs : s.size ≤ maxLen) :
    Calls Try.prog 65 #[.int .u32 x0.toNat, .string s] w fun e w' => e = .returned (.int .u32 (Crc.more x0 s.data.toList).toNat) ∧ Below w.heap.size w w' := by
  unfold maxLen at hs
  go_enter Try.func65, Try.ntmps65
  go_wp2_with (first
    | (go_at_call 80; refine (crc_table _).mono ?_; rintro e w1 ⟨rfl, hb1⟩)
    | (refine Mem.wpList_alloc rfl 140 rfl _ Crc.zero_tab ?_; intro w2 hn; have Hn := Lib.hid hn; clear hn)
    | (refine Mem.wpList_store rfl 140 (.tmp 5) (.tmp 8) rfl _ _ rfl rfl 140 _ Hn.out.row (by rw [Crc.row_size]; kernel_rfl) (by simp [Value.cells, Crc.row_size]) (Crc.row_one _ _) ?_; intro w3 hp; have Hp := Lib.hid hp; clear hp))
  go_loop [6, 13] (fun x i => ∃ k : Nat, k ≤ s.size ∧ i = .int .i64 k ∧ x = .int .u32 (Crc.run (~~~x0) (s.data.toList.take k)).toNat) (fun _ i => s.size - (intOf i).toNat)
  case atStart => exact ⟨0, Nat.zero_le _, rfl, by show Value.int .u32 (bits .xor .u32 4294967295 (x0.toNat : Int)) = _; rw [Crc.all_ones]; rfl⟩
  case round =>
    obtain ⟨k, hk, rfl, rfl⟩ := hrel
    by_cases hlt : k < s.size
    · have hsn := Crc.take_snoc s k hlt
      obtain ⟨y, hy⟩ : ∃ y, y = Crc.run (~~~x0) (s.data.toList.take k) := ⟨_, rfl⟩
      obtain ⟨j, hj, hb, hput⟩ := Crc.byte_index y s[k]
      have hc : w3.cell? ⟨w1.heap.size, j, none⟩ = some (Crc.word (Crc.tab j)) := by
        rw [cell_of_row w3 _ _ _ _ _ Hp.out.row, Crc.row_get _ _ _ hj]; rfl
      have hfin : Crc.run (~~~x0) (s.data.toList.take (k + 1)) = Crc.tab j ^^^ (y >>> 8) := by rw [hsn, Crc.run_snoc, ← hy, hput]
      rw [← hy]
      have Hfin := Lib.hid hfin
      clear hfin hput hsn hy
      unfold Crc.word at hc
      go_wp2
      go_round
      case rel =>
        refine ⟨k + 1, by omega, by go_num, ?_⟩
        rw [Hfin.out, ← Crc.bits_xor, Crc.shr]; rfl
      case measure => simp [intOf]; omega
    · have : k = s.size := by omega
      subst this
      go_wp2
      go_ret
      refine ⟨congrArg (fun n => Ending.returned (.int .u32 n)) ?_, ?_⟩
      · show bits .xor .u32 4294967295 _ = _
        rw [Crc.all_ones, List.take_of_length_le (by simp)]; rfl
      · exact (hb1.trans (Hn.out.belowB hb1.size)).trans (Hp.out.below hb1.size)

set_option maxHeartbeats 400000 in
theorem ref_more (x0 : BitVec 32) (s : ByteArray) (w : World) (hs : s.size ≤ maxLen) :
    Calls Try.prog 62 #[.int .u32 x0.toNat, .string s] w fun e w' => e = .returned (.int .u32 (Crc.more x0 s.data.toList).toNat) ∧ w = w' := by
  unfold maxLen at hs
  have h1 := x0.isLt
  go_enter Try.func62, Try.ntmps62
  go_wp2
  go_loop [5, 6] (fun x i => ∃ k : Nat, k ≤ s.size ∧ i = .int .i64 k ∧ x = .int .u32 (Crc.run (~~~x0) (s.data.toList.take k)).toNat) (fun _ i => s.size - (intOf i).toNat)
  case atStart => exact ⟨0, Nat.zero_le _, rfl, by rw [← Crc.sub_ones]; rfl⟩
  case round =>
    obtain ⟨k, hk, rfl, rfl⟩ := hrel
    by_cases hlt : k < s.size
    · have hsn := Crc.take_snoc s k hlt
      have hd : decide ((k : Int) < (s.size : Int)) = true := by simp; omega
      obtain ⟨y, hy⟩ : ∃ y, y = Crc.run (~~~x0) (s.data.toList.take k) := ⟨_, rfl⟩
      obtain ⟨z, hz⟩ : ∃ z, z = y ^^^ BitVec.ofNat 32 s[k].toNat := ⟨_, rfl⟩
      have hfin : Crc.run (~~~x0) (s.data.toList.take (k + 1)) = Crc.stepN 8 z := by rw [hsn, Crc.run_snoc, ← hy, hz]; rfl
      have hb : bits .xor .u32 (y.toNat : Int) ((s[k].toNat : Int) % 4294967296) = (z.toNat : Int) := by
        have := Crc.bits_xor y (BitVec.ofNat 32 s[k].toNat)
        rw [← hz] at this
        rw [← this]
        rfl
      rw [← hy]
      have Hfin := Lib.hid hfin
      have Hb := Lib.hid hb
      clear hfin hsn hy hz hb
      go_wp2
      go_loop [5, 7] (fun x j => ∃ n : Nat, n ≤ 8 ∧ j = .int .i64 n ∧ x = .int .u32 (Crc.stepN n z).toNat) (fun _ j => 8 - (intOf j).toNat)
      case atStart => exact ⟨0, by omega, rfl, by rw [Hb.out]; rfl⟩
      case round =>
        obtain ⟨n, hn, rfl, rfl⟩ := hrel
        by_cases hltn : n < 8
        · go_wp2_with (go_at_call 76; refine (ref_step _ _).mono ?_; rintro e w' ⟨rfl, rfl⟩)
          go_round
          case rel => exact ⟨n + 1, by omega, by go_num, by rw [Crc.stepN_add]; rfl⟩
          case measure => simp [intOf]; omega
        · have : n = 8 := by omega
          subst this
          go_wp2
          go_round
          case rel => exact ⟨k + 1, by omega, by go_num, by rw [Hfin.out]⟩
          case measure => simp [intOf]; omega
    · have : k = s.size := by omega
      subst this
      have h2 := (Crc.run (~~~x0) (s.data.toList.take s.size)).isLt
      go_wp2
      go_ret
      refine ⟨congrArg (fun n => Ending.returned (.int .u32 n)) ?_, rfl⟩
      show 4294967295 - _ = _
      rw [← Crc.sub_ones, List.take_of_length_le (by simp)]; rfl

theorem crc_sum (s : ByteArray) (w : World) (hs : s.size ≤ maxLen) :
    Calls Try.prog 49 #[.string s] w fun e w' => e = .returned (.int .u32 (Crc.sum s.data.toList).toNat) ∧ Below w.heap.size w w' := by
  go_enter Try.func49, Try.ntmps49
  go_wp2_with (go_at_call 65; refine (crc_more 0#32 s _ hs).mono ?_; rintro e w1 ⟨rfl, hb1⟩)
  go_ret
  exact ⟨rfl, hb1⟩

theorem ref_sum (s : ByteArray) (w : World) (hs : s.size ≤ maxLen) :
    Calls Try.prog 43 #[.string s] w fun e w' => e = .returned (.int .u32 (Crc.sum s.data.toList).toNat) ∧ w = w' := by
  go_enter Try.func43, Try.ntmps43
  go_wp2_with (go_at_call 62; refine (ref_more 0#32 s _ hs).mono ?_; rintro e w1 ⟨rfl, rfl⟩)
  go_ret
  exact ⟨rfl, rfl⟩
namespace Crc
/-- the four bytes of a word, the lowest first -/
def four (x : BitVec 32) : List UInt8 := [UInt8.ofNat (x.toNat % 256), UInt8.ofNat (x.toNat / 256 % 256), UInt8.ofNat (x.toNat / 65536 % 256), UInt8.ofNat (x.toNat / 16777216)]
theorem four_cells (x : BitVec 32) : #[Value.int IntKind.u8 ((x.toNat : Int) % 256), Value.int IntKind.u8 ((x.toNat : Int) / 256 % 256),
    Value.int IntKind.u8 ((x.toNat : Int) / 65536 % 256), Value.int IntKind.u8 ((x.toNat : Int) / 16777216)] = Mem.bytes (four x) := by
  have h := x.isLt
  simp [Mem.bytes, four]
  omega
end Crc
set_option maxRecDepth 100000 in
set_option maxHeartbeats 400000 in
theorem crc_put (x : BitVec 32) (w : World) :
    Calls Try.prog 48 #[.int .u32 x.toNat] w fun e w' => e = .returned (.string (Mem.str (Crc.four x))) ∧ Below w.heap.size w w' := by
  go_enter Try.func48, Try.ntmps48
  go_wp2_with (refine Mem.wpList_bytes_string rfl 97 9 5 _ rfl Try.underlying97 Try.underlying5 Try.underlying9 _ _ _ _ rfl (Crc.four x) rfl ?_ ?_)
  · intro i h
    rw [Crc.four_cells]
    have := Mem.cell_new_bytes w (Crc.four x) 5 0 i (by simpa using h)
    simpa using this
  · go_ret
    exact ⟨rfl, (Below.refl _ _).alloc (Nat.le_refl _) _⟩
set_option maxRecDepth 100000 in
set_option maxHeartbeats 400000 in
theorem ref_put (x : BitVec 32) (w : World) :
    Calls Try.prog 42 #[.int .u32 x.toNat] w fun e w' => e = .returned (.string (Mem.str (Crc.four x))) ∧ Below w.heap.size w w' := by
  go_enter Try.func42, Try.ntmps42
  go_wp2_with (refine Mem.wpList_bytes_string rfl 97 9 5 _ rfl Try.underlying97 Try.underlying5 Try.underlying9 _ _ _ _ rfl (Crc.four x) rfl ?_ ?_)
  · intro i h
    rw [Crc.four_cells]
    have := Mem.cell_new_bytes w (Crc.four x) 5 0 i (by simpa using h)
    simpa using this
  · go_ret
    exact ⟨rfl, (Below.refl _ _).alloc (Nat.le_refl _) _⟩

end Go.Proofs.Ytgkadhogfejheaa
