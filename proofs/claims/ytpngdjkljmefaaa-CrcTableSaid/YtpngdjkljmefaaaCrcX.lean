/- The walks of package crc: powers. -/
import Derived.Test.YtpngdjkljmefaaaCrcW
namespace Go.Proofs.Ytpngdjkljmefaaa
open Go.RowKit

namespace Crc
theorem shr_pow (x : BitVec 32) (k : Nat) : (x.toNat : Int) / 2 ^ k = ((x >>> k).toNat : Int) := by
  rw [shr]; rfl
theorem sel_val (m x : BitVec 32) (k : Nat) :
    bits .and .u32 (m.toNat : Int) (-bits .and .u32 ((x.toNat : Int) / 2 ^ k) 1 % 4294967296) = ((sel m x k).toNat : Int) := by
  rw [shr_pow]
  have e1 : bits .and .u32 ((x >>> k).toNat : Int) 1 = (((x >>> k) &&& 1#32).toNat : Int) := bits_and (x >>> k) 1#32
  rw [e1, ← neg, bits_and]; rfl
theorem shl_one (k : Nat) : (2 : Int) ^ k % 4294967296 = ((1#32 <<< k).toNat : Int) := by
  rw [BitVec.toNat_shiftLeft]
  have e : (1#32).toNat = 1 := by decide
  rw [e, Nat.shiftLeft_eq, Nat.one_mul]
  have : ((2 ^ k % 2 ^ 32 : Nat) : Int) = ((2 ^ k : Nat) : Int) % 4294967296 := by omega
  rw [this]; rfl
theorem and_one_i64 (j : Nat) (h : j < 9223372036854775808) : bits .and .i64 (j : Int) 1 = ((j % 2 : Nat) : Int) := by
  have := bits_mask .i64 63 (by decide) (fun n h0 h1 => by rw [IntKind.wrap_i64]; omega) 1 (by decide) (j : Int) (by omega) (by omega)
  simpa using this
theorem mat_square (e i : Nat) : times (mat e) (mat e i) 32 = mat (e + e) i := square_all e i
theorem mat_one (i : Nat) : mat 1 i = step (1#32 <<< i) := rfl
end Crc

set_option maxHeartbeats 400000 in
theorem crc_times (x : BitVec 32) (b : Nat) (m : Nat → BitVec 32) (w : World) (hm : w.heap[b]? = some (.cells (Crc.row 32 m) 43 (0, 0))) :
    Calls Try.prog 23 #[.pointer (some ⟨b, 0, none⟩), .int .u32 x.toNat] w fun e w' => e = .returned (.int .u32 (Crc.times m x 32).toNat) ∧ ∃ n, w' = w.drewN n := by
  have Hm := Lib.hid hm
  clear hm
  go_enter Try.func23, Try.ntmps23
  go_wp2
  go_loopw [5, 7] (fun y i wr => ∃ k : Nat, k ≤ 32 ∧ i = .int .i64 k ∧ y = .int .u32 (Crc.times m x k).toNat ∧ ∃ n, wr = w.drewN n) (fun _ i _ => 32 - (intOf i).toNat)
  case atStart => exact ⟨0, by omega, rfl, rfl, 0, rfl⟩
  case round =>
    obtain ⟨k, hk, rfl, rfl, n, rfl⟩ := hrel
    by_cases hlt : k < 32
    · have hc : w.cell? ⟨b, k, none⟩ = some (Crc.word (m k)) := by
        rw [cell_of_row w b k (Crc.row 32 m) 43 (0, 0) Hm.out, Crc.row_get _ _ _ hlt]
      have hd : decide ((k : Int) < 32) = true := by simp; omega
      have hi : (k : Int) < 32 := by omega
      unfold Crc.word at hc
      go_wp2
      go_quiet (fail)
      go_wp2
      go_roundw
      case rel =>
        refine ⟨k + 1, by omega, by go_num, ?_, n + nq, rfl⟩
        rw [Crc.sel_val, Crc.bits_xor]; rfl
      case measure => simp [intOf]; omega
    · have : k = 32 := by omega
      subst this
      go_wp2
      go_ret
      exact ⟨rfl, n, rfl⟩
namespace Crc
theorem zero_mat : (Try.prog.info? 43).bind (·.zero) = some (.agg (row 32 fun _ => 0#32)) := by kernel_rfl
end Crc

set_option maxRecDepth 100000 in
set_option maxHeartbeats 400000 in
theorem crc_square (b : Nat) (m : Nat → BitVec 32) (w : World) (hb : b < w.heap.size) (hm : w.heap[b]? = some (.cells (Crc.row 32 m) 43 (0, 0))) :
    Calls Try.prog 22 #[.pointer (some ⟨b, 0, none⟩)] w fun e w' => e = .returned (.agg (Crc.row 32 fun i => Crc.times m (m i) 32)) ∧ Below w.heap.size w w' := by
  have Hm := Lib.hid hm
  clear hm
  go_enter Try.func22, Try.ntmps22
  go_wp2_with (first
    | (refine Mem.wpList_alloc (o := ⟨some 2, _, _, _, _, _⟩) rfl 43 rfl _ Crc.zero_mat ?_; intro w1 hn1; have Hn1 := Lib.hid hn1; clear hn1)
    | (refine Mem.wpList_alloc (o := ⟨some 3, _, _, _, _, _⟩) rfl 43 rfl _ Crc.zero_mat ?_; intro w2 hn2; have Hn2 := Lib.hid hn2; clear hn2))
  have hs1 := Hn1.out.size
  have hs2 := Hn2.out.size
  have Hs1 := Lib.hid hs1
  have Hs2 := Lib.hid hs2
  clear hs1 hs2
  go_loopw [5] (fun i wr => ∃ k : Nat, k ≤ 32 ∧ i = .int .i64 k ∧ Below w.heap.size w wr ∧ wr.heap[b]? = some (.cells (Crc.row 32 m) 43 (0, 0)) ∧
    wr.heap[w.heap.size]? = some (.cells (Crc.row 32 fun _ => 0#32) 43 (0, 0)) ∧
    wr.heap[w1.heap.size]? = some (.cells (Crc.row 32 fun j => if j < k then Crc.times m (m j) 32 else 0#32) 43 (0, 0))) (fun i _ => 32 - (intOf i).toNat)
  case atStart =>
    have hbel : Below w.heap.size w w2 := Hn1.out.below.trans (Hn2.out.belowB (by rw [Hs1.out]; omega))
    refine ⟨0, by omega, rfl, hbel, ?_, ?_, ?_⟩
    · rw [hbel.block b hb]; exact Hm.out
    · rw [Hn2.out.old (by rw [Hs1.out]; omega)]; exact Hn1.out.row
    · rw [Hn2.out.row]; rfl
  case round =>
    obtain ⟨k, hk, rfl, hbel, hrm, hr0, hro⟩ := hrel
    by_cases hlt : k < 32
    · have hcm : wr.cell? ⟨b, k, none⟩ = some (Crc.word (m k)) := by rw [cell_of_row wr b k _ _ _ hrm, Crc.row_get _ _ _ hlt]
      have hc : wr.cell? ⟨w1.heap.size, k, none⟩ = some (Crc.word 0#32) := by rw [cell_of_row wr _ k _ _ _ hro, Crc.row_get _ _ _ hlt]; simp
      have hf : wr.frozen? ⟨w1.heap.size, k, none⟩ = false := frozen_of_row wr _ _ _ _ hro
      have hd : decide ((k : Int) < 32) = true := by simp; omega
      have hi : (k : Int) < 32 := by omega
      have Hrm := Lib.hid hrm
      have Hr0 := Lib.hid hr0
      have Hro := Lib.hid hro
      clear hrm hr0 hro
      unfold Crc.word at hcm hc
      go_wp2_with (go_at_call 23; refine (crc_times _ b m _ Hrm.out).mono ?_; rintro e w' ⟨rfl, n, rfl⟩)
      refine ⟨⟨k + 1, by omega, by go_num, ?_⟩, by simp [intOf]; omega⟩
      have hp := Mem.put_setCell (wr.drewN n) w1.heap.size k (Crc.word (Crc.times m (m k) 32)) _ _ Hro.out
      refine ⟨(Mem.below_drewN hbel n).trans (hp.below (by rw [Hs1.out]; omega)), ?_, ?_, ?_⟩
      · exact (hp.other b (by rw [Hs1.out]; omega)).trans Hrm.out
      · exact (hp.other _ (by rw [Hs1.out]; omega)).trans Hr0.out
      · exact hp.row.trans (congrArg (fun c => some (Obj.cells c 43 (0, 0))) (Crc.row_step 32 (fun j => Crc.times m (m j) 32) (fun _ => 0#32) k))
    · have : k = 32 := by omega
      subst this
      have Hrm := Lib.hid hrm
      have Hr0 := Lib.hid hr0
      have Hro := Lib.hid hro
      clear hrm hr0 hro
      go_wp2_with (first
        | (refine wpList_load_row rfl 43 (.tmp 3) rfl _ rfl _ _ _ _ Hro.out Try.underlying43 rfl (by rw [Crc.row_size]; kernel_rfl) ?_)
        | (refine Mem.wpList_store rfl 43 (.tmp 2) (.tmp 18) rfl _ _ rfl rfl _ _ Hr0.out (by rw [Crc.row_size]; kernel_rfl) (by rw [Crc.row_size, Crc.row_size]) (Crc.row_one _ _) ?_; intro w4 hp; have Hp := Lib.hid hp; clear hp))
      refine bodyPost_ret (results_cell_row rfl _ _ w.heap.size _ _ _ _ rfl Hp.out.row Try.underlying43 rfl (by rw [Crc.row_size]; kernel_rfl)) rfl ⟨?_, ?_⟩
      · exact congrArg (fun c => Ending.returned (.agg c)) (Crc.row_congr fun i hi => by simp [hi])
      · exact hbel.trans (Hp.out.below (Nat.le_refl _))

set_option maxRecDepth 100000 in
set_option maxHeartbeats 1000000 in
theorem crc_zeros (x : BitVec 32) (n : Int) (h0 : -9223372036854775808 ≤ n) (h1 : n ≤ 9223372036854775807) (w : World) :
    Calls Try.prog 21 #[.int .u32 x.toNat, .int .i64 n] w fun e w' => e = .returned (.int .u32 (Crc.stepN (8 * n.toNat) x).toNat) ∧ Below w.heap.size w w' := by
  go_enter Try.func21, Try.ntmps21
  go_wp2_with (refine Mem.wpList_alloc rfl 43 rfl _ Crc.zero_mat ?_; intro w1 hn1; have Hn1 := Lib.hid hn1; clear hn1)
  go_loopw [7] (fun i wr => ∃ k : Nat, k ≤ 32 ∧ i = .int .i64 k ∧ Below w.heap.size w wr ∧
    wr.heap[w.heap.size]? = some (.cells (Crc.row 32 fun j => if j < k then Crc.mat 1 j else 0#32) 43 (0, 0))) (fun i _ => 32 - (intOf i).toNat)
  case atStart => exact ⟨0, by omega, rfl, Hn1.out.below, Hn1.out.row.trans rfl⟩
  case round =>
    obtain ⟨k, hk, rfl, hbel, hro⟩ := hrel
    by_cases hlt : k < 32
    · have hc : wr.cell? ⟨w.heap.size, k, none⟩ = some (Crc.word 0#32) := by rw [cell_of_row wr _ k _ _ _ hro, Crc.row_get _ _ _ hlt]; simp
      have hf : wr.frozen? ⟨w.heap.size, k, none⟩ = false := frozen_of_row wr _ _ _ _ hro
      have hd : decide ((k : Int) < 32) = true := by simp; omega
      have hi : (k : Int) < 32 := by omega
      have Hro := Lib.hid hro
      clear hro
      unfold Crc.word at hc
      go_wp2_with (go_at_call 19; rw [Crc.shl_one k]; refine (crc_step _ _).mono ?_; rintro e w' ⟨rfl, rfl⟩)
      have hp := Mem.put_setCell wr w.heap.size k (Crc.word (Crc.mat 1 k)) _ _ Hro.out
      refine ⟨⟨k + 1, by omega, by go_num, ?_⟩, by simp [intOf]; omega⟩
      refine ⟨hbel.trans (hp.below (Nat.le_refl _)), ?_⟩
      exact hp.row.trans (congrArg (fun c => some (Obj.cells c 43 (0, 0))) (Crc.row_step 32 (Crc.mat 1) (fun _ => 0#32) k))
    · have : k = 32 := by omega
      subst this
      have hro2 : wr.heap[w.heap.size]? = some (.cells (Crc.row 32 (Crc.mat 1)) 43 (0, 0)) := hro.trans (congrArg (fun c => some (Obj.cells c 43 (0, 0))) (Crc.row_congr fun i hi => by simp [hi]))
      have Hro := Lib.hid hro2
      clear hro hro2
      rw [show (((32 : Nat)) : Int) = 32 from rfl]
      go_wp2
      obtain ⟨wo, rfl⟩ : ∃ wo : World, wo = wr := ⟨_, rfl⟩
      go_loopw [16] (fun i ws => ∃ k : Nat, k ≤ 3 ∧ i = .int .i64 k ∧ Below w.heap.size w ws ∧
        ws.heap[w.heap.size]? = some (.cells (Crc.row 32 (Crc.mat (2 ^ k))) 43 (0, 0))) (fun i _ => 3 - (intOf i).toNat)
      case atStart => exact ⟨0, by omega, rfl, hbel, Hro.out⟩
      case round =>
        obtain ⟨k, hk, rfl, hbel2, hrk⟩ := hrel
        have hsz : w.heap.size < wr.heap.size := (Array.getElem?_eq_some_iff.1 hrk).1
        have Hrk := Lib.hid hrk
        clear hrk
        by_cases hlt : k < 3
        · have hd : decide ((k : Int) < 3) = true := by simp; omega
          go_wp2_with (first
            | (go_at_call 22; refine (crc_square _ _ _ hsz Hrk.out).mono ?_; rintro e w3 ⟨rfl, hb3⟩)
            | (refine Mem.wpList_store rfl 43 (.tmp 5) (.tmp 18) rfl _ _ rfl rfl _ _ ((hb3.block _ hsz).trans Hrk.out) (by rw [Crc.row_size]; kernel_rfl) (by rw [Crc.row_size, Crc.row_size]) (Crc.row_one _ _) ?_; intro w4 hp; have Hp := Lib.hid hp; clear hp))
          refine ⟨⟨k + 1, by omega, by go_num, ?_⟩, by simp [intOf]; omega⟩
          refine ⟨(hbel2.trans (hb3.mono (by omega))).trans (Hp.out.below (Nat.le_refl _)), ?_⟩
          exact Hp.out.row.trans (congrArg (fun c => some (Obj.cells c 43 (0, 0))) (Crc.row_congr fun i _ => by rw [Crc.mat_square, Nat.pow_succ]; congr 1; omega))
        · have : k = 3 := by omega
          subst this
          have Hw := Lib.hid hbel2
          rw [show (((3 : Nat)) : Int) = 3 from rfl]
          go_wp2
          obtain ⟨wp, rfl⟩ : ∃ wp : World, wp = wr := ⟨_, rfl⟩
          go_loopw [0, 1] (fun y j wr => ∃ (e : Nat) (v : BitVec 32) (i : Int), j = .int .i64 i ∧ y = .int .u32 v.toNat ∧ -9223372036854775808 ≤ i ∧ i ≤ 9223372036854775807 ∧ Crc.stepN (e * i.toNat) v = Crc.stepN (8 * n.toNat) x ∧
            Below w.heap.size w wr ∧ wr.heap[w.heap.size]? = some (.cells (Crc.row 32 (Crc.mat e)) 43 (0, 0))) (fun _ j _ => (intOf j).toNat)
          case atStart => exact ⟨8, x, n, rfl, rfl, h0, h1, rfl, hbel2, Hrk.out⟩
          case round =>
            obtain ⟨e, v, i, rfl, rfl, hi0, hi1, hst, hbel3, hre⟩ := hrel
            have hsz : w.heap.size < wr.heap.size := (Array.getElem?_eq_some_iff.1 hre).1
            have Hre := Lib.hid hre
            have Hst := Lib.hid hst
            clear hre hst
            by_cases hpos : 0 < i
            · obtain ⟨j, rfl⟩ : ∃ j : Nat, i = j := ⟨i.toNat, by omega⟩
              have hd : decide ((0 : Int) < (j : Int)) = true := by simp; omega
              have hand := Crc.and_one_i64 j (by omega)
              by_cases hodd : j % 2 = 1
              · have hb : bits .and .i64 (j : Int) 1 = 1 := by rw [hand, hodd]; rfl
                clear hand
                go_wp2_with (first
                  | (go_at_call 23; refine (crc_times v _ _ _ Hre.out).mono ?_; rintro e1 w2 ⟨rfl, q, rfl⟩)
                  | (go_at_call 22; refine (crc_square _ (Crc.mat e) _ (show w.heap.size < (wr.drewN q).heap.size from hsz) Hre.out).mono ?_; rintro e1 w3 ⟨rfl, hb3⟩)
                  | (refine Mem.wpList_store rfl 43 (.tmp 5) (.tmp 27) rfl _ _ rfl rfl _ _ ((hb3.block _ hsz).trans Hre.out) (by rw [Crc.row_size]; kernel_rfl) (by rw [Crc.row_size, Crc.row_size]) (Crc.row_one _ _) ?_; intro w4 hp; have Hp := Lib.hid hp; clear hp))
                refine ⟨⟨e + e, Crc.stepN e v, (j : Int) / 2, rfl, by rw [Crc.times_all], by omega, by omega, ?_, ?_, ?_⟩, by simp [intOf]; omega⟩
                · rw [← Hst.out, show ((j : Int) / 2).toNat = j / 2 by omega, Crc.odd_round _ _ _ hodd]; rfl
                · exact ((Mem.below_drewN hbel3 q).trans (hb3.mono (Nat.le_of_lt hsz))).trans (Hp.out.below (Nat.le_refl _))
                · exact Hp.out.row.trans (congrArg (fun c => some (Obj.cells c 43 (0, 0))) (Crc.row_congr fun i _ => by rw [Crc.mat_square]))
              · have hb : bits .and .i64 (j : Int) 1 = 0 := by rw [hand, show j % 2 = 0 by omega]; rfl
                clear hand
                go_wp2_with (first
                  | (go_at_call 22; refine (crc_square _ (Crc.mat e) _ hsz Hre.out).mono ?_; rintro e1 w3 ⟨rfl, hb3⟩)
                  | (refine Mem.wpList_store rfl 43 (.tmp 5) (.tmp 27) rfl _ _ rfl rfl _ _ ((hb3.block _ hsz).trans Hre.out) (by rw [Crc.row_size]; kernel_rfl) (by rw [Crc.row_size, Crc.row_size]) (Crc.row_one _ _) ?_; intro w4 hp; have Hp := Lib.hid hp; clear hp))
                refine ⟨⟨e + e, v, (j : Int) / 2, rfl, rfl, by omega, by omega, ?_, ?_, ?_⟩, by simp [intOf]; omega⟩
                · rw [← Hst.out, show ((j : Int) / 2).toNat = j / 2 by omega, Crc.even_round _ _ _ (by omega)]; rfl
                · exact (hbel3.trans (hb3.mono (Nat.le_of_lt hsz))).trans (Hp.out.below (Nat.le_refl _))
                · exact Hp.out.row.trans (congrArg (fun c => some (Obj.cells c 43 (0, 0))) (Crc.row_congr fun i _ => by rw [Crc.mat_square]))
            · go_wp2
              go_ret
              refine ⟨congrArg (fun z => Ending.returned (.int .u32 z)) ?_, hbel3⟩
              have h2 := Hst.out
              rw [show i.toNat = 0 by omega, Nat.mul_zero] at h2
              rw [← h2]; rfl

set_option maxHeartbeats 400000 in
theorem crc_join (x y : BitVec 32) (n : Int) (h0 : -9223372036854775808 ≤ n) (h1 : n ≤ 9223372036854775807) (w : World) :
    Calls Try.prog 18 #[.int .u32 x.toNat, .int .u32 y.toNat, .int .i64 n] w fun e w' => e = .returned (.int .u32 (Crc.stepN (8 * n.toNat) x ^^^ y).toNat) ∧ Below w.heap.size w w' := by
  go_enter Try.func18, Try.ntmps18
  go_wp2_with (go_at_call 21; refine (crc_zeros x n h0 h1 _).mono ?_; rintro e w1 ⟨rfl, hb1⟩)
  go_ret
  exact ⟨congrArg (fun z => Ending.returned (.int .u32 z)) (Crc.bits_xor _ _), hb1⟩
end Go.Proofs.Ytpngdjkljmefaaa
