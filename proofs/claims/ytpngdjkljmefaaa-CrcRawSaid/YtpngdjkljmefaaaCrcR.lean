/- The walks of the laws CrcRaw, CrcTurned. -/
import Derived.Test.YtpngdjkljmefaaaCrcL
namespace Go.Proofs.Ytpngdjkljmefaaa
open Go.RowKit
set_option linter.unusedVariables false

namespace Crc
theorem zeros_value (x y : BitVec 32) (n : Nat) : stepN (8 * n) x ^^^ y = (more x (List.replicate n 0) ^^^ y) ^^^ sum (List.replicate n 0) := by
  rw [run_zeros]
  generalize stepN (8 * n) x = a; generalize sum (List.replicate n 0) = b
  rw [BitVec.xor_assoc, BitVec.xor_assoc, BitVec.xor_comm y, ← BitVec.xor_assoc b, BitVec.xor_self, BitVec.zero_xor]
theorem info_byte : (Try.prog.info? 5).map (fun i => (i.zero, i.size, i.bytes)) = some (some (.int .u8 0), 1, 1) := by kernel_rfl
theorem of_u8 {n : Int} (h : (Lit.int .u8 n).wf = true) : ∃ x : UInt8, n = (x.toNat : Int) := by
  have h2 : 0 ≤ n ∧ n ≤ 255 := by simpa [Lit.wf, IntKind.min, IntKind.max, IntKind.signed, IntKind.bits] using h
  exact ⟨UInt8.ofNat n.toNat, by rw [UInt8.toNat_ofNat']; omega⟩
/-- a text with some bytes from k on turned by others, i of them so far -/
def turn (l : List UInt8) (k : Nat) (by_ : List UInt8) (i : Nat) : List UInt8 := l.mapIdx fun j c => if k ≤ j ∧ j < k + i then c ^^^ by_.getD (j - k) 0 else c
theorem turn_zero (l : List UInt8) (k : Nat) (b : List UInt8) : turn l k b 0 = l := by
  apply List.ext_getElem (by simp [turn])
  intro j h1 h2
  simp [turn]; omega
theorem turn_length (l : List UInt8) (k : Nat) (b : List UInt8) (i : Nat) : (turn l k b i).length = l.length := by simp [turn]
theorem turn_at (l : List UInt8) (k : Nat) (b : List UInt8) (i : Nat) (h : k + i < l.length) : (turn l k b i)[k + i]'(by rw [turn_length]; exact h) = l[k + i] := by simp [turn]
theorem bytes_pad_set (l : List UInt8) (pad : Array Value) (i : Nat) (c : UInt8) (h : i < l.length) :
    (Mem.bytes l ++ pad).setIfInBounds i (.int .u8 (c.toNat : Int)) = Mem.bytes (l.set i c) ++ pad := by
  rw [Array.setIfInBounds_append_left (by rw [Mem.bytes_size]; exact h)]
  congr 1
  simp [Mem.bytes, List.map_set]
theorem turn_step (l : List UInt8) (k : Nat) (b : List UInt8) (i : Nat) (cb : UInt8) (h : k + i < l.length) (hb : b[i]? = some cb) :
    (turn l k b i).set (k + i) (l[k + i] ^^^ cb) = turn l k b (i + 1) := by
  apply List.ext_getElem (by simp [turn])
  intro j h1 h2
  simp only [turn, List.getElem_set, List.getElem_mapIdx]
  by_cases e : k + i = j
  · subst e; simp [hb]
  · by_cases h3 : k ≤ j ∧ j < k + i
    · have : k ≤ j ∧ j < k + (i + 1) := by omega
      simp [e, h3, this]
    · have : ¬ (k ≤ j ∧ j < k + (i + 1)) := by omega
      simp [e, h3, this]
theorem split4 (l : List UInt8) (k : Nat) (h : k + 4 ≤ l.length) : ∃ x y a b c d, l = x ++ [a, b, c, d] ++ y ∧ x.length = k := by
  refine ⟨l.take k, l.drop (k + 4), l[k], l[k + 1], l[k + 2], l[k + 3], ?_, by simp; omega⟩
  have h1 : l = l.take k ++ l.drop k := (List.take_append_drop k l).symm
  have h2 : l.drop k = [l[k], l[k + 1], l[k + 2], l[k + 3]] ++ l.drop (k + 4) := by
    rw [List.drop_eq_getElem_cons (by omega), List.drop_eq_getElem_cons (by omega), List.drop_eq_getElem_cons (by omega), List.drop_eq_getElem_cons (by omega)]; rfl
  rw [List.append_assoc, ← h2]; exact h1
theorem turn_four (x y : List UInt8) (a b c d p q r s : UInt8) : turn (x ++ [a, b, c, d] ++ y) x.length [p, q, r, s] 4 = x ++ [a ^^^ p, b ^^^ q, c ^^^ r, d ^^^ s] ++ y := by
  unfold turn
  have same : ∀ (f : Nat → UInt8 → UInt8) (z : List UInt8), (∀ i (h : i < z.length), f i z[i] = z[i]) → List.mapIdx f z = z := by
    intro f z h
    apply List.ext_getElem (by simp)
    intro j h1 h2
    rw [List.getElem_mapIdx]; exact h j h2
  rw [List.append_assoc, List.append_assoc, List.mapIdx_append, List.mapIdx_append]
  rw [same _ x (by intro i h; rw [if_neg (by omega)]), same _ y (by intro i h; rw [if_neg (by simp; omega)])]
  congr 1
  simp
  omega
theorem xor_same (a p : UInt8) : a ^^^ p = a ↔ p = 0 := by
  constructor
  · intro h
    have := congrArg (a ^^^ ·) h
    simpa [← UInt8.xor_assoc] using this
  · rintro rfl; simp
theorem turned_bool (l : List UInt8) (k : Nat) (h : k + 4 ≤ l.length) (p q r s : UInt8) :
    ((((sum (turn l k [p, q, r, s] 4)).toNat : Int) == ((sum l).toNat : Int)) == (((p.toNat : Int) == 0) && (((q.toNat : Int) == 0) && (((r.toNat : Int) == 0) && ((s.toNat : Int) == 0))))) = true := by
  obtain ⟨x, y, a, b, c, d, rfl, rfl⟩ := split4 l k h
  rw [turn_four]
  have hz : ∀ u : UInt8, ((u.toNat : Int) == 0) = decide (u = 0) := by
    intro u; rw [Bool.eq_iff_iff]; simp only [beq_iff_eq, decide_eq_true_eq, ← UInt8.toNat_inj]; simp
  have he : ∀ u v : BitVec 32, ((u.toNat : Int) == (v.toNat : Int)) = decide (u = v) := by
    intro u v; rw [Bool.eq_iff_iff]; simp only [beq_iff_eq, decide_eq_true_eq, ← BitVec.toNat_inj]; omega
  rw [hz, hz, hz, hz, he]
  have ht := turned x y (a ^^^ p) (b ^^^ q) (c ^^^ r) (d ^^^ s) a b c d
  simp only [xor_same] at ht
  rw [Bool.beq_eq_decide_eq, decide_eq_true_eq, Bool.eq_iff_iff]
  simp only [decide_eq_true_eq, Bool.and_eq_true]
  exact ht
theorem info4 : ∃ i, Try.prog.info? 5 = some i := by
  have h := info_byte
  cases hq : Try.prog.info? 5 with
  | none => rw [hq] at h; cases h
  | some i => exact ⟨i, rfl⟩
theorem cells_byte : Try.prog.cellsOf 5 = 1 := by kernel_rfl
theorem part_byte (xs : Array Value) (i : Nat) (v : Value) (h : xs[i]? = some v) (w : World) : (part 5 xs i).run Try.prog w = .ok v w := by
  have hi : i < xs.size := by
    rcases Nat.lt_or_ge i xs.size with h2 | h2
    · exact h2
    · rw [Array.getElem?_eq_none h2] at h; cases h
  have hv : xs[i] = v := by rw [Array.getElem?_eq_getElem hi] at h; injection h
  simp [part, isAgg, run_underlying Try.underlying5, hi, hv]
theorem eqItems_byte (X Y : Array Value) (xs ys : Nat → Int) : ∀ (is : List Nat) (w : World), (∀ j ∈ is, X[j]? = some (.int .u8 (xs j)) ∧ Y[j]? = some (.int .u8 (ys j))) →
    (Op.eqItems 9999 5 1 X Y is).run Try.prog w = .ok (is.all fun j => xs j == ys j) w
  | [], w, _ => by simp [Op.eqItems]
  | j :: is, w, h => by
    obtain ⟨h1, h2⟩ := h j (by simp)
    simp only [Op.eqItems, Sem.run_bind, Nat.mul_one]
    rw [part_byte X j _ h1]
    simp only [Result.andThen_ok]
    rw [part_byte Y j _ h2]
    simp only [Result.andThen_ok]
    rw [run_equalIn_int w 9998 _ _ _ _ _ Try.underlying5]
    simp only [Result.andThen_ok]
    cases hb : (xs j == ys j)
    · simp [hb]
    · simp only [Bool.not_true, Bool.false_eq_true, if_false]
      rw [eqItems_byte X Y xs ys is w (fun k hk => h k (by simp [hk]))]
      simp [hb]
theorem eq4 (a b c d : UInt8) (w : World) : (Op.equalIn 10000 27 (.agg #[.int .u8 a.toNat, .int .u8 b.toNat, .int .u8 c.toNat, .int .u8 d.toNat]) (.agg #[.int .u8 0, .int .u8 0, .int .u8 0, .int .u8 0])).run Try.prog w =
    .ok (((a.toNat : Int) == 0) && (((b.toNat : Int) == 0) && (((c.toNat : Int) == 0) && ((d.toNat : Int) == 0)))) w := by
  obtain ⟨i, hi⟩ := info4
  rw [run_equalIn_array w 9999 _ _ Try.underlying27 hi, cells_byte,
    eqItems_byte _ _ (fun j => ([a, b, c, d].getD j 0).toNat) (fun _ => 0) _ w (by
      intro j hj
      have hj4 : j < 4 := by simpa using hj
      match j, hj4 with
      | 0, _ => exact ⟨rfl, rfl⟩
      | 1, _ => exact ⟨rfl, rfl⟩
      | 2, _ => exact ⟨rfl, rfl⟩
      | 3, _ => exact ⟨rfl, rfl⟩)]
  rw [show List.range 4 = [0, 1, 2, 3] from rfl]
  simp only [List.all_cons, List.all_nil, Bool.and_true]
  rfl
theorem four_get {c0 c1 c2 c3 cb : UInt8} {i : Nat} (h : [c0, c1, c2, c3][i]? = some cb) :
    (Value.agg #[.int .u8 c0.toNat, .int .u8 c1.toNat, .int .u8 c2.toNat, .int .u8 c3.toNat]).cells[i]? = some (.int .u8 (cb.toNat : Int)) := by
  have e : (Value.agg #[.int .u8 c0.toNat, .int .u8 c1.toNat, .int .u8 c2.toNat, .int .u8 c3.toNat]).cells = Mem.bytes [c0, c1, c2, c3] := rfl
  rw [e]
  have hi : i < [c0, c1, c2, c3].length := by
    rcases Nat.lt_or_ge i [c0, c1, c2, c3].length with h2 | h2
    · exact h2
    · rw [List.getElem?_eq_none h2] at h; cases h
  rw [Mem.bytes_get _ _ hi]
  rw [List.getElem?_eq_getElem hi] at h
  injection h with h; rw [h]
theorem beq_self (x y : BitVec 32) (h : x = y) : ((x.toNat : Int) == (y.toNat : Int)) = true := by subst h; simp
end Crc
/-! ### CrcRaw -/
set_option maxRecDepth 100000 in
set_option maxHeartbeats 400000 in
theorem crcRaw_walk (a0 : Int) (a1 : Int) (a2 : Int) (w : World) (wa0 : (Lit.int .u32 a0).wf = true) (wa1 : (Lit.int .u32 a1).wf = true) (wa2 : (Lit.int .i64 a2).wf = true) :
    Calls Try.prog 8 #[.int .u32 a0, .int .u32 a1, .int .i64 a2] w fun e w' => e = .returned (.bool true) ∧ Below w.heap.size w w' := by
  obtain ⟨x, rfl⟩ := Crc.of_u32 wa0
  obtain ⟨y, rfl⟩ := Crc.of_u32 wa1
  have h2 : -9223372036854775808 ≤ a2 ∧ a2 ≤ 9223372036854775807 := by simpa [Lit.wf, IntKind.min, IntKind.max, IntKind.signed, IntKind.bits] using wa2
  clear wa0 wa1 wa2
  obtain ⟨h20, h21⟩ := h2
  by_cases hbig : 5000 < a2
  · go_enter Try.func8, Try.ntmps8
    go_wp2_with (go_at_call 9; refine (crc_alive _).mono ?_; rintro e w0 ⟨rfl, hb0⟩)
    go_ret
    exact ⟨rfl, hb0⟩
  · by_cases hpos : 0 < a2
    · go_enter Try.func8, Try.ntmps8
      obtain ⟨n, rfl⟩ : ∃ n : Nat, a2 = n := ⟨a2.toNat, by omega⟩
      go_wp2_with (first
        | (go_at_call 9; refine (crc_alive _).mono ?_; rintro e w0 ⟨rfl, hb0⟩)
        | (refine Mem.wpList_make rfl _ _ 28 5 rfl Try.underlying28 _ _ _ Crc.info_byte _ _ _ _ rfl rfl (by omega) (by omega) (by omega) (by omega) ?_; intro wm hn; have hb1 := hn.below; have Hn := Lib.hid hn; clear hn)
        | (refine Mem.wpList_bytes_string rfl 28 9 5 _ rfl Try.underlying28 Try.underlying5 Try.underlying9 _ _ _ _ rfl (List.replicate n 0) (by simp) (by intro i h; exact Hn.out.cell1 _ (by rw [Mem.madeCells_byte]; rw [Nat.zero_add, Mem.bytes_get _ _ (by simpa using h)]; simp)) ?_))
      have hlen : (Mem.str (List.replicate n 0)).size ≤ maxLen := by rw [Mem.str_size, List.length_replicate]; unfold maxLen; omega
      refine (crc_join _ _ _ h20 h21 _).mono ?_
      rintro e w1 ⟨rfl, hb2⟩
      go_wp2_with fail
      refine (ref_more _ _ _ hlen).mono ?_
      rintro e w9 ⟨rfl, rfl⟩
      go_wp2_with fail
      refine (ref_sum _ _ hlen).mono ?_
      rintro e w9 ⟨rfl, rfl⟩
      go_wp2_with fail
      go_ret
      refine ⟨congrArg (fun b => Ending.returned (.bool b)) ?_, Mem.then_ (Mem.then_ hb0 hb1) hb2⟩
      show (((_ : Nat) : Int) == _) = true
      rw [Crc.bits_xor, Crc.bits_xor, ← BitVec.toNat_xor]
      apply Crc.beq_self
      rw [Mem.str_toList, ← Crc.zeros_value]
    · have h0 : a2.toNat = 0 := by omega
      have hlen : (⟨#[]⟩ : ByteArray).size ≤ maxLen := by unfold maxLen; decide
      have H0 := Lib.hid h0
      clear h0
      go_enter Try.func8, Try.ntmps8
      go_wp2_with (first
        | (go_at_call 9; refine (crc_alive _).mono ?_; rintro e w0 ⟨rfl, hb0⟩)
        | (go_at_call 18; refine (crc_join _ _ _ h20 h21 _).mono ?_; rintro e w1 ⟨rfl, hb2⟩)
        | (go_at_call 15; refine (ref_more _ _ _ hlen).mono ?_; rintro e w9 ⟨rfl, rfl⟩)
        | (go_at_call 13; refine (ref_sum _ _ hlen).mono ?_; rintro e w9 ⟨rfl, rfl⟩))
      go_ret
      refine ⟨congrArg (fun b => Ending.returned (.bool b)) ?_, Mem.then_ hb0 hb2⟩
      show (((_ : Nat) : Int) == _) = true
      rw [Crc.bits_xor, Crc.bits_xor, ← BitVec.toNat_xor]
      apply Crc.beq_self
      rw [H0.out]
      have := Crc.zeros_value x y 0
      simpa using this

/-! ### CrcTurned -/
set_option maxRecDepth 100000 in
set_option maxHeartbeats 1000000 in
theorem crcTurned_walk (a0 : ByteArray) (a1 : Int) (a2_0 : Int) (a2_1 : Int) (a2_2 : Int) (a2_3 : Int) (w : World) (wa0 : a0.size ≤ maxLen) (wa1 : (Lit.int .i64 a1).wf = true) (wa2_0 : (Lit.int .u8 a2_0).wf = true) (wa2_1 : (Lit.int .u8 a2_1).wf = true) (wa2_2 : (Lit.int .u8 a2_2).wf = true) (wa2_3 : (Lit.int .u8 a2_3).wf = true) :
    Calls Try.prog 4 #[.string a0, .int .i64 a1, .agg #[.int .u8 a2_0, .int .u8 a2_1, .int .u8 a2_2, .int .u8 a2_3]] w fun e w' => e = .returned (.bool true) ∧ Below w.heap.size w w' := by
  have h1 : -9223372036854775808 ≤ a1 ∧ a1 ≤ 9223372036854775807 := by simpa [Lit.wf, IntKind.min, IntKind.max, IntKind.signed, IntKind.bits] using wa1
  obtain ⟨h10, h11⟩ := h1
  unfold maxLen at wa0
  clear wa1
  by_cases hgo : a0.size ≤ 2000 ∧ 0 ≤ a1 ∧ a1 ≤ (a0.size : Int) - 4
  · obtain ⟨hs, hp, hq⟩ := hgo
    obtain ⟨k, rfl⟩ : ∃ k : Nat, a1 = k := ⟨a1.toNat, by omega⟩
    obtain ⟨c0, rfl⟩ := Crc.of_u8 wa2_0
    obtain ⟨c1, rfl⟩ := Crc.of_u8 wa2_1
    obtain ⟨c2, rfl⟩ := Crc.of_u8 wa2_2
    obtain ⟨c3, rfl⟩ := Crc.of_u8 wa2_3
    clear wa2_0 wa2_1 wa2_2 wa2_3
    go_enter Try.func4, Try.ntmps4
    go_wp2_with (first
      | (refine Mem.wpList_box rfl 27 (.tmp 2) rfl _ rfl ?_; intro wb hn; have hb0 := hn.below; have Hn := Lib.hid hn; clear hn)
      | (go_at_call 9; refine (crc_alive _).mono ?_; rintro e w0 ⟨rfl, hb1⟩)
      | (refine Mem.wpList_string_bytes rfl 9 28 5 _ rfl Try.underlying9 Try.underlying28 Try.underlying5 a0 rfl ?_; intro w2 cap hcap hrow hsz hb2; have Hrow := Lib.hid hrow; have Hsz := Lib.hid hsz; clear hrow hsz))
    have hB : w.heap.size < w0.heap.size := Nat.lt_of_lt_of_le (by rw [Hn.out.size]; omega) hb1.size
    go_loopw [8] (fun t8 wr => ∃ i : Nat, i ≤ 4 ∧ t8 = .int .i64 i ∧ Below w0.heap.size w0 wr ∧
      wr.heap[w0.heap.size]? = some (.cells (Mem.bytes (Crc.turn a0.data.toList k [c0, c1, c2, c3] i) ++ Array.replicate (cap - a0.size) (.int .u8 0)) 5 (cap, cap + 1))) (fun t8 _ => 4 - (intOf t8).toNat)
    case atStart => exact ⟨0, by omega, rfl, hb2, by rw [Crc.turn_zero]; exact Hrow.out⟩
    case round =>
      obtain ⟨i, hi, rfl, hbel, hrow⟩ := hrel
      by_cases hlt : i < 4
      · have hd : decide ((i : Int) < 4) = true := by simp; omega
        obtain ⟨cb, hcb⟩ : ∃ cb : UInt8, [c0, c1, c2, c3][i]? = some cb := ⟨_, List.getElem?_eq_getElem (by simpa using hlt)⟩
        have hby : wr.cell? ⟨w.heap.size, i, none⟩ = some (.int .u8 (cb.toNat : Int)) := by
          rw [hbel.cell (p := ⟨w.heap.size, i, none⟩) hB]
          exact Hn.out.cell hb1 i (Crc.four_get hcb)
        have hki : k + i < a0.data.toList.length := by have : a0.data.toList.length = a0.size := by simp; 
                                                       omega
        have hc : wr.cell? ⟨w0.heap.size, k + i, none⟩ = some (.int .u8 ((a0.data.toList[k + i]).toNat : Int)) := by
          rw [cell_of_row _ _ _ _ _ _ hrow, Array.getElem?_append_left (by rw [Mem.bytes_size, Crc.turn_length]; exact hki), Mem.bytes_get _ _ (by rw [Crc.turn_length]; exact hki), Crc.turn_at _ _ _ _ hki]
        have hf : wr.frozen? ⟨w0.heap.size, k + i, none⟩ = false := Mem.free_of_row _ _ _ _ _ _ _ hrow (by have : a0.data.toList.length = a0.size := by simp
                                                                                                           omega)
        obtain ⟨ca, hca⟩ : ∃ ca, ca = a0.data.toList[k + i] := ⟨_, rfl⟩
        rw [← hca] at hc
        have Hca := Lib.hid hca
        have Hrow2 := Lib.hid hrow
        have hcb := Lib.hid hcb
        clear hrow hca
        have hx1 : (k : Int) + (i : Int) < (a0.size : Int) := by omega
        have hx2 : (0 : Int) ≤ (k : Int) + (i : Int) := by omega
        have hx3 : (i : Int) < 4 := by omega
        have hxor : bits .xor .u8 (ca.toNat : Int) (cb.toNat : Int) = ((ca ^^^ cb).toNat : Int) := by
          rw [u8_xor_nat _ _ ca.toNat_lt cb.toNat_lt, UInt8.toNat_xor]
        have hset := Mem.row_setCell wr w0.heap.size (k + i) (.int .u8 ((ca ^^^ cb).toNat : Int)) _ _ _ Hrow2.out
        rw [Crc.bytes_pad_set _ _ _ _ (by rw [Crc.turn_length]; exact hki), Hca.out, Crc.turn_step _ _ _ _ _ hki hcb.out] at hset
        rw [← Hca.out] at hset
        have Hset := Lib.hid hset
        have Hxor := Lib.hid hxor
        clear hset hxor
        go_wp2
        go_region
        rw [Hxor.out]
        go_wp2
        refine ⟨⟨i + 1, by omega, by go_num, ?_, Hset.out⟩, by simp [intOf]; omega⟩
        exact (hbel.setCell (Nat.le_refl _) _).drew
      · have : i = 4 := by omega
        subst this
        obtain ⟨L, hL⟩ : ∃ L, L = Crc.turn a0.data.toList k [c0, c1, c2, c3] 4 := ⟨_, rfl⟩
        have hLl : L.length = a0.size := by rw [hL, Crc.turn_length]; simp
        rw [← hL] at hrow
        have hbw : Below w.heap.size w wr := (Mem.then_ hb0 hb1).trans (hbel.mono (Nat.le_of_lt hB))
        have heq := Crc.eq4 c0 c1 c2 c3
        have hconv : ∀ i : Mem.Later wr, (convert 28 9 (.slice (some ⟨w0.heap.size, 0, none⟩) a0.size cap)).run Try.prog i.w = .ok (.string (Mem.str L)) i.w := by
          intro i
          refine Mem.run_bytes_string Try.underlying28 Try.underlying5 Try.underlying9 hLl ?_
          intro j hj
          refine i.cell ?_
          rw [cell_of_row _ _ _ _ _ _ hrow, Nat.zero_add, Array.getElem?_append_left (by rw [Mem.bytes_size]; exact hj), Mem.bytes_get _ _ hj]
        have hcell : ∀ (j : Nat) (v : Value), (Mem.bytes [c0, c1, c2, c3])[j]? = some v → wr.cell? ⟨w.heap.size, j, none⟩ = some v := by
          intro j v hv
          rw [hbel.cell (p := ⟨w.heap.size, j, none⟩) hB]
          exact Hn.out.cell hb1 j hv
        have q0 : ∀ i : Mem.Later wr, i.w.cell? ⟨w.heap.size, 0, none⟩ = some (.int .u8 (c0.toNat : Int)) := fun i => i.cell (hcell 0 _ rfl)
        have q1 : ∀ i : Mem.Later wr, i.w.cell? ⟨w.heap.size, 1, none⟩ = some (.int .u8 (c1.toNat : Int)) := fun i => i.cell (hcell 1 _ rfl)
        have q2 : ∀ i : Mem.Later wr, i.w.cell? ⟨w.heap.size, 2, none⟩ = some (.int .u8 (c2.toNat : Int)) := fun i => i.cell (hcell 2 _ rfl)
        have q3 : ∀ i : Mem.Later wr, i.w.cell? ⟨w.heap.size, 3, none⟩ = some (.int .u8 (c3.toNat : Int)) := fun i => i.cell (hcell 3 _ rfl)
        have HL := Lib.hid hL
        have Hlen := Lib.hid (show (Mem.str L).size ≤ maxLen by rw [Mem.str_size, hLl]; unfold maxLen; omega)
        have Hlen0 := Lib.hid (show a0.size ≤ maxLen by unfold maxLen; omega)
        clear hL hLl hrow hcell
        go_wp2
        refine Mem.wp_region_later (by kernel_rfl) (by kernel_rfl) ?_
        repeat (go_big_quiet_step ((go_at_call 12; first | (refine Mem.later_call (crc_sum _ _ Hlen.out)) | (refine Mem.later_call (crc_sum _ _ Hlen0.out)))))
        refine wpQuiet_nil ?_
        rintro _ ⟨⟨wq, hq⟩, rfl⟩
        go_wp2
        go_ret
        refine ⟨congrArg (fun b => Ending.returned (.bool b)) ?_, Mem.then_ hbw hq⟩
        rw [Mem.str_toList, HL.out]
        exact Crc.turned_bool _ _ (by have : a0.data.toList.length = a0.size := by simp
                                      omega) _ _ _ _
  · go_enter Try.func4, Try.ntmps4
    go_wp2_with (first
      | (refine Mem.wpList_box rfl 27 (.tmp 2) rfl _ rfl ?_; intro wb hn; have hb0 := hn.below; have Hn := Lib.hid hn; clear hn)
      | (go_at_call 9; refine (crc_alive _).mono ?_; rintro e w0 ⟨rfl, hb1⟩)
      | (exfalso; omega))
    all_goals (go_ret; exact ⟨rfl, Mem.then_ hb0 hb1⟩)
end Go.Proofs.Ytpngdjkljmefaaa
