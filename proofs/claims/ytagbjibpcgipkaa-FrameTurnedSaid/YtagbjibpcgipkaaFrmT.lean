/- The laws of chapter 05: FrameTurned. -/
import Derived.Test.YtagbjibpcgipkaaFrmK
namespace Go.Proofs.Ytagbjibpcgipkaa
open Go.RowKit
set_option linter.unusedVariables false

namespace Crc
theorem info_byte : (Try.prog.info? 5).map (fun i => (i.zero, i.size, i.bytes)) = some (some (.int .u8 0), 1, 1) := by kernel_rfl
theorem of_u8 {n : Int} (h : (Lit.int .u8 n).wf = true) : ∃ x : UInt8, n = (x.toNat : Int) := by
  have h2 : 0 ≤ n ∧ n ≤ 255 := by simpa [Lit.wf, IntKind.min, IntKind.max, IntKind.signed, IntKind.bits] using h
  exact ⟨UInt8.ofNat n.toNat, by rw [UInt8.toNat_ofNat']; omega⟩
/-- a text with some bytes from k on turned by others, i of them so far -/
def turn (l : List UInt8) (k : Nat) (by_ : List UInt8) (i : Nat) : List UInt8 := l.mapIdx fun j c => if k ≤ j ∧ j < k + i then c ^^^ by_.getD (j - k) 0 else c
theorem turn_zero (l : List UInt8) (k : Nat) (b : List UInt8) : turn l k b 0 = l := by
  apply List.ext_getElem (by simp [turn])
  intro j h1 h2
  simp [turn]; omega
theorem turn_length (l : List UInt8) (k : Nat) (b : List UInt8) (i : Nat) : (turn l k b i).length = l.length := by simp [turn]
theorem turn_at (l : List UInt8) (k : Nat) (b : List UInt8) (i : Nat) (h : k + i < l.length) : (turn l k b i)[k + i]'(by rw [turn_length]; exact h) = l[k + i] := by simp [turn]
theorem bytes_pad_set (l : List UInt8) (pad : Array Value) (i : Nat) (c : UInt8) (h : i < l.length) :
    (Mem.bytes l ++ pad).setIfInBounds i (.int .u8 (c.toNat : Int)) = Mem.bytes (l.set i c) ++ pad := by
  rw [Array.setIfInBounds_append_left (by rw [Mem.bytes_size]; exact h)]
  congr 1
  simp [Mem.bytes, List.map_set]
theorem turn_step (l : List UInt8) (k : Nat) (b : List UInt8) (i : Nat) (cb : UInt8) (h : k + i < l.length) (hb : b[i]? = some cb) :
    (turn l k b i).set (k + i) (l[k + i] ^^^ cb) = turn l k b (i + 1) := by
  apply List.ext_getElem (by simp [turn])
  intro j h1 h2
  simp only [turn, List.getElem_set, List.getElem_mapIdx]
  by_cases e : k + i = j
  · subst e; simp [hb]
  · by_cases h3 : k ≤ j ∧ j < k + i
    · have : k ≤ j ∧ j < k + (i + 1) := by omega
      simp [e, h3, this]
    · have : ¬ (k ≤ j ∧ j < k + (i + 1)) := by omega
      simp [e, h3, this]
theorem split4 (l : List UInt8) (k : Nat) (h : k + 4 ≤ l.length) : ∃ x y a b c d, l = x ++ [a, b, c, d] ++ y ∧ x.length = k := by
  refine ⟨l.take k, l.drop (k + 4), l[k], l[k + 1], l[k + 2], l[k + 3], ?_, by simp; omega⟩
  have h1 : l = l.take k ++ l.drop k := (List.take_append_drop k l).symm
  have h2 : l.drop k = [l[k], l[k + 1], l[k + 2], l[k + 3]] ++ l.drop (k + 4) := by
    rw [List.drop_eq_getElem_cons (by omega), List.drop_eq_getElem_cons (by omega), List.drop_eq_getElem_cons (by omega), List.drop_eq_getElem_cons (by omega)]; rfl
  rw [List.append_assoc, ← h2]; exact h1
theorem turn_four (x y : List UInt8) (a b c d p q r s : UInt8) : turn (x ++ [a, b, c, d] ++ y) x.length [p, q, r, s] 4 = x ++ [a ^^^ p, b ^^^ q, c ^^^ r, d ^^^ s] ++ y := by
  unfold turn
  have same : ∀ (f : Nat → UInt8 → UInt8) (z : List UInt8), (∀ i (h : i < z.length), f i z[i] = z[i]) → List.mapIdx f z = z := by
    intro f z h
    apply List.ext_getElem (by simp)
    intro j h1 h2
    rw [List.getElem_mapIdx]; exact h j h2
  rw [List.append_assoc, List.append_assoc, List.mapIdx_append, List.mapIdx_append]
  rw [same _ x (by intro i h; rw [if_neg (by omega)]), same _ y (by intro i h; rw [if_neg (by simp; omega)])]
  congr 1
  simp
  omega
theorem xor_same (a p : UInt8) : a ^^^ p = a ↔ p = 0 := by
  constructor
  · intro h
    have := congrArg (a ^^^ ·) h
    simpa [← UInt8.xor_assoc] using this
  · rintro rfl; simp
theorem turned_bool (l : List UInt8) (k : Nat) (h : k + 4 ≤ l.length) (p q r s : UInt8) :
    ((((sum (turn l k [p, q, r, s] 4)).toNat : Int) == ((sum l).toNat : Int)) == (((p.toNat : Int) == 0) && (((q.toNat : Int) == 0) && (((r.toNat : Int) == 0) && ((s.toNat : Int) == 0))))) = true := by
  obtain ⟨x, y, a, b, c, d, rfl, rfl⟩ := split4 l k h
  rw [turn_four]
  have hz : ∀ u : UInt8, ((u.toNat : Int) == 0) = decide (u = 0) := by
    intro u; rw [Bool.eq_iff_iff]; simp only [beq_iff_eq, decide_eq_true_eq, ← UInt8.toNat_inj]; simp
  have he : ∀ u v : BitVec 32, ((u.toNat : Int) == (v.toNat : Int)) = decide (u = v) := by
    intro u v; rw [Bool.eq_iff_iff]; simp only [beq_iff_eq, decide_eq_true_eq, ← BitVec.toNat_inj]; omega
  rw [hz, hz, hz, hz, he]
  have ht := turned x y (a ^^^ p) (b ^^^ q) (c ^^^ r) (d ^^^ s) a b c d
  simp only [xor_same] at ht
  rw [Bool.beq_eq_decide_eq, decide_eq_true_eq, Bool.eq_iff_iff]
  simp only [decide_eq_true_eq, Bool.and_eq_true]
  exact ht
theorem info4 : ∃ i, Try.prog.info? 5 = some i := by
  have h := info_byte
  cases hq : Try.prog.info? 5 with
  | none => rw [hq] at h; cases h
  | some i => exact ⟨i, rfl⟩
theorem cells_byte : Try.prog.cellsOf 5 = 1 := by kernel_rfl
theorem part_byte (xs : Array Value) (i : Nat) (v : Value) (h : xs[i]? = some v) (w : World) : (part 5 xs i).run Try.prog w = .ok v w := by
  have hi : i < xs.size := by
    rcases Nat.lt_or_ge i xs.size with h2 | h2
    · exact h2
    · rw [Array.getElem?_eq_none h2] at h; cases h
  have hv : xs[i] = v := by rw [Array.getElem?_eq_getElem hi] at h; injection h
  simp [part, isAgg, run_underlying Try.underlying5, hi, hv]
theorem eqItems_byte (X Y : Array Value) (xs ys : Nat → Int) : ∀ (is : List Nat) (w : World), (∀ j ∈ is, X[j]? = some (.int .u8 (xs j)) ∧ Y[j]? = some (.int .u8 (ys j))) →
    (Op.eqItems 9999 5 1 X Y is).run Try.prog w = .ok (is.all fun j => xs j == ys j) w
  | [], w, _ => by simp [Op.eqItems]
  | j :: is, w, h => by
    obtain ⟨h1, h2⟩ := h j (by simp)
    simp only [Op.eqItems, Sem.run_bind, Nat.mul_one]
    rw [part_byte X j _ h1]
    simp only [Result.andThen_ok]
    rw [part_byte Y j _ h2]
    simp only [Result.andThen_ok]
    rw [run_equalIn_int w 9998 _ _ _ _ _ Try.underlying5]
    simp only [Result.andThen_ok]
    cases hb : (xs j == ys j)
    · simp [hb]
    · simp only [Bool.not_true, Bool.false_eq_true, if_false]
      rw [eqItems_byte X Y xs ys is w (fun k hk => h k (by simp [hk]))]
      simp [hb]
theorem eq4 (a b c d : UInt8) (w : World) : (Op.equalIn 10000 41 (.agg #[.int .u8 a.toNat, .int .u8 b.toNat, .int .u8 c.toNat, .int .u8 d.toNat]) (.agg #[.int .u8 0, .int .u8 0, .int .u8 0, .int .u8 0])).run Try.prog w =
    .ok (((a.toNat : Int) == 0) && (((b.toNat : Int) == 0) && (((c.toNat : Int) == 0) && ((d.toNat : Int) == 0)))) w := by
  obtain ⟨i, hi⟩ := info4
  rw [run_equalIn_array w 9999 _ _ Try.underlying41 hi, cells_byte,
    eqItems_byte _ _ (fun j => ([a, b, c, d].getD j 0).toNat) (fun _ => 0) _ w (by
      intro j hj
      have hj4 : j < 4 := by simpa using hj
      match j, hj4 with
      | 0, _ => exact ⟨rfl, rfl⟩
      | 1, _ => exact ⟨rfl, rfl⟩
      | 2, _ => exact ⟨rfl, rfl⟩
      | 3, _ => exact ⟨rfl, rfl⟩)]
  rw [show List.range 4 = [0, 1, 2, 3] from rfl]
  simp only [List.all_cons, List.all_nil, Bool.and_true]
  rfl
theorem four_get {c0 c1 c2 c3 cb : UInt8} {i : Nat} (h : [c0, c1, c2, c3][i]? = some cb) :
    (Value.agg #[.int .u8 c0.toNat, .int .u8 c1.toNat, .int .u8 c2.toNat, .int .u8 c3.toNat]).cells[i]? = some (.int .u8 (cb.toNat : Int)) := by
  have e : (Value.agg #[.int .u8 c0.toNat, .int .u8 c1.toNat, .int .u8 c2.toNat, .int .u8 c3.toNat]).cells = Mem.bytes [c0, c1, c2, c3] := rfl
  rw [e]
  have hi : i < [c0, c1, c2, c3].length := by
    rcases Nat.lt_or_ge i [c0, c1, c2, c3].length with h2 | h2
    · exact h2
    · rw [List.getElem?_eq_none h2] at h; cases h
  rw [Mem.bytes_get _ _ hi]
  rw [List.getElem?_eq_getElem hi] at h
  injection h with h; rw [h]
theorem beq_self (x y : BitVec 32) (h : x = y) : ((x.toNat : Int) == (y.toNat : Int)) = true := by subst h; simp
theorem turn_ne (l : List UInt8) (k : Nat) (h : k + 4 ≤ l.length) (p q r s : UInt8) (hne : ¬ (p = 0 ∧ q = 0 ∧ r = 0 ∧ s = 0)) : turn l k [p, q, r, s] 4 ≠ l := by
  obtain ⟨x, y, a, b, c, d, rfl, rfl⟩ := split4 l k h
  rw [turn_four]
  intro e
  have e1 := List.append_cancel_right e
  have e2 := List.append_cancel_left e1
  simp only [List.cons.injEq, xor_same, and_true] at e2
  exact hne e2
end Crc
namespace Frm
theorem eq_frames (f g : F) (w : World) : (Op.equalIn 10000 23 (.agg (cells f)) (.agg (cells g))).run Try.prog w =
    .ok (f.kind == g.kind && (f.site == g.site && (f.seq == g.seq && (f.ack == g.ack && ((Mem.str f.body).toList == (Mem.str g.body).toList))))) w := by
  obtain ⟨k, s, q, a, b⟩ := f
  obtain ⟨k', s', q', a', b'⟩ := g
  unfold cells
  cases h1 : (k == k') <;> cases h2 : (s == s') <;> cases h3 : (q == q') <;> cases h4 : (a == a') <;> cases h5 : ((Mem.str b).toList == (Mem.str b').toList) <;> go_simp
theorem eq_false (f g : F) (h : f ≠ g) : (f.kind == g.kind && (f.site == g.site && (f.seq == g.seq && (f.ack == g.ack && ((Mem.str f.body).toList == (Mem.str g.body).toList))))) = false := by
  rw [Bool.eq_false_iff]
  intro e
  apply h
  obtain ⟨k, s, q, a, b⟩ := f
  obtain ⟨k', s', q', a', b'⟩ := g
  simp only [Bool.and_eq_true, beq_iff_eq] at e
  obtain ⟨h1, h2, h3, h4, h5⟩ := e
  rw [ByteArray.toList_eq, ByteArray.toList_eq, Mem.str_toList, Mem.str_toList] at h5
  rw [h1, h2, h3, h4, h5]
theorem eq_ne (f g : F) (h : f ≠ g) (w : World) : (Op.equalIn 10000 23 (.agg #[.int .i64 f.kind, .int .i64 f.site, .int .i64 f.seq, .int .i64 f.ack, .string (Mem.str f.body)]) (.agg #[.int .i64 g.kind, .int .i64 g.site, .int .i64 g.seq, .int .i64 g.ack, .string (Mem.str g.body)])).run Try.prog w = .ok false w :=
  (eq_frames f g w).trans (by rw [eq_false f g h])
end Frm

set_option maxRecDepth 100000 in
set_option maxHeartbeats 4000000 in
theorem frameTurned_big (k s q a : Int) (b : List UInt8) (t : Int) (c0 c1 c2 c3 : UInt8) (w : World) (hb : b.length ≤ 3000) (ht : 0 ≤ t ∧ t < 65536) (hok : Frm.okB ⟨k, s, q, a, b⟩ = true)
    (hne : ¬ (c0 = 0 ∧ c1 = 0 ∧ c2 = 0 ∧ c3 = 0)) (hcase : (Frm.put ⟨k, s, q, a, b⟩).length - 8 < t.toNat % ((Frm.put ⟨k, s, q, a, b⟩).length - 6)) :
    Calls Try.prog 7 #[Frm.val ⟨k, s, q, a, b⟩, .int .u16 t, .agg #[.int .u8 c0.toNat, .int .u8 c1.toNat, .int .u8 c2.toNat, .int .u8 c3.toNat]] w fun e w' => e = .returned (.bool true) ∧ Below w.heap.size w w' := by
  have hsz := Mem.str_size b
  have hd : decide ((3000 : Int) < b.length) = false := by rw [decide_eq_false_iff_not]; omega
  have hi : ¬ (3000 : Int) < b.length := by omega
  obtain ⟨P, hP⟩ : ∃ P, Frm.put ⟨k, s, q, a, b⟩ = P := ⟨_, rfl⟩
  rw [hP] at hcase
  have hP9 : 9 ≤ P.length := by rw [← hP]; exact Frm.put_len _ hok
  have hP4 : P.length ≤ 4000 := by rw [← hP]; exact Frm.put_most _ hok hb
  have hg1 : Frm.get P = (⟨k, s, q, a, b⟩, 0) := by rw [← hP]; exact Frm.get_put _ hok
  obtain ⟨n, hn⟩ : ∃ n : Nat, t.toNat % (P.length - 6) = n := ⟨_, rfl⟩
  have hnP : n < P.length - 6 := by rw [← hn]; exact Nat.mod_lt _ (by omega)
  rw [hn] at hcase
  have hrem : t % ((P.length : Int) - 6) = n := by
    obtain ⟨d, rfl⟩ : ∃ d : Nat, t = d := ⟨t.toNat, by omega⟩
    rw [← hn, show (P.length : Int) - 6 = ((P.length - 6 : Nat) : Int) by omega]; simp
  obtain ⟨kk, hkk⟩ : ∃ kk : Nat, P.length - 4 = kk := ⟨_, rfl⟩
  have hkP : kk + 4 ≤ P.length := by omega
  have hcd : decide ((P.length : Int) - 8 < n) = true := by rw [decide_eq_true_iff]; omega
  have hci : (P.length : Int) - 8 < n := by omega
  have hsub : (P.length : Int) - 4 = kk := by omega
  have hPi : (9 : Int) ≤ P.length := by omega
  have hsP := Mem.str_size P
  have hP9d : decide ((P.length : Int) < 9) = false := by rw [decide_eq_false_iff_not]; omega
  have hP9i : ¬ (P.length : Int) < 9 := by omega
  have htw : IntKind.i64.wrap t = t := by rw [IntKind.wrap_i64]; omega
  have hzero : (((c0.toNat : Int) == 0) && (((c1.toNat : Int) == 0) && (((c2.toNat : Int) == 0) && ((c3.toNat : Int) == 0)))) = false := by
    have hz : ∀ u : UInt8, ((u.toNat : Int) == 0) = decide (u = 0) := by
      intro u; rw [Bool.eq_iff_iff]; simp only [beq_iff_eq, decide_eq_true_eq, ← UInt8.toNat_inj]; simp
    rw [hz, hz, hz, hz]
    rw [Bool.eq_false_iff]
    intro h
    simp only [Bool.and_eq_true, decide_eq_true_eq] at h
    exact hne h
  have heq := fun w => (Crc.eq4 c0 c1 c2 c3 w).trans (by rw [hzero])
  have Hok := Lib.hid hok
  have HP := Lib.hid hP
  have Hg1 := Lib.hid hg1
  have Hne := Lib.hid hne
  have HkP := Lib.hid hkP
  clear hok hP hg1 hne hn hnP hkP hzero hb hcase
  unfold Frm.val Frm.cells
  go_enter Try.func7, Try.ntmps7
  go_wp2_with (first
    | (refine Mem.wpList_box (o := ⟨some 3, _, _, _, _, _⟩) rfl 23 _ rfl (.agg #[.int .i64 k, .int .i64 s, .int .i64 q, .int .i64 a, .string (Mem.str b)]) rfl ?_
       intro w1 hn1
       have e0 := hn1.cell1 0 (v := .int .i64 k) rfl
       have e1 := hn1.cell1 1 (v := .int .i64 s) rfl
       have e2 := hn1.cell1 2 (v := .int .i64 q) rfl
       have e3 := hn1.cell1 3 (v := .int .i64 a) rfl
       have e4 := hn1.cell1 4 (v := .string (Mem.str b)) rfl
       have Hn1 := Lib.hid hn1
       clear hn1)
    | (refine Mem.wpList_box (o := ⟨some 5, _, _, _, _, _⟩) rfl 41 _ rfl (.agg #[.int .u8 c0.toNat, .int .u8 c1.toNat, .int .u8 c2.toNat, .int .u8 c3.toNat]) rfl ?_
       intro w1b hn1b
       have f0 := Mem.keep hn1b.below e0
       have f1 := Mem.keep hn1b.below e1
       have f2 := Mem.keep hn1b.below e2
       have f3 := Mem.keep hn1b.below e3
       have f4 := Mem.keep hn1b.below e4
       have d0 := hn1b.cell1 0 (v := .int .u8 c0.toNat) rfl
       have d1 := hn1b.cell1 1 (v := .int .u8 c1.toNat) rfl
       have d2 := hn1b.cell1 2 (v := .int .u8 c2.toNat) rfl
       have d3 := hn1b.cell1 3 (v := .int .u8 c3.toNat) rfl
       have Hn1b := Lib.hid hn1b
       clear hn1b e0 e1 e2 e3 e4)
    | (go_at_call 8
       refine (frame_alive _).mono ?_
       rintro e w2 ⟨rfl, hb2⟩
       have e0 := Mem.keep hb2 f0
       have e1 := Mem.keep hb2 f1
       have e2 := Mem.keep hb2 f2
       have e3 := Mem.keep hb2 f3
       have e4 := Mem.keep hb2 f4
       have p0 := Mem.keep hb2 d0
       have p1 := Mem.keep hb2 d1
       have p2 := Mem.keep hb2 d2
       have p3 := Mem.keep hb2 d3
       have Hb2 := Lib.hid hb2
       clear hb2 f0 f1 f2 f3 f4 d0 d1 d2 d3)
    | (go_at_call 12
       refine (frame_refmay ⟨k, s, q, a, b⟩ _).mono ?_
       rw [Hok.out]
       rintro e w3 ⟨rfl, hb3⟩
       have f0 := Mem.keep hb3 e0
       have f1 := Mem.keep hb3 e1
       have f2 := Mem.keep hb3 e2
       have f3 := Mem.keep hb3 e3
       have f4 := Mem.keep hb3 e4
       have d0 := Mem.keep hb3 p0
       have d1 := Mem.keep hb3 p1
       have d2 := Mem.keep hb3 p2
       have d3 := Mem.keep hb3 p3
       have Hb3 := Lib.hid hb3
       clear hb3 e0 e1 e2 e3 e4 p0 p1 p2 p3)
    | (go_at_call 10
       refine (frame_of ⟨k, s, q, a, b⟩ _).mono ?_
       rintro e w4 ⟨rfl, hb4⟩
       have e0 := Mem.keep hb4 f0
       have e1 := Mem.keep hb4 f1
       have e2 := Mem.keep hb4 f2
       have e3 := Mem.keep hb4 f3
       have e4 := Mem.keep hb4 f4
       have p0 := Mem.keep hb4 d0
       have p1 := Mem.keep hb4 d1
       have p2 := Mem.keep hb4 d2
       have p3 := Mem.keep hb4 d3
       have Hb4 := Lib.hid hb4
       clear hb4 f0 f1 f2 f3 f4 d0 d1 d2 d3)
    | (go_at_call 9
       refine (frame_put ⟨k, s, q, a, b⟩ Hok.out _).mono ?_
       rw [HP.out]
       rintro e w5 ⟨rfl, hb5⟩
       have f0 := Mem.keep hb5 e0
       have f1 := Mem.keep hb5 e1
       have f2 := Mem.keep hb5 e2
       have f3 := Mem.keep hb5 e3
       have f4 := Mem.keep hb5 e4
       have d0 := Mem.keep hb5 p0
       have d1 := Mem.keep hb5 p1
       have d2 := Mem.keep hb5 p2
       have d3 := Mem.keep hb5 p3
       have Hb5 := Lib.hid hb5
       clear hb5 e0 e1 e2 e3 e4 p0 p1 p2 p3)
    | (refine Mem.wpList_string_bytes rfl 9 42 5 _ rfl Try.underlying9 Try.underlying42 Try.underlying5 (Mem.str P) rfl ?_
       intro w6 cap hcap hrow hsz6 hb6
       have Hcap := Lib.hid hcap
       have Hrow := Lib.hid hrow
       have Hsz6 := Lib.hid hsz6
       have Hb6 := Lib.hid hb6
       clear hrow hsz6 hb6 hcap))
  have hrow6 : w6.heap[w5.heap.size]? = some (.cells (Mem.bytes P ++ Array.replicate (cap - P.length) (.int .u8 0)) 5 (cap, cap + 1)) := by
    have := Hrow.out
    rw [Mem.str_toList, Mem.str_size] at this
    exact this
  have Hrow6 := Lib.hid hrow6
  have hbel6 : Below w5.heap.size w5 w6 := Hb6.out
  have hB1 : w1.heap.size < w5.heap.size := by have := Hn1b.out.size; have := Hb2.out.size; have := Hb3.out.size; have := Hb4.out.size; have := Hb5.out.size; omega
  have hB0 : w.heap.size < w5.heap.size := by have := Hn1.out.size; omega
  have Hd := Lib.hid (And.intro d0 (And.intro d1 (And.intro d2 d3)))
  have Hf := Lib.hid (And.intro f0 (And.intro f1 (And.intro f2 (And.intro f3 f4))))
  have hPL := hP4
  clear d0 d1 d2 d3 f0 f1 f2 f3 f4 hrow6 heq
  go_loopw [11] (fun t11 wr => ∃ i : Nat, i ≤ 4 ∧ t11 = .int .i64 i ∧ Below w5.heap.size w5 wr ∧
      wr.heap[w5.heap.size]? = some (.cells (Mem.bytes (Crc.turn P kk [c0, c1, c2, c3] i) ++ Array.replicate (cap - P.length) (.int .u8 0)) 5 (cap, cap + 1))) (fun t11 _ => 4 - (intOf t11).toNat)
  case atStart => exact ⟨0, by omega, rfl, hbel6, by rw [Crc.turn_zero]; exact Hrow6.out⟩
  case round =>
    obtain ⟨i, hi4, rfl, hbel, hrow⟩ := hrel
    by_cases hlt : i < 4
    · have hd4 : decide ((i : Int) < 4) = true := by simp; omega
      obtain ⟨cb, hcb⟩ : ∃ cb : UInt8, [c0, c1, c2, c3][i]? = some cb := ⟨_, List.getElem?_eq_getElem (by simpa using hlt)⟩
      have hby : wr.cell? ⟨w1.heap.size, i, none⟩ = some (.int .u8 (cb.toNat : Int)) := by
        obtain ⟨d0, d1, d2, d3⟩ := Hd.out
        rw [hbel.cell (p := ⟨w1.heap.size, i, none⟩) hB1]
        match i, hlt with
        | 0, _ => simp at hcb; rw [← hcb]; exact d0
        | 1, _ => simp at hcb; rw [← hcb]; exact d1
        | 2, _ => simp at hcb; rw [← hcb]; exact d2
        | 3, _ => simp at hcb; rw [← hcb]; exact d3
      have hki : kk + i < P.length := by have := HkP.out; omega
      have hc : wr.cell? ⟨w5.heap.size, kk + i, none⟩ = some (.int .u8 ((P[kk + i]).toNat : Int)) := by
        rw [cell_of_row _ _ _ _ _ _ hrow, Array.getElem?_append_left (by rw [Mem.bytes_size, Crc.turn_length]; exact hki), Mem.bytes_get _ _ (by rw [Crc.turn_length]; exact hki), Crc.turn_at _ _ _ _ hki]
      have hcapP : P.length ≤ cap := by have := Hcap.out; rw [Mem.str_size] at this; exact this
      have hf : wr.frozen? ⟨w5.heap.size, kk + i, none⟩ = false := Mem.free_of_row _ _ _ _ _ _ _ hrow (by omega)
      obtain ⟨ca, hca⟩ : ∃ ca, ca = P[kk + i] := ⟨_, rfl⟩
      rw [← hca] at hc
      have Hca := Lib.hid hca
      have Hrow2 := Lib.hid hrow
      have hcb := Lib.hid hcb
      have Hbel := Lib.hid hbel
      clear hrow hca hbel hbel6
      have hx1 : (kk : Int) + (i : Int) < (P.length : Int) := by omega
      have hx2 : (0 : Int) ≤ (kk : Int) + (i : Int) := by omega
      have hx3 : (i : Int) < 4 := by omega
      have hx4 : (kk : Int) ≤ 4000 := by omega
      have hxor : bits .xor .u8 (ca.toNat : Int) (cb.toNat : Int) = ((ca ^^^ cb).toNat : Int) := by
        rw [u8_xor_nat _ _ ca.toNat_lt cb.toNat_lt, UInt8.toNat_xor]
      have hset := Mem.row_setCell wr w5.heap.size (kk + i) (.int .u8 ((ca ^^^ cb).toNat : Int)) _ _ _ Hrow2.out
      rw [Crc.bytes_pad_set _ _ _ _ (by rw [Crc.turn_length]; exact hki), Hca.out, Crc.turn_step _ _ _ _ _ hki hcb.out] at hset
      rw [← Hca.out] at hset
      have Hset := Lib.hid hset
      have Hxor := Lib.hid hxor
      clear hset hxor
      go_wp2
      go_region
      rw [Hxor.out]
      go_wp2
      refine ⟨⟨i + 1, by omega, by go_num, ?_, Hset.out⟩, by simp [intOf]; omega⟩
      exact (Hbel.out.setCell (Nat.le_refl _) _).drew
    · have : i = 4 := by omega
      subst this
      obtain ⟨L, hL⟩ : ∃ L, L = Crc.turn P kk [c0, c1, c2, c3] 4 := ⟨_, rfl⟩
      have hLl : L.length = P.length := by rw [hL, Crc.turn_length]
      have hLne : L ≠ P := by rw [hL]; exact Crc.turn_ne _ _ HkP.out _ _ _ _ Hne.out
      have HLl := Lib.hid (show L.length < 2 ^ 61 by omega)
      rw [← hL] at hrow
      have Hrow2 := Lib.hid hrow
      have Hbel := Lib.hid hbel
      have hf := Hf.out
      obtain ⟨f0, f1, f2, f3, f4⟩ := hf
      have e0 : wr.cell? ⟨w.heap.size, 0, none⟩ = some (.int .i64 k) := (hbel.cell (p := ⟨w.heap.size, 0, none⟩) hB0).trans f0
      have e1 : wr.cell? ⟨w.heap.size, 1, none⟩ = some (.int .i64 s) := (hbel.cell (p := ⟨w.heap.size, 1, none⟩) hB0).trans f1
      have e2 : wr.cell? ⟨w.heap.size, 2, none⟩ = some (.int .i64 q) := (hbel.cell (p := ⟨w.heap.size, 2, none⟩) hB0).trans f2
      have e3 : wr.cell? ⟨w.heap.size, 3, none⟩ = some (.int .i64 a) := (hbel.cell (p := ⟨w.heap.size, 3, none⟩) hB0).trans f3
      have e4 : wr.cell? ⟨w.heap.size, 4, none⟩ = some (.string (Mem.str b)) := (hbel.cell (p := ⟨w.heap.size, 4, none⟩) hB0).trans f4
      obtain ⟨g, hg⟩ : ∃ g, (Frm.get L).1 = g := ⟨_, rfl⟩
      obtain ⟨x, hx⟩ : ∃ x, (Frm.get L).2 = x := ⟨_, rfl⟩
      have hdiff : x = 0 → g ≠ ⟨k, s, q, a, b⟩ := by
        intro h0 hgf
        obtain ⟨_, h2⟩ := Frm.get_back L (hx.trans h0)
        rw [hg, hgf, HP.out] at h2
        exact hLne h2
      have Hg := Lib.hid hg
      have Hx := Lib.hid hx
      have Hdiff := Lib.hid hdiff
      have HlL := Lib.hid hLl
      have hi44 : decide (((4 : Nat) : Int) < 4) = false := by decide
      clear hL hLl hLne hrow hbel hbel6 f0 f1 f2 f3 f4 hg hx hdiff hlt hi4
      go_wp2_with (first
        | (refine Mem.wpList_bytes_string rfl 42 9 5 _ rfl Try.underlying42 Try.underlying5 Try.underlying9 _ _ _ _ rfl L HlL.out ?_ ?_
           · intro j hj
             rw [cell_of_row _ _ _ _ _ _ Hrow2.out, Nat.zero_add, Array.getElem?_append_left (by rw [Mem.bytes_size]; exact hj), Mem.bytes_get _ _ hj])
        | (go_at_call 14
           with_reducible refine (frame_get L HLl.out _).mono ?_
           rw [Hg.out, Hx.out]
           rintro e w8 ⟨rfl, hb8⟩
           have f0 := Mem.keep hb8 e0
           have f1 := Mem.keep hb8 e1
           have f2 := Mem.keep hb8 e2
           have f3 := Mem.keep hb8 e3
           have f4 := Mem.keep hb8 e4
           have Hb8 := Lib.hid hb8
           clear hb8 e0 e1 e2 e3 e4)
        | (refine Mem.wpList_alloc (o := ⟨some 12, _, _, _, _, _⟩) rfl 28 rfl _ Frm.zero_frame ?_
           intro w9 hn9
           have e0 := Mem.keep hn9.below f0
           have e1 := Mem.keep hn9.below f1
           have e2 := Mem.keep hn9.below f2
           have e3 := Mem.keep hn9.below f3
           have e4 := Mem.keep hn9.below f4
           have Hn9 := Lib.hid hn9
           clear hn9 f0 f1 f2 f3 f4)
        | (refine Mem.wpList_store rfl 28 (.tmp 12) (.tmp 82) rfl _ #[.int .i64 g.kind, .int .i64 g.site, .int .i64 g.seq, .int .i64 g.ack, .string (Mem.str g.body)] rfl rfl _ _ Hn9.out.row Frm.size_frame rfl (Frm.one_cells _ _ _ _ _) ?_
           intro w10 hp10
           have hbt := Mem.But.of_put (S := fun i => i = w8.heap.size) hp10 rfl
           have hneq : ¬ w.heap.size = w8.heap.size := by have := Hbel.out.size; have := Hb8.out.size; omega
           have f0 := Mem.keep_but hbt hneq e0
           have f1 := Mem.keep_but hbt hneq e1
           have f2 := Mem.keep_but hbt hneq e2
           have f3 := Mem.keep_but hbt hneq e3
           have f4 := Mem.keep_but hbt hneq e4
           have p0 := Mem.put_cell1 hp10 0 (v := .int .i64 g.kind) rfl
           have p1 := Mem.put_cell1 hp10 1 (v := .int .i64 g.site) rfl
           have p2 := Mem.put_cell1 hp10 2 (v := .int .i64 g.seq) rfl
           have p3 := Mem.put_cell1 hp10 3 (v := .int .i64 g.ack) rfl
           have p4 := Mem.put_cell1 hp10 4 (v := .string (Mem.str g.body)) rfl
           have Hp10 := Lib.hid hp10
           clear hp10 hbt hneq e0 e1 e2 e3 e4))
      have l0 : ∀ i : Mem.Later w10, i.w.cell? ⟨w.heap.size, 0, none⟩ = some (.int .i64 k) := fun i => i.cell f0
      have l1 : ∀ i : Mem.Later w10, i.w.cell? ⟨w.heap.size, 1, none⟩ = some (.int .i64 s) := fun i => i.cell f1
      have l2 : ∀ i : Mem.Later w10, i.w.cell? ⟨w.heap.size, 2, none⟩ = some (.int .i64 q) := fun i => i.cell f2
      have l3 : ∀ i : Mem.Later w10, i.w.cell? ⟨w.heap.size, 3, none⟩ = some (.int .i64 a) := fun i => i.cell f3
      have l4 : ∀ i : Mem.Later w10, i.w.cell? ⟨w.heap.size, 4, none⟩ = some (.string (Mem.str b)) := fun i => i.cell f4
      have m0 : ∀ i : Mem.Later w10, i.w.cell? ⟨w8.heap.size, 0, none⟩ = some (.int .i64 g.kind) := fun i => i.cell p0
      have m1 : ∀ i : Mem.Later w10, i.w.cell? ⟨w8.heap.size, 1, none⟩ = some (.int .i64 g.site) := fun i => i.cell p1
      have m2 : ∀ i : Mem.Later w10, i.w.cell? ⟨w8.heap.size, 2, none⟩ = some (.int .i64 g.seq) := fun i => i.cell p2
      have m3 : ∀ i : Mem.Later w10, i.w.cell? ⟨w8.heap.size, 3, none⟩ = some (.int .i64 g.ack) := fun i => i.cell p3
      have m4 : ∀ i : Mem.Later w10, i.w.cell? ⟨w8.heap.size, 4, none⟩ = some (.string (Mem.str g.body)) := fun i => i.cell p4
      clear f0 f1 f2 f3 f4 p0 p1 p2 p3 p4
      have hPn : ∀ i : Mem.Later w10, Calls Try.prog 16 #[.agg #[.int .i64 g.kind, .int .i64 g.site, .int .i64 g.seq, .int .i64 g.ack, .string (Mem.str g.body)]] i.w fun e w'' =>
        e = .returned (.agg #[.int .i64 g.kind, .int .i64 g.site, .int .i64 g.seq, .int .i64 g.ack, .string (Mem.str g.body)]) ∧ ∃ j : Mem.Later w10, w'' = j.w := fun i => Mem.later_call (frame_plain g i.w)
      by_cases hx0 : x = 0
      · subst hx0
        have hEq := Frm.eq_ne g ⟨k, s, q, a, b⟩ (Hdiff.out rfl)
        simp only at hEq
        clear Hdiff
        refine Mem.wp_region_later (by kernel_rfl) (by kernel_rfl) ?_
        repeat (go_big_quiet_step ((go_at_call 16; with_reducible exact hPn _)))
        refine wpQuiet_nil ?_
        rintro w11 ⟨⟨wq, hq⟩, rfl⟩
        have Hq := Lib.hid hq
        clear hq l0 l1 l2 l3 l4 m0 m1 m2 m3 m4 hPn
        clear hEq
        go_wp2
        go_ret
        refine ⟨rfl, ?_⟩
        have b5 := Mem.then_ (Mem.then_ (Mem.then_ (Mem.then_ (Mem.then_ Hn1.out.below Hn1b.out.below) Hb2.out) Hb3.out) Hb4.out) Hb5.out
        have b8 := Mem.then_ (Mem.then_ b5 Hbel.out) Hb8.out
        exact Mem.then_ ((Mem.then_ b8 Hn9.out.below).trans (Hp10.out.below b8.size)) Hq.out
      · have hxb : (x == 0) = false := beq_eq_false_iff_ne.2 hx0
        have hxn : (x != 0) = true := bne_iff_ne.2 hx0
        clear Hdiff hx0 hPn
        refine Mem.wp_region_later (by kernel_rfl) (by kernel_rfl) ?_
        repeat (go_big_quiet_step (fail))
        refine wpQuiet_nil ?_
        rintro w11 ⟨⟨wq, hq⟩, rfl⟩
        have Hq := Lib.hid hq
        clear hq l0 l1 l2 l3 l4 m0 m1 m2 m3 m4
        go_wp2
        go_ret
        refine ⟨rfl, ?_⟩
        have b5 := Mem.then_ (Mem.then_ (Mem.then_ (Mem.then_ (Mem.then_ Hn1.out.below Hn1b.out.below) Hb2.out) Hb3.out) Hb4.out) Hb5.out
        have b8 := Mem.then_ (Mem.then_ b5 Hbel.out) Hb8.out
        exact Mem.then_ ((Mem.then_ b8 Hn9.out.below).trans (Hp10.out.below b8.size)) Hq.out
set_option maxRecDepth 100000 in
set_option maxHeartbeats 4000000 in
theorem frameTurned_small (k s q a : Int) (b : List UInt8) (t : Int) (c0 c1 c2 c3 : UInt8) (w : World) (hb : b.length ≤ 3000) (ht : 0 ≤ t ∧ t < 65536) (hok : Frm.okB ⟨k, s, q, a, b⟩ = true)
    (hne : ¬ (c0 = 0 ∧ c1 = 0 ∧ c2 = 0 ∧ c3 = 0)) (hcase : ¬ (Frm.put ⟨k, s, q, a, b⟩).length - 8 < t.toNat % ((Frm.put ⟨k, s, q, a, b⟩).length - 6)) :
    Calls Try.prog 7 #[Frm.val ⟨k, s, q, a, b⟩, .int .u16 t, .agg #[.int .u8 c0.toNat, .int .u8 c1.toNat, .int .u8 c2.toNat, .int .u8 c3.toNat]] w fun e w' => e = .returned (.bool true) ∧ Below w.heap.size w w' := by
  have hsz := Mem.str_size b
  have hd : decide ((3000 : Int) < b.length) = false := by rw [decide_eq_false_iff_not]; omega
  have hi : ¬ (3000 : Int) < b.length := by omega
  obtain ⟨P, hP⟩ : ∃ P, Frm.put ⟨k, s, q, a, b⟩ = P := ⟨_, rfl⟩
  rw [hP] at hcase
  have hP9 : 9 ≤ P.length := by rw [← hP]; exact Frm.put_len _ hok
  have hP4 : P.length ≤ 4000 := by rw [← hP]; exact Frm.put_most _ hok hb
  have hg1 : Frm.get P = (⟨k, s, q, a, b⟩, 0) := by rw [← hP]; exact Frm.get_put _ hok
  obtain ⟨n, hn⟩ : ∃ n : Nat, t.toNat % (P.length - 6) = n := ⟨_, rfl⟩
  have hnP : n < P.length - 6 := by rw [← hn]; exact Nat.mod_lt _ (by omega)
  rw [hn] at hcase
  have hrem : t % ((P.length : Int) - 6) = n := by
    obtain ⟨d, rfl⟩ : ∃ d : Nat, t = d := ⟨t.toNat, by omega⟩
    rw [← hn, show (P.length : Int) - 6 = ((P.length - 6 : Nat) : Int) by omega]; simp
  obtain ⟨kk, hkk⟩ : ∃ kk : Nat, n = kk := ⟨_, rfl⟩
  have hkP : kk + 4 ≤ P.length := by omega
  have hcd : decide ((P.length : Int) - 8 < n) = false := by rw [decide_eq_false_iff_not]; omega
  have hci : ¬ (P.length : Int) - 8 < n := by omega
  have hsub : (n : Int) = kk := by omega
  have hPi : (9 : Int) ≤ P.length := by omega
  have hsP := Mem.str_size P
  have hP9d : decide ((P.length : Int) < 9) = false := by rw [decide_eq_false_iff_not]; omega
  have hP9i : ¬ (P.length : Int) < 9 := by omega
  have htw : IntKind.i64.wrap t = t := by rw [IntKind.wrap_i64]; omega
  have hzero : (((c0.toNat : Int) == 0) && (((c1.toNat : Int) == 0) && (((c2.toNat : Int) == 0) && ((c3.toNat : Int) == 0)))) = false := by
    have hz : ∀ u : UInt8, ((u.toNat : Int) == 0) = decide (u = 0) := by
      intro u; rw [Bool.eq_iff_iff]; simp only [beq_iff_eq, decide_eq_true_eq, ← UInt8.toNat_inj]; simp
    rw [hz, hz, hz, hz]
    rw [Bool.eq_false_iff]
    intro h
    simp only [Bool.and_eq_true, decide_eq_true_eq] at h
    exact hne h
  have heq := fun w => (Crc.eq4 c0 c1 c2 c3 w).trans (by rw [hzero])
  have Hok := Lib.hid hok
  have HP := Lib.hid hP
  have Hg1 := Lib.hid hg1
  have Hne := Lib.hid hne
  have HkP := Lib.hid hkP
  clear hok hP hg1 hne hn hnP hkP hzero hb hcase
  unfold Frm.val Frm.cells
  go_enter Try.func7, Try.ntmps7
  go_wp2_with (first
    | (refine Mem.wpList_box (o := ⟨some 3, _, _, _, _, _⟩) rfl 23 _ rfl (.agg #[.int .i64 k, .int .i64 s, .int .i64 q, .int .i64 a, .string (Mem.str b)]) rfl ?_
       intro w1 hn1
       have e0 := hn1.cell1 0 (v := .int .i64 k) rfl
       have e1 := hn1.cell1 1 (v := .int .i64 s) rfl
       have e2 := hn1.cell1 2 (v := .int .i64 q) rfl
       have e3 := hn1.cell1 3 (v := .int .i64 a) rfl
       have e4 := hn1.cell1 4 (v := .string (Mem.str b)) rfl
       have Hn1 := Lib.hid hn1
       clear hn1)
    | (refine Mem.wpList_box (o := ⟨some 5, _, _, _, _, _⟩) rfl 41 _ rfl (.agg #[.int .u8 c0.toNat, .int .u8 c1.toNat, .int .u8 c2.toNat, .int .u8 c3.toNat]) rfl ?_
       intro w1b hn1b
       have f0 := Mem.keep hn1b.below e0
       have f1 := Mem.keep hn1b.below e1
       have f2 := Mem.keep hn1b.below e2
       have f3 := Mem.keep hn1b.below e3
       have f4 := Mem.keep hn1b.below e4
       have d0 := hn1b.cell1 0 (v := .int .u8 c0.toNat) rfl
       have d1 := hn1b.cell1 1 (v := .int .u8 c1.toNat) rfl
       have d2 := hn1b.cell1 2 (v := .int .u8 c2.toNat) rfl
       have d3 := hn1b.cell1 3 (v := .int .u8 c3.toNat) rfl
       have Hn1b := Lib.hid hn1b
       clear hn1b e0 e1 e2 e3 e4)
    | (go_at_call 8
       refine (frame_alive _).mono ?_
       rintro e w2 ⟨rfl, hb2⟩
       have e0 := Mem.keep hb2 f0
       have e1 := Mem.keep hb2 f1
       have e2 := Mem.keep hb2 f2
       have e3 := Mem.keep hb2 f3
       have e4 := Mem.keep hb2 f4
       have p0 := Mem.keep hb2 d0
       have p1 := Mem.keep hb2 d1
       have p2 := Mem.keep hb2 d2
       have p3 := Mem.keep hb2 d3
       have Hb2 := Lib.hid hb2
       clear hb2 f0 f1 f2 f3 f4 d0 d1 d2 d3)
    | (go_at_call 12
       refine (frame_refmay ⟨k, s, q, a, b⟩ _).mono ?_
       rw [Hok.out]
       rintro e w3 ⟨rfl, hb3⟩
       have f0 := Mem.keep hb3 e0
       have f1 := Mem.keep hb3 e1
       have f2 := Mem.keep hb3 e2
       have f3 := Mem.keep hb3 e3
       have f4 := Mem.keep hb3 e4
       have d0 := Mem.keep hb3 p0
       have d1 := Mem.keep hb3 p1
       have d2 := Mem.keep hb3 p2
       have d3 := Mem.keep hb3 p3
       have Hb3 := Lib.hid hb3
       clear hb3 e0 e1 e2 e3 e4 p0 p1 p2 p3)
    | (go_at_call 10
       refine (frame_of ⟨k, s, q, a, b⟩ _).mono ?_
       rintro e w4 ⟨rfl, hb4⟩
       have e0 := Mem.keep hb4 f0
       have e1 := Mem.keep hb4 f1
       have e2 := Mem.keep hb4 f2
       have e3 := Mem.keep hb4 f3
       have e4 := Mem.keep hb4 f4
       have p0 := Mem.keep hb4 d0
       have p1 := Mem.keep hb4 d1
       have p2 := Mem.keep hb4 d2
       have p3 := Mem.keep hb4 d3
       have Hb4 := Lib.hid hb4
       clear hb4 f0 f1 f2 f3 f4 d0 d1 d2 d3)
    | (go_at_call 9
       refine (frame_put ⟨k, s, q, a, b⟩ Hok.out _).mono ?_
       rw [HP.out]
       rintro e w5 ⟨rfl, hb5⟩
       have f0 := Mem.keep hb5 e0
       have f1 := Mem.keep hb5 e1
       have f2 := Mem.keep hb5 e2
       have f3 := Mem.keep hb5 e3
       have f4 := Mem.keep hb5 e4
       have d0 := Mem.keep hb5 p0
       have d1 := Mem.keep hb5 p1
       have d2 := Mem.keep hb5 p2
       have d3 := Mem.keep hb5 p3
       have Hb5 := Lib.hid hb5
       clear hb5 e0 e1 e2 e3 e4 p0 p1 p2 p3)
    | (refine Mem.wpList_string_bytes rfl 9 42 5 _ rfl Try.underlying9 Try.underlying42 Try.underlying5 (Mem.str P) rfl ?_
       intro w6 cap hcap hrow hsz6 hb6
       have Hcap := Lib.hid hcap
       have Hrow := Lib.hid hrow
       have Hsz6 := Lib.hid hsz6
       have Hb6 := Lib.hid hb6
       clear hrow hsz6 hb6 hcap))
  rw [hrem, hsub]
  have hrow6 : w6.heap[w5.heap.size]? = some (.cells (Mem.bytes P ++ Array.replicate (cap - P.length) (.int .u8 0)) 5 (cap, cap + 1)) := by
    have := Hrow.out
    rw [Mem.str_toList, Mem.str_size] at this
    exact this
  have Hrow6 := Lib.hid hrow6
  have hbel6 : Below w5.heap.size w5 w6 := Hb6.out
  have hB1 : w1.heap.size < w5.heap.size := by have := Hn1b.out.size; have := Hb2.out.size; have := Hb3.out.size; have := Hb4.out.size; have := Hb5.out.size; omega
  have hB0 : w.heap.size < w5.heap.size := by have := Hn1.out.size; omega
  have Hd := Lib.hid (And.intro d0 (And.intro d1 (And.intro d2 d3)))
  have Hf := Lib.hid (And.intro f0 (And.intro f1 (And.intro f2 (And.intro f3 f4))))
  have hPL := hP4
  clear d0 d1 d2 d3 f0 f1 f2 f3 f4 hrow6 heq
  go_loopw [11] (fun t11 wr => ∃ i : Nat, i ≤ 4 ∧ t11 = .int .i64 i ∧ Below w5.heap.size w5 wr ∧
      wr.heap[w5.heap.size]? = some (.cells (Mem.bytes (Crc.turn P kk [c0, c1, c2, c3] i) ++ Array.replicate (cap - P.length) (.int .u8 0)) 5 (cap, cap + 1))) (fun t11 _ => 4 - (intOf t11).toNat)
  case atStart => exact ⟨0, by omega, rfl, hbel6, by rw [Crc.turn_zero]; exact Hrow6.out⟩
  case round =>
    obtain ⟨i, hi4, rfl, hbel, hrow⟩ := hrel
    by_cases hlt : i < 4
    · have hd4 : decide ((i : Int) < 4) = true := by simp; omega
      obtain ⟨cb, hcb⟩ : ∃ cb : UInt8, [c0, c1, c2, c3][i]? = some cb := ⟨_, List.getElem?_eq_getElem (by simpa using hlt)⟩
      have hby : wr.cell? ⟨w1.heap.size, i, none⟩ = some (.int .u8 (cb.toNat : Int)) := by
        obtain ⟨d0, d1, d2, d3⟩ := Hd.out
        rw [hbel.cell (p := ⟨w1.heap.size, i, none⟩) hB1]
        match i, hlt with
        | 0, _ => simp at hcb; rw [← hcb]; exact d0
        | 1, _ => simp at hcb; rw [← hcb]; exact d1
        | 2, _ => simp at hcb; rw [← hcb]; exact d2
        | 3, _ => simp at hcb; rw [← hcb]; exact d3
      have hki : kk + i < P.length := by have := HkP.out; omega
      have hc : wr.cell? ⟨w5.heap.size, kk + i, none⟩ = some (.int .u8 ((P[kk + i]).toNat : Int)) := by
        rw [cell_of_row _ _ _ _ _ _ hrow, Array.getElem?_append_left (by rw [Mem.bytes_size, Crc.turn_length]; exact hki), Mem.bytes_get _ _ (by rw [Crc.turn_length]; exact hki), Crc.turn_at _ _ _ _ hki]
      have hcapP : P.length ≤ cap := by have := Hcap.out; rw [Mem.str_size] at this; exact this
      have hf : wr.frozen? ⟨w5.heap.size, kk + i, none⟩ = false := Mem.free_of_row _ _ _ _ _ _ _ hrow (by omega)
      obtain ⟨ca, hca⟩ : ∃ ca, ca = P[kk + i] := ⟨_, rfl⟩
      rw [← hca] at hc
      have Hca := Lib.hid hca
      have Hrow2 := Lib.hid hrow
      have hcb := Lib.hid hcb
      have Hbel := Lib.hid hbel
      clear hrow hca hbel hbel6
      have hx1 : (kk : Int) + (i : Int) < (P.length : Int) := by omega
      have hx2 : (0 : Int) ≤ (kk : Int) + (i : Int) := by omega
      have hx3 : (i : Int) < 4 := by omega
      have hx4 : (kk : Int) ≤ 4000 := by omega
      have hxor : bits .xor .u8 (ca.toNat : Int) (cb.toNat : Int) = ((ca ^^^ cb).toNat : Int) := by
        rw [u8_xor_nat _ _ ca.toNat_lt cb.toNat_lt, UInt8.toNat_xor]
      have hset := Mem.row_setCell wr w5.heap.size (kk + i) (.int .u8 ((ca ^^^ cb).toNat : Int)) _ _ _ Hrow2.out
      rw [Crc.bytes_pad_set _ _ _ _ (by rw [Crc.turn_length]; exact hki), Hca.out, Crc.turn_step _ _ _ _ _ hki hcb.out] at hset
      rw [← Hca.out] at hset
      have Hset := Lib.hid hset
      have Hxor := Lib.hid hxor
      clear hset hxor
      go_wp2
      go_region
      rw [Hxor.out]
      go_wp2
      refine ⟨⟨i + 1, by omega, by go_num, ?_, Hset.out⟩, by simp [intOf]; omega⟩
      exact (Hbel.out.setCell (Nat.le_refl _) _).drew
    · have : i = 4 := by omega
      subst this
      obtain ⟨L, hL⟩ : ∃ L, L = Crc.turn P kk [c0, c1, c2, c3] 4 := ⟨_, rfl⟩
      have hLl : L.length = P.length := by rw [hL, Crc.turn_length]
      have hLne : L ≠ P := by rw [hL]; exact Crc.turn_ne _ _ HkP.out _ _ _ _ Hne.out
      have HLl := Lib.hid (show L.length < 2 ^ 61 by omega)
      rw [← hL] at hrow
      have Hrow2 := Lib.hid hrow
      have Hbel := Lib.hid hbel
      have hf := Hf.out
      obtain ⟨f0, f1, f2, f3, f4⟩ := hf
      have e0 : wr.cell? ⟨w.heap.size, 0, none⟩ = some (.int .i64 k) := (hbel.cell (p := ⟨w.heap.size, 0, none⟩) hB0).trans f0
      have e1 : wr.cell? ⟨w.heap.size, 1, none⟩ = some (.int .i64 s) := (hbel.cell (p := ⟨w.heap.size, 1, none⟩) hB0).trans f1
      have e2 : wr.cell? ⟨w.heap.size, 2, none⟩ = some (.int .i64 q) := (hbel.cell (p := ⟨w.heap.size, 2, none⟩) hB0).trans f2
      have e3 : wr.cell? ⟨w.heap.size, 3, none⟩ = some (.int .i64 a) := (hbel.cell (p := ⟨w.heap.size, 3, none⟩) hB0).trans f3
      have e4 : wr.cell? ⟨w.heap.size, 4, none⟩ = some (.string (Mem.str b)) := (hbel.cell (p := ⟨w.heap.size, 4, none⟩) hB0).trans f4
      obtain ⟨g, hg⟩ : ∃ g, (Frm.get L).1 = g := ⟨_, rfl⟩
      obtain ⟨x, hx⟩ : ∃ x, (Frm.get L).2 = x := ⟨_, rfl⟩
      have hdiff : x = 0 → g ≠ ⟨k, s, q, a, b⟩ := by
        intro h0 hgf
        obtain ⟨_, h2⟩ := Frm.get_back L (hx.trans h0)
        rw [hg, hgf, HP.out] at h2
        exact hLne h2
      have Hg := Lib.hid hg
      have Hx := Lib.hid hx
      have Hdiff := Lib.hid hdiff
      have HlL := Lib.hid hLl
      have hi44 : decide (((4 : Nat) : Int) < 4) = false := by decide
      clear hL hLl hLne hrow hbel hbel6 f0 f1 f2 f3 f4 hg hx hdiff hlt hi4
      go_wp2_with (first
        | (refine Mem.wpList_bytes_string rfl 42 9 5 _ rfl Try.underlying42 Try.underlying5 Try.underlying9 _ _ _ _ rfl L HlL.out ?_ ?_
           · intro j hj
             rw [cell_of_row _ _ _ _ _ _ Hrow2.out, Nat.zero_add, Array.getElem?_append_left (by rw [Mem.bytes_size]; exact hj), Mem.bytes_get _ _ hj])
        | (go_at_call 14
           with_reducible refine (frame_get L HLl.out _).mono ?_
           rw [Hg.out, Hx.out]
           rintro e w8 ⟨rfl, hb8⟩
           have f0 := Mem.keep hb8 e0
           have f1 := Mem.keep hb8 e1
           have f2 := Mem.keep hb8 e2
           have f3 := Mem.keep hb8 e3
           have f4 := Mem.keep hb8 e4
           have Hb8 := Lib.hid hb8
           clear hb8 e0 e1 e2 e3 e4)
        | (refine Mem.wpList_alloc (o := ⟨some 12, _, _, _, _, _⟩) rfl 28 rfl _ Frm.zero_frame ?_
           intro w9 hn9
           have e0 := Mem.keep hn9.below f0
           have e1 := Mem.keep hn9.below f1
           have e2 := Mem.keep hn9.below f2
           have e3 := Mem.keep hn9.below f3
           have e4 := Mem.keep hn9.below f4
           have Hn9 := Lib.hid hn9
           clear hn9 f0 f1 f2 f3 f4)
        | (refine Mem.wpList_store rfl 28 (.tmp 12) (.tmp 82) rfl _ #[.int .i64 g.kind, .int .i64 g.site, .int .i64 g.seq, .int .i64 g.ack, .string (Mem.str g.body)] rfl rfl _ _ Hn9.out.row Frm.size_frame rfl (Frm.one_cells _ _ _ _ _) ?_
           intro w10 hp10
           have hbt := Mem.But.of_put (S := fun i => i = w8.heap.size) hp10 rfl
           have hneq : ¬ w.heap.size = w8.heap.size := by have := Hbel.out.size; have := Hb8.out.size; omega
           have f0 := Mem.keep_but hbt hneq e0
           have f1 := Mem.keep_but hbt hneq e1
           have f2 := Mem.keep_but hbt hneq e2
           have f3 := Mem.keep_but hbt hneq e3
           have f4 := Mem.keep_but hbt hneq e4
           have p0 := Mem.put_cell1 hp10 0 (v := .int .i64 g.kind) rfl
           have p1 := Mem.put_cell1 hp10 1 (v := .int .i64 g.site) rfl
           have p2 := Mem.put_cell1 hp10 2 (v := .int .i64 g.seq) rfl
           have p3 := Mem.put_cell1 hp10 3 (v := .int .i64 g.ack) rfl
           have p4 := Mem.put_cell1 hp10 4 (v := .string (Mem.str g.body)) rfl
           have Hp10 := Lib.hid hp10
           clear hp10 hbt hneq e0 e1 e2 e3 e4))
      have l0 : ∀ i : Mem.Later w10, i.w.cell? ⟨w.heap.size, 0, none⟩ = some (.int .i64 k) := fun i => i.cell f0
      have l1 : ∀ i : Mem.Later w10, i.w.cell? ⟨w.heap.size, 1, none⟩ = some (.int .i64 s) := fun i => i.cell f1
      have l2 : ∀ i : Mem.Later w10, i.w.cell? ⟨w.heap.size, 2, none⟩ = some (.int .i64 q) := fun i => i.cell f2
      have l3 : ∀ i : Mem.Later w10, i.w.cell? ⟨w.heap.size, 3, none⟩ = some (.int .i64 a) := fun i => i.cell f3
      have l4 : ∀ i : Mem.Later w10, i.w.cell? ⟨w.heap.size, 4, none⟩ = some (.string (Mem.str b)) := fun i => i.cell f4
      have m0 : ∀ i : Mem.Later w10, i.w.cell? ⟨w8.heap.size, 0, none⟩ = some (.int .i64 g.kind) := fun i => i.cell p0
      have m1 : ∀ i : Mem.Later w10, i.w.cell? ⟨w8.heap.size, 1, none⟩ = some (.int .i64 g.site) := fun i => i.cell p1
      have m2 : ∀ i : Mem.Later w10, i.w.cell? ⟨w8.heap.size, 2, none⟩ = some (.int .i64 g.seq) := fun i => i.cell p2
      have m3 : ∀ i : Mem.Later w10, i.w.cell? ⟨w8.heap.size, 3, none⟩ = some (.int .i64 g.ack) := fun i => i.cell p3
      have m4 : ∀ i : Mem.Later w10, i.w.cell? ⟨w8.heap.size, 4, none⟩ = some (.string (Mem.str g.body)) := fun i => i.cell p4
      clear f0 f1 f2 f3 f4 p0 p1 p2 p3 p4
      have hPn : ∀ i : Mem.Later w10, Calls Try.prog 16 #[.agg #[.int .i64 g.kind, .int .i64 g.site, .int .i64 g.seq, .int .i64 g.ack, .string (Mem.str g.body)]] i.w fun e w'' =>
        e = .returned (.agg #[.int .i64 g.kind, .int .i64 g.site, .int .i64 g.seq, .int .i64 g.ack, .string (Mem.str g.body)]) ∧ ∃ j : Mem.Later w10, w'' = j.w := fun i => Mem.later_call (frame_plain g i.w)
      by_cases hx0 : x = 0
      · subst hx0
        have hEq := Frm.eq_ne g ⟨k, s, q, a, b⟩ (Hdiff.out rfl)
        simp only at hEq
        clear Hdiff
        refine Mem.wp_region_later (by kernel_rfl) (by kernel_rfl) ?_
        repeat (go_big_quiet_step ((go_at_call 16; with_reducible exact hPn _)))
        refine wpQuiet_nil ?_
        rintro w11 ⟨⟨wq, hq⟩, rfl⟩
        have Hq := Lib.hid hq
        clear hq l0 l1 l2 l3 l4 m0 m1 m2 m3 m4 hPn
        clear hEq
        go_wp2
        go_ret
        refine ⟨rfl, ?_⟩
        have b5 := Mem.then_ (Mem.then_ (Mem.then_ (Mem.then_ (Mem.then_ Hn1.out.below Hn1b.out.below) Hb2.out) Hb3.out) Hb4.out) Hb5.out
        have b8 := Mem.then_ (Mem.then_ b5 Hbel.out) Hb8.out
        exact Mem.then_ ((Mem.then_ b8 Hn9.out.below).trans (Hp10.out.below b8.size)) Hq.out
      · have hxb : (x == 0) = false := beq_eq_false_iff_ne.2 hx0
        have hxn : (x != 0) = true := bne_iff_ne.2 hx0
        clear Hdiff hx0 hPn
        refine Mem.wp_region_later (by kernel_rfl) (by kernel_rfl) ?_
        repeat (go_big_quiet_step (fail))
        refine wpQuiet_nil ?_
        rintro w11 ⟨⟨wq, hq⟩, rfl⟩
        have Hq := Lib.hid hq
        clear hq l0 l1 l2 l3 l4 m0 m1 m2 m3 m4
        go_wp2
        go_ret
        refine ⟨rfl, ?_⟩
        have b5 := Mem.then_ (Mem.then_ (Mem.then_ (Mem.then_ (Mem.then_ Hn1.out.below Hn1b.out.below) Hb2.out) Hb3.out) Hb4.out) Hb5.out
        have b8 := Mem.then_ (Mem.then_ b5 Hbel.out) Hb8.out
        exact Mem.then_ ((Mem.then_ b8 Hn9.out.below).trans (Hp10.out.below b8.size)) Hq.out

set_option maxRecDepth 100000 in
set_option maxHeartbeats 2000000 in
theorem frameTurned_walk (a0_0 : Int) (a0_1 : Int) (a0_2 : Int) (a0_3 : Int) (a0_4 : ByteArray) (a1 : Int) (a2_0 : Int) (a2_1 : Int) (a2_2 : Int) (a2_3 : Int) (w : World) (wa0_0 : (Lit.int .i64 a0_0).wf = true) (wa0_1 : (Lit.int .i64 a0_1).wf = true) (wa0_2 : (Lit.int .i64 a0_2).wf = true) (wa0_3 : (Lit.int .i64 a0_3).wf = true) (wa0_4 : a0_4.size ≤ maxLen) (wa1 : (Lit.int .u16 a1).wf = true) (wa2_0 : (Lit.int .u8 a2_0).wf = true) (wa2_1 : (Lit.int .u8 a2_1).wf = true) (wa2_2 : (Lit.int .u8 a2_2).wf = true) (wa2_3 : (Lit.int .u8 a2_3).wf = true) :
    Calls Try.prog 7 #[.agg #[.int .i64 a0_0, .int .i64 a0_1, .int .i64 a0_2, .int .i64 a0_3, .string a0_4], .int .u16 a1, .agg #[.int .u8 a2_0, .int .u8 a2_1, .int .u8 a2_2, .int .u8 a2_3]] w fun e w' => e = .returned (.bool true) ∧ Below w.heap.size w w' := by
  have hl : a0_4.data.toList.length = a0_4.size := by simp
  have hc : 0 ≤ a1 ∧ a1 < 65536 := by
    have : 0 ≤ a1 ∧ a1 ≤ 65535 := by simpa [Lit.wf, IntKind.min, IntKind.max, IntKind.signed, IntKind.bits] using wa1
    omega
  obtain ⟨c0, rfl⟩ := Crc.of_u8 wa2_0
  obtain ⟨c1, rfl⟩ := Crc.of_u8 wa2_1
  obtain ⟨c2, rfl⟩ := Crc.of_u8 wa2_2
  obtain ⟨c3, rfl⟩ := Crc.of_u8 wa2_3
  clear wa0_0 wa0_1 wa0_2 wa0_3 wa0_4 wa1 wa2_0 wa2_1 wa2_2 wa2_3
  by_cases hs : a0_4.size ≤ 3000
  · by_cases hok : Frm.okB ⟨a0_0, a0_1, a0_2, a0_3, a0_4.data.toList⟩ = true
    · by_cases hne : c0 = 0 ∧ c1 = 0 ∧ c2 = 0 ∧ c3 = 0
      · obtain ⟨rfl, rfl, rfl, rfl⟩ := hne
        have Hok := Lib.hid hok
        have hd : decide ((3000 : Int) < a0_4.size) = false := by rw [decide_eq_false_iff_not]; omega
        have hi : ¬ (3000 : Int) < a0_4.size := by omega
        have Hmay := Lib.hid (fun w2 : World => frame_refmay ⟨a0_0, a0_1, a0_2, a0_3, a0_4.data.toList⟩ w2)
        have heq := fun w => (Crc.eq4 0 0 0 0 w).trans rfl
        have hz : (((0 : UInt8).toNat : Nat) : Int) = 0 := rfl
        rw [hz] at heq
        rw [hz]
        clear hl hs hok hc hz
        go_enter Try.func7, Try.ntmps7
        go_wp2_with (first
          | (refine Mem.wpList_box (o := ⟨some 3, _, _, _, _, _⟩) rfl 23 _ rfl (.agg #[.int .i64 a0_0, .int .i64 a0_1, .int .i64 a0_2, .int .i64 a0_3, .string a0_4]) rfl ?_
             intro w1 hn1
             have e0 := hn1.cell1 0 (v := .int .i64 a0_0) rfl
             have e1 := hn1.cell1 1 (v := .int .i64 a0_1) rfl
             have e2 := hn1.cell1 2 (v := .int .i64 a0_2) rfl
             have e3 := hn1.cell1 3 (v := .int .i64 a0_3) rfl
             have e4 := hn1.cell1 4 (v := .string a0_4) rfl
             have Hn1 := Lib.hid hn1
             clear hn1)
          | (refine Mem.wpList_box (o := ⟨some 5, _, _, _, _, _⟩) rfl 41 _ rfl (.agg #[.int .u8 0, .int .u8 0, .int .u8 0, .int .u8 0]) rfl ?_
             intro w1b hn1b
             have f0 := Mem.keep hn1b.below e0
             have f1 := Mem.keep hn1b.below e1
             have f2 := Mem.keep hn1b.below e2
             have f3 := Mem.keep hn1b.below e3
             have f4 := Mem.keep hn1b.below e4
             have d0 := hn1b.cell1 0 (v := .int .u8 0) rfl
             have d1 := hn1b.cell1 1 (v := .int .u8 0) rfl
             have d2 := hn1b.cell1 2 (v := .int .u8 0) rfl
             have d3 := hn1b.cell1 3 (v := .int .u8 0) rfl
             have Hn1b := Lib.hid hn1b
             clear hn1b e0 e1 e2 e3 e4)
          | (go_at_call 8
             refine (frame_alive _).mono ?_
             rintro e w2 ⟨rfl, hb2⟩
             have e0 := Mem.keep hb2 f0
             have e1 := Mem.keep hb2 f1
             have e2 := Mem.keep hb2 f2
             have e3 := Mem.keep hb2 f3
             have e4 := Mem.keep hb2 f4
             have p0 := Mem.keep hb2 d0
             have p1 := Mem.keep hb2 d1
             have p2 := Mem.keep hb2 d2
             have p3 := Mem.keep hb2 d3
             have Hb2 := Lib.hid hb2
             clear hb2 f0 f1 f2 f3 f4 d0 d1 d2 d3)
          | (go_at_call 12
             have hmay := Hmay.out w2
             unfold Frm.val Frm.cells at hmay
             rw [Mem.str_of, Hok.out] at hmay
             refine hmay.mono ?_
             rintro e w3 ⟨rfl, hb3⟩
             have d0 := Mem.keep hb3 p0
             have d1 := Mem.keep hb3 p1
             have d2 := Mem.keep hb3 p2
             have d3 := Mem.keep hb3 p3
             have Hb3 := Lib.hid hb3
             clear hb3 hmay e0 e1 e2 e3 e4 p0 p1 p2 p3))
        go_ret
        exact ⟨rfl, Mem.then_ (Mem.then_ (Mem.then_ Hn1.out.below Hn1b.out.below) Hb2.out) Hb3.out⟩
      · have := fun hc1 => frameTurned_big a0_0 a0_1 a0_2 a0_3 a0_4.data.toList a1 c0 c1 c2 c3 w (by omega) hc hok hne hc1
        have h2 := fun hc1 => frameTurned_small a0_0 a0_1 a0_2 a0_3 a0_4.data.toList a1 c0 c1 c2 c3 w (by omega) hc hok hne hc1
        unfold Frm.val Frm.cells at this h2
        simp only [Mem.str_of] at this h2
        by_cases hc1 : (Frm.put ⟨a0_0, a0_1, a0_2, a0_3, a0_4.data.toList⟩).length - 8 < a1.toNat % ((Frm.put ⟨a0_0, a0_1, a0_2, a0_3, a0_4.data.toList⟩).length - 6)
        · exact this hc1
        · exact h2 hc1
    · have Hok := Lib.hid (show Frm.okB ⟨a0_0, a0_1, a0_2, a0_3, a0_4.data.toList⟩ = false by simpa using hok)
      have hd : decide ((3000 : Int) < a0_4.size) = false := by rw [decide_eq_false_iff_not]; omega
      have hi : ¬ (3000 : Int) < a0_4.size := by omega
      have Hmay := Lib.hid (fun w2 : World => frame_refmay ⟨a0_0, a0_1, a0_2, a0_3, a0_4.data.toList⟩ w2)
      clear hl hs hok hc
      go_enter Try.func7, Try.ntmps7
      go_wp2_with (first
        | (refine Mem.wpList_box (o := ⟨some 3, _, _, _, _, _⟩) rfl 23 _ rfl (.agg #[.int .i64 a0_0, .int .i64 a0_1, .int .i64 a0_2, .int .i64 a0_3, .string a0_4]) rfl ?_
           intro w1 hn1
           have e0 := hn1.cell1 0 (v := .int .i64 a0_0) rfl
           have e1 := hn1.cell1 1 (v := .int .i64 a0_1) rfl
           have e2 := hn1.cell1 2 (v := .int .i64 a0_2) rfl
           have e3 := hn1.cell1 3 (v := .int .i64 a0_3) rfl
           have e4 := hn1.cell1 4 (v := .string a0_4) rfl
           have Hn1 := Lib.hid hn1
           clear hn1)
        | (refine Mem.wpList_box (o := ⟨some 5, _, _, _, _, _⟩) rfl 41 _ rfl (.agg #[.int .u8 c0.toNat, .int .u8 c1.toNat, .int .u8 c2.toNat, .int .u8 c3.toNat]) rfl ?_
           intro w1b hn1b
           have f0 := Mem.keep hn1b.below e0
           have f1 := Mem.keep hn1b.below e1
           have f2 := Mem.keep hn1b.below e2
           have f3 := Mem.keep hn1b.below e3
           have f4 := Mem.keep hn1b.below e4
           have Hn1b := Lib.hid hn1b
           clear hn1b e0 e1 e2 e3 e4)
        | (go_at_call 8
           refine (frame_alive _).mono ?_
           rintro e w2 ⟨rfl, hb2⟩
           have e0 := Mem.keep hb2 f0
           have e1 := Mem.keep hb2 f1
           have e2 := Mem.keep hb2 f2
           have e3 := Mem.keep hb2 f3
           have e4 := Mem.keep hb2 f4
           have Hb2 := Lib.hid hb2
           clear hb2 f0 f1 f2 f3 f4)
        | (go_at_call 12
           have hmay := Hmay.out w2
           unfold Frm.val Frm.cells at hmay
           rw [Mem.str_of, Hok.out] at hmay
           refine hmay.mono ?_
           rintro e w3 ⟨rfl, hb3⟩
           have Hb3 := Lib.hid hb3
           clear hb3 hmay e0 e1 e2 e3 e4))
      go_ret
      exact ⟨rfl, Mem.then_ (Mem.then_ (Mem.then_ Hn1.out.below Hn1b.out.below) Hb2.out) Hb3.out⟩
  · have hd : decide ((3000 : Int) < a0_4.size) = true := by rw [decide_eq_true_iff]; omega
    have hi : (3000 : Int) < a0_4.size := by omega
    clear hl hs hc
    go_enter Try.func7, Try.ntmps7
    go_wp2_with (first
      | (refine Mem.wpList_box (o := ⟨some 3, _, _, _, _, _⟩) rfl 23 _ rfl (.agg #[.int .i64 a0_0, .int .i64 a0_1, .int .i64 a0_2, .int .i64 a0_3, .string a0_4]) rfl ?_
         intro w1 hn1
         have e4 := hn1.cell1 4 (v := .string a0_4) rfl
         have Hn1 := Lib.hid hn1
         clear hn1)
      | (refine Mem.wpList_box (o := ⟨some 5, _, _, _, _, _⟩) rfl 41 _ rfl (.agg #[.int .u8 c0.toNat, .int .u8 c1.toNat, .int .u8 c2.toNat, .int .u8 c3.toNat]) rfl ?_
         intro w1b hn1b
         have f4 := Mem.keep hn1b.below e4
         have Hn1b := Lib.hid hn1b
         clear hn1b e4)
      | (go_at_call 8
         refine (frame_alive _).mono ?_
         rintro e w2 ⟨rfl, hb2⟩
         have e4 := Mem.keep hb2 f4
         have Hb2 := Lib.hid hb2
         clear hb2 f4))
    go_ret
    exact ⟨rfl, Mem.then_ (Mem.then_ Hn1.out.below Hn1b.out.below) Hb2.out⟩
end Go.Proofs.Ytagbjibpcgipkaa
