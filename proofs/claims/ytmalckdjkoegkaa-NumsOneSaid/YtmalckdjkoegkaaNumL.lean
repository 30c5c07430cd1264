/- The laws of chapter 03: the walks. -/
import Derived.Test.YtmalckdjkoegkaaNumY
namespace Go.Proofs.Ytmalckdjkoegkaa
open Go.RowKit

namespace Num
theorem Rd.below {w w' : World} {g : Nat} {l : List UInt8} {f : Int} {B : Nat} (h : Rd w g l f) (hb : Below B w w') (hg : g < B) : Rd w' g l f := (hb.block g hg).trans h
theorem Rd.lt {w : World} {g : Nat} {l : List UInt8} {f : Int} (h : Rd w g l f) : g < w.heap.size := by have := block_lt_of_cell h.rest; exact this
theorem put_300 : put 300 = [172, 2] := by rw [put_ge (by decide), put_lt (by decide)]; rfl
theorem put_one : put (turn (-1)) = [1] := by rw [put_lt (by decide)]; rfl
theorem step_alive : step 5 [128, 0] 0 = (0, [128, 0], 9) := by rfl
end Num

set_option maxRecDepth 100000 in
theorem nums_alive (w : World) :
    Calls Try.prog 6 #[] w fun e w' => e = .returned (.bool true) ∧ Below w.heap.size w w' := by
  have h300 : Mem.str (Num.put 300) = ⟨#[172, 2]⟩ := by rw [Num.put_300]; rfl
  have h1 : Mem.str (Num.put (Num.turn (-1))) = ⟨#[1]⟩ := by rw [Num.put_one]; rfl
  go_enter Try.func6, Try.ntmps6
  go_wp2_with (first
    | (go_at_call 13
       refine (nums_Read _ _).mono ?_
       rintro e w1 ⟨rfl, hrd1, hb1⟩
       have Hrd1 := Lib.hid hrd1
       have Hb1 := Lib.hid hb1
       clear hrd1 hb1)
    | (go_at_call 14
       refine (nums_Num w.heap.size 5 [128, 0] 0 w1 (by decide) (by decide) Hrd1.out).mono ?_
       rintro e w2 ⟨x, t, f', hst, rfl, hrd2, hbut2⟩
       rw [Num.step_alive] at hst
       obtain ⟨rfl, rfl, rfl⟩ : 0 = x ∧ [128, 0] = t ∧ 9 = f' := by simpa using hst
       have Hrd2 := Lib.hid hrd2
       have Hbut2 := Lib.hid hbut2
       clear hrd2 hbut2 hst)
    | (go_at_call 7
       refine (nums_put 300 (by decide) _).mono ?_
       rintro e w3 ⟨rfl, hb3⟩
       have Hb3 := Lib.hid hb3
       clear hb3)
    | (go_at_call 9
       refine (nums_putint (-1) (by decide) (by decide) _).mono ?_
       rintro e w4 ⟨rfl, hb4⟩
       have Hb4 := Lib.hid hb4
       clear hb4)
    | (go_at_call 19
       have hA := Mem.then_ Hb3.out Hb4.out
       refine (nums_Fault w.heap.size [128, 0] 9 w4 (Hrd2.out.below hA Hrd2.out.lt)).mono ?_
       rintro e w5 ⟨rfl, rfl⟩
       have HA := Lib.hid hA
       clear hA))
  go_ret
  refine ⟨rfl, ?_⟩
  have h2 : Below w.heap.size w w2 := Hb1.out.trans (Hbut2.out.below Hb1.out.size (by intro k (hk : k = w.heap.size); omega))
  exact h2.trans (HA.out.mono h2.size)

namespace Num
theorem of_u64 {n : Int} (h : (Lit.int .u64 n).wf = true) : ∃ x : Nat, n = x ∧ x < 2 ^ 64 := by
  have h2 : 0 ≤ n ∧ n ≤ 18446744073709551615 := by simpa [Lit.wf, IntKind.min, IntKind.max, IntKind.signed, IntKind.bits] using h
  exact ⟨n.toNat, by omega, by omega⟩
theorem of_i64 {n : Int} (h : (Lit.int .i64 n).wf = true) : -9223372036854775808 ≤ n ∧ n ≤ 9223372036854775807 := by
  simpa [Lit.wf, IntKind.min, IntKind.max, IntKind.signed, IntKind.bits] using h
theorem step_ended {l t : List UInt8} {x : Nat} (h : step 18446744073709551615 l 0 = (x, t, 0)) (ht : ¬ 0 < t.length) : Mem.str (put x) = Mem.str l := by
  unfold step at h
  rw [if_neg (by omega)] at h
  split at h
  · rename_i x' t' hr
    simp at h
    obtain ⟨rfl, rfl⟩ := h
    have := (read_put hr).1
    have ht : t' = [] := by cases t'; rfl; simp at ht
    rw [this, ht]; simp
  · rename_i c hr
    simp at h
    obtain ⟨_, rfl, hc⟩ := h
    have : l = [] := by cases l; rfl; simp at ht
    subst this
    simp [read, go] at hr
    omega
theorem step_x {most : Nat} {l t : List UInt8} {x : Nat} {f f' : Int} (h : step most l f = (x, t, f')) : x ≤ most ∧ t.length ≤ l.length := by
  unfold step at h
  split at h
  · simp at h; obtain ⟨rfl, rfl, _⟩ := h; simp
  · split at h
    · rename_i hr; simp at h; obtain ⟨rfl, rfl, _⟩ := h
      have := read_put hr
      exact ⟨this.2, by rw [this.1]; simp⟩
    · simp at h; obtain ⟨rfl, rfl, _⟩ := h; simp
theorem one_bool (a b : Nat) : ((Mem.str (put a)).toList == (Mem.str (put b)).toList) = ((a : Int) == (b : Int)) := by
  rw [ByteArray.toList_eq, ByteArray.toList_eq, Mem.str_toList, Mem.str_toList]
  by_cases h : a = b
  · subst h; simp
  · have h1 : ¬ put a = put b := fun e => h (put_inj _ _ e)
    have h2 : ¬ (a : Int) = b := by omega
    rw [beq_eq_false_iff_ne.2 h1, beq_eq_false_iff_ne.2 h2]
end Num

set_option maxRecDepth 100000 in
set_option maxHeartbeats 400000 in
theorem numsPut_walk (a0 : Int) (a1 : Int) (a2 : ByteArray) (w : World) (wa0 : (Lit.int .u64 a0).wf = true) (wa1 : (Lit.int .i64 a1).wf = true) (_wa2 : a2.size ≤ maxLen) :
    Calls Try.prog 3 #[.int .u64 a0, .int .i64 a1, .string a2] w fun e w' => e = .returned (.bool true) ∧ Below w.heap.size w w' := by
  obtain ⟨n, rfl, hn⟩ := Num.of_u64 wa0
  obtain ⟨h0, h1⟩ := Num.of_i64 wa1
  have Hn := Lib.hid hn
  have H0 := Lib.hid h0
  have H1 := Lib.hid h1
  clear wa0 wa1 hn h0 h1
  by_cases hs : a2.size ≤ 3000
  · have hd : decide ((3000 : Int) < a2.size) = false := by rw [decide_eq_false_iff_not]; omega
    have hi : ¬ (3000 : Int) < a2.size := by omega
    have Hs := Lib.hid (show a2.size < 2 ^ 62 by omega)
    clear hs
    go_enter Try.func3, Try.ntmps3
    go_wp2_with (first
      | (go_at_call 6; refine (nums_alive _).mono ?_; rintro e w1 ⟨rfl, hb1⟩; have Hb1 := Lib.hid hb1; clear hb1)
      | (go_at_call 7; refine (nums_put n Hn.out _).mono ?_; rintro e w2 ⟨rfl, hb2⟩; have Hb2 := Lib.hid hb2; clear hb2)
      | (go_at_call 8; refine (nums_refput n Hn.out _).mono ?_; rintro e w3 ⟨rfl, hb3⟩; have Hb3 := Lib.hid hb3; clear hb3)
      | (go_at_call 9; refine (nums_putint a1 H0.out H1.out _).mono ?_; rintro e w4 ⟨rfl, hb4⟩; have Hb4 := Lib.hid hb4; clear hb4)
      | (go_at_call 10; refine (nums_refputint a1 H0.out H1.out _).mono ?_; rintro e w5 ⟨rfl, hb5⟩; have Hb5 := Lib.hid hb5; clear hb5)
      | (go_at_call 11; refine (nums_puttext a2 Hs.out _).mono ?_; rintro e w6 ⟨rfl, hb6⟩; have Hb6 := Lib.hid hb6; clear hb6)
      | (go_at_call 12; refine (nums_refputtext a2 Hs.out _).mono ?_; rintro e w7 ⟨rfl, hb7⟩; have Hb7 := Lib.hid hb7; clear hb7))
    go_ret
    exact ⟨rfl, Mem.then_ (Mem.then_ (Mem.then_ (Mem.then_ (Mem.then_ (Mem.then_ Hb1.out Hb2.out) Hb3.out) Hb4.out) Hb5.out) Hb6.out) Hb7.out⟩
  · have hd : decide ((3000 : Int) < a2.size) = true := by rw [decide_eq_true_iff]; omega
    have hi : (3000 : Int) < a2.size := by omega
    go_enter Try.func3, Try.ntmps3
    go_wp2_with (go_at_call 6; refine (nums_alive _).mono ?_; rintro e w1 ⟨rfl, hb1⟩; have Hb1 := Lib.hid hb1; clear hb1)
    go_ret
    exact ⟨rfl, Hb1.out⟩

set_option maxRecDepth 100000 in
set_option maxHeartbeats 400000 in
theorem numsOne_walk (a0 : ByteArray) (a1 : Int) (a2 : Int) (w : World) (_wa0 : a0.size ≤ maxLen) (wa1 : (Lit.int .u64 a1).wf = true) (wa2 : (Lit.int .u64 a2).wf = true) :
    Calls Try.prog 4 #[.string a0, .int .u64 a1, .int .u64 a2] w fun e w' => e = .returned (.bool true) ∧ Below w.heap.size w w' := by
  obtain ⟨a, rfl, ha⟩ := Num.of_u64 wa1
  obtain ⟨b, rfl, hb⟩ := Num.of_u64 wa2
  have Ha := Lib.hid ha
  have Hb := Lib.hid hb
  clear wa1 wa2 ha hb
  by_cases hs : a0.size ≤ 40
  · have hd : decide ((40 : Int) < a0.size) = false := by rw [decide_eq_false_iff_not]; omega
    have hi : ¬ (40 : Int) < a0.size := by omega
    have Hs := Lib.hid (show a0.data.toList.length < 2 ^ 62 by have : a0.data.toList.length = a0.size := by simp
                                                               omega)
    clear hs
    go_enter Try.func4, Try.ntmps4
    go_wp2_with (first
      | (go_at_call 6; refine (nums_alive _).mono ?_; rintro e w1 ⟨rfl, hb1⟩; have Hb1 := Lib.hid hb1; clear hb1)
      | (go_at_call 13; refine (nums_Read _ _).mono ?_; rintro e w2 ⟨rfl, hrd2, hb2⟩; have Hrd2 := Lib.hid hrd2; have Hb2 := Lib.hid hb2; clear hrd2 hb2))
    refine (nums_Num w1.heap.size 18446744073709551615 a0.data.toList 0 w2 (by omega) Hs.out Hrd2.out).mono ?_
    rintro e w3 ⟨x, t, f, hst, rfl, hrd3, hbut3⟩
    obtain ⟨hx, htl⟩ := Num.step_x hst
    have Hx := Lib.hid (show x < 2 ^ 64 by omega)
    have Htl := Lib.hid (show t.length < 2 ^ 62 by have := Hs.out; omega)
    have hB : Below w1.heap.size w2 w3 := hbut3.below Hb2.out.size (by intro k (hk : k = w1.heap.size); omega)
    have HB := Lib.hid (Mem.then_ Hb1.out (Hb2.out.trans hB))
    have Hst := Lib.hid hst
    have Hrd3 := Lib.hid hrd3
    have hone := Num.one_bool a b
    have hten := Num.put_ten Ha.out
    have hsz : (Mem.str (Num.put a)).size = (Num.put a).length := Mem.str_size _
    have hd3 : decide (((Num.put a).length : Int) ≤ 10) = true := by rw [decide_eq_true_iff]; omega
    have hi3 : ((Num.put a).length : Int) ≤ 10 := by omega
    clear hx htl hB hst hrd3 hbut3 hten
    by_cases hE : f = 0 ∧ ¬ 0 < t.length
    · have HEe := Lib.hid (show (if f ≠ 0 then f else if 0 < t.length then (11 : Int) else 0) = 0 by rw [if_neg (by omega), if_neg hE.2])
      have hstr : Mem.str (Num.put x) = a0 := by
        obtain ⟨rfl, ht⟩ := hE
        rw [Num.step_ended Hst.out ht, Mem.str_of]
      clear hE
      go_wp2_with (go_at_call 15; refine (nums_End w1.heap.size t f w3 Htl.out Hrd3.out).mono ?_; rw [HEe.out]; rintro e w4 ⟨rfl, rfl⟩)
      refine (nums_put x Hx.out _).mono ?_
      rintro e w5 ⟨rfl, hb5⟩
      have Hb5 := Lib.hid hb5
      clear hb5
      go_wp2_with (fail)
      refine (nums_put a Ha.out _).mono ?_
      rintro e w7 ⟨rfl, hb7⟩
      have Hb7 := Lib.hid hb7
      clear hb7
      go_wp2_with (fail)
      refine (nums_put b Hb.out _).mono ?_
      rintro e w8 ⟨rfl, hb8⟩
      have Hb8 := Lib.hid hb8
      clear hb8
      go_wp2_with (fail)
      refine (nums_put a Ha.out _).mono ?_
      rintro e w9 ⟨rfl, hb9⟩
      have Hb9 := Lib.hid hb9
      clear hb9
      go_wp2_with (fail)
      go_ret
      exact ⟨rfl, Mem.then_ (Mem.then_ (Mem.then_ (Mem.then_ HB.out Hb5.out) Hb7.out) Hb8.out) Hb9.out⟩
    · have hne : (if f ≠ 0 then f else if 0 < t.length then (11 : Int) else 0) ≠ 0 := by
        split
        · assumption
        · split
          · decide
          · rename_i h1 h2; exact absurd ⟨by omega, h2⟩ hE
      obtain ⟨E, hEe⟩ : ∃ E : Int, (if f ≠ 0 then f else if 0 < t.length then (11 : Int) else 0) = E := ⟨_, rfl⟩
      rw [hEe] at hne
      have HEe := Lib.hid hEe
      clear hEe hE
      have hdE : decide (E = 0) = false := by simp [hne]
      go_wp2_with (go_at_call 15; refine (nums_End w1.heap.size t f w3 Htl.out Hrd3.out).mono ?_; rw [HEe.out]; rintro e w4 ⟨rfl, rfl⟩)
      refine (nums_put a Ha.out _).mono ?_
      rintro e w7 ⟨rfl, hb7⟩
      have Hb7 := Lib.hid hb7
      clear hb7
      go_wp2_with (fail)
      refine (nums_put b Hb.out _).mono ?_
      rintro e w8 ⟨rfl, hb8⟩
      have Hb8 := Lib.hid hb8
      clear hb8
      go_wp2_with (fail)
      refine (nums_put a Ha.out _).mono ?_
      rintro e w9 ⟨rfl, hb9⟩
      have Hb9 := Lib.hid hb9
      clear hb9
      go_wp2_with (fail)
      go_ret
      exact ⟨rfl, Mem.then_ (Mem.then_ (Mem.then_ HB.out Hb7.out) Hb8.out) Hb9.out⟩
  · have hd : decide ((40 : Int) < a0.size) = true := by rw [decide_eq_true_iff]; omega
    have hi : (40 : Int) < a0.size := by omega
    go_enter Try.func4, Try.ntmps4
    go_wp2_with (go_at_call 6; refine (nums_alive _).mono ?_; rintro e w1 ⟨rfl, hb1⟩; have Hb1 := Lib.hid hb1; clear hb1)
    go_ret
    exact ⟨rfl, Hb1.out⟩
end Go.Proofs.Ytmalckdjkoegkaa
