/- The laws of chapter 03: NumsBack. -/
import Derived.Test.YtmalckdjkoegkaaNumL
import Derived.Deep.RegionHeld3
namespace Go.Proofs.Ytmalckdjkoegkaa
open Go.RowKit

theorem Mem.keep {w w' : World} {x : Addr} {v : Value} (hb : Below w.heap.size w w') (h : w.cell? x = some v) : w'.cell? x = some v := (hb.cell (block_lt_of_cell h)).trans h
theorem Mem.keep_drew {w : World} {x : Addr} {v : Value} (h : w.cell? x = some v) : w.drew.cell? x = some v := h

theorem Mem.keep_but {g : Nat} {w w' : World} {x : Addr} {v : Value} (hb : Mem.But (· = g) w w') (hne : ¬ x.block = g) (h : w.cell? x = some v) : w'.cell? x = some v :=
  (World.cell?_of_block (hb.block _ (block_lt_of_cell h) hne)).trans h

theorem nums_Num_exact {g most x : Nat} {l t : List UInt8} {f f' : Int} (hst : Num.step most l f = (x, t, f')) {w : World} (hmost : most < 2 ^ 64) (hl : l.length < 2 ^ 62) (hrd : Num.Rd w g l f) :
    Calls Try.prog 14 #[.pointer (some ⟨g, 0, none⟩), .int .u64 most] w fun e w' => e = .returned (.int .u64 x) ∧ Num.Rd w' g t f' ∧ Mem.But (· = g) w w' := by
  refine (nums_Num g most l f w hmost hl hrd).mono ?_
  rintro e w' ⟨x', t', f2, h, rfl, h2, h3⟩
  rw [hst] at h
  obtain ⟨rfl, rfl, rfl⟩ : x = x' ∧ t = t' ∧ f' = f2 := by simpa using h
  exact ⟨rfl, h2, h3⟩
theorem nums_Int_exact {g x : Nat} {l t : List UInt8} {f f' : Int} (hst : Num.step 18446744073709551615 l f = (x, t, f')) {w : World} (n : Int) (hn : Num.back x = n) (hl : l.length < 2 ^ 62) (hrd : Num.Rd w g l f) :
    Calls Try.prog 16 #[.pointer (some ⟨g, 0, none⟩)] w fun e w' => e = .returned (.int .i64 n) ∧ Num.Rd w' g t f' ∧ Mem.But (· = g) w w' := by
  refine (nums_Int g l f w hl hrd).mono ?_
  rintro e w' ⟨x', t', f2, h, rfl, h2, h3⟩
  rw [hst] at h
  obtain ⟨rfl, rfl, rfl⟩ : x = x' ∧ t = t' ∧ f' = f2 := by simpa using h
  exact ⟨by rw [hn], h2, h3⟩
theorem nums_Text_exact {g : Nat} {most : Int} {l t x : List UInt8} {f f' : Int} (hst : Num.text most l f = (x, t, f')) {w : World} (s : ByteArray) (hs : Mem.str x = s) (hmost : most ≤ 9223372036854775807) (hl : l.length < 2 ^ 62) (hrd : Num.Rd w g l f) :
    Calls Try.prog 17 #[.pointer (some ⟨g, 0, none⟩), .int .i64 most] w fun e w' => e = .returned (.string s) ∧ Num.Rd w' g t f' ∧ Mem.But (· = g) w w' := by
  refine (nums_Text g most l f w hmost hl hrd).mono ?_
  rintro e w' ⟨x', t', f2, h, rfl, h2, h3⟩
  rw [hst] at h
  obtain ⟨rfl, rfl, rfl⟩ : x = x' ∧ t = t' ∧ f' = f2 := by simpa using h
  exact ⟨by rw [hs], h2, h3⟩
theorem nums_Left_exact {g : Nat} {l : List UInt8} {f : Int} {w : World} (n : Nat) (hn : l.length = n) (hrd : Num.Rd w g l f) :
    Calls Try.prog 18 #[.pointer (some ⟨g, 0, none⟩)] w fun e w' => e = .returned (.int .i64 n) ∧ w = w' := by
  subst hn; exact nums_Left g l f w hrd

set_option maxRecDepth 100000 in
set_option maxHeartbeats 1000000 in
theorem numsBack_walk (a0 : Int) (a1 : Int) (a2_0 : ByteArray) (a2_1 : ByteArray) (w : World) (wa0 : (Lit.int .u64 a0).wf = true) (wa1 : (Lit.int .i64 a1).wf = true) (_wa2_0 : a2_0.size ≤ maxLen) (_wa2_1 : a2_1.size ≤ maxLen) :
    Calls Try.prog 5 #[.int .u64 a0, .int .i64 a1, .agg #[.string a2_0, .string a2_1]] w fun e w' => e = .returned (.bool true) ∧ Below w.heap.size w w' := by
  obtain ⟨n, rfl, hn⟩ := Num.of_u64 wa0
  obtain ⟨h0, h1⟩ := Num.of_i64 wa1
  have Hn := Lib.hid hn
  have H0 := Lib.hid h0
  have H1 := Lib.hid h1
  clear wa0 wa1 hn h0 h1
  by_cases hs : a2_0.size ≤ 1000 ∧ a2_1.size ≤ 1000
  · obtain ⟨hs0, hs1⟩ := hs
    have hd0 : decide ((1000 : Int) < a2_0.size) = false := by rw [decide_eq_false_iff_not]; omega
    have hi0 : ¬ (1000 : Int) < a2_0.size := by omega
    have hd1 : decide ((1000 : Int) < a2_1.size) = false := by rw [decide_eq_false_iff_not]; omega
    have hi1 : ¬ (1000 : Int) < a2_1.size := by omega
    have Hs := Lib.hid (And.intro hs0 hs1)
    have Hs0 := Lib.hid (show a2_0.size < 2 ^ 62 by omega)
    have hc1 : ¬ 9223372036854775807 < (Mem.str (Num.put n)).size + (Mem.str (Num.put (Num.turn a1))).size := by
      rw [Mem.str_size, Mem.str_size]; have := Num.put_ten Hn.out; have := Num.put_ten (Num.turn_lt a1 H0.out H1.out); omega
    have hC : (Mem.str (Num.put a2_0.size ++ a2_0.data.toList)).size ≤ 1010 := by
      rw [Mem.str_size]; have := Num.put_ten (n := a2_0.size) (by omega); have e : a2_0.data.toList.length = a2_0.size := by simp
      rw [List.length_append, e]; omega
    have hA : (Mem.str (Num.put n)).size ≤ 10 := by rw [Mem.str_size]; exact Num.put_ten Hn.out
    have hB : (Mem.str (Num.put (Num.turn a1))).size ≤ 10 := by rw [Mem.str_size]; exact Num.put_ten (Num.turn_lt a1 H0.out H1.out)
    have hc2 : ¬ 9223372036854775807 < (Mem.str (Num.put n)).size + (Mem.str (Num.put (Num.turn a1))).size + (Mem.str (Num.put a2_0.size ++ a2_0.data.toList)).size := by omega
    have hc3 : ¬ 9223372036854775807 < (Mem.str (Num.put n)).size + (Mem.str (Num.put (Num.turn a1))).size + (Mem.str (Num.put a2_0.size ++ a2_0.data.toList)).size + a2_1.size := by omega
    clear hs0 hs1 hA hB hC
    go_enter Try.func5, Try.ntmps5
    go_wp2_with (first
      | (refine Mem.wpList_box rfl 34 (.tmp 2) rfl (.agg #[.string a2_0, .string a2_1]) rfl ?_
         intro w1 hn1
         have e0 := hn1.cell1 0 (v := .string a2_0) rfl
         have e1 := hn1.cell1 1 (v := .string a2_1) rfl
         have Hn1 := Lib.hid hn1
         clear hn1)
      | (go_at_call 6
         refine (nums_alive _).mono ?_
         rintro e w2 ⟨rfl, hb1⟩
         have f0 := Mem.keep hb1 e0
         have f1 := Mem.keep hb1 e1
         have Hb1 := Lib.hid hb1
         clear hb1))
    go_region_held3 (fun w' => w'.cell? ⟨w.heap.size, 0, none⟩ = some (.string a2_0) ∧ w'.cell? ⟨w.heap.size, 1, none⟩ = some (.string a2_1)) (first | go_keep | (go_split_ands; exact ⟨Mem.keep (by assumption) (by assumption), Mem.keep (by assumption) (by assumption)⟩))
      (first
        | (go_at_call 7; refine (nums_put n Hn.out _).mono ?_; rintro e w3 ⟨rfl, hb3⟩)
        | (go_at_call 9; refine (nums_putint a1 H0.out H1.out _).mono ?_; rintro e w4 ⟨rfl, hb4⟩)
        | (go_at_call 11; refine (nums_puttext a2_0 Hs0.out _).mono ?_; rintro e w5 ⟨rfl, hb5⟩)
        | (go_at_call 13; refine (nums_Read _ _).mono ?_; rintro e w6 ⟨rfl, hrd6, hb6⟩))
    have hL : (Mem.str (Num.put n) ++ Mem.str (Num.put (Num.turn a1)) ++ Mem.str (Num.put a2_0.size ++ a2_0.data.toList) ++ a2_1).data.toList =
        Num.put n ++ (Num.put (Num.turn a1) ++ (Num.put a2_0.size ++ (a2_0.data.toList ++ a2_1.data.toList))) := by
      rw [Num.str_cat, Mem.str_toList, Num.str_cat, Num.str_cat, Mem.str_toList, Mem.str_toList]; simp
    rw [hL] at hrd6
    have e0L : a2_0.data.toList.length = a2_0.size := by simp
    have e1L : a2_1.data.toList.length = a2_1.size := by simp
    have HL0 := Lib.hid e0L
    have HL1 := Lib.hid e1L
    clear e0L e1L hL
    have hs1 : Num.step n (Num.put n ++ (Num.put (Num.turn a1) ++ (Num.put a2_0.size ++ (a2_0.data.toList ++ a2_1.data.toList)))) 0 = (n, Num.put (Num.turn a1) ++ (Num.put a2_0.size ++ (a2_0.data.toList ++ a2_1.data.toList)), 0) := by
      unfold Num.step; rw [if_neg (by omega), Num.put_read n Hn.out _ n (Nat.le_refl _)]
    have hs2 : Num.step 18446744073709551615 (Num.put (Num.turn a1) ++ (Num.put a2_0.size ++ (a2_0.data.toList ++ a2_1.data.toList))) 0 = (Num.turn a1, Num.put a2_0.size ++ (a2_0.data.toList ++ a2_1.data.toList), 0) := by
      unfold Num.step; rw [if_neg (by omega), Num.put_read 18446744073709551615 (by omega) _ _ (by have := Num.turn_lt a1 H0.out H1.out; omega)]
    have hs3 : Num.text (a2_0.size : Int) (Num.put a2_0.size ++ (a2_0.data.toList ++ a2_1.data.toList)) 0 = (a2_0.data.toList, a2_1.data.toList, 0) := by
      unfold Num.text
      have e : (max (a2_0.size : Int) 0).toNat = a2_0.size := by omega
      rw [if_neg (by omega), e, Num.put_read a2_0.size (by have := Hs0.out; omega) _ _ (Nat.le_refl _)]
      have h1 : ¬ (a2_0.data.toList ++ a2_1.data.toList).length < a2_0.size := by rw [List.length_append, HL0.out]; omega
      simp only [if_neg h1]
      rw [← HL0.out, List.take_left, List.drop_left]
    have hl3 : a2_1.data.toList.length < 2 ^ 62 := by rw [HL1.out]; have := Hs.out; omega
    have hl2 : (Num.put a2_0.size ++ (a2_0.data.toList ++ a2_1.data.toList)).length < 2 ^ 62 := by
      simp only [List.length_append, HL0.out, HL1.out]; have := Num.put_ten (n := a2_0.size) (by have := Hs0.out; omega); have := Hs.out; omega
    have hl1 : (Num.put (Num.turn a1) ++ (Num.put a2_0.size ++ (a2_0.data.toList ++ a2_1.data.toList))).length < 2 ^ 62 := by
      simp only [List.length_append, HL0.out, HL1.out]; have := Num.put_ten (n := a2_0.size) (by have := Hs0.out; omega); have := Num.put_ten (Num.turn_lt a1 H0.out H1.out); have := Hs.out; omega
    have hl0 : (Num.put n ++ (Num.put (Num.turn a1) ++ (Num.put a2_0.size ++ (a2_0.data.toList ++ a2_1.data.toList)))).length < 2 ^ 62 := by
      rw [List.length_append]; have := Num.put_ten Hn.out
      simp only [List.length_append, HL0.out, HL1.out] at hl1 ⊢; have := Num.put_ten (n := a2_0.size) (by have := Hs0.out; omega); have := Num.put_ten (Num.turn_lt a1 H0.out H1.out); have := Hs.out; omega
    rename_i hheld
    obtain ⟨g0, g1⟩ := hheld
    have hne : w.heap.size < w5.heap.size := by
      have a1 := Hn1.out.size; have a2 := Hb1.out.size; have a3 := hb3.size; have a4 := hb4.size; have a5 := hb5.size
      have a6 : w2.drew.heap.size = w2.heap.size := rfl
      omega
    have Hlt := Lib.hid hne
    replace hne : ¬ w.heap.size = w5.heap.size := by omega
    have HB := Lib.hid (show Below w.heap.size w w6 from Mem.then_ (Mem.then_ (Mem.then_ (Mem.then_ (Mem.then_ (Hn1.out.below) Hb1.out) ((Below.refl _ _).drew.trans hb3)) hb4) hb5) hb6)
    have hrd6d : Num.Rd w6.drew w5.heap.size _ 0 := hrd6
    have Hrd6 := Lib.hid hrd6d
    have Hst1 := Lib.hid hs1
    have Hst2 := Lib.hid hs2
    have Hst3 := Lib.hid hs3
    have Hl0 := Lib.hid hl0
    have Hl1 := Lib.hid hl1
    have Hl2 := Lib.hid hl2
    clear hrd6 hrd6d hs1 hs2 hs3 hl0 hl1 hl2 hl3 hb3 hb4 hb5 hb6 f0 f1 e0 e1
    go_wp2
    go_region_held3 (fun w' => w'.cell? ⟨w.heap.size, 0, none⟩ = some (.string a2_0) ∧ w'.cell? ⟨w.heap.size, 1, none⟩ = some (.string a2_1))
      (first | go_keep | (go_split_ands; exact ⟨Mem.keep_but (by assumption) hne (by assumption), Mem.keep_but (by assumption) hne (by assumption)⟩))
      (first
        | (go_at_call 14; refine (nums_Num_exact Hst1.out Hn.out Hl0.out Hrd6.out).mono ?_; rintro e w7 ⟨rfl, hrd7, hb7⟩)
        | (go_at_call 16; refine (nums_Int_exact Hst2.out a1 (Num.back_turn a1) Hl1.out (by assumption)).mono ?_; rintro e w8 ⟨rfl, hrd8, hb8⟩)
        | (go_at_call 17; refine (nums_Text_exact Hst3.out a2_0 (Mem.str_of _) (by have := Hs0.out; omega) Hl2.out (by assumption)).mono ?_; rintro e w9 ⟨rfl, hrd9, hb9⟩)
        | (go_at_call 18; refine (nums_Left_exact a2_1.size HL1.out (by assumption)).mono ?_; rintro e w10 ⟨rfl, rfl⟩)
        | (go_at_call 19; refine (nums_Fault _ a2_1.data.toList 0 _ (by assumption)).mono ?_; rintro e w11 ⟨rfl, rfl⟩))
    go_wp2
    go_ret
    refine ⟨rfl, HB.out.trans ?_⟩
    have hB : Below w.heap.size w6.drew w9 := ((hb7.trans hb8).trans hb9).below (Nat.le_trans HB.out.size (Nat.le_refl _)) (by intro k (hk : k = w5.heap.size); have := Hlt.out; omega)
    exact (Below.refl _ _).drew.trans hB
  · by_cases hs0 : (1000 : Int) < a2_0.size
    · have hd0 : decide ((1000 : Int) < a2_0.size) = true := by rw [decide_eq_true_iff]; exact hs0
      go_enter Try.func5, Try.ntmps5
      go_wp2_with (first
        | (refine Mem.wpList_box rfl 34 (.tmp 2) rfl (.agg #[.string a2_0, .string a2_1]) rfl ?_
           intro w1 hn1
           have e0 := hn1.cell1 0 (v := .string a2_0) rfl
           have e1 := hn1.cell1 1 (v := .string a2_1) rfl
           have Hn1 := Lib.hid hn1
           clear hn1)
        | (go_at_call 6
           refine (nums_alive _).mono ?_
           rintro e w2 ⟨rfl, hb1⟩
           have f0 := Mem.keep hb1 e0
           have f1 := Mem.keep hb1 e1
           have Hb1 := Lib.hid hb1
           clear hb1))
      go_ret
      exact ⟨rfl, Mem.then_ Hn1.out.below Hb1.out⟩
    · have hd0 : decide ((1000 : Int) < a2_0.size) = false := by rw [decide_eq_false_iff_not]; exact hs0
      have hs1 : (1000 : Int) < a2_1.size := by omega
      have hd1 : decide ((1000 : Int) < a2_1.size) = true := by rw [decide_eq_true_iff]; exact hs1
      go_enter Try.func5, Try.ntmps5
      go_wp2_with (first
        | (refine Mem.wpList_box rfl 34 (.tmp 2) rfl (.agg #[.string a2_0, .string a2_1]) rfl ?_
           intro w1 hn1
           have e0 := hn1.cell1 0 (v := .string a2_0) rfl
           have e1 := hn1.cell1 1 (v := .string a2_1) rfl
           have Hn1 := Lib.hid hn1
           clear hn1)
        | (go_at_call 6
           refine (nums_alive _).mono ?_
           rintro e w2 ⟨rfl, hb1⟩
           have f0 := Mem.keep hb1 e0
           have f1 := Mem.keep hb1 e1
           have Hb1 := Lib.hid hb1
           clear hb1))
      go_ret
      exact ⟨rfl, Mem.then_ Hn1.out.below Hb1.out⟩
end Go.Proofs.Ytmalckdjkoegkaa
