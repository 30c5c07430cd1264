/- The laws of chapter 05: FrameBack. -/
import Derived.Test.YtagbjibpcgipkaaFrmJ
namespace Go.Proofs.Ytagbjibpcgipkaa
open Go.RowKit

namespace Frm
theorem head_len (f : F) (h : okB f = true) : 5 ≤ (head f).length := by
  rcases shapes f h with ⟨s, a, rfl, _⟩ | ⟨s, q, a, b, rfl, _⟩ <;>
    (have h1 := Num.put_pos s; have h2 := Num.put_pos a; simp [head]; omega)
theorem put_len (f : F) (h : okB f = true) : 9 ≤ (put f).length := by
  have := head_len f h
  unfold put; rw [List.length_append, four_len]; omega
theorem put_most (f : F) (h : okB f = true) (hb : f.body.length ≤ 3000) : (put f).length ≤ 4000 := by
  rcases shapes f h with ⟨s, a, rfl, h1, h2⟩ | ⟨s, q, a, b, rfl, h1, h2, h3, h4⟩
  · have := Num.put_ten (n := s) (by omega); have := Num.put_ten (n := a) (by omega)
    simp [put, head, four_len]; omega
  · have := Num.put_ten (n := s) (by omega); have := Num.put_ten (n := a) (by omega); have := Num.put_ten (n := q) (by omega); have := Num.put_ten (n := b.length) (by omega)
    simp at hb
    simp [put, head, four_len]; omega
end Frm

set_option maxRecDepth 100000 in
set_option maxHeartbeats 4000000 in
theorem frameBack_main (k s q a : Int) (b m : List UInt8) (c : Int) (w : World) (hb : b.length ≤ 3000) (hm : m.length ≤ 3000) (hc : 0 ≤ c ∧ c < 65536) (hok : Frm.okB ⟨k, s, q, a, b⟩ = true) :
    Calls Try.prog 5 #[Frm.val ⟨k, s, q, a, b⟩, .string (Mem.str m), .int .u16 c] w fun e w' => e = .returned (.bool true) ∧ Below w.heap.size w w' := by
  have hsz := Mem.str_size b
  have hsm := Mem.str_size m
  have hd : decide ((3000 : Int) < b.length) = false := by rw [decide_eq_false_iff_not]; omega
  have hi : ¬ (3000 : Int) < b.length := by omega
  have hd2 : decide ((3000 : Int) < m.length) = false := by rw [decide_eq_false_iff_not]; omega
  have hi2 : ¬ (3000 : Int) < m.length := by omega
  obtain ⟨P, hP⟩ : ∃ P, Frm.put ⟨k, s, q, a, b⟩ = P := ⟨_, rfl⟩
  have hP9 : 9 ≤ P.length := by rw [← hP]; exact Frm.put_len _ hok
  have hP4 : P.length ≤ 4000 := by rw [← hP]; exact Frm.put_most _ hok hb
  have hg1 : Frm.get P = (⟨k, s, q, a, b⟩, 0) := by rw [← hP]; exact Frm.get_put _ hok
  obtain ⟨n, hn⟩ : ∃ n : Nat, c.toNat % P.length = n := ⟨_, rfl⟩
  have hnP : n < P.length := by rw [← hn]; exact Nat.mod_lt _ (by omega)
  have hrem : c % (P.length : Int) = n := by
    obtain ⟨d, rfl⟩ : ∃ d : Nat, c = d := ⟨c.toNat, by omega⟩
    rw [← hn]; simp
  have hg2 : (Frm.get (P.take n)).2 ≠ 0 := by rw [← hP]; exact Frm.get_cut _ hok n (by rw [hP]; exact hnP)
  obtain ⟨A, hA⟩ : ∃ A, P.take n = A := ⟨_, rfl⟩
  obtain ⟨B, hB⟩ : ∃ B, P ++ m = B := ⟨_, rfl⟩
  have hx1 : (Mem.str P).extract 0 n = Mem.str A := by rw [Num.str_extract, ← hA]; simp
  have hx2 : Mem.str P ++ Mem.str m = Mem.str B := by rw [Num.str_cat, Mem.str_toList, hB]
  have hg3 : m = [] ∧ (Frm.get B).2 = 0 ∨ m ≠ [] ∧ (Frm.get B).2 = 11 := by
    by_cases h : m = []
    · subst h; exact .inl ⟨rfl, by rw [← hB, List.append_nil, hg1]⟩
    · exact .inr ⟨h, by rw [← hB, ← hP, Frm.get_more _ hok m h]⟩
  obtain ⟨y, hy⟩ : ∃ y, (Frm.get A).2 = y := ⟨_, rfl⟩
  obtain ⟨z, hz⟩ : ∃ z, (Frm.get B).2 = z := ⟨_, rfl⟩
  obtain ⟨fa, hfa⟩ : ∃ fa, (Frm.get A).1 = fa := ⟨_, rfl⟩
  obtain ⟨fb, hfb⟩ : ∃ fb, (Frm.get B).1 = fb := ⟨_, rfl⟩
  rw [hA, hy] at hg2
  rw [hz] at hg3
  have hAl : A.length < 2 ^ 61 := by rw [← hA, List.length_take]; omega
  have hBl : B.length < 2 ^ 61 := by rw [← hB, List.length_append]; omega
  have hPl : P.length < 2 ^ 61 := by omega
  have hyb : (y == 0) = false := beq_eq_false_iff_ne.2 hg2
  have hyn : (y != 0) = true := bne_iff_ne.2 hg2
  have hsP := Mem.str_size P
  have hP9' : ¬ (P.length : Int) < 9 := by omega
  have hP9d : decide ((P.length : Int) < 9) = false := decide_eq_false hP9'
  have hself : ((Mem.str b).toList == (Mem.str b).toList) = true := beq_self_eq_true _
  have hnn : (n : Int) ≤ P.length := by omega
  have hcw : IntKind.i64.wrap c = c := by rw [IntKind.wrap_i64]; omega
  have hmt := Frm.empty_str m
  have Hok := Lib.hid hok
  have HP := Lib.hid hP
  have Hg1 := Lib.hid hg1
  have Hy := Lib.hid hy
  have Hz := Lib.hid hz
  have Hfa := Lib.hid hfa
  have Hfb := Lib.hid hfb
  have HAl := Lib.hid hAl
  have HBl := Lib.hid hBl
  have HPl := Lib.hid hPl
  have Hg3 := Lib.hid hg3
  have Hg2 := Lib.hid hg2
  clear hok hP hg1 hn hnP hA hB hg3 hy hz hfa hfb hAl hBl hPl hb hg2 hP9
  unfold Frm.val Frm.cells
  go_enter Try.func5, Try.ntmps5
  go_wp2_with (first
    | (refine Mem.wpList_box (o := ⟨some 3, _, _, _, _, _⟩) rfl 23 _ rfl (.agg #[.int .i64 k, .int .i64 s, .int .i64 q, .int .i64 a, .string (Mem.str b)]) rfl ?_
       intro w1 hn1
       have e0 := hn1.cell1 0 (v := .int .i64 k) rfl
       have e1 := hn1.cell1 1 (v := .int .i64 s) rfl
       have e2 := hn1.cell1 2 (v := .int .i64 q) rfl
       have e3 := hn1.cell1 3 (v := .int .i64 a) rfl
       have e4 := hn1.cell1 4 (v := .string (Mem.str b)) rfl
       have Hn1 := Lib.hid hn1
       clear hn1)
    | (go_at_call 8
       refine (frame_alive _).mono ?_
       rintro e w2 ⟨rfl, hb2⟩
       have f0 := Mem.keep hb2 e0
       have f1 := Mem.keep hb2 e1
       have f2 := Mem.keep hb2 e2
       have f3 := Mem.keep hb2 e3
       have f4 := Mem.keep hb2 e4
       have Hb2 := Lib.hid hb2
       clear hb2 e0 e1 e2 e3 e4)
    | (go_at_call 12
       refine (frame_refmay ⟨k, s, q, a, b⟩ _).mono ?_
       rw [Hok.out]
       rintro e w3 ⟨rfl, hb3⟩
       have g0 := Mem.keep hb3 f0
       have g1 := Mem.keep hb3 f1
       have g2 := Mem.keep hb3 f2
       have g3 := Mem.keep hb3 f3
       have g4 := Mem.keep hb3 f4
       have Hb3 := Lib.hid hb3
       clear hb3 f0 f1 f2 f3 f4)
    | (go_at_call 10
       refine (frame_of ⟨k, s, q, a, b⟩ _).mono ?_
       rintro e w4 ⟨rfl, hb4⟩
       have f0 := Mem.keep hb4 g0
       have f1 := Mem.keep hb4 g1
       have f2 := Mem.keep hb4 g2
       have f3 := Mem.keep hb4 g3
       have f4 := Mem.keep hb4 g4
       have Hb4 := Lib.hid hb4
       clear hb4 g0 g1 g2 g3 g4)
    | (go_at_call 9
       refine (frame_put ⟨k, s, q, a, b⟩ Hok.out _).mono ?_
       rw [HP.out]
       rintro e w5 ⟨rfl, hb5⟩
       have g0 := Mem.keep hb5 f0
       have g1 := Mem.keep hb5 f1
       have g2 := Mem.keep hb5 f2
       have g3 := Mem.keep hb5 f3
       have g4 := Mem.keep hb5 f4
       have Hb5 := Lib.hid hb5
       clear hb5 f0 f1 f2 f3 f4)
    | (go_at_call 14
       with_reducible refine (frame_get P HPl.out _).mono ?_
       rw [Hg1.out]
       rintro e w6 ⟨rfl, hb6⟩
       have f0 := Mem.keep hb6 g0
       have f1 := Mem.keep hb6 g1
       have f2 := Mem.keep hb6 g2
       have f3 := Mem.keep hb6 g3
       have f4 := Mem.keep hb6 g4
       have Hb6 := Lib.hid hb6
       clear hb6 g0 g1 g2 g3 g4)
    | (refine Mem.wpList_alloc (o := ⟨some 9, _, _, _, _, _⟩) rfl 28 rfl _ Frm.zero_frame ?_
       intro w7 hn7
       have g0 := Mem.keep hn7.below f0
       have g1 := Mem.keep hn7.below f1
       have g2 := Mem.keep hn7.below f2
       have g3 := Mem.keep hn7.below f3
       have g4 := Mem.keep hn7.below f4
       have Hn7 := Lib.hid hn7
       clear hn7 f0 f1 f2 f3 f4)
    | (refine Mem.wpList_store rfl 28 (.tmp 9) (.tmp 40) rfl _ #[.int .i64 k, .int .i64 s, .int .i64 q, .int .i64 a, .string (Mem.str b)] rfl rfl _ _ Hn7.out.row Frm.size_frame rfl (Frm.one_cells _ _ _ _ _) ?_
       intro w8 hp8
       have hbt := Mem.But.of_put (S := fun i => i = w6.heap.size) hp8 rfl
       have f0 := Mem.keep_but hbt (by have := block_lt_of_cell g0; have := Hn1.out.size; have := Hb2.out.size; have := Hb3.out.size; have := Hb4.out.size; have := Hb5.out.size; have := Hb6.out.size; show ¬ w.heap.size = w6.heap.size; omega) g0
       have f1 := Mem.keep_but hbt (by have := Hn1.out.size; have := Hb2.out.size; have := Hb3.out.size; have := Hb4.out.size; have := Hb5.out.size; have := Hb6.out.size; show ¬ w.heap.size = w6.heap.size; omega) g1
       have f2 := Mem.keep_but hbt (by have := Hn1.out.size; have := Hb2.out.size; have := Hb3.out.size; have := Hb4.out.size; have := Hb5.out.size; have := Hb6.out.size; show ¬ w.heap.size = w6.heap.size; omega) g2
       have f3 := Mem.keep_but hbt (by have := Hn1.out.size; have := Hb2.out.size; have := Hb3.out.size; have := Hb4.out.size; have := Hb5.out.size; have := Hb6.out.size; show ¬ w.heap.size = w6.heap.size; omega) g3
       have f4 := Mem.keep_but hbt (by have := Hn1.out.size; have := Hb2.out.size; have := Hb3.out.size; have := Hb4.out.size; have := Hb5.out.size; have := Hb6.out.size; show ¬ w.heap.size = w6.heap.size; omega) g4
       have p0 := Mem.put_cell1 hp8 0 (v := .int .i64 k) rfl
       have p1 := Mem.put_cell1 hp8 1 (v := .int .i64 s) rfl
       have p2 := Mem.put_cell1 hp8 2 (v := .int .i64 q) rfl
       have p3 := Mem.put_cell1 hp8 3 (v := .int .i64 a) rfl
       have p4 := Mem.put_cell1 hp8 4 (v := .string (Mem.str b)) rfl
       have Hp8 := Lib.hid hp8
       clear hp8 hbt g0 g1 g2 g3 g4))
  have l0 : ∀ i : Mem.Later w8, i.w.cell? ⟨w.heap.size, 0, none⟩ = some (.int .i64 k) := fun i => i.cell f0
  have l1 : ∀ i : Mem.Later w8, i.w.cell? ⟨w.heap.size, 1, none⟩ = some (.int .i64 s) := fun i => i.cell f1
  have l2 : ∀ i : Mem.Later w8, i.w.cell? ⟨w.heap.size, 2, none⟩ = some (.int .i64 q) := fun i => i.cell f2
  have l3 : ∀ i : Mem.Later w8, i.w.cell? ⟨w.heap.size, 3, none⟩ = some (.int .i64 a) := fun i => i.cell f3
  have l4 : ∀ i : Mem.Later w8, i.w.cell? ⟨w.heap.size, 4, none⟩ = some (.string (Mem.str b)) := fun i => i.cell f4
  have m0 : ∀ i : Mem.Later w8, i.w.cell? ⟨w6.heap.size, 0, none⟩ = some (.int .i64 k) := fun i => i.cell p0
  have m1 : ∀ i : Mem.Later w8, i.w.cell? ⟨w6.heap.size, 1, none⟩ = some (.int .i64 s) := fun i => i.cell p1
  have m2 : ∀ i : Mem.Later w8, i.w.cell? ⟨w6.heap.size, 2, none⟩ = some (.int .i64 q) := fun i => i.cell p2
  have m3 : ∀ i : Mem.Later w8, i.w.cell? ⟨w6.heap.size, 3, none⟩ = some (.int .i64 a) := fun i => i.cell p3
  have m4 : ∀ i : Mem.Later w8, i.w.cell? ⟨w6.heap.size, 4, none⟩ = some (.string (Mem.str b)) := fun i => i.cell p4
  clear f0 f1 f2 f3 f4 p0 p1 p2 p3 p4
  have hPn : ∀ i : Mem.Later w8, Calls Try.prog 16 #[.agg #[.int .i64 k, .int .i64 s, .int .i64 q, .int .i64 a, .string (Mem.str b)]] i.w fun e w'' =>
      e = .returned (.agg #[.int .i64 k, .int .i64 s, .int .i64 q, .int .i64 a, .string (Mem.str b)]) ∧ ∃ j : Mem.Later w8, w'' = j.w := fun i => Mem.later_call (frame_plain ⟨k, s, q, a, b⟩ i.w)
  refine Mem.wp_region_later (by kernel_rfl) (by kernel_rfl) ?_
  repeat (go_big_quiet_step ((go_at_call 16; with_reducible exact hPn _)))
  refine wpQuiet_nil ?_
  rintro w9 ⟨⟨wq, hq⟩, rfl⟩
  have Hq := Lib.hid hq
  clear hq l0 l1 l2 l3 l4 m0 m1 m2 m3 m4 hPn
  rcases Hg3.out with ⟨hm0, hz0⟩ | ⟨hm0, hz0⟩
  · subst hm0
    subst hz0
    have hme : (Mem.str []).toList == [] := by rw [ByteArray.toList_eq, Mem.str_toList]; rfl
    clear hmt
    go_wp2_with (first
      | (go_at_call 14
         with_reducible refine (frame_get A HAl.out _).mono ?_
         rw [Hfa.out, Hy.out]
         rintro e w10 ⟨rfl, hb10⟩
         have Hb10 := Lib.hid hb10
         clear hb10)
      | (refine Mem.wpList_alloc (o := ⟨some 11, _, _, _, _, _⟩) rfl 28 rfl _ Frm.zero_frame ?_
         intro w11 hn11
         have Hn11 := Lib.hid hn11
         clear hn11)
      | (refine Mem.wpList_store rfl 28 (.tmp 11) (.tmp 68) rfl _ #[.int .i64 fa.kind, .int .i64 fa.site, .int .i64 fa.seq, .int .i64 fa.ack, .string (Mem.str fa.body)] rfl rfl _ _ Hn11.out.row Frm.size_frame rfl (Frm.one_cells _ _ _ _ _) ?_
         intro w12 hp12
         have Hp12 := Lib.hid hp12
         clear hp12)
      | (go_at_call 14
         with_reducible refine (frame_get B HBl.out _).mono ?_
         rw [Hfb.out, Hz.out]
         rintro e w13 ⟨rfl, hb13⟩
         have Hb13 := Lib.hid hb13
         clear hb13)
      | (refine Mem.wpList_alloc (o := ⟨some 13, _, _, _, _, _⟩) rfl 28 rfl _ Frm.zero_frame ?_
         intro w14 hn14
         have Hn14 := Lib.hid hn14
         clear hn14)
      | (refine Mem.wpList_store rfl 28 (.tmp 13) (.tmp 75) rfl _ #[.int .i64 fb.kind, .int .i64 fb.site, .int .i64 fb.seq, .int .i64 fb.ack, .string (Mem.str fb.body)] rfl rfl _ _ Hn14.out.row Frm.size_frame rfl (Frm.one_cells _ _ _ _ _) ?_
         intro w15 hp15
         have Hp15 := Lib.hid hp15
         clear hp15))
    go_ret
    refine ⟨rfl, ?_⟩
    have b6 := Mem.then_ (Mem.then_ (Mem.then_ (Mem.then_ (Mem.then_ Hn1.out.below Hb2.out) Hb3.out) Hb4.out) Hb5.out) Hb6.out
    have b8 := (Mem.then_ b6 Hn7.out.below).trans (Hp8.out.below b6.size)
    have b10 := Mem.then_ (Mem.then_ b8 Hq.out) Hb10.out
    have b12 := (Mem.then_ b10 Hn11.out.below).trans (Hp12.out.below b10.size)
    have b13 := Mem.then_ b12 Hb13.out
    exact (Mem.then_ b13 Hn14.out.below).trans (Hp15.out.below b13.size)
  · subst hz0
    have hme : ((Mem.str m).toList == []) = false := by rw [hmt]; exact decide_eq_false hm0
    clear hmt hm0
    go_wp2_with (first
      | (go_at_call 14
         with_reducible refine (frame_get A HAl.out _).mono ?_
         rw [Hfa.out, Hy.out]
         rintro e w10 ⟨rfl, hb10⟩
         have Hb10 := Lib.hid hb10
         clear hb10)
      | (refine Mem.wpList_alloc (o := ⟨some 11, _, _, _, _, _⟩) rfl 28 rfl _ Frm.zero_frame ?_
         intro w11 hn11
         have Hn11 := Lib.hid hn11
         clear hn11)
      | (refine Mem.wpList_store rfl 28 (.tmp 11) (.tmp 68) rfl _ #[.int .i64 fa.kind, .int .i64 fa.site, .int .i64 fa.seq, .int .i64 fa.ack, .string (Mem.str fa.body)] rfl rfl _ _ Hn11.out.row Frm.size_frame rfl (Frm.one_cells _ _ _ _ _) ?_
         intro w12 hp12
         have Hp12 := Lib.hid hp12
         clear hp12)
      | (go_at_call 14
         with_reducible refine (frame_get B HBl.out _).mono ?_
         rw [Hfb.out, Hz.out]
         rintro e w13 ⟨rfl, hb13⟩
         have Hb13 := Lib.hid hb13
         clear hb13)
      | (refine Mem.wpList_alloc (o := ⟨some 13, _, _, _, _, _⟩) rfl 28 rfl _ Frm.zero_frame ?_
         intro w14 hn14
         have Hn14 := Lib.hid hn14
         clear hn14)
      | (refine Mem.wpList_store rfl 28 (.tmp 13) (.tmp 75) rfl _ #[.int .i64 fb.kind, .int .i64 fb.site, .int .i64 fb.seq, .int .i64 fb.ack, .string (Mem.str fb.body)] rfl rfl _ _ Hn14.out.row Frm.size_frame rfl (Frm.one_cells _ _ _ _ _) ?_
         intro w15 hp15
         have Hp15 := Lib.hid hp15
         clear hp15))
    go_ret
    refine ⟨rfl, ?_⟩
    have b6 := Mem.then_ (Mem.then_ (Mem.then_ (Mem.then_ (Mem.then_ Hn1.out.below Hb2.out) Hb3.out) Hb4.out) Hb5.out) Hb6.out
    have b8 := (Mem.then_ b6 Hn7.out.below).trans (Hp8.out.below b6.size)
    have b10 := Mem.then_ (Mem.then_ b8 Hq.out) Hb10.out
    have b12 := (Mem.then_ b10 Hn11.out.below).trans (Hp12.out.below b10.size)
    have b13 := Mem.then_ b12 Hb13.out
    exact (Mem.then_ b13 Hn14.out.below).trans (Hp15.out.below b13.size)

set_option maxRecDepth 100000 in
set_option maxHeartbeats 2000000 in
theorem frameBack_walk (a0_0 : Int) (a0_1 : Int) (a0_2 : Int) (a0_3 : Int) (a0_4 : ByteArray) (a1 : ByteArray) (a2 : Int) (w : World) (_wa0_0 : (Lit.int .i64 a0_0).wf = true) (_wa0_1 : (Lit.int .i64 a0_1).wf = true) (_wa0_2 : (Lit.int .i64 a0_2).wf = true) (_wa0_3 : (Lit.int .i64 a0_3).wf = true) (_wa0_4 : a0_4.size ≤ maxLen) (_wa1 : a1.size ≤ maxLen) (wa2 : (Lit.int .u16 a2).wf = true) :
    Calls Try.prog 5 #[.agg #[.int .i64 a0_0, .int .i64 a0_1, .int .i64 a0_2, .int .i64 a0_3, .string a0_4], .string a1, .int .u16 a2] w fun e w' => e = .returned (.bool true) ∧ Below w.heap.size w w' := by
  have hl : a0_4.data.toList.length = a0_4.size := by simp
  have hl1 : a1.data.toList.length = a1.size := by simp
  have hc : 0 ≤ a2 ∧ a2 < 65536 := by
    have : 0 ≤ a2 ∧ a2 ≤ 65535 := by simpa [Lit.wf, IntKind.min, IntKind.max, IntKind.signed, IntKind.bits] using wa2
    omega
  by_cases hs : a0_4.size ≤ 3000
  · by_cases hs1 : a1.size ≤ 3000
    · by_cases hok : Frm.okB ⟨a0_0, a0_1, a0_2, a0_3, a0_4.data.toList⟩ = true
      · have := frameBack_main a0_0 a0_1 a0_2 a0_3 a0_4.data.toList a1.data.toList a2 w (by omega) (by omega) hc hok
        unfold Frm.val Frm.cells at this
        rw [Mem.str_of, Mem.str_of] at this
        exact this
      · have Hok := Lib.hid (show Frm.okB ⟨a0_0, a0_1, a0_2, a0_3, a0_4.data.toList⟩ = false by simpa using hok)
        have hd : decide ((3000 : Int) < a0_4.size) = false := by rw [decide_eq_false_iff_not]; omega
        have hi : ¬ (3000 : Int) < a0_4.size := by omega
        have hd1 : decide ((3000 : Int) < a1.size) = false := by rw [decide_eq_false_iff_not]; omega
        have hi1 : ¬ (3000 : Int) < a1.size := by omega
        have Hmay := Lib.hid (fun w2 : World => frame_refmay ⟨a0_0, a0_1, a0_2, a0_3, a0_4.data.toList⟩ w2)
        clear hl hl1 hs hs1 hok hc
        go_enter Try.func5, Try.ntmps5
        go_wp2_with (first
          | (refine Mem.wpList_box (o := ⟨some 3, _, _, _, _, _⟩) rfl 23 _ rfl (.agg #[.int .i64 a0_0, .int .i64 a0_1, .int .i64 a0_2, .int .i64 a0_3, .string a0_4]) rfl ?_
             intro w1 hn1
             have e0 := hn1.cell1 0 (v := .int .i64 a0_0) rfl
             have e1 := hn1.cell1 1 (v := .int .i64 a0_1) rfl
             have e2 := hn1.cell1 2 (v := .int .i64 a0_2) rfl
             have e3 := hn1.cell1 3 (v := .int .i64 a0_3) rfl
             have e4 := hn1.cell1 4 (v := .string a0_4) rfl
             have Hn1 := Lib.hid hn1
             clear hn1)
          | (go_at_call 8
             refine (frame_alive _).mono ?_
             rintro e w2 ⟨rfl, hb2⟩
             have f0 := Mem.keep hb2 e0
             have f1 := Mem.keep hb2 e1
             have f2 := Mem.keep hb2 e2
             have f3 := Mem.keep hb2 e3
             have f4 := Mem.keep hb2 e4
             have Hb2 := Lib.hid hb2
             clear hb2 e0 e1 e2 e3 e4)
          | (go_at_call 12
             have hmay := Hmay.out w2
             unfold Frm.val Frm.cells at hmay
             rw [Mem.str_of, Hok.out] at hmay
             refine hmay.mono ?_
             rintro e w3 ⟨rfl, hb3⟩
             have Hb3 := Lib.hid hb3
             clear hb3 hmay))
        go_ret
        exact ⟨rfl, Mem.then_ (Mem.then_ Hn1.out.below Hb2.out) Hb3.out⟩
    · have hd : decide ((3000 : Int) < a0_4.size) = false := by rw [decide_eq_false_iff_not]; omega
      have hi : ¬ (3000 : Int) < a0_4.size := by omega
      have hd1 : decide ((3000 : Int) < a1.size) = true := by rw [decide_eq_true_iff]; omega
      have hi1 : (3000 : Int) < a1.size := by omega
      clear hl hl1 hs hs1 hc
      go_enter Try.func5, Try.ntmps5
      go_wp2_with (first
        | (refine Mem.wpList_box (o := ⟨some 3, _, _, _, _, _⟩) rfl 23 _ rfl (.agg #[.int .i64 a0_0, .int .i64 a0_1, .int .i64 a0_2, .int .i64 a0_3, .string a0_4]) rfl ?_
           intro w1 hn1
           have e4 := hn1.cell1 4 (v := .string a0_4) rfl
           have Hn1 := Lib.hid hn1
           clear hn1)
        | (go_at_call 8
           refine (frame_alive _).mono ?_
           rintro e w2 ⟨rfl, hb2⟩
           have f4 := Mem.keep hb2 e4
           have Hb2 := Lib.hid hb2
           clear hb2 e4))
      go_ret
      exact ⟨rfl, Mem.then_ Hn1.out.below Hb2.out⟩
  · have hd : decide ((3000 : Int) < a0_4.size) = true := by rw [decide_eq_true_iff]; omega
    have hi : (3000 : Int) < a0_4.size := by omega
    clear hl hl1 hs hc
    go_enter Try.func5, Try.ntmps5
    go_wp2_with (first
      | (refine Mem.wpList_box (o := ⟨some 3, _, _, _, _, _⟩) rfl 23 _ rfl (.agg #[.int .i64 a0_0, .int .i64 a0_1, .int .i64 a0_2, .int .i64 a0_3, .string a0_4]) rfl ?_
         intro w1 hn1
         have e4 := hn1.cell1 4 (v := .string a0_4) rfl
         have Hn1 := Lib.hid hn1
         clear hn1)
      | (go_at_call 8
         refine (frame_alive _).mono ?_
         rintro e w2 ⟨rfl, hb2⟩
         have f4 := Mem.keep hb2 e4
         have Hb2 := Lib.hid hb2
         clear hb2 e4))
    go_ret
    exact ⟨rfl, Mem.then_ Hn1.out.below Hb2.out⟩
end Go.Proofs.Ytagbjibpcgipkaa
