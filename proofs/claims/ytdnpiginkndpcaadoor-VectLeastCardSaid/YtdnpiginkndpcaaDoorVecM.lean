/- The walk of the reference's Raise. (Printed by gen_vect.py.) -/
import Derived.Test.YtdnpiginkndpcaaDoorVecL
namespace Go.Proofs.YtdnpiginkndpcaaDoor
open Go.RowKit
open PVectAsks

namespace Vec
open Go.Proofs.YtdnpiginkndpcaaDoorW.PrintWords
/-- sixteen places, the first k of them filled -/
def fillL (f : Nat → Int) (k : Nat) : List Int := (List.range k).map f ++ List.replicate (16 - k) 0
theorem fillL_length (f : Nat → Int) (k : Nat) (h : k ≤ 16) : (fillL f k).length = 16 := by unfold fillL; simp; omega
theorem fillL_step (f : Nat → Int) (k : Nat) (h : k < 16) : ((ints (fillL f k)).toArray.toList.take k ++ [Value.int .i64 (f k)] ++ (ints (fillL f k)).toArray.toList.drop (k + 1)).toArray = (ints (fillL f (k + 1))).toArray := by
  congr 1
  show (List.take k (ints (fillL f k)) ++ [Value.int .i64 (f k)] ++ List.drop (k + 1) (ints (fillL f k))) = _
  rw [set_ints (by rw [fillL_length f k (by omega)]; exact h)]
  congr 1
  unfold fillL
  rw [List.set_append_right _ _ (by simp), List.length_map, List.length_range, Nat.sub_self]
  obtain ⟨d, hd⟩ : ∃ d, 16 - k = d + 1 := ⟨16 - k - 1, by omega⟩
  rw [hd, show 16 - (k + 1) = d by omega, List.replicate_succ, List.set_cons_zero, List.range_succ, List.map_append, List.append_assoc]
  rfl
theorem fillL_full (f : Nat → Int) : fillL f 16 = (List.range 16).map f := by unfold fillL; simp
theorem fillL_zero (f : Nat → Int) : fillL f 0 = List.replicate 16 0 := by unfold fillL; simp
structure FR (f : Nat → Int) (w : World) (b k : Nat) (wr : World) : Prop where
  hk : k ≤ 16
  but : Mem.But (· = b) w wr
  row : wr.heap[b]? = some (.cells (ints (fillL f k)).toArray 53 (0, 0))
theorem zero_arr : (Tryd.prog.info? 53).bind (·.zero) = some (.agg (ints (List.replicate 16 0)).toArray) := by kernel_rfl
theorem size_arr : (Tryd.prog.info? 53).map (·.size) = some 16 := by kernel_rfl
def cntAt (l : List Int) (i : Nat) : Int := cnt l ((i : Int) + 1)
theorem cells_load {w : World} {b : Nat} {cs : Array Value} {T : TypeId} (h : w.heap[b]? = some (.cells cs T (0, 0))) (i : Nat) (hi : i < cs.size) : w.cell? ⟨b, i, none⟩ = some cs[i] := (cell_of_row _ _ i _ _ _ h).trans (Array.getElem?_eq_getElem hi)
end Vec

set_option maxRecDepth 100000 in
set_option maxHeartbeats 4000000 in
theorem ref_raise_no (Aa : Option Addr) (La ca : Nat) (la : List Int) (s q : Int) (w : World) (ha : Vec.Arg w Aa La ca la) (hla : La ≤ 1000) (E : Int) (hE : Vec.raiseE la s q = E) (hE0 : E ≠ 0) :
    Calls Tryd.prog 24 #[.slice Aa La ca, .agg #[.int .i64 s, .int .i64 q]] w fun e w' => e = .returned (.tuple #[.slice none 0 0, .int .i64 E]) ∧ Below w.heap.size w w' := by
  have HRa := Lib.hid (Vec.ref_may_says ha (by omega))
  have HRn := Lib.hid (Vec.ref_name_says w s q)
  have HRc := Lib.hid (Vec.ref_count_says ha (by omega) s)
  unfold Vec.raiseE at hE
  obtain ⟨x, hx⟩ : ∃ x, Vec.may la = x := ⟨_, rfl⟩
  obtain ⟨y, hy⟩ : ∃ x, Vec.mayName s q = x := ⟨_, rfl⟩
  obtain ⟨n, hn⟩ : ∃ x, Vec.cnt la s = x := ⟨_, rfl⟩
  rw [hx, hy, hn] at hE
  rw [hx] at HRa
  rw [hy] at HRn
  rw [hn] at HRc
  have hways : (x = false ∧ E = 1) ∨ (x = true ∧ y = false ∧ E = 1) ∨ (x = true ∧ y = true ∧ n = 1099511627776 ∧ E = 7) ∨ (x = true ∧ y = true ∧ n ≠ 1099511627776 ∧ q ≠ n + 1 ∧ E = 17) := by
    unfold Vec.most at hE
    cases x with
    | false => left; simp at hE; exact ⟨rfl, hE.symm⟩
    | true =>
      cases y with
      | false => right; left; simp at hE; exact ⟨rfl, rfl, hE.symm⟩
      | true =>
        right; right
        simp only [Bool.and_self, if_true] at hE
        by_cases h1 : n = 1099511627776
        · rw [if_pos h1] at hE; exact .inl ⟨rfl, rfl, h1, hE.symm⟩
        · rw [if_neg h1] at hE
          by_cases h2 : q ≠ n + 1
          · rw [if_pos h2] at hE; exact .inr ⟨rfl, rfl, h1, h2, hE.symm⟩
          · rw [if_neg h2] at hE; exact absurd hE.symm hE0
  have hnb : x = true → y = true → 0 ≤ n ∧ n ≤ 1099511627776 := by
    intro h1 _
    rw [← hn]
    exact Vec.cnt_bd (by rw [hx, h1]) s
  clear hE hx hy hn hE0 ha hla
  rcases hways with ⟨rfl, rfl⟩ | ⟨rfl, rfl, rfl⟩ | ⟨rfl, rfl, rfl, rfl⟩ | ⟨rfl, rfl, h1, h2, rfl⟩
  case' inr.inr.inr =>
    have d1 : (n == 1099511627776) = false := beq_eq_false_iff_ne.2 h1
    have d2 : (q != n + 1) = true := bne_iff_ne.2 h2
    have ⟨hb0, hb1⟩ := hnb rfl rfl
    clear h1 h2 hnb
    go_enter Tryd.func24, Tryd.ntmps24
    go_upto_region 5 with (first
        | (with_reducible refine Mem.wpList_box (o := ⟨some 3, _, _, _, _, _⟩) ?_ 33 (.tmp 1) ?_ (.agg #[.int .i64 s, .int .i64 q]) ?_ ?_
           · rfl
           · rfl
           · rfl
           intro w1 hn1
           have c0 := hn1.cell1 0 (v := .int .i64 s) rfl
           have c1 := hn1.cell1 1 (v := .int .i64 q) rfl
           have HB := Lib.hid hn1.below
           clear hn1)
        | (go_at_call 12
           with_reducible refine (HRa.out.go HB.out).mono ?_
           rintro e w1x ⟨rfl, hbx⟩
           have HBn := Lib.hid (Mem.then_ HB.out hbx)
           have c0n := Mem.keep hbx c0
           have c1n := Mem.keep hbx c1
           clear hbx HB c0 c1
           have HB := HBn
           clear HBn
           have c0 := c0n
           clear c0n
           have c1 := c1n
           clear c1n)
        | (go_at_call 22
           with_reducible refine (HRn.out.go HB.out).mono ?_
           rintro e w2x ⟨rfl, hbx⟩
           have HBn := Lib.hid (Mem.then_ HB.out hbx)
           have c0n := Mem.keep hbx c0
           have c1n := Mem.keep hbx c1
           clear hbx HB c0 c1
           have HB := HBn
           clear HBn
           have c0 := c0n
           clear c0n
           have c1 := c1n
           clear c1n)
        | (go_at_call 21
           with_reducible refine (HRc.out.go HB.out).mono ?_
           rintro e w3x ⟨rfl, hbx⟩
           have HBn := Lib.hid (Mem.then_ HB.out hbx)
           have c0n := Mem.keep hbx c0
           have c1n := Mem.keep hbx c1
           clear hbx HB c0 c1
           have HB := HBn
           clear HBn
           have c0 := c0n
           clear c0n
           have c1 := c1n
           clear c1n))
    have j0 : ∀ i : Mem.Later _, i.w.cell? ⟨w.heap.size, 0, none⟩ = some (.int .i64 s) := fun i => i.cell c0
    have j1 : ∀ i : Mem.Later _, i.w.cell? ⟨w.heap.size, 1, none⟩ = some (.int .i64 q) := fun i => i.cell c1
    refine Mem.wp_region_later (by kernel_rfl) (by kernel_rfl) ?_
    repeat (go_big_quiet_step (first
        | (go_at_call 21; refine Mem.later_call (HRc.out.go (Mem.then_ HB.out (Mem.Later.h _))))))
    refine wpQuiet_nil ?_
    rintro wq ⟨⟨_, hq⟩, rfl⟩
    clear j0 j1
    go_wp2
    go_ret2
    exact ⟨rfl, Mem.then_ HB.out hq⟩
  all_goals
    clear hnb
    go_enter Tryd.func24, Tryd.ntmps24
    go_wp2_with (first
        | (with_reducible refine Mem.wpList_box (o := ⟨some 3, _, _, _, _, _⟩) ?_ 33 (.tmp 1) ?_ (.agg #[.int .i64 s, .int .i64 q]) ?_ ?_
           · rfl
           · rfl
           · rfl
           intro w1 hn1
           have c0 := hn1.cell1 0 (v := .int .i64 s) rfl
           have c1 := hn1.cell1 1 (v := .int .i64 q) rfl
           have HB := Lib.hid hn1.below
           clear hn1)
        | (go_at_call 12
           with_reducible refine (HRa.out.go HB.out).mono ?_
           rintro e w4x ⟨rfl, hbx⟩
           have HBn := Lib.hid (Mem.then_ HB.out hbx)
           have c0n := Mem.keep hbx c0
           have c1n := Mem.keep hbx c1
           clear hbx HB c0 c1
           have HB := HBn
           clear HBn
           have c0 := c0n
           clear c0n
           have c1 := c1n
           clear c1n)
        | (go_at_call 22
           with_reducible refine (HRn.out.go HB.out).mono ?_
           rintro e w5x ⟨rfl, hbx⟩
           have HBn := Lib.hid (Mem.then_ HB.out hbx)
           have c0n := Mem.keep hbx c0
           have c1n := Mem.keep hbx c1
           clear hbx HB c0 c1
           have HB := HBn
           clear HBn
           have c0 := c0n
           clear c0n
           have c1 := c1n
           clear c1n)
        | (go_at_call 21
           with_reducible refine (HRc.out.go HB.out).mono ?_
           rintro e w6x ⟨rfl, hbx⟩
           have HBn := Lib.hid (Mem.then_ HB.out hbx)
           have c0n := Mem.keep hbx c0
           have c1n := Mem.keep hbx c1
           clear hbx HB c0 c1
           have HB := HBn
           clear HBn
           have c0 := c0n
           clear c0n
           have c1 := c1n
           clear c1n))
    go_ret2
    exact ⟨rfl, HB.out⟩

set_option maxRecDepth 100000 in
set_option maxHeartbeats 4000000 in
theorem ref_raise_yes (Aa : Option Addr) (La ca : Nat) (la : List Int) (S : Nat) (n : Int) (w : World) (ha : Vec.Arg w Aa La ca la) (hla : La ≤ 16) (hS1 : 1 ≤ S) (hS2 : S ≤ 16) (hm : Vec.may la = true) (hnm : Vec.mayName S (n + 1) = true) (hn : Vec.cnt la S = n) (hn2 : n ≠ 1099511627776) :
    Calls Tryd.prog 24 #[.slice Aa La ca, .agg #[.int .i64 S, .int .i64 (n + 1)]] w fun e w' => ∃ m v, e = .returned (.tuple #[v, .int .i64 0]) ∧ Vec.Tr (((List.range 16).map (Vec.cntAt la)).set (S - 1) (n + 1)) m ∧ Vec.Own w' w.heap.size v ((((List.range 16).map (Vec.cntAt la)).set (S - 1) (n + 1)).take m) ∧ Below w.heap.size w w' := by
  obtain ⟨s, hs⟩ : ∃ s : Int, (S : Int) = s := ⟨_, rfl⟩
  obtain ⟨q, hq⟩ : ∃ q : Int, n + 1 = q := ⟨_, rfl⟩
  have HRk := Lib.hid (fun k : Nat => Vec.ref_count_says ha (by omega) ((k : Int) + 1))
  rw [hs, hq]
  rw [hs] at hn hnm
  rw [hq] at hnm
  have HRa := Lib.hid (Vec.ref_may_says ha (by omega))
  have HRn := Lib.hid (Vec.ref_name_says w s q)
  have HRc := Lib.hid (Vec.ref_count_says ha (by omega) s)
  rw [hm] at HRa
  rw [hnm] at HRn
  rw [hn] at HRc
  obtain ⟨hb0, hb1⟩ := Vec.cnt_bd hm s
  rw [hn] at hb0 hb1
  have d1 : (n == 1099511627776) = false := beq_eq_false_iff_ne.2 hn2
  have d2 : (q != n + 1) = false := by rw [hq]; simp
  have Hs := Lib.hid hs
  have Hq := Lib.hid hq
  clear ha hla hm hnm hn hn2 hs hq
  go_enter Tryd.func24, Tryd.ntmps24
  go_upto_region 5 with (first
      | (with_reducible refine Mem.wpList_box (o := ⟨some 3, _, _, _, _, _⟩) ?_ 33 (.tmp 1) ?_ (.agg #[.int .i64 s, .int .i64 q]) ?_ ?_
         · rfl
         · rfl
         · rfl
         intro w1 hn1
         have c0 := hn1.cell1 0 (v := .int .i64 s) rfl
         have c1 := hn1.cell1 1 (v := .int .i64 q) rfl
         have HB := Lib.hid hn1.below
         clear hn1)
      | (go_at_call 12
         with_reducible refine (HRa.out.go HB.out).mono ?_
         rintro e w7x ⟨rfl, hbx⟩
         have HBn := Lib.hid (Mem.then_ HB.out hbx)
         have c0n := Mem.keep hbx c0
         have c1n := Mem.keep hbx c1
         clear hbx HB c0 c1
         have HB := HBn
         clear HBn
         have c0 := c0n
         clear c0n
         have c1 := c1n
         clear c1n)
      | (go_at_call 22
         with_reducible refine (HRn.out.go HB.out).mono ?_
         rintro e w8x ⟨rfl, hbx⟩
         have HBn := Lib.hid (Mem.then_ HB.out hbx)
         have c0n := Mem.keep hbx c0
         have c1n := Mem.keep hbx c1
         clear hbx HB c0 c1
         have HB := HBn
         clear HBn
         have c0 := c0n
         clear c0n
         have c1 := c1n
         clear c1n)
      | (go_at_call 21
         with_reducible refine (HRc.out.go HB.out).mono ?_
         rintro e w9x ⟨rfl, hbx⟩
         have HBn := Lib.hid (Mem.then_ HB.out hbx)
         have c0n := Mem.keep hbx c0
         have c1n := Mem.keep hbx c1
         clear hbx HB c0 c1
         have HB := HBn
         clear HBn
         have c0 := c0n
         clear c0n
         have c1 := c1n
         clear c1n))
  have j0 : ∀ i : Mem.Later _, i.w.cell? ⟨w.heap.size, 0, none⟩ = some (.int .i64 s) := fun i => i.cell c0
  have j1 : ∀ i : Mem.Later _, i.w.cell? ⟨w.heap.size, 1, none⟩ = some (.int .i64 q) := fun i => i.cell c1
  refine Mem.wp_region_later (by kernel_rfl) (by kernel_rfl) ?_
  repeat (go_big_quiet_step (first
      | (go_at_call 21; refine Mem.later_call (HRc.out.go (Mem.then_ HB.out (Mem.Later.h _))))))
  refine wpQuiet_nil ?_
  rintro wq ⟨⟨_, hq⟩, rfl⟩
  clear j0 j1
  have HB5 := Lib.hid (Mem.then_ HB.out hq)
  have g0 := Mem.keep hq c0
  have g1 := Mem.keep hq c1
  have g0' := g0
  clear HB hq c0 c1
  go_wp2_with (
    with_reducible refine Mem.wpList_alloc (o := ⟨some 6, _, _, _, _, _⟩) ?_ 53 ?_ _ Vec.zero_arr ?_
    · rfl
    · rfl
    intro w6 hn6
    have Hn6 := Lib.hid hn6
    have e0 := Mem.keep hn6.below g0
    have e1 := Mem.keep hn6.below g1
    clear hn6 g0 g1)
  have hlt : w.heap.size < wq.heap.size := block_lt_of_cell g0'
  have HB6 := Lib.hid (HB5.out.trans (Hn6.out.below.mono HB5.out.size))
  clear g0'
  go_wp2
  go_loopw [7] (fun t7 wr => ∃ k : Nat, t7 = .int .i64 ((k : Int) + 1) ∧ Vec.FR (Vec.cntAt la) w6 wq.heap.size k wr) (fun t7 _ => 17 - (intOf t7).toNat)
  case atStart =>
    refine ⟨0, by simp, ⟨Nat.zero_le _, Mem.But.refl _ _, ?_⟩⟩
    rw [Vec.fillL_zero]
    exact Hn6.out.row
  case round =>
    obtain ⟨k, rfl, R⟩ := hrel
    have HR := Lib.hid R
    have hk := R.hk
    clear R
    have HBr := Lib.hid (HB6.out.trans (HR.out.but.below (B := w.heap.size) HB6.out.size (fun _ e => by rw [e]; exact HB5.out.size)))
    by_cases hk16 : k < 16
    · have i1 : (k : Int) + 1 ≤ 16 := by omega
      have i2 : (0 : Int) ≤ (k : Int) := by omega
      have i3 : (k : Int) < 16 := by omega
      go_wp2_with (first
        | (go_at_call 21
           with_reducible refine ((HRk.out k).go HBr.out).mono ?_
           rintro e w8 ⟨rfl, hb8⟩
           have hrow8 : w8.heap[wq.heap.size]? = some (.cells (Vec.ints (Vec.fillL (Vec.cntAt la) k)).toArray 53 (0, 0)) := (hb8.block _ ((Array.getElem?_eq_some_iff.1 HR.out.row).1)).trans HR.out.row
           have Hrow8 := Lib.hid hrow8
           have Hb8 := Lib.hid hb8
           clear hb8 hrow8)
        | (with_reducible refine Mem.wpList_store_cell (o := ⟨none, .store 3 (.tmp 38) (.tmp 37), _, _, _, _⟩) ?_ 3 (.tmp 38) (.tmp 37) ?_ wq.heap.size k ?_ (.int .i64 (Vec.cntAt la k)) ?_ ?_ ?_ 53 (Vec.ints (Vec.fillL (Vec.cntAt la) k)).toArray Hrow8.out ?_ _ (Vec.fillL_step (Vec.cntAt la) k hk16) ?_
           · rfl
           · rfl
           · rfl
           · rfl
           · rfl
           · kernel_rfl
           · rw [List.size_toArray, Vec.ints, List.length_map, Vec.fillL_length _ _ hk]; omega
           intro w9 hp9
           have Hp9 := Lib.hid hp9
           clear hp9))
      refine ⟨⟨k + 1, by push_cast; rfl, ⟨hk16, ?_, Hp9.out.row⟩⟩, by simp only [intOf]; omega⟩
      exact (HR.out.but.trans (Mem.But.of_below Hb8.out)).trans (Mem.But.of_put Hp9.out rfl)
    · have hk' : k = 16 := by omega
      subst hk'
      have g2 := Mem.keep_but HR.out.but (by show ¬ w.heap.size = wq.heap.size; omega) e0
      have g3 := Mem.keep_but HR.out.but (by show ¬ w.heap.size = wq.heap.size; omega) e1
      obtain ⟨k, hk⟩ : ∃ k : Nat, s - 1 = (k : Int) := ⟨S - 1, by rw [← Hs.out]; omega⟩
      have i2 : (0 : Int) ≤ (k : Int) := by omega
      have i3 : (k : Int) < 16 := by have := Hs.out; omega
      have hkS : S - 1 = k := by have := Hs.out; omega
      have HkS := Lib.hid hkS
      obtain ⟨lm, hlm⟩ : ∃ lm, ((List.range 16).map (Vec.cntAt la)).set k q = lm := ⟨_, rfl⟩
      have HM := Lib.hid (fun w1 => ref_made lm (by rw [← hlm]; simp) w1)
      have Hlm := Lib.hid hlm
      clear hlm
      have hrow := HR.out.row
      rw [Vec.fillL_full] at hrow
      have HRow := Lib.hid hrow
      clear hkS hrow e0 e1 hlt hk16
      go_wp2_with (first
        | (with_reducible refine Mem.wpList_store_cell (o := ⟨none, .store 3 (.tmp 44) (.tmp 43), _, _, _, _⟩) ?_ 3 (.tmp 44) (.tmp 43) ?_ wq.heap.size k ?_ (.int .i64 q) ?_ ?_ ?_ 53 (Vec.ints ((List.range 16).map (Vec.cntAt la))).toArray HRow.out ?_ (Vec.ints lm).toArray ?_ ?_
           · rfl
           · rfl
           · rfl
           · rfl
           · rfl
           · kernel_rfl
           · simp [Vec.ints]; omega
           · rw [← Hlm.out]
             congr 1
             exact Vec.set_ints (by simp; omega) q
           intro w9 hp9
           have Hp9 := Lib.hid hp9
           clear hp9)
        | (with_reducible refine wpList_load_row (o := ⟨some 45, _, _, _, _, _⟩) ?_ 53 (.tmp 6) ?_ _ ?_ _ _ _ _ Hp9.out.row Tryd.underlying53 ?_ ?_ ?_
           · rfl
           · rfl
           · rfl
           · rfl
           · rw [Vec.size_arr, ← Hlm.out]; simp [Vec.ints])
        | (go_at_call 36
           with_reducible refine (HM.out _).mono ?_
           rintro e w10 ⟨m, v, rfl, htr, ho, hb10⟩
           have Htr := Lib.hid htr
           have Ho := Lib.hid ho
           have Hb10 := Lib.hid hb10
           clear htr ho hb10))
      go_ret2
      have hb9 : Below w.heap.size w w9 := HBr.out.trans (Hp9.out.below HB5.out.size)
      rw [HkS.out, Hlm.out]
      exact ⟨m, v, rfl, Htr.out, Go.Proofs.YtdnpiginkndpcaaDoorW.PrintWords.own_weaken Ho.out hb9.size, Mem.then_ hb9 Hb10.out⟩

end Go.Proofs.YtdnpiginkndpcaaDoor
