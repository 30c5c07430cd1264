/- The walk of pairs over max and over min. (Printed by gen_vect2.py.) -/
import Derived.Test.YtdnpiginkndpcaaDoorVecN
namespace Go.Proofs.YtdnpiginkndpcaaDoor
open Go.RowKit
open PVectAsks

namespace Vec
open Go.Proofs.YtdnpiginkndpcaaDoorW.PrintWords
theorem cnt_says {w : World} {A : Option Addr} {n c : Nat} {l : List Int} (h : Arg w A n c l) (hn : n ≤ 1000) (s : Int) : Says 40 #[.slice A n c, .int .i64 s] w (.int .i64 (cnt l s)) := fun w1 hb => by
  obtain ⟨rfl, hc, hC⟩ := h
  exact (vect_count.calls A c l s _ w1 (Kd.C_below hC hb) hc (count_eval l s (by omega))).mono fun e w2 h2 => ⟨h2.1, drawn_below h2.2⟩
/-- N places, the first k of them filled -/
def fillN (f : Nat → Int) (N k : Nat) : List Int := (List.range k).map f ++ List.replicate (N - k) 0
theorem fillN_length (f : Nat → Int) (N k : Nat) (h : k ≤ N) : (fillN f N k).length = N := by unfold fillN; simp; omega
theorem fillN_step (f : Nat → Int) (N k : Nat) (h : k < N) : ((ints (fillN f N k)).toArray.toList.take k ++ [Value.int .i64 (f k)] ++ (ints (fillN f N k)).toArray.toList.drop (k + 1)).toArray = (ints (fillN f N (k + 1))).toArray := by
  congr 1
  show (List.take k (ints (fillN f N k)) ++ [Value.int .i64 (f k)] ++ List.drop (k + 1) (ints (fillN f N k))) = _
  rw [set_ints (by rw [fillN_length f N k (by omega)]; exact h)]
  congr 1
  unfold fillN
  rw [List.set_append_right _ _ (by simp), List.length_map, List.length_range, Nat.sub_self]
  obtain ⟨d, hd⟩ : ∃ d, N - k = d + 1 := ⟨N - k - 1, by omega⟩
  rw [hd, show N - (k + 1) = d by omega, List.replicate_succ, List.set_cons_zero, List.range_succ, List.map_append, List.append_assoc]
  rfl
theorem fillN_full (f : Nat → Int) (N : Nat) : fillN f N N = (List.range N).map f := by unfold fillN; simp
theorem fillN_zero (f : Nat → Int) (N : Nat) : fillN f N 0 = List.replicate N 0 := by unfold fillN; simp
structure PI (f : Nat → Int) (w : World) (N b k : Nat) (wr : World) : Prop where
  hk : k ≤ N
  below : Below w.heap.size w wr
  row : wr.heap[b]? = some (.cells (ints (fillN f N k)).toArray 3 (0, 0))
end Vec

theorem of_max (x y : Int) (w : World) : Calls Tryd.prog 35 #[.int .i64 x, .int .i64 y] w fun e w' => e = .returned (.int .i64 (max x y)) ∧ w = w' := by
  obtain ⟨z, hz⟩ : ∃ z, max x y = z := ⟨_, rfl⟩
  rw [hz]
  by_cases h : x < y
  · obtain rfl : z = y := by omega
    clear hz
    go_enter Tryd.func35, Tryd.ntmps35
    go_wp2
    go_ret
    exact ⟨rfl, rfl⟩
  · obtain rfl : z = x := by omega
    clear hz
    go_enter Tryd.func35, Tryd.ntmps35
    go_wp2
    go_ret
    exact ⟨rfl, rfl⟩

set_option maxRecDepth 100000 in
set_option maxHeartbeats 4000000 in
theorem pairs_max (Aa Ab : Option Addr) (La ca Lb cb N : Nat) (la lb : List Int) (w : World) (ha : Vec.Arg w Aa La ca la) (hb : Vec.Arg w Ab Lb cb lb) (hla : La ≤ 1000) (hlb : Lb ≤ 1000) (hN : (La < Lb ∧ N = Lb) ∨ (¬ La < Lb ∧ N = La)) :
    Calls Tryd.prog 34 #[.slice Aa La ca, .slice Ab Lb cb, .func (.func 35) #[] #[]] w fun e w' => ∃ A c, e = .returned (.slice A N c) ∧ Vec.Arg w' A N c ((List.range N).map fun i => max (Vec.cntAt la i) (Vec.cntAt lb i)) ∧ Below w.heap.size w w' := by
  have HCa := Lib.hid (fun k : Nat => Vec.cnt_says ha (by omega) ((k : Int) + 1))
  have HCb := Lib.hid (fun k : Nat => Vec.cnt_says hb (by omega) ((k : Int) + 1))
  obtain ⟨f, hf⟩ : ∃ f : Nat → Int, (fun i => max (Vec.cntAt la i) (Vec.cntAt lb i)) = f := ⟨_, rfl⟩
  have hfk : ∀ k : Nat, max (Vec.cnt la ((k : Int) + 1)) (Vec.cnt lb ((k : Int) + 1)) = f k := fun k => by rw [← hf]; rfl
  rw [hf]
  have Hf := Lib.hid hfk
  clear hf hfk ha hb
  rcases hN with ⟨hlt, rfl⟩ | ⟨hlt, rfl⟩
  · have hlt' : (La : Int) < (N : Int) := by omega
    go_enter Tryd.func34, Tryd.ntmps34
    go_wp2_with (
      with_reducible refine Mem.wpList_make (o := ⟨some 14, _, _, _, _, _⟩) ?_ (.tmp 13) (.tmp 13) 22 3 ?_ Tryd.underlying22 (.int .i64 0) 1 8 Vec.info_int .i64 .i64 N N ?_ ?_ ?_ ?_ ?_ ?_ ?_
      · rfl
      · rfl
      · rfl
      · rfl
      · omega
      · omega
      · omega
      · omega
      intro w3 hn3
      have Hn3 := Lib.hid hn3
      clear hn3)
    have hrow := Hn3.out.row
    rw [show ((N : Int).toNat * 1) = N * 1 by omega, Vec.made_ints] at hrow
    have HRow := Lib.hid hrow
    clear hrow
    go_loopw [8, 17] (fun t8 t17 wr => ∃ i : Nat, t17 = .int .i64 i ∧ Vec.PI f w N w.heap.size i wr) (fun _ t17 _ => N - (intOf t17).toNat)
    case atStart =>
      refine ⟨0, rfl, ⟨Nat.zero_le _, Hn3.out.below, ?_⟩⟩
      rw [Vec.fillN_zero]
      exact HRow.out
    case round =>
      obtain ⟨i, rfl, R⟩ := hrel
      have HR := Lib.hid R
      have hi := R.hk
      clear R
      by_cases hl : i < N
      · have d1 : (i : Int) < (N : Int) := by omega
        have d2 : (0 : Int) ≤ (i : Int) := by omega
        have HFn := Lib.hid (fun w1 => of_max (Vec.cnt la ((i : Int) + 1)) (Vec.cnt lb ((i : Int) + 1)) w1)
        rw [Hf.out i] at HFn
        have HA := HCa.out i
        have HBb := HCb.out i
        have HA1 := Lib.hid HA
        have HB1 := Lib.hid HBb
        clear HA HBb
        obtain ⟨x, hx⟩ : ∃ x, Vec.cnt la ((i : Int) + 1) = x := ⟨_, rfl⟩
        obtain ⟨y, hy⟩ : ∃ y, Vec.cnt lb ((i : Int) + 1) = y := ⟨_, rfl⟩
        rw [hx] at HA1 HFn
        rw [hy] at HB1 HFn
        clear hx hy
        have hfi := Vec.fillN_step f N i hl
        have hfl := Vec.fillN_length f N i hi
        have Hfi := Lib.hid hfi
        have Hfl := Lib.hid hfl
        clear hfi hfl
        obtain ⟨z, hz⟩ : ∃ z, f i = z := ⟨_, rfl⟩
        rw [hz] at HFn Hfi
        clear hz
        go_wp2_with (first
          | (go_at_call 40
             with_reducible refine (HA1.out.go HR.out.below).mono ?_
             rintro e w4 ⟨rfl, hb4⟩
             have HB4 := Lib.hid (Mem.then_ HR.out.below hb4)
             have hr4 := (hb4.block _ ((Array.getElem?_eq_some_iff.1 HR.out.row).1)).trans HR.out.row
             have Hr4 := Lib.hid hr4
             clear hb4 hr4)
          | (go_at_call 40
             with_reducible refine (HB1.out.go HB4.out).mono ?_
             rintro e w5 ⟨rfl, hb5⟩
             have HB5 := Lib.hid (Mem.then_ HB4.out hb5)
             have hr5 := (hb5.block _ ((Array.getElem?_eq_some_iff.1 Hr4.out).1)).trans Hr4.out
             have Hr5 := Lib.hid hr5
             clear hb5 hr5)
          | (go_at_call 35
             with_reducible refine (HFn.out _).mono ?_
             rintro e w6 ⟨rfl, rfl⟩)
          | (with_reducible refine Mem.wpList_store_cell (o := ⟨none, .store 3 (.tmp 32) (.tmp 31), _, _, _, _⟩) ?_ 3 (.tmp 32) (.tmp 31) ?_ w.heap.size i ?_ (.int .i64 z) ?_ ?_ ?_ 3 (Vec.ints (Vec.fillN f N i)).toArray Hr5.out ?_ _ Hfi.out ?_
             · rfl
             · rfl
             · rfl
             · rfl
             · rfl
             · kernel_rfl
             · rw [List.size_toArray, Vec.ints, List.length_map, Hfl.out]; omega
             intro w7 hp7
             have Hp7 := Lib.hid hp7
             clear hp7))
        refine ⟨⟨i + 1, by push_cast; rfl, ⟨hl, HB5.out.trans (Hp7.out.below (Nat.le_refl _)), Hp7.out.row⟩⟩, by simp only [intOf]; omega⟩
      · have hiN : i = N := by omega
        subst hiN
        go_wp2
        go_ret
        have hrow := HR.out.row
        rw [Vec.fillN_full] at hrow
        have ho := Vec.own_of_row (w := wr) (base := w.heap.size) (N := i) (by simp) (by omega) (Nat.le_refl _) hrow
        obtain ⟨A, c, e1, e2⟩ := Vec.Arg.own ho
        simp only [List.length_map, List.length_range] at e1 e2
        injection e1 with k1 k2 k3
        subst k1 k3
        exact ⟨_, _, rfl, e2, HR.out.below⟩
  · have hlt' : ¬ (N : Int) < (Lb : Int) := by omega
    go_enter Tryd.func34, Tryd.ntmps34
    go_wp2_with (
      with_reducible refine Mem.wpList_make (o := ⟨some 14, _, _, _, _, _⟩) ?_ (.tmp 13) (.tmp 13) 22 3 ?_ Tryd.underlying22 (.int .i64 0) 1 8 Vec.info_int .i64 .i64 N N ?_ ?_ ?_ ?_ ?_ ?_ ?_
      · rfl
      · rfl
      · rfl
      · rfl
      · omega
      · omega
      · omega
      · omega
      intro w3 hn3
      have Hn3 := Lib.hid hn3
      clear hn3)
    have hrow := Hn3.out.row
    rw [show ((N : Int).toNat * 1) = N * 1 by omega, Vec.made_ints] at hrow
    have HRow := Lib.hid hrow
    clear hrow
    go_loopw [8, 17] (fun t8 t17 wr => ∃ i : Nat, t17 = .int .i64 i ∧ Vec.PI f w N w.heap.size i wr) (fun _ t17 _ => N - (intOf t17).toNat)
    case atStart =>
      refine ⟨0, rfl, ⟨Nat.zero_le _, Hn3.out.below, ?_⟩⟩
      rw [Vec.fillN_zero]
      exact HRow.out
    case round =>
      obtain ⟨i, rfl, R⟩ := hrel
      have HR := Lib.hid R
      have hi := R.hk
      clear R
      by_cases hl : i < N
      · have d1 : (i : Int) < (N : Int) := by omega
        have d2 : (0 : Int) ≤ (i : Int) := by omega
        have HFn := Lib.hid (fun w1 => of_max (Vec.cnt la ((i : Int) + 1)) (Vec.cnt lb ((i : Int) + 1)) w1)
        rw [Hf.out i] at HFn
        have HA := HCa.out i
        have HBb := HCb.out i
        have HA1 := Lib.hid HA
        have HB1 := Lib.hid HBb
        clear HA HBb
        obtain ⟨x, hx⟩ : ∃ x, Vec.cnt la ((i : Int) + 1) = x := ⟨_, rfl⟩
        obtain ⟨y, hy⟩ : ∃ y, Vec.cnt lb ((i : Int) + 1) = y := ⟨_, rfl⟩
        rw [hx] at HA1 HFn
        rw [hy] at HB1 HFn
        clear hx hy
        have hfi := Vec.fillN_step f N i hl
        have hfl := Vec.fillN_length f N i hi
        have Hfi := Lib.hid hfi
        have Hfl := Lib.hid hfl
        clear hfi hfl
        obtain ⟨z, hz⟩ : ∃ z, f i = z := ⟨_, rfl⟩
        rw [hz] at HFn Hfi
        clear hz
        go_wp2_with (first
          | (go_at_call 40
             with_reducible refine (HA1.out.go HR.out.below).mono ?_
             rintro e w4 ⟨rfl, hb4⟩
             have HB4 := Lib.hid (Mem.then_ HR.out.below hb4)
             have hr4 := (hb4.block _ ((Array.getElem?_eq_some_iff.1 HR.out.row).1)).trans HR.out.row
             have Hr4 := Lib.hid hr4
             clear hb4 hr4)
          | (go_at_call 40
             with_reducible refine (HB1.out.go HB4.out).mono ?_
             rintro e w5 ⟨rfl, hb5⟩
             have HB5 := Lib.hid (Mem.then_ HB4.out hb5)
             have hr5 := (hb5.block _ ((Array.getElem?_eq_some_iff.1 Hr4.out).1)).trans Hr4.out
             have Hr5 := Lib.hid hr5
             clear hb5 hr5)
          | (go_at_call 35
             with_reducible refine (HFn.out _).mono ?_
             rintro e w6 ⟨rfl, rfl⟩)
          | (with_reducible refine Mem.wpList_store_cell (o := ⟨none, .store 3 (.tmp 32) (.tmp 31), _, _, _, _⟩) ?_ 3 (.tmp 32) (.tmp 31) ?_ w.heap.size i ?_ (.int .i64 z) ?_ ?_ ?_ 3 (Vec.ints (Vec.fillN f N i)).toArray Hr5.out ?_ _ Hfi.out ?_
             · rfl
             · rfl
             · rfl
             · rfl
             · rfl
             · kernel_rfl
             · rw [List.size_toArray, Vec.ints, List.length_map, Hfl.out]; omega
             intro w7 hp7
             have Hp7 := Lib.hid hp7
             clear hp7))
        refine ⟨⟨i + 1, by push_cast; rfl, ⟨hl, HB5.out.trans (Hp7.out.below (Nat.le_refl _)), Hp7.out.row⟩⟩, by simp only [intOf]; omega⟩
      · have hiN : i = N := by omega
        subst hiN
        go_wp2
        go_ret
        have hrow := HR.out.row
        rw [Vec.fillN_full] at hrow
        have ho := Vec.own_of_row (w := wr) (base := w.heap.size) (N := i) (by simp) (by omega) (Nat.le_refl _) hrow
        obtain ⟨A, c, e1, e2⟩ := Vec.Arg.own ho
        simp only [List.length_map, List.length_range] at e1 e2
        injection e1 with k1 k2 k3
        subst k1 k3
        exact ⟨_, _, rfl, e2, HR.out.below⟩

theorem of_min (x y : Int) (w : World) : Calls Tryd.prog 41 #[.int .i64 x, .int .i64 y] w fun e w' => e = .returned (.int .i64 (min x y)) ∧ w = w' := by
  obtain ⟨z, hz⟩ : ∃ z, min x y = z := ⟨_, rfl⟩
  rw [hz]
  by_cases h : y < x
  · obtain rfl : z = y := by omega
    clear hz
    go_enter Tryd.func41, Tryd.ntmps41
    go_wp2
    go_ret
    exact ⟨rfl, rfl⟩
  · obtain rfl : z = x := by omega
    clear hz
    go_enter Tryd.func41, Tryd.ntmps41
    go_wp2
    go_ret
    exact ⟨rfl, rfl⟩

set_option maxRecDepth 100000 in
set_option maxHeartbeats 4000000 in
theorem pairs_min (Aa Ab : Option Addr) (La ca Lb cb N : Nat) (la lb : List Int) (w : World) (ha : Vec.Arg w Aa La ca la) (hb : Vec.Arg w Ab Lb cb lb) (hla : La ≤ 1000) (hlb : Lb ≤ 1000) (hN : (La < Lb ∧ N = Lb) ∨ (¬ La < Lb ∧ N = La)) :
    Calls Tryd.prog 34 #[.slice Aa La ca, .slice Ab Lb cb, .func (.func 41) #[] #[]] w fun e w' => ∃ A c, e = .returned (.slice A N c) ∧ Vec.Arg w' A N c ((List.range N).map fun i => min (Vec.cntAt la i) (Vec.cntAt lb i)) ∧ Below w.heap.size w w' := by
  have HCa := Lib.hid (fun k : Nat => Vec.cnt_says ha (by omega) ((k : Int) + 1))
  have HCb := Lib.hid (fun k : Nat => Vec.cnt_says hb (by omega) ((k : Int) + 1))
  obtain ⟨f, hf⟩ : ∃ f : Nat → Int, (fun i => min (Vec.cntAt la i) (Vec.cntAt lb i)) = f := ⟨_, rfl⟩
  have hfk : ∀ k : Nat, min (Vec.cnt la ((k : Int) + 1)) (Vec.cnt lb ((k : Int) + 1)) = f k := fun k => by rw [← hf]; rfl
  rw [hf]
  have Hf := Lib.hid hfk
  clear hf hfk ha hb
  rcases hN with ⟨hlt, rfl⟩ | ⟨hlt, rfl⟩
  · have hlt' : (La : Int) < (N : Int) := by omega
    go_enter Tryd.func34, Tryd.ntmps34
    go_wp2_with (
      with_reducible refine Mem.wpList_make (o := ⟨some 14, _, _, _, _, _⟩) ?_ (.tmp 13) (.tmp 13) 22 3 ?_ Tryd.underlying22 (.int .i64 0) 1 8 Vec.info_int .i64 .i64 N N ?_ ?_ ?_ ?_ ?_ ?_ ?_
      · rfl
      · rfl
      · rfl
      · rfl
      · omega
      · omega
      · omega
      · omega
      intro w3 hn3
      have Hn3 := Lib.hid hn3
      clear hn3)
    have hrow := Hn3.out.row
    rw [show ((N : Int).toNat * 1) = N * 1 by omega, Vec.made_ints] at hrow
    have HRow := Lib.hid hrow
    clear hrow
    go_loopw [8, 17] (fun t8 t17 wr => ∃ i : Nat, t17 = .int .i64 i ∧ Vec.PI f w N w.heap.size i wr) (fun _ t17 _ => N - (intOf t17).toNat)
    case atStart =>
      refine ⟨0, rfl, ⟨Nat.zero_le _, Hn3.out.below, ?_⟩⟩
      rw [Vec.fillN_zero]
      exact HRow.out
    case round =>
      obtain ⟨i, rfl, R⟩ := hrel
      have HR := Lib.hid R
      have hi := R.hk
      clear R
      by_cases hl : i < N
      · have d1 : (i : Int) < (N : Int) := by omega
        have d2 : (0 : Int) ≤ (i : Int) := by omega
        have HFn := Lib.hid (fun w1 => of_min (Vec.cnt la ((i : Int) + 1)) (Vec.cnt lb ((i : Int) + 1)) w1)
        rw [Hf.out i] at HFn
        have HA := HCa.out i
        have HBb := HCb.out i
        have HA1 := Lib.hid HA
        have HB1 := Lib.hid HBb
        clear HA HBb
        obtain ⟨x, hx⟩ : ∃ x, Vec.cnt la ((i : Int) + 1) = x := ⟨_, rfl⟩
        obtain ⟨y, hy⟩ : ∃ y, Vec.cnt lb ((i : Int) + 1) = y := ⟨_, rfl⟩
        rw [hx] at HA1 HFn
        rw [hy] at HB1 HFn
        clear hx hy
        have hfi := Vec.fillN_step f N i hl
        have hfl := Vec.fillN_length f N i hi
        have Hfi := Lib.hid hfi
        have Hfl := Lib.hid hfl
        clear hfi hfl
        obtain ⟨z, hz⟩ : ∃ z, f i = z := ⟨_, rfl⟩
        rw [hz] at HFn Hfi
        clear hz
        go_wp2_with (first
          | (go_at_call 40
             with_reducible refine (HA1.out.go HR.out.below).mono ?_
             rintro e w4 ⟨rfl, hb4⟩
             have HB4 := Lib.hid (Mem.then_ HR.out.below hb4)
             have hr4 := (hb4.block _ ((Array.getElem?_eq_some_iff.1 HR.out.row).1)).trans HR.out.row
             have Hr4 := Lib.hid hr4
             clear hb4 hr4)
          | (go_at_call 40
             with_reducible refine (HB1.out.go HB4.out).mono ?_
             rintro e w5 ⟨rfl, hb5⟩
             have HB5 := Lib.hid (Mem.then_ HB4.out hb5)
             have hr5 := (hb5.block _ ((Array.getElem?_eq_some_iff.1 Hr4.out).1)).trans Hr4.out
             have Hr5 := Lib.hid hr5
             clear hb5 hr5)
          | (go_at_call 41
             with_reducible refine (HFn.out _).mono ?_
             rintro e w6 ⟨rfl, rfl⟩)
          | (with_reducible refine Mem.wpList_store_cell (o := ⟨none, .store 3 (.tmp 32) (.tmp 31), _, _, _, _⟩) ?_ 3 (.tmp 32) (.tmp 31) ?_ w.heap.size i ?_ (.int .i64 z) ?_ ?_ ?_ 3 (Vec.ints (Vec.fillN f N i)).toArray Hr5.out ?_ _ Hfi.out ?_
             · rfl
             · rfl
             · rfl
             · rfl
             · rfl
             · kernel_rfl
             · rw [List.size_toArray, Vec.ints, List.length_map, Hfl.out]; omega
             intro w7 hp7
             have Hp7 := Lib.hid hp7
             clear hp7))
        refine ⟨⟨i + 1, by push_cast; rfl, ⟨hl, HB5.out.trans (Hp7.out.below (Nat.le_refl _)), Hp7.out.row⟩⟩, by simp only [intOf]; omega⟩
      · have hiN : i = N := by omega
        subst hiN
        go_wp2
        go_ret
        have hrow := HR.out.row
        rw [Vec.fillN_full] at hrow
        have ho := Vec.own_of_row (w := wr) (base := w.heap.size) (N := i) (by simp) (by omega) (Nat.le_refl _) hrow
        obtain ⟨A, c, e1, e2⟩ := Vec.Arg.own ho
        simp only [List.length_map, List.length_range] at e1 e2
        injection e1 with k1 k2 k3
        subst k1 k3
        exact ⟨_, _, rfl, e2, HR.out.below⟩
  · have hlt' : ¬ (N : Int) < (Lb : Int) := by omega
    go_enter Tryd.func34, Tryd.ntmps34
    go_wp2_with (
      with_reducible refine Mem.wpList_make (o := ⟨some 14, _, _, _, _, _⟩) ?_ (.tmp 13) (.tmp 13) 22 3 ?_ Tryd.underlying22 (.int .i64 0) 1 8 Vec.info_int .i64 .i64 N N ?_ ?_ ?_ ?_ ?_ ?_ ?_
      · rfl
      · rfl
      · rfl
      · rfl
      · omega
      · omega
      · omega
      · omega
      intro w3 hn3
      have Hn3 := Lib.hid hn3
      clear hn3)
    have hrow := Hn3.out.row
    rw [show ((N : Int).toNat * 1) = N * 1 by omega, Vec.made_ints] at hrow
    have HRow := Lib.hid hrow
    clear hrow
    go_loopw [8, 17] (fun t8 t17 wr => ∃ i : Nat, t17 = .int .i64 i ∧ Vec.PI f w N w.heap.size i wr) (fun _ t17 _ => N - (intOf t17).toNat)
    case atStart =>
      refine ⟨0, rfl, ⟨Nat.zero_le _, Hn3.out.below, ?_⟩⟩
      rw [Vec.fillN_zero]
      exact HRow.out
    case round =>
      obtain ⟨i, rfl, R⟩ := hrel
      have HR := Lib.hid R
      have hi := R.hk
      clear R
      by_cases hl : i < N
      · have d1 : (i : Int) < (N : Int) := by omega
        have d2 : (0 : Int) ≤ (i : Int) := by omega
        have HFn := Lib.hid (fun w1 => of_min (Vec.cnt la ((i : Int) + 1)) (Vec.cnt lb ((i : Int) + 1)) w1)
        rw [Hf.out i] at HFn
        have HA := HCa.out i
        have HBb := HCb.out i
        have HA1 := Lib.hid HA
        have HB1 := Lib.hid HBb
        clear HA HBb
        obtain ⟨x, hx⟩ : ∃ x, Vec.cnt la ((i : Int) + 1) = x := ⟨_, rfl⟩
        obtain ⟨y, hy⟩ : ∃ y, Vec.cnt lb ((i : Int) + 1) = y := ⟨_, rfl⟩
        rw [hx] at HA1 HFn
        rw [hy] at HB1 HFn
        clear hx hy
        have hfi := Vec.fillN_step f N i hl
        have hfl := Vec.fillN_length f N i hi
        have Hfi := Lib.hid hfi
        have Hfl := Lib.hid hfl
        clear hfi hfl
        obtain ⟨z, hz⟩ : ∃ z, f i = z := ⟨_, rfl⟩
        rw [hz] at HFn Hfi
        clear hz
        go_wp2_with (first
          | (go_at_call 40
             with_reducible refine (HA1.out.go HR.out.below).mono ?_
             rintro e w4 ⟨rfl, hb4⟩
             have HB4 := Lib.hid (Mem.then_ HR.out.below hb4)
             have hr4 := (hb4.block _ ((Array.getElem?_eq_some_iff.1 HR.out.row).1)).trans HR.out.row
             have Hr4 := Lib.hid hr4
             clear hb4 hr4)
          | (go_at_call 40
             with_reducible refine (HB1.out.go HB4.out).mono ?_
             rintro e w5 ⟨rfl, hb5⟩
             have HB5 := Lib.hid (Mem.then_ HB4.out hb5)
             have hr5 := (hb5.block _ ((Array.getElem?_eq_some_iff.1 Hr4.out).1)).trans Hr4.out
             have Hr5 := Lib.hid hr5
             clear hb5 hr5)
          | (go_at_call 41
             with_reducible refine (HFn.out _).mono ?_
             rintro e w6 ⟨rfl, rfl⟩)
          | (with_reducible refine Mem.wpList_store_cell (o := ⟨none, .store 3 (.tmp 32) (.tmp 31), _, _, _, _⟩) ?_ 3 (.tmp 32) (.tmp 31) ?_ w.heap.size i ?_ (.int .i64 z) ?_ ?_ ?_ 3 (Vec.ints (Vec.fillN f N i)).toArray Hr5.out ?_ _ Hfi.out ?_
             · rfl
             · rfl
             · rfl
             · rfl
             · rfl
             · kernel_rfl
             · rw [List.size_toArray, Vec.ints, List.length_map, Hfl.out]; omega
             intro w7 hp7
             have Hp7 := Lib.hid hp7
             clear hp7))
        refine ⟨⟨i + 1, by push_cast; rfl, ⟨hl, HB5.out.trans (Hp7.out.below (Nat.le_refl _)), Hp7.out.row⟩⟩, by simp only [intOf]; omega⟩
      · have hiN : i = N := by omega
        subst hiN
        go_wp2
        go_ret
        have hrow := HR.out.row
        rw [Vec.fillN_full] at hrow
        have ho := Vec.own_of_row (w := wr) (base := w.heap.size) (N := i) (by simp) (by omega) (Nat.le_refl _) hrow
        obtain ⟨A, c, e1, e2⟩ := Vec.Arg.own ho
        simp only [List.length_map, List.length_range] at e1 e2
        injection e1 with k1 k2 k3
        subst k1 k3
        exact ⟨_, _, rfl, e2, HR.out.below⟩
end Go.Proofs.YtdnpiginkndpcaaDoor
