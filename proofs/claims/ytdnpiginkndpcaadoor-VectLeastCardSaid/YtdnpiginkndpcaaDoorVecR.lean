/- The walks of Merge and of the reference's Merge. (Printed by gen_vect2.py.) -/
import Derived.Test.YtdnpiginkndpcaaDoorVecQ
namespace Go.Proofs.YtdnpiginkndpcaaDoor
open Go.RowKit
open PVectAsks

namespace Vec
open Go.Proofs.YtdnpiginkndpcaaDoorW.PrintWords
theorem store_ints {l : List Int} {k : Nat} (h : k < l.length) (x : Int) : ((ints l).toArray.toList.take k ++ [Value.int .i64 x] ++ (ints l).toArray.toList.drop (k + 1)).toArray = (ints (l.set k x)).toArray := by
  congr 1
  exact set_ints h x
theorem fillL_set (f : Nat → Int) (k : Nat) (h : k < 16) : (fillL f k).set k (f k) = fillL f (k + 1) := by
  unfold fillL
  rw [List.set_append_right _ _ (by simp), List.length_map, List.length_range, Nat.sub_self]
  obtain ⟨d, hd⟩ : ∃ d, 16 - k = d + 1 := ⟨16 - k - 1, by omega⟩
  rw [hd, show 16 - (k + 1) = d by omega, List.replicate_succ, List.set_cons_zero, List.range_succ, List.map_append, List.append_assoc]
  rfl
def upL (f : Int → Int → Int) (a b : List Int) : List Int := (List.range (max a.length b.length)).map fun i => f (cntAt a i) (cntAt b i)
def full2 (f : Int → Int → Int) (a b : List Int) : List Int := (List.range 16).map fun i => f (cntAt a i) (cntAt b i)
theorem upL_length (f : Int → Int → Int) (a b : List Int) : (upL f a b).length = max a.length b.length := by unfold upL; simp
theorem upL_getD (f : Int → Int → Int) (hf : f 0 0 = 0) (a b : List Int) (i : Nat) : (upL f a b).getD i 0 = f (a.getD i 0) (b.getD i 0) := by
  rw [← cntAt_eq a, ← cntAt_eq b]
  by_cases h : i < max a.length b.length
  · unfold upL; rw [getD_map_range _ _ _ h]
  · rw [cntAt_eq, cntAt_eq, List.getD_eq_getElem?_getD, List.getElem?_eq_none (by rw [upL_length]; omega), List.getD_eq_getElem?_getD, List.getElem?_eq_none (by omega), List.getD_eq_getElem?_getD, List.getElem?_eq_none (by omega)]
    exact hf.symm
theorem full2_eq (f : Int → Int → Int) (hf : f 0 0 = 0) (a b : List Int) (ha : a.length ≤ 16) (hb : b.length ≤ 16) : full2 f a b = upL f a b ++ List.replicate (16 - max a.length b.length) 0 := by
  apply eq_of_getD
  · unfold full2; simp [upL_length]; omega
  · intro i hi
    have hi' : i < 16 := by simpa [full2] using hi
    rw [getD_append_zeros, upL_getD f hf]
    unfold full2
    rw [getD_map_range _ _ _ hi', cntAt_eq, cntAt_eq]
theorem max_last {a b : List Int} (ha : may a = true) (hb : may b = true) (h0 : (upL max a b).length ≠ 0) : 0 < (upL max a b).getD ((upL max a b).length - 1) 0 := by
  rw [upL_getD max rfl, upL_length]
  rw [upL_length] at h0
  have h1 := may_getD ha (max a.length b.length - 1)
  have h2 := may_getD hb (max a.length b.length - 1)
  by_cases h : a.length < b.length
  · have := may_tl hb (by omega)
    unfold tl at this
    rw [show b.length - 1 = max a.length b.length - 1 by omega] at this
    omega
  · have := may_tl ha (by omega)
    unfold tl at this
    rw [show a.length - 1 = max a.length b.length - 1 by omega] at this
    omega
theorem max_may {a b : List Int} (ha : may a = true) (hb : may b = true) : may (upL max a b) = true := by
  have k1 := may_len ha
  have k2 := may_len hb
  refine may_mk (by rw [upL_length]; omega) (fun i _ => ?_) ?_
  · rw [upL_getD max rfl]
    have h1 := may_getD ha i
    have h2 := may_getD hb i
    omega
  · by_cases h : (upL max a b).length = 0
    · exact .inl h
    · exact .inr (max_last ha hb h)
theorem max_tr {a b : List Int} (ha : may a = true) (hb : may b = true) {m : Nat} (h : Tr (full2 max a b) m) : (full2 max a b).take m = upL max a b := by
  rw [full2_eq max rfl a b (may_len ha) (may_len hb)] at h ⊢
  have hw : Tr (upL max a b) (upL max a b).length := Tr.whole (by
    by_cases h : (upL max a b).length = 0
    · exact .inl h
    · exact .inr (by have := max_last ha hb h; omega))
  rw [h.same hw, List.take_length]
theorem covers_iff (a b : List Int) : covers a b = true ↔ ∀ i, i < 16 → b.getD i 0 ≤ a.getD i 0 := by
  unfold covers
  rw [List.all_eq_true]
  constructor
  · intro h i hi
    have := of_decide_eq_true (h i (by simpa using hi))
    rw [cnt_at, cnt_at] at this
    exact this
  · intro h i hi
    have := h i (by simpa using hi)
    apply decide_eq_true
    rw [cnt_at, cnt_at]
    exact this
theorem max_covers (a b : List Int) : covers (upL max a b) a = true ∧ covers (upL max a b) b = true := by
  refine ⟨(covers_iff _ _).2 fun i _ => ?_, (covers_iff _ _).2 fun i _ => ?_⟩ <;> rw [upL_getD max rfl] <;> omega
theorem covers_max (c a b : List Int) : covers c (upL max a b) = (covers c a && covers c b) := by
  rw [Bool.eq_iff_iff, Bool.and_eq_true, covers_iff, covers_iff, covers_iff]
  constructor
  · intro h
    refine ⟨fun i hi => ?_, fun i hi => ?_⟩ <;> (have := h i hi; rw [upL_getD max rfl] at this; omega)
  · rintro ⟨h1, h2⟩ i hi
    rw [upL_getD max rfl]
    have := h1 i hi
    have := h2 i hi
    omega
/-- from w on, the function answers a list of the call's own -/
def SaysList (f : FuncId) (args : Array Value) (w : World) (n : Nat) (l : List Int) : Prop := ∀ w1, Below w.heap.size w w1 → Calls Tryd.prog f args w1 fun e w' => ∃ A c, e = .returned (.slice A n c) ∧ Arg w' A n c l ∧ Below w1.heap.size w1 w'
theorem SaysList.go {f : FuncId} {args : Array Value} {w w1 : World} {n : Nat} {l : List Int} (h : SaysList f args w n l) (hb : Below w.heap.size w w1) : Calls Tryd.prog f args w1 fun e w' => ∃ A c, e = .returned (.slice A n c) ∧ Arg w' A n c l ∧ Below w1.heap.size w1 w' := h w1 hb
theorem pairs_max_says {w : World} {A B : Option Addr} {n m c d : Nat} {a b : List Int} (ha : Arg w A n c a) (hb : Arg w B m d b) (hn : n ≤ 1000) (hm : m ≤ 1000) : SaysList 34 #[.slice A n c, .slice B m d, .func (.func 35) #[] #[]] w (upL max a b).length (upL max a b) := fun w1 h1 => by
  have e1 := ha.hl
  have e2 := hb.hl
  have := pairs_max A B n c m d (max n m) a b w1 (ha.later h1) (hb.later h1) hn hm (by omega)
  rw [upL_length, e1, e2]
  unfold upL
  rw [e1, e2]
  exact this
theorem pairs_min_says {w : World} {A B : Option Addr} {n m c d : Nat} {a b : List Int} (ha : Arg w A n c a) (hb : Arg w B m d b) (hn : n ≤ 1000) (hm : m ≤ 1000) : SaysList 34 #[.slice A n c, .slice B m d, .func (.func 41) #[] #[]] w (upL min a b).length (upL min a b) := fun w1 h1 => by
  have e1 := ha.hl
  have e2 := hb.hl
  have := pairs_min A B n c m d (max n m) a b w1 (ha.later h1) (hb.later h1) hn hm (by omega)
  rw [upL_length, e1, e2]
  unfold upL
  rw [e1, e2]
  exact this
end Vec

set_option maxRecDepth 100000 in
set_option maxHeartbeats 4000000 in
theorem vect_merge_no (Aa Ab : Option Addr) (La ca Lb cb : Nat) (la lb : List Int) (w : World) (ha : Vec.Arg w Aa La ca la) (hb : Vec.Arg w Ab Lb cb lb) (hla : La ≤ 1000) (hlb : Lb ≤ 1000) (h : Vec.may la = false ∨ Vec.may lb = false) :
    Vec.Says 11 #[.slice Aa La ca, .slice Ab Lb cb] w (.tuple #[.slice none 0 0, .int .i64 1]) := by
  intro w1 h1
  have HMa := Lib.hid (Vec.may_says ha (by omega))
  have HMb := Lib.hid (Vec.may_says hb (by omega))
  have HB := Lib.hid h1
  have HB1 := Lib.hid (Below.refl w1.heap.size w1)
  obtain ⟨x, hx⟩ : ∃ x, Vec.may la = x := ⟨_, rfl⟩
  obtain ⟨y, hy⟩ : ∃ x, Vec.may lb = x := ⟨_, rfl⟩
  rw [hx] at HMa h
  rw [hy] at HMb h
  clear hx hy ha hb h1
  cases x
  all_goals cases y
  case true.true => simp at h
  all_goals
    clear h
    go_enter Tryd.func11, Tryd.ntmps11
    go_wp2_with (first
        | (go_at_call 16
           with_reducible refine (HMa.out.go HB.out).mono ?_
           rintro e w1x ⟨rfl, hbx⟩
           have HBn := Lib.hid (Mem.then_ HB.out hbx)
           have HB1n := Lib.hid (Mem.then_ HB1.out hbx)
           clear hbx HB HB1
           have HB := HBn
           clear HBn
           have HB1 := HB1n
           clear HB1n)
        | (go_at_call 16
           with_reducible refine (HMb.out.go HB.out).mono ?_
           rintro e w2x ⟨rfl, hbx⟩
           have HBn := Lib.hid (Mem.then_ HB.out hbx)
           have HB1n := Lib.hid (Mem.then_ HB1.out hbx)
           clear hbx HB HB1
           have HB := HBn
           clear HBn
           have HB1 := HB1n
           clear HB1n))
    go_ret2
    exact ⟨rfl, HB1.out⟩

set_option maxRecDepth 100000 in
set_option maxHeartbeats 4000000 in
theorem vect_merge_yes (Aa Ab : Option Addr) (La ca Lb cb : Nat) (la lb : List Int) (w : World) (ha : Vec.Arg w Aa La ca la) (hb : Vec.Arg w Ab Lb cb lb) (hla : La ≤ 1000) (hlb : Lb ≤ 1000) (h1 : Vec.may la = true) (h2 : Vec.may lb = true) :
    Vec.SaysRow 11 #[.slice Aa La ca, .slice Ab Lb cb] w (Vec.upL max la lb).length (Vec.upL max la lb) := by
  intro w1 hb1
  have HMa := Lib.hid (Vec.may_says ha (by omega))
  have HMb := Lib.hid (Vec.may_says hb (by omega))
  have HP := Lib.hid (Vec.pairs_max_says ha hb hla hlb)
  have HB := Lib.hid hb1
  have HB1 := Lib.hid (Below.refl w1.heap.size w1)
  rw [h1] at HMa
  rw [h2] at HMb
  obtain ⟨lx, hlx⟩ : ∃ lx, Vec.upL max la lb = lx := ⟨_, rfl⟩
  rw [hlx] at HP ⊢
  obtain ⟨X, hX⟩ : ∃ X, lx.length = X := ⟨_, rfl⟩
  rw [hX] at HP ⊢
  clear ha hb hb1 h1 h2 hlx hX
  go_enter Tryd.func11, Tryd.ntmps11
  go_wp2_with (first
      | (go_at_call 16
         with_reducible refine (HMa.out.go HB.out).mono ?_
         rintro e w3x ⟨rfl, hbx⟩
         have HBn := Lib.hid (Mem.then_ HB.out hbx)
         have HB1n := Lib.hid (Mem.then_ HB1.out hbx)
         clear hbx HB HB1
         have HB := HBn
         clear HBn
         have HB1 := HB1n
         clear HB1n)
      | (go_at_call 16
         with_reducible refine (HMb.out.go HB.out).mono ?_
         rintro e w4x ⟨rfl, hbx⟩
         have HBn := Lib.hid (Mem.then_ HB.out hbx)
         have HB1n := Lib.hid (Mem.then_ HB1.out hbx)
         clear hbx HB HB1
         have HB := HBn
         clear HBn
         have HB1 := HB1n
         clear HB1n)
      | (go_at_call 34
         with_reducible refine (HP.out.go HB.out).mono ?_
         rintro e w9 ⟨A, c, rfl, hax, hbx⟩
         have HA := Lib.hid hax
         have HB2 := Lib.hid (Mem.then_ HB1.out hbx)
         clear hax hbx))
  go_ret2
  exact ⟨A, c, rfl, HA.out, HB2.out⟩

set_option maxRecDepth 100000 in
set_option maxHeartbeats 4000000 in
theorem ref_merge (Aa Ab : Option Addr) (La ca Lb cb : Nat) (la lb : List Int) (w : World) (ha : Vec.Arg w Aa La ca la) (hb : Vec.Arg w Ab Lb cb lb) (hla : La ≤ 1000) (hlb : Lb ≤ 1000) :
    Calls Tryd.prog 14 #[.slice Aa La ca, .slice Ab Lb cb] w fun e w' => ∃ m v, e = .returned v ∧ Vec.Tr (Vec.full2 max la lb) m ∧ Vec.Own w' w.heap.size v ((Vec.full2 max la lb).take m) ∧ Below w.heap.size w w' := by
  have HCa := Lib.hid (fun k : Nat => Vec.ref_count_says ha (by omega) ((k : Int) + 1))
  have HCb := Lib.hid (fun k : Nat => Vec.ref_count_says hb (by omega) ((k : Int) + 1))
  obtain ⟨f, hf⟩ : ∃ f : Nat → Int, (fun i => max (Vec.cntAt la i) (Vec.cntAt lb i)) = f := ⟨_, rfl⟩
  have hfk : ∀ k : Nat, max (Vec.cnt la ((k : Int) + 1)) (Vec.cnt lb ((k : Int) + 1)) = f k := fun k => by rw [← hf]; rfl
  unfold Vec.full2
  rw [hf]
  have Hf := Lib.hid hfk
  clear hf hfk ha hb
  go_enter Tryd.func14, Tryd.ntmps14
  go_wp2_with (
    with_reducible refine Mem.wpList_alloc (o := ⟨some 5, _, _, _, _, _⟩) ?_ 53 ?_ _ Vec.zero_arr ?_
    · rfl
    · rfl
    intro w6 hn6
    have Hn6 := Lib.hid hn6
    clear hn6)
  go_loopw [6] (fun t6 wr => ∃ k : Nat, t6 = .int .i64 ((k : Int) + 1) ∧ Vec.FR f w6 w.heap.size k wr) (fun t6 _ => 17 - (intOf t6).toNat)
  case atStart =>
    refine ⟨0, by simp, ⟨Nat.zero_le _, Mem.But.refl _ _, ?_⟩⟩
    rw [Vec.fillL_zero]
    exact Hn6.out.row
  case round =>
    obtain ⟨k, rfl, Rr⟩ := hrel
    have HR := Lib.hid Rr
    have hk := Rr.hk
    clear Rr
    have hb0 : Below w.heap.size w wr := Hn6.out.below.trans (HR.out.but.below (B := w.heap.size) Hn6.out.below.size (fun _ e => by rw [e]; exact Nat.le_refl _))
    have HBr := Lib.hid hb0
    clear hb0
    by_cases hk16 : k < 16
    · have i1 : (k : Int) + 1 ≤ 16 := by omega
      have i2 : (0 : Int) ≤ (k : Int) := by omega
      have i3 : (k : Int) < 16 := by omega
      have HA1 := Lib.hid (HCa.out k)
      have HB1 := Lib.hid (HCb.out k)
      have hf1 := Hf.out k
      obtain ⟨x, hx⟩ : ∃ x, Vec.cnt la ((k : Int) + 1) = x := ⟨_, rfl⟩
      obtain ⟨y, hy⟩ : ∃ y, Vec.cnt lb ((k : Int) + 1) = y := ⟨_, rfl⟩
      rw [hx] at HA1 hf1
      rw [hy] at HB1 hf1
      have Hf1 := Lib.hid hf1
      have hlen := Vec.fillL_length f k hk
      have Hlen := Lib.hid hlen
      obtain ⟨lr, hlr⟩ : ∃ lr, Vec.fillL f k = lr := ⟨_, rfl⟩
      rw [hlr] at Hlen
      have Hlr := Lib.hid hlr
      have hrow := HR.out.row
      rw [hlr] at hrow
      have HRow := Lib.hid hrow
      clear hx hy hf1 hlen hlr hrow
      have hways : x < y ∨ ¬ x < y := by omega
      rcases hways with hxy | hxy
      all_goals
        go_upto_region 6 with (first
          | (go_at_call 21
             with_reducible refine (HA1.out.go HBr.out).mono ?_
             rintro e w8 ⟨rfl, hb8⟩
             have Hrow8 := Lib.hid ((hb8.block _ ((Array.getElem?_eq_some_iff.1 HRow.out).1)).trans HRow.out)
             have Hb8 := Lib.hid hb8
             clear hb8)
          | (with_reducible refine Mem.wpList_store_cell (o := ⟨none, .store 3 (.tmp 16) (.tmp 15), _, _, _, _⟩) ?_ 3 (.tmp 16) (.tmp 15) ?_ w.heap.size k ?_ (.int .i64 x) ?_ ?_ ?_ 53 (Vec.ints lr).toArray Hrow8.out ?_ (Vec.ints (lr.set k x)).toArray ?_ ?_
             · rfl
             · rfl
             · rfl
             · rfl
             · rfl
             · kernel_rfl
             · rw [List.size_toArray, Vec.ints, List.length_map, Hlen.out]; omega
             · exact Vec.store_ints (by rw [Hlen.out]; exact hk16) x
             intro w9 hp9
             have Hp9 := Lib.hid hp9
             clear hp9))
        have hcell : w9.cell? ⟨w.heap.size, k, none⟩ = some (.int .i64 x) := by
          have := Vec.cell_ints Hp9.out.row (i := k) (by rw [List.length_set, Hlen.out]; exact hk16)
          rw [this, List.getD_eq_getElem?_getD, List.getElem?_set_self (by rw [Hlen.out]; exact hk16)]
          rfl
        have j0 : ∀ i : Mem.Later w9, i.w.cell? ⟨w.heap.size, k, none⟩ = some (.int .i64 x) := fun i => i.cell hcell
        clear hcell
        simp only [Act.put]
        have HB := Lib.hid ((Mem.then_ HBr.out Hb8.out).trans (Hp9.out.below (Nat.le_refl _)))
        refine Mem.wp_region_later (by kernel_rfl) (by kernel_rfl) ?_
        repeat (go_big_quiet_step (first
            | (go_at_call 21; refine Mem.later_call (HB1.out.go (Mem.then_ HB.out (Mem.Later.h _))))))
        refine wpQuiet_nil ?_
        rintro wq ⟨⟨_, hq⟩, rfl⟩
        clear j0
        have Hq := Lib.hid hq
        have Hbut := Lib.hid (((HR.out.but.trans (Mem.But.of_below Hb8.out)).trans (Mem.But.of_put Hp9.out rfl)).trans (Mem.But.of_below hq))
        have Hrowq := Lib.hid ((hq.block _ ((Array.getElem?_eq_some_iff.1 Hp9.out.row).1)).trans Hp9.out.row)
        have HBq := Lib.hid (Mem.then_ HB.out hq)
        clear hq
      · go_wp2_with (first
          | (go_at_call 21
             with_reducible refine (HB1.out.go HBq.out).mono ?_
             rintro e w11 ⟨rfl, hb11⟩
             have Hrow11 := Lib.hid ((hb11.block _ ((Array.getElem?_eq_some_iff.1 Hrowq.out).1)).trans Hrowq.out)
             have Hb11 := Lib.hid hb11
             clear hb11)
          | (with_reducible refine Mem.wpList_store_cell (o := ⟨none, .store 3 (.tmp 30) (.tmp 29), _, _, _, _⟩) ?_ 3 (.tmp 30) (.tmp 29) ?_ w.heap.size k ?_ (.int .i64 y) ?_ ?_ ?_ 53 (Vec.ints (lr.set k x)).toArray Hrow11.out ?_ (Vec.ints ((lr.set k x).set k y)).toArray ?_ ?_
             · rfl
             · rfl
             · rfl
             · rfl
             · rfl
             · kernel_rfl
             · rw [List.size_toArray, Vec.ints, List.length_map, List.length_set, Hlen.out]; omega
             · exact Vec.store_ints (by rw [List.length_set, Hlen.out]; exact hk16) y
             intro w12 hp12
             have Hp12 := Lib.hid hp12
             clear hp12))
        refine ⟨⟨k + 1, by push_cast; rfl, ⟨hk16, (Hbut.out.trans (Mem.But.of_below Hb11.out)).trans (Mem.But.of_put Hp12.out rfl), ?_⟩⟩, by simp only [intOf]; omega⟩
        have := Hp12.out.row
        have e : f k = y := by rw [← Hf1.out]; omega
        rw [List.set_set, ← e, ← Hlr.out, Vec.fillL_set f k hk16] at this
        exact this
      · go_wp2
        refine ⟨⟨k + 1, by push_cast; rfl, ⟨hk16, Hbut.out, ?_⟩⟩, by simp only [intOf]; omega⟩
        have := Hrowq.out
        have e : f k = x := by rw [← Hf1.out]; omega
        rw [← e, ← Hlr.out, Vec.fillL_set f k hk16] at this
        exact this
    · have hk' : k = 16 := by omega
      subst hk'
      obtain ⟨lm, hlm⟩ : ∃ lm, (List.range 16).map f = lm := ⟨_, rfl⟩
      have hrow := HR.out.row
      rw [Vec.fillL_full, hlm] at hrow
      have HM := Lib.hid (fun w1 => ref_made lm (by rw [← hlm]; simp) w1)
      have Hsz := Lib.hid (show lm.length = 16 by rw [← hlm]; simp)
      have HRow := Lib.hid hrow
      have Hlm := Lib.hid hlm
      clear hlm hrow hk16
      go_wp2_with (first
        | (with_reducible refine wpList_load_row (o := ⟨some 31, _, _, _, _, _⟩) ?_ 53 (.tmp 5) ?_ _ ?_ _ _ _ _ HRow.out Tryd.underlying53 ?_ ?_ ?_
           · rfl
           · rfl
           · rfl
           · rfl
           · rw [Vec.size_arr, List.size_toArray, Vec.ints, List.length_map, Hsz.out])
        | (go_at_call 36
           with_reducible refine (HM.out _).mono ?_
           rintro e w10 ⟨m, v, rfl, htr, ho, hb10⟩
           have Htr := Lib.hid htr
           have Ho := Lib.hid ho
           have Hb10 := Lib.hid hb10
           clear htr ho hb10))
      go_ret
      rw [Hlm.out]
      exact ⟨m, v, rfl, Htr.out, Go.Proofs.YtdnpiginkndpcaaDoorW.PrintWords.own_weaken Ho.out HBr.out.size, Mem.then_ HBr.out Hb10.out⟩
theorem ref_merge_says {w : World} {A B : Option Addr} {n m c d : Nat} {a b : List Int} (ha : Vec.Arg w A n c a) (hb : Vec.Arg w B m d b) (hn : n ≤ 1000) (hm : m ≤ 1000) (h1 : Vec.may a = true) (h2 : Vec.may b = true) : Vec.SaysList 14 #[.slice A n c, .slice B m d] w (Vec.upL max a b).length (Vec.upL max a b) := fun w1 hb1 => by
  refine (ref_merge A B n c m d a b w1 (ha.later hb1) (hb.later hb1) hn hm).mono ?_
  rintro e w' ⟨t, v, rfl, htr, ho, hb'⟩
  rw [Vec.max_tr h1 h2 htr] at ho
  obtain ⟨A', c', rfl, ha⟩ := Vec.Arg.own ho
  exact ⟨A', c', rfl, ha, hb'⟩
end Go.Proofs.YtdnpiginkndpcaaDoor
