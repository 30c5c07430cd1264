/- The walk of VectAsks. (Printed by gen_vect.py.) -/
import Derived.Test.YtdnpiginkndpcaaDoorVecJ
namespace Go.Proofs.YtdnpiginkndpcaaDoor
open Go.RowKit
open PVectAsks

set_option maxRecDepth 100000 in
set_option maxHeartbeats 4000000 in
theorem asks_great (Aa Ab : Option Addr) (La ca Lb cb : Nat) (la lb : List Int) (s q : Int) (w : World) (ha : Vec.Arg w Aa La ca la) (hb : Vec.Arg w Ab Lb cb lb) (h : 100 < La ∨ 100 < Lb) :
    Calls Tryd.prog 4 #[.slice Aa La ca, .slice Ab Lb cb, .agg #[.int .i64 s, .int .i64 q]] w fun e w' => e = .returned (.bool true) ∧ Below w.heap.size w w' := by
  have HG := Lib.hid (Vec.great_says (w := w) [⟨Aa, ca, la⟩, ⟨Ab, cb, lb⟩] (by simp) 2 rfl #[.slice Aa La ca, .slice Ab Lb cb] (by rw [List.map_cons, List.map_cons, ha.val, hb.val]; rfl) true (by have h1 := ha.hl; have h2 := hb.hl; subst h1 h2; simp [Vec.greatB]; omega) (by
    intro t ht
    simp only [List.mem_cons, List.not_mem_nil, or_false] at ht
    rcases ht with rfl | rfl
    · exact ha.at
    · exact hb.at))
  have HL := Lib.hid (Vec.alive_says w)
  clear ha hb h
  go_enter Tryd.func4, Tryd.ntmps4
  go_wp2_with (first
      | (with_reducible refine Mem.wpList_box (o := ⟨some 5, _, _, _, _, _⟩) ?_ 33 (.tmp 2) ?_ (.agg #[.int .i64 s, .int .i64 q]) ?_ ?_
         · rfl
         · rfl
         · rfl
         intro w1 hn1
         have c0 := hn1.cell1 0 (v := .int .i64 s) rfl
         have c1 := hn1.cell1 1 (v := .int .i64 q) rfl
         have HB := Lib.hid hn1.below
         clear hn1)
      | (go_at_call 9
         with_reducible refine (HL.out.go HB.out).mono ?_
         rintro e w1x ⟨rfl, hbx⟩
         have HBn := Lib.hid (Mem.then_ HB.out hbx)
         have c0n := Mem.keep hbx c0
         have c1n := Mem.keep hbx c1
         clear hbx HB c0 c1
         have HB := HBn
         clear HBn
         have c0 := c0n
         clear c0n
         have c1 := c1n
         clear c1n)
      | (go_at_call 10
         with_reducible refine (HG.out.go HB.out).mono ?_
         rintro e w2x ⟨rfl, hbx⟩
         have HBn := Lib.hid (Mem.then_ HB.out hbx)
         have c0n := Mem.keep hbx c0
         have c1n := Mem.keep hbx c1
         clear hbx HB c0 c1
         have HB := HBn
         clear HBn
         have c0 := c0n
         clear c0n
         have c1 := c1n
         clear c1n))
  go_ret
  exact ⟨rfl, HB.out⟩

set_option maxRecDepth 100000 in
set_option maxHeartbeats 4000000 in
theorem asks_not (Aa Ab : Option Addr) (La ca Lb cb : Nat) (la lb : List Int) (s q : Int) (w : World) (ha : Vec.Arg w Aa La ca la) (hb : Vec.Arg w Ab Lb cb lb) (hla : La ≤ 100) (hlb : Lb ≤ 100) (h : Vec.may la = false ∨ Vec.may lb = false) :
    Calls Tryd.prog 4 #[.slice Aa La ca, .slice Ab Lb cb, .agg #[.int .i64 s, .int .i64 q]] w fun e w' => e = .returned (.bool true) ∧ Below w.heap.size w w' := by
  have HG := Lib.hid (Vec.great_says (w := w) [⟨Aa, ca, la⟩, ⟨Ab, cb, lb⟩] (by simp) 2 rfl #[.slice Aa La ca, .slice Ab Lb cb] (by rw [List.map_cons, List.map_cons, ha.val, hb.val]; rfl) false (by have h1 := ha.hl; have h2 := hb.hl; subst h1 h2; simp [Vec.greatB]; omega) (by
    intro t ht
    simp only [List.mem_cons, List.not_mem_nil, or_false] at ht
    rcases ht with rfl | rfl
    · exact ha.at
    · exact hb.at))
  have HL := Lib.hid (Vec.alive_says w)
  have HMa := Lib.hid (Vec.may_says ha (by omega))
  have HRa := Lib.hid (Vec.ref_may_says ha (by omega))
  have HRb := Lib.hid (Vec.ref_may_says hb (by omega))
  have HCo := Lib.hid (Vec.covers_says ha (by omega) hb (by omega))
  have HOr := Lib.hid (Vec.order_says ha (by omega) hb (by omega))
  have HCt := Lib.hid (Vec.count_says ha (by omega) s)
  have HHa := Lib.hid (Vec.has_says ha (by omega) s q)
  unfold Vec.order at HOr
  unfold Vec.countV at HCt
  unfold Vec.has at HHa
  obtain ⟨x, hx⟩ : ∃ x, Vec.may la = x := ⟨_, rfl⟩
  obtain ⟨y, hy⟩ : ∃ x, Vec.may lb = x := ⟨_, rfl⟩
  rw [hx] at HMa HRa HCo HOr HCt HHa h
  rw [hy] at HRb HCo HOr h
  clear hx hy ha hb
  cases x
  all_goals cases y
  case true.true => simp at h
  all_goals
    clear h
    simp at HCo HOr HCt HHa
    go_enter Tryd.func4, Tryd.ntmps4
    go_wp2_with (first
        | (with_reducible refine Mem.wpList_box (o := ⟨some 5, _, _, _, _, _⟩) ?_ 33 (.tmp 2) ?_ (.agg #[.int .i64 s, .int .i64 q]) ?_ ?_
           · rfl
           · rfl
           · rfl
           intro w1 hn1
           have c0 := hn1.cell1 0 (v := .int .i64 s) rfl
           have c1 := hn1.cell1 1 (v := .int .i64 q) rfl
           have HB := Lib.hid hn1.below
           clear hn1)
        | (go_at_call 9
           with_reducible refine (HL.out.go HB.out).mono ?_
           rintro e w3x ⟨rfl, hbx⟩
           have HBn := Lib.hid (Mem.then_ HB.out hbx)
           have c0n := Mem.keep hbx c0
           have c1n := Mem.keep hbx c1
           clear hbx HB c0 c1
           have HB := HBn
           clear HBn
           have c0 := c0n
           clear c0n
           have c1 := c1n
           clear c1n)
        | (go_at_call 10
           with_reducible refine (HG.out.go HB.out).mono ?_
           rintro e w4x ⟨rfl, hbx⟩
           have HBn := Lib.hid (Mem.then_ HB.out hbx)
           have c0n := Mem.keep hbx c0
           have c1n := Mem.keep hbx c1
           clear hbx HB c0 c1
           have HB := HBn
           clear HBn
           have c0 := c0n
           clear c0n
           have c1 := c1n
           clear c1n)
        | (go_at_call 16
           with_reducible refine (HMa.out.go HB.out).mono ?_
           rintro e w5x ⟨rfl, hbx⟩
           have HBn := Lib.hid (Mem.then_ HB.out hbx)
           have c0n := Mem.keep hbx c0
           have c1n := Mem.keep hbx c1
           clear hbx HB c0 c1
           have HB := HBn
           clear HBn
           have c0 := c0n
           clear c0n
           have c1 := c1n
           clear c1n)
        | (go_at_call 12
           with_reducible refine (HRa.out.go HB.out).mono ?_
           rintro e w6x ⟨rfl, hbx⟩
           have HBn := Lib.hid (Mem.then_ HB.out hbx)
           have c0n := Mem.keep hbx c0
           have c1n := Mem.keep hbx c1
           clear hbx HB c0 c1
           have HB := HBn
           clear HBn
           have c0 := c0n
           clear c0n
           have c1 := c1n
           clear c1n)
        | (go_at_call 12
           with_reducible refine (HRb.out.go HB.out).mono ?_
           rintro e w7x ⟨rfl, hbx⟩
           have HBn := Lib.hid (Mem.then_ HB.out hbx)
           have c0n := Mem.keep hbx c0
           have c1n := Mem.keep hbx c1
           clear hbx HB c0 c1
           have HB := HBn
           clear HBn
           have c0 := c0n
           clear c0n
           have c1 := c1n
           clear c1n)
        | (go_at_call 15
           with_reducible refine (HCo.out.go HB.out).mono ?_
           rintro e w8x ⟨rfl, hbx⟩
           have HBn := Lib.hid (Mem.then_ HB.out hbx)
           have c0n := Mem.keep hbx c0
           have c1n := Mem.keep hbx c1
           clear hbx HB c0 c1
           have HB := HBn
           clear HBn
           have c0 := c0n
           clear c0n
           have c1 := c1n
           clear c1n)
        | (go_at_call 17
           with_reducible refine (HOr.out.go HB.out).mono ?_
           rintro e w9x ⟨rfl, hbx⟩
           have HBn := Lib.hid (Mem.then_ HB.out hbx)
           have c0n := Mem.keep hbx c0
           have c1n := Mem.keep hbx c1
           clear hbx HB c0 c1
           have HB := HBn
           clear HBn
           have c0 := c0n
           clear c0n
           have c1 := c1n
           clear c1n)
        | (go_at_call 18
           with_reducible refine (HCt.out.go HB.out).mono ?_
           rintro e w10x ⟨rfl, hbx⟩
           have HBn := Lib.hid (Mem.then_ HB.out hbx)
           have c0n := Mem.keep hbx c0
           have c1n := Mem.keep hbx c1
           clear hbx HB c0 c1
           have HB := HBn
           clear HBn
           have c0 := c0n
           clear c0n
           have c1 := c1n
           clear c1n)
        | (go_at_call 19
           with_reducible refine (HHa.out.go HB.out).mono ?_
           rintro e w11x ⟨rfl, hbx⟩
           have HBn := Lib.hid (Mem.then_ HB.out hbx)
           have c0n := Mem.keep hbx c0
           have c1n := Mem.keep hbx c1
           clear hbx HB c0 c1
           have HB := HBn
           clear HBn
           have c0 := c0n
           clear c0n
           have c1 := c1n
           clear c1n))
    go_ret
    exact ⟨rfl, HB.out⟩

set_option maxRecDepth 100000 in
set_option maxHeartbeats 4000000 in
theorem asks_yes (Aa Ab : Option Addr) (La ca Lb cb : Nat) (la lb : List Int) (s q : Int) (w : World) (ha : Vec.Arg w Aa La ca la) (hb : Vec.Arg w Ab Lb cb lb) (hla : La ≤ 100) (hlb : Lb ≤ 100) (h1 : Vec.may la = true) (h2 : Vec.may lb = true) :
    Calls Tryd.prog 4 #[.slice Aa La ca, .slice Ab Lb cb, .agg #[.int .i64 s, .int .i64 q]] w fun e w' => e = .returned (.bool true) ∧ Below w.heap.size w w' := by
  have HG := Lib.hid (Vec.great_says (w := w) [⟨Aa, ca, la⟩, ⟨Ab, cb, lb⟩] (by simp) 2 rfl #[.slice Aa La ca, .slice Ab Lb cb] (by rw [List.map_cons, List.map_cons, ha.val, hb.val]; rfl) false (by have h1 := ha.hl; have h2 := hb.hl; subst h1 h2; simp [Vec.greatB]; omega) (by
    intro t ht
    simp only [List.mem_cons, List.not_mem_nil, or_false] at ht
    rcases ht with rfl | rfl
    · exact ha.at
    · exact hb.at))
  have HL := Lib.hid (Vec.alive_says w)
  have HMa := Lib.hid (Vec.may_says ha (by omega))
  have HRa := Lib.hid (Vec.ref_may_says ha (by omega))
  have HRb := Lib.hid (Vec.ref_may_says hb (by omega))
  have HCo := Lib.hid (Vec.covers_says ha (by omega) hb (by omega))
  have HOr := Lib.hid (Vec.order_says ha (by omega) hb (by omega))
  have HCt := Lib.hid (Vec.count_says ha (by omega) s)
  have HHa := Lib.hid (Vec.has_says ha (by omega) s q)
  have HUp := Lib.hid (Vec.ref_covers_says ha (by omega) hb (by omega))
  have HDn := Lib.hid (Vec.ref_covers_says hb (by omega) ha (by omega))
  have HRc := Lib.hid (Vec.ref_count_says ha (by omega) s)
  have HRn := Lib.hid (Vec.ref_name_says w s q)
  unfold Vec.order at HOr
  unfold Vec.countV at HCt
  unfold Vec.has at HHa
  obtain ⟨u, hu⟩ : ∃ x, Vec.covers la lb = x := ⟨_, rfl⟩
  obtain ⟨d, hd⟩ : ∃ x, Vec.covers lb la = x := ⟨_, rfl⟩
  obtain ⟨y, hy⟩ : ∃ x, Vec.mayName s q = x := ⟨_, rfl⟩
  obtain ⟨n, hn⟩ : ∃ x, Vec.cnt la s = x := ⟨_, rfl⟩
  obtain ⟨z, hz⟩ : ∃ x, decide (q ≤ n) = x := ⟨_, rfl⟩
  rw [h1] at HMa HRa HCo HOr HCt HHa
  rw [h2] at HRb HCo HOr
  rw [hu] at HCo HOr HUp
  rw [hd] at HOr HDn
  rw [hy] at HHa HRn
  rw [hn] at HCt HHa HRc
  rw [hz] at HHa
  clear hu hd hy hn ha hb h1 h2
  cases u <;> cases d <;> cases y <;> cases z
  all_goals
    simp at HCo HOr HCt HHa
    go_enter Tryd.func4, Tryd.ntmps4
    go_upto_region 17 with (first
        | (with_reducible refine Mem.wpList_box (o := ⟨some 5, _, _, _, _, _⟩) ?_ 33 (.tmp 2) ?_ (.agg #[.int .i64 s, .int .i64 q]) ?_ ?_
           · rfl
           · rfl
           · rfl
           intro w1 hn1
           have c0 := hn1.cell1 0 (v := .int .i64 s) rfl
           have c1 := hn1.cell1 1 (v := .int .i64 q) rfl
           have HB := Lib.hid hn1.below
           clear hn1)
        | (go_at_call 9
           with_reducible refine (HL.out.go HB.out).mono ?_
           rintro e w12x ⟨rfl, hbx⟩
           have HBn := Lib.hid (Mem.then_ HB.out hbx)
           have c0n := Mem.keep hbx c0
           have c1n := Mem.keep hbx c1
           clear hbx HB c0 c1
           have HB := HBn
           clear HBn
           have c0 := c0n
           clear c0n
           have c1 := c1n
           clear c1n)
        | (go_at_call 10
           with_reducible refine (HG.out.go HB.out).mono ?_
           rintro e w13x ⟨rfl, hbx⟩
           have HBn := Lib.hid (Mem.then_ HB.out hbx)
           have c0n := Mem.keep hbx c0
           have c1n := Mem.keep hbx c1
           clear hbx HB c0 c1
           have HB := HBn
           clear HBn
           have c0 := c0n
           clear c0n
           have c1 := c1n
           clear c1n)
        | (go_at_call 16
           with_reducible refine (HMa.out.go HB.out).mono ?_
           rintro e w14x ⟨rfl, hbx⟩
           have HBn := Lib.hid (Mem.then_ HB.out hbx)
           have c0n := Mem.keep hbx c0
           have c1n := Mem.keep hbx c1
           clear hbx HB c0 c1
           have HB := HBn
           clear HBn
           have c0 := c0n
           clear c0n
           have c1 := c1n
           clear c1n)
        | (go_at_call 12
           with_reducible refine (HRa.out.go HB.out).mono ?_
           rintro e w15x ⟨rfl, hbx⟩
           have HBn := Lib.hid (Mem.then_ HB.out hbx)
           have c0n := Mem.keep hbx c0
           have c1n := Mem.keep hbx c1
           clear hbx HB c0 c1
           have HB := HBn
           clear HBn
           have c0 := c0n
           clear c0n
           have c1 := c1n
           clear c1n)
        | (go_at_call 12
           with_reducible refine (HRb.out.go HB.out).mono ?_
           rintro e w16x ⟨rfl, hbx⟩
           have HBn := Lib.hid (Mem.then_ HB.out hbx)
           have c0n := Mem.keep hbx c0
           have c1n := Mem.keep hbx c1
           clear hbx HB c0 c1
           have HB := HBn
           clear HBn
           have c0 := c0n
           clear c0n
           have c1 := c1n
           clear c1n)
        | (go_at_call 15
           with_reducible refine (HCo.out.go HB.out).mono ?_
           rintro e w17x ⟨rfl, hbx⟩
           have HBn := Lib.hid (Mem.then_ HB.out hbx)
           have c0n := Mem.keep hbx c0
           have c1n := Mem.keep hbx c1
           clear hbx HB c0 c1
           have HB := HBn
           clear HBn
           have c0 := c0n
           clear c0n
           have c1 := c1n
           clear c1n)
        | (go_at_call 17
           with_reducible refine (HOr.out.go HB.out).mono ?_
           rintro e w18x ⟨rfl, hbx⟩
           have HBn := Lib.hid (Mem.then_ HB.out hbx)
           have c0n := Mem.keep hbx c0
           have c1n := Mem.keep hbx c1
           clear hbx HB c0 c1
           have HB := HBn
           clear HBn
           have c0 := c0n
           clear c0n
           have c1 := c1n
           clear c1n)
        | (go_at_call 18
           with_reducible refine (HCt.out.go HB.out).mono ?_
           rintro e w19x ⟨rfl, hbx⟩
           have HBn := Lib.hid (Mem.then_ HB.out hbx)
           have c0n := Mem.keep hbx c0
           have c1n := Mem.keep hbx c1
           clear hbx HB c0 c1
           have HB := HBn
           clear HBn
           have c0 := c0n
           clear c0n
           have c1 := c1n
           clear c1n)
        | (go_at_call 19
           with_reducible refine (HHa.out.go HB.out).mono ?_
           rintro e w20x ⟨rfl, hbx⟩
           have HBn := Lib.hid (Mem.then_ HB.out hbx)
           have c0n := Mem.keep hbx c0
           have c1n := Mem.keep hbx c1
           clear hbx HB c0 c1
           have HB := HBn
           clear HBn
           have c0 := c0n
           clear c0n
           have c1 := c1n
           clear c1n)
        | (go_at_call 20
           with_reducible refine (HUp.out.go HB.out).mono ?_
           rintro e w21x ⟨rfl, hbx⟩
           have HBn := Lib.hid (Mem.then_ HB.out hbx)
           have c0n := Mem.keep hbx c0
           have c1n := Mem.keep hbx c1
           clear hbx HB c0 c1
           have HB := HBn
           clear HBn
           have c0 := c0n
           clear c0n
           have c1 := c1n
           clear c1n)
        | (go_at_call 20
           with_reducible refine (HDn.out.go HB.out).mono ?_
           rintro e w22x ⟨rfl, hbx⟩
           have HBn := Lib.hid (Mem.then_ HB.out hbx)
           have c0n := Mem.keep hbx c0
           have c1n := Mem.keep hbx c1
           clear hbx HB c0 c1
           have HB := HBn
           clear HBn
           have c0 := c0n
           clear c0n
           have c1 := c1n
           clear c1n))
    have j0 : ∀ i : Mem.Later _, i.w.cell? ⟨w.heap.size, 0, none⟩ = some (.int .i64 s) := fun i => i.cell c0
    have j1 : ∀ i : Mem.Later _, i.w.cell? ⟨w.heap.size, 1, none⟩ = some (.int .i64 q) := fun i => i.cell c1
    refine Mem.wp_region_later (by kernel_rfl) (by kernel_rfl) ?_
    repeat (go_big_quiet_step (first
        | (go_at_call 18; refine Mem.later_call (HCt.out.go (Mem.then_ HB.out (Mem.Later.h _))))
        | (go_at_call 21; refine Mem.later_call (HRc.out.go (Mem.then_ HB.out (Mem.Later.h _))))
        | (go_at_call 19; refine Mem.later_call (HHa.out.go (Mem.then_ HB.out (Mem.Later.h _))))
        | (go_at_call 22; refine Mem.later_call (HRn.out.go (Mem.then_ HB.out (Mem.Later.h _))))
        | (go_at_call 15; refine Mem.later_call (HCo.out.go (Mem.then_ HB.out (Mem.Later.h _))))
        | (go_at_call 17; refine Mem.later_call (HOr.out.go (Mem.then_ HB.out (Mem.Later.h _))))))
    refine wpQuiet_nil ?_
    rintro _ ⟨⟨wq, hq⟩, rfl⟩
    clear j0 j1
    go_wp2
    go_ret
    exact ⟨rfl, Mem.then_ HB.out hq⟩

theorem vectAsks_walk (a0 : Option Addr) (len0 cap0 : Nat) (a1 : Option Addr) (len1 cap1 : Nat) (a2_0 : Int) (a2_1 : Int) (w : World) (_wa2_0 : (Lit.int .i64 a2_0).wf = true) (_wa2_1 : (Lit.int .i64 a2_1).wf = true) (h0 : ∃ (H : Type) (enc : TypeId × Value → H) (d : DataW H) (p : List MemPlace), DataW.Trod enc Tryd.prog w 0 (fun _ => true) true 22 (.slice a0 len0 cap0) d p) (h1 : ∃ (H : Type) (enc : TypeId × Value → H) (d : DataW H) (p : List MemPlace), DataW.Trod enc Tryd.prog w 0 (fun _ => true) true 22 (.slice a1 len1 cap1) d p) :
    Calls Tryd.prog 4 #[.slice a0 len0 cap0, .slice a1 len1 cap1, .agg #[.int .i64 a2_0, .int .i64 a2_1]] w fun e w' => e = .returned (.bool true) ∧ Below w.heap.size w w' := by
  obtain ⟨_, _, _, _, t0⟩ := h0
  obtain ⟨_, _, _, _, t1⟩ := h1
  obtain ⟨la, k1, k2, k3⟩ := Vec.arg_ints t0
  obtain ⟨lb, m1, m2, m3⟩ := Vec.arg_ints t1
  have ha : Vec.Arg w a0 len0 cap0 la := ⟨k1, k2, k3⟩
  have hb : Vec.Arg w a1 len1 cap1 lb := ⟨m1, m2, m3⟩
  by_cases g : 100 < len0 ∨ 100 < len1
  · exact asks_great a0 a1 len0 cap0 len1 cap1 la lb a2_0 a2_1 w ha hb g
  · by_cases h : Vec.may la = false ∨ Vec.may lb = false
    · exact asks_not a0 a1 len0 cap0 len1 cap1 la lb a2_0 a2_1 w ha hb (by omega) (by omega) h
    · simp only [not_or, Bool.not_eq_false] at h
      exact asks_yes a0 a1 len0 cap0 len1 cap1 la lb a2_0 a2_1 w ha hb (by omega) (by omega) h.1 h.2
end Go.Proofs.YtdnpiginkndpcaaDoor
