/- The walk of VectRaises. (Printed by gen_vect.py.) -/
import Derived.Test.YtdnpiginkndpcaaDoorVecN
namespace Go.Proofs.YtdnpiginkndpcaaDoor
open Go.RowKit
open PVectAsks

namespace Vec
open Go.Proofs.YtdnpiginkndpcaaDoorW.PrintWords
theorem raise_no_says {w : World} {A : Option Addr} {n c : Nat} {l : List Int} (h : Arg w A n c l) (hn : n ≤ 1000) (s q E : Int) (hE : raiseE l s q = E) (hE0 : E ≠ 0) : Says 23 #[.slice A n c, .agg #[.int .i64 s, .int .i64 q]] w (.tuple #[.slice none 0 0, .int .i64 E]) := fun w1 hb => by
  obtain ⟨rfl, hc, hC⟩ := h
  exact vect_raise_no l _ rfl A c s q w1 (Kd.C_below hC hb) hc hn E hE hE0
theorem ref_raise_no_says {w : World} {A : Option Addr} {n c : Nat} {l : List Int} (h : Arg w A n c l) (hn : n ≤ 1000) (s q E : Int) (hE : raiseE l s q = E) (hE0 : E ≠ 0) : Says 24 #[.slice A n c, .agg #[.int .i64 s, .int .i64 q]] w (.tuple #[.slice none 0 0, .int .i64 E]) := fun w1 hb =>
  ref_raise_no A n c l s q w1 (h.later hb) hn E hE hE0
/-- from w on, the function answers a list of the call's own, and 0 -/
def SaysRow (f : FuncId) (args : Array Value) (w : World) (n : Nat) (l : List Int) : Prop := ∀ w1, Below w.heap.size w w1 → Calls Tryd.prog f args w1 fun e w' => ∃ A c, e = .returned (.tuple #[.slice A n c, .int .i64 0]) ∧ Arg w' A n c l ∧ Below w1.heap.size w1 w'
theorem SaysRow.go {f : FuncId} {args : Array Value} {w w1 : World} {n : Nat} {l : List Int} (h : SaysRow f args w n l) (hb : Below w.heap.size w w1) : Calls Tryd.prog f args w1 fun e w' => ∃ A c, e = .returned (.tuple #[.slice A n c, .int .i64 0]) ∧ Arg w' A n c l ∧ Below w1.heap.size w1 w' := h w1 hb
theorem raise_yes_says {w : World} {A : Option Addr} {N c : Nat} {l : List Int} (h : Arg w A N c l) (S : Nat) (n : Int) (u : Up l S n) (hnm : mayName S (n + 1) = true) : SaysRow 23 #[.slice A N c, .agg #[.int .i64 S, .int .i64 (n + 1)]] w (raised l S (n + 1)).length (raised l S (n + 1)) := fun w1 hb => by
  have hl := may_len u.hm
  obtain ⟨rfl, hc, hC⟩ := h
  refine (vect_raise_yes l _ rfl A c S (max l.length S) n w1 (Kd.C_below hC hb) hc hl u.h1 u.h2 u.hm hnm u.hn u.hn2 (by omega)).mono ?_
  rintro e w' ⟨v, rfl, ho, hb'⟩
  obtain ⟨A', c', rfl, ha⟩ := Arg.own ho
  exact ⟨A', c', rfl, ha, hb'⟩
theorem ref_raise_yes_says {w : World} {A : Option Addr} {N c : Nat} {l : List Int} (h : Arg w A N c l) (S : Nat) (n : Int) (u : Up l S n) (hnm : mayName S (n + 1) = true) : SaysRow 24 #[.slice A N c, .agg #[.int .i64 S, .int .i64 (n + 1)]] w (raised l S (n + 1)).length (raised l S (n + 1)) := fun w1 hb => by
  have hl := may_len u.hm
  have hN := h.hl
  refine (ref_raise_yes A N c l S n w1 (h.later hb) (by omega) u.h1 u.h2 u.hm hnm u.hn u.hn2).mono ?_
  rintro e w' ⟨m, v, rfl, htr, ho, hb'⟩
  have e2 := raised_tr u htr
  unfold fullL at e2
  rw [e2] at ho
  obtain ⟨A', c', rfl, ha⟩ := Arg.own ho
  exact ⟨A', c', rfl, ha, hb'⟩
theorem same_true {w : World} {A B : Option Addr} {n m c d : Nat} {l : List Int} (h : Arg w A n c l) (hn : n ≤ 1000) (g : Arg w B m d l) : Says 13 #[.slice A n c, .slice B m d] w (.bool true) := by
  have := same_says h hn g
  rw [decide_eq_true rfl] at this
  exact this
theorem Arg.empty (w : World) : Arg w none 0 0 [] := ⟨rfl, Nat.le_refl _, Kd.C_nil _ _⟩
theorem countV_may {l : List Int} (h : may l = true) (s : Int) : countV l s = cnt l s := by unfold countV; rw [h]; rfl
/-- what the counts up to a place add up to -/
def part (S k : Nat) : Int := if S ≤ k then 1 else 0
theorem part_bd (S k : Nat) : 0 ≤ part S k ∧ part S k ≤ 1 := by unfold part; split <;> omega
theorem part_step {l : List Int} {S : Nat} {n : Int} (u : Up l S n) (k : Nat) : part S k + cnt (raised l S (n + 1)) ((k : Int) + 1) - cnt l ((k : Int) + 1) = part S (k + 1) := by
  rw [raised_cnt u]
  unfold part
  by_cases h : k + 1 = S
  · rw [if_pos h, if_neg (by omega), if_pos (by omega), show ((k : Int) + 1) = (S : Int) by omega, u.hn]; omega
  · rw [if_neg h]
    by_cases h2 : S ≤ k
    · rw [if_pos h2, if_pos (by omega)]; omega
    · rw [if_neg h2, if_neg (by omega)]; omega
structure RL (w w2 w4 : World) (k : Nat) (wr : World) : Prop where
  hk : k ≤ 16
  b : Below w4.heap.size w4 wr
theorem up_of {l : List Int} {s q : Int} (h : raiseE l s q = 0) : ∃ (S : Nat) (n : Int), s = S ∧ q = n + 1 ∧ Up l S n ∧ mayName S (n + 1) = true := by
  unfold raiseE at h
  by_cases h1 : (may l && mayName s q) = true
  · rw [if_pos h1] at h
    rw [Bool.and_eq_true] at h1
    obtain ⟨hm, hn⟩ := h1
    have hb := of_decide_eq_true (show decide (1 ≤ s ∧ s ≤ 16 ∧ 1 ≤ q ∧ q ≤ 1099511627776) = true from hn)
    by_cases h2 : cnt l s = most
    · rw [if_pos h2] at h; cases h
    · rw [if_neg h2] at h
      by_cases h3 : q ≠ cnt l s + 1
      · rw [if_pos h3] at h; cases h
      · have h3 : q = cnt l s + 1 := by omega
        obtain ⟨S, rfl⟩ : ∃ S : Nat, s = S := ⟨s.toNat, by omega⟩
        exact ⟨S, cnt l S, rfl, h3, ⟨hm, by omega, by omega, rfl, h2⟩, by rw [← h3]; exact hn⟩
  · rw [if_neg h1] at h; cases h
end Vec

set_option maxRecDepth 100000 in
set_option maxHeartbeats 4000000 in
theorem raises_great (Aa : Option Addr) (La ca : Nat) (la : List Int) (s q : Int) (w : World) (ha : Vec.Arg w Aa La ca la) (h : 100 < La) :
    Calls Tryd.prog 5 #[.slice Aa La ca, .agg #[.int .i64 s, .int .i64 q]] w fun e w' => e = .returned (.bool true) ∧ Below w.heap.size w w' := by
  have HG := Lib.hid (Vec.great_says (w := w) [⟨Aa, ca, la⟩] (by simp) 1 rfl #[.slice Aa La ca] (by rw [List.map_cons, ha.val]; rfl) true (by have h1 := ha.hl; subst h1; simp [Vec.greatB]; omega) (by
    intro t ht
    simp only [List.mem_cons, List.not_mem_nil, or_false] at ht
    rcases ht with rfl
    exact ha.at))
  have HL := Lib.hid (Vec.alive_says w)
  clear ha h
  go_enter Tryd.func5, Tryd.ntmps5
  go_wp2_with (first
      | (with_reducible refine Mem.wpList_box (o := ⟨some 3, _, _, _, _, _⟩) ?_ 33 (.tmp 1) ?_ (.agg #[.int .i64 s, .int .i64 q]) ?_ ?_
         · rfl
         · rfl
         · rfl
         intro w1 hn1
         have c0 := hn1.cell1 0 (v := .int .i64 s) rfl
         have c1 := hn1.cell1 1 (v := .int .i64 q) rfl
         have HB := Lib.hid hn1.below
         clear hn1)
      | (go_at_call 9
         with_reducible refine (HL.out.go HB.out).mono ?_
         rintro e w1x ⟨rfl, hbx⟩
         have HBn := Lib.hid (Mem.then_ HB.out hbx)
         have c0n := Mem.keep hbx c0
         have c1n := Mem.keep hbx c1
         clear hbx HB c0 c1
         have HB := HBn
         clear HBn
         have c0 := c0n
         clear c0n
         have c1 := c1n
         clear c1n)
      | (go_at_call 10
         with_reducible refine (HG.out.go HB.out).mono ?_
         rintro e w2x ⟨rfl, hbx⟩
         have HBn := Lib.hid (Mem.then_ HB.out hbx)
         have c0n := Mem.keep hbx c0
         have c1n := Mem.keep hbx c1
         clear hbx HB c0 c1
         have HB := HBn
         clear HBn
         have c0 := c0n
         clear c0n
         have c1 := c1n
         clear c1n))
  go_ret
  exact ⟨rfl, HB.out⟩

set_option maxRecDepth 100000 in
set_option maxHeartbeats 4000000 in
theorem raises_not (Aa : Option Addr) (La ca : Nat) (la : List Int) (s q : Int) (w : World) (ha : Vec.Arg w Aa La ca la) (hla : La ≤ 100) (E : Int) (hE : Vec.raiseE la s q = E) (hE0 : E ≠ 0) :
    Calls Tryd.prog 5 #[.slice Aa La ca, .agg #[.int .i64 s, .int .i64 q]] w fun e w' => e = .returned (.bool true) ∧ Below w.heap.size w w' := by
  have HG := Lib.hid (Vec.great_says (w := w) [⟨Aa, ca, la⟩] (by simp) 1 rfl #[.slice Aa La ca] (by rw [List.map_cons, ha.val]; rfl) false (by have h1 := ha.hl; subst h1; simp [Vec.greatB]; omega) (by
    intro t ht
    simp only [List.mem_cons, List.not_mem_nil, or_false] at ht
    rcases ht with rfl
    exact ha.at))
  have HL := Lib.hid (Vec.alive_says w)
  have HV := Lib.hid (Vec.raise_no_says ha (by omega) s q E hE hE0)
  have HR := Lib.hid (Vec.ref_raise_no_says ha (by omega) s q E hE hE0)
  have HS := Lib.hid (Vec.same_true (Vec.Arg.empty w) (by omega) (Vec.Arg.empty w))
  have d1 : (E != E) = false := by simp
  have d2 : (E != 0) = true := bne_iff_ne.2 hE0
  clear ha hE hE0 hla
  go_enter Tryd.func5, Tryd.ntmps5
  go_wp2_with (first
      | (with_reducible refine Mem.wpList_box (o := ⟨some 3, _, _, _, _, _⟩) ?_ 33 (.tmp 1) ?_ (.agg #[.int .i64 s, .int .i64 q]) ?_ ?_
         · rfl
         · rfl
         · rfl
         intro w1 hn1
         have c0 := hn1.cell1 0 (v := .int .i64 s) rfl
         have c1 := hn1.cell1 1 (v := .int .i64 q) rfl
         have HB := Lib.hid hn1.below
         clear hn1)
      | (go_at_call 9
         with_reducible refine (HL.out.go HB.out).mono ?_
         rintro e w3x ⟨rfl, hbx⟩
         have HBn := Lib.hid (Mem.then_ HB.out hbx)
         have c0n := Mem.keep hbx c0
         have c1n := Mem.keep hbx c1
         clear hbx HB c0 c1
         have HB := HBn
         clear HBn
         have c0 := c0n
         clear c0n
         have c1 := c1n
         clear c1n)
      | (go_at_call 10
         with_reducible refine (HG.out.go HB.out).mono ?_
         rintro e w4x ⟨rfl, hbx⟩
         have HBn := Lib.hid (Mem.then_ HB.out hbx)
         have c0n := Mem.keep hbx c0
         have c1n := Mem.keep hbx c1
         clear hbx HB c0 c1
         have HB := HBn
         clear HBn
         have c0 := c0n
         clear c0n
         have c1 := c1n
         clear c1n)
      | (go_at_call 23
         with_reducible refine (HV.out.go HB.out).mono ?_
         rintro e w5x ⟨rfl, hbx⟩
         have HBn := Lib.hid (Mem.then_ HB.out hbx)
         have c0n := Mem.keep hbx c0
         have c1n := Mem.keep hbx c1
         clear hbx HB c0 c1
         have HB := HBn
         clear HBn
         have c0 := c0n
         clear c0n
         have c1 := c1n
         clear c1n)
      | (go_at_call 24
         with_reducible refine (HR.out.go HB.out).mono ?_
         rintro e w6x ⟨rfl, hbx⟩
         have HBn := Lib.hid (Mem.then_ HB.out hbx)
         have c0n := Mem.keep hbx c0
         have c1n := Mem.keep hbx c1
         clear hbx HB c0 c1
         have HB := HBn
         clear HBn
         have c0 := c0n
         clear c0n
         have c1 := c1n
         clear c1n)
      | (go_at_call 13
         with_reducible refine (HS.out.go HB.out).mono ?_
         rintro e w7x ⟨rfl, hbx⟩
         have HBn := Lib.hid (Mem.then_ HB.out hbx)
         have c0n := Mem.keep hbx c0
         have c1n := Mem.keep hbx c1
         clear hbx HB c0 c1
         have HB := HBn
         clear HBn
         have c0 := c0n
         clear c0n
         have c1 := c1n
         clear c1n))
  go_ret
  exact ⟨rfl, HB.out⟩

set_option maxRecDepth 100000 in
set_option maxHeartbeats 4000000 in
theorem raises_yes (Aa : Option Addr) (La ca : Nat) (la : List Int) (s q : Int) (w : World) (ha : Vec.Arg w Aa La ca la) (hla : La ≤ 100) (S : Nat) (n : Int) (hs : s = S) (hq : q = n + 1) (u : Vec.Up la S n) (hnm : Vec.mayName S (n + 1) = true) :
    Calls Tryd.prog 5 #[.slice Aa La ca, .agg #[.int .i64 s, .int .i64 q]] w fun e w' => e = .returned (.bool true) ∧ Below w.heap.size w w' := by
  have HG := Lib.hid (Vec.great_says (w := w) [⟨Aa, ca, la⟩] (by simp) 1 rfl #[.slice Aa La ca] (by rw [List.map_cons, ha.val]; rfl) false (by have h1 := ha.hl; subst h1; simp [Vec.greatB]; omega) (by
    intro t ht
    simp only [List.mem_cons, List.not_mem_nil, or_false] at ht
    rcases ht with rfl
    exact ha.at))
  have HL := Lib.hid (Vec.alive_says w)
  have HV := Lib.hid (Vec.raise_yes_says ha S n u hnm)
  have HR := Lib.hid (Vec.ref_raise_yes_says ha S n u hnm)
  have HP := Lib.hid (fun k : Nat => Vec.part_step u k)
  have HmX := Lib.hid (Vec.raised_may u)
  have HoX := Lib.hid (Vec.raised_order u)
  have HhX := Lib.hid (Vec.raised_has u hnm)
  have HnX := Lib.hid (Vec.not_has u)
  have HCv := Lib.hid (fun k : Nat => Vec.count_says ha (by omega) ((k : Int) + 1))
  have HHa := Lib.hid (Vec.has_says ha (by omega) s q)
  have HmA := Lib.hid u.hm
  have HS2 := Lib.hid u.h2
  have HS1 := Lib.hid u.h1
  rw [← hs, ← hq] at HV HR
  rw [← hs] at HhX HnX
  rw [← hq] at HP HmX HoX HhX HnX
  rw [HnX.out] at HHa
  have HA0 := Lib.hid ha
  have Hla := Lib.hid hla
  obtain ⟨lx, hlx⟩ : ∃ lx, Vec.raised la S q = lx := ⟨_, rfl⟩
  have hX : lx.length ≤ 1000 := by rw [← hlx, Vec.raised_length]; have := u.h2; have := ha.hl; omega
  rw [hlx] at HV HR HP HmX HoX HhX
  obtain ⟨X, hXX⟩ : ∃ X, lx.length = X := ⟨_, rfl⟩
  rw [hXX] at HV HR hX
  clear ha u hnm hs hq hla hlx hXX HnX
  go_enter Tryd.func5, Tryd.ntmps5
  go_upto_region 11 with (first
      | (with_reducible refine Mem.wpList_box (o := ⟨some 3, _, _, _, _, _⟩) ?_ 33 (.tmp 1) ?_ (.agg #[.int .i64 s, .int .i64 q]) ?_ ?_
         · rfl
         · rfl
         · rfl
         intro w1 hn1
         have c0 := hn1.cell1 0 (v := .int .i64 s) rfl
         have c1 := hn1.cell1 1 (v := .int .i64 q) rfl
         have HB := Lib.hid hn1.below
         clear hn1)
      | (go_at_call 9
         with_reducible refine (HL.out.go HB.out).mono ?_
         rintro e w8x ⟨rfl, hbx⟩
         have HBn := Lib.hid (Mem.then_ HB.out hbx)
         have c0n := Mem.keep hbx c0
         have c1n := Mem.keep hbx c1
         clear hbx HB c0 c1
         have HB := HBn
         clear HBn
         have c0 := c0n
         clear c0n
         have c1 := c1n
         clear c1n)
      | (go_at_call 10
         with_reducible refine (HG.out.go HB.out).mono ?_
         rintro e w9x ⟨rfl, hbx⟩
         have HBn := Lib.hid (Mem.then_ HB.out hbx)
         have c0n := Mem.keep hbx c0
         have c1n := Mem.keep hbx c1
         clear hbx HB c0 c1
         have HB := HBn
         clear HBn
         have c0 := c0n
         clear c0n
         have c1 := c1n
         clear c1n)
      | (go_at_call 23
         with_reducible refine (HV.out.go HB.out).mono ?_
         rintro e w3 ⟨x, xc, rfl, hax, hbx⟩
         have HBn := Lib.hid (Mem.then_ HB.out hbx)
         have c0n := Mem.keep hbx c0
         have c1n := Mem.keep hbx c1
         have HAx := Lib.hid hax
         clear hax hbx HB c0 c1
         have HB := HBn
         clear HBn
         have c0 := c0n
         clear c0n
         have c1 := c1n
         clear c1n)
      | (go_at_call 24
         with_reducible refine (HR.out.go HB.out).mono ?_
         rintro e w4 ⟨y, yc, rfl, hax, hbx⟩
         have HBn := Lib.hid (Mem.then_ HB.out hbx)
         have c0n := Mem.keep hbx c0
         have c1n := Mem.keep hbx c1
         have HAy := Lib.hid hax
         have HAxn := Lib.hid (Vec.Arg.later HAx.out hbx)
         clear hax hbx HB c0 c1 HAx
         have HB := HBn
         clear HBn
         have c0 := c0n
         clear c0n
         have c1 := c1n
         clear c1n
         have HAx := HAxn
         clear HAxn)
      | (go_at_call 13
         with_reducible refine ((Vec.same_true HAx.out hX HAy.out).go (Below.refl _ _)).mono ?_
         rintro e w5 ⟨rfl, hbx⟩
         have HBn := Lib.hid (Mem.then_ HB.out hbx)
         have c0n := Mem.keep hbx c0
         have c1n := Mem.keep hbx c1
         have HAxn := Lib.hid (Vec.Arg.later HAx.out hbx)
         clear hbx HB c0 c1 HAx HAy
         have HB := HBn
         clear HBn
         have c0 := c0n
         clear c0n
         have c1 := c1n
         clear c1n
         have HAx := HAxn
         clear HAxn))
  obtain ⟨w6, hw6⟩ : ∃ w6, w6 = w5 := ⟨_, rfl⟩
  rw [← hw6] at HB c0 c1 HAx ⊢
  clear hw6
  go_wp2
  go_loopw [9, 10] (fun t9 t10 wr => ∃ k : Nat, t9 = .int .i64 (Vec.part S k) ∧ t10 = .int .i64 ((k : Int) + 1) ∧ Vec.RL w w6 w6 k wr) (fun _ t10 _ => 17 - (intOf t10).toNat)
  case atStart =>
    refine ⟨0, ?_, by simp, ⟨Nat.zero_le _, Below.refl _ _⟩⟩
    unfold Vec.part
    rw [if_neg (by have := HS1.out; omega)]
  case round =>
    obtain ⟨k, rfl, rfl, R⟩ := hrel
    have hk := R.hk
    have HB0 := HB
    clear HB
    have HB := Lib.hid R.b
    clear R
    have hc0 := Mem.keep HB.out c0
    have hc1 := Mem.keep HB.out c1
    clear c0 c1
    have c0 := hc0
    have c1 := hc1
    clear hc0 hc1
    by_cases hk16 : k < 16
    · have i1 : (k : Int) + 1 ≤ 16 := by omega
      have i3 : (k : Int) < 16 := by omega
      have HC1 := Lib.hid (Vec.count_says HAx.out hX ((k : Int) + 1))
      have HC2 := Lib.hid ((HCv.out k).later HB0.out)
      have hst := HP.out k
      have b1 := Vec.cnt_bd HmX.out ((k : Int) + 1)
      have b2 := Vec.cnt_bd HmA.out ((k : Int) + 1)
      have b3 := Vec.part_bd S k
      rw [Vec.countV_may HmX.out] at HC1
      rw [Vec.countV_may HmA.out] at HC2
      obtain ⟨x1, hx1⟩ : ∃ x1, Vec.cnt lx ((k : Int) + 1) = x1 := ⟨_, rfl⟩
      obtain ⟨x2, hx2⟩ : ∃ x2, Vec.cnt la ((k : Int) + 1) = x2 := ⟨_, rfl⟩
      obtain ⟨x3, hx3⟩ : ∃ x3, Vec.part S k = x3 := ⟨_, rfl⟩
      rw [hx1] at HC1 b1 hst
      rw [hx2] at HC2 b2 hst
      rw [hx3] at b3 hst
      rw [hx3]
      have Hst := Lib.hid hst
      obtain ⟨b11, b12⟩ := b1
      obtain ⟨b21, b22⟩ := b2
      obtain ⟨b31, b32⟩ := b3
      clear hst hx1 hx2 hx3
      go_wp2_with (first
        | (go_at_call 18
           with_reducible refine (HC1.out.go HB.out).mono ?_
           rintro e w10x ⟨rfl, hbx⟩
           have HBn := Lib.hid (Mem.then_ HB.out hbx)
           have c0n := Mem.keep hbx c0
           have c1n := Mem.keep hbx c1
           clear hbx HB c0 c1
           have HB := HBn
           clear HBn
           have c0 := c0n
           clear c0n
           have c1 := c1n
           clear c1n)
        | (go_at_call 18
           with_reducible refine (HC2.out.go HB.out).mono ?_
           rintro e w11x ⟨rfl, hbx⟩
           have HBn := Lib.hid (Mem.then_ HB.out hbx)
           have c0n := Mem.keep hbx c0
           have c1n := Mem.keep hbx c1
           clear hbx HB c0 c1
           have HB := HBn
           clear HBn
           have c0 := c0n
           clear c0n
           have c1 := c1n
           clear c1n))
      refine ⟨⟨k + 1, ?_, by push_cast; rfl, ⟨hk16, HB.out⟩⟩, by simp only [intOf]; omega⟩
      rw [← Hst.out]
    · have hk' : k = 16 := by omega
      subst hk'
      have hp : Vec.part S 16 = 1 := by unfold Vec.part; rw [if_pos HS2.out]
      rw [hp]
      have HC1 := Lib.hid (Vec.has_says HAx.out hX s q)
      rw [HhX.out] at HC1
      have HC2 := Lib.hid (HHa.out.later HB0.out)
      have HC3 := Lib.hid (Vec.order_says HAx.out hX (HA0.out.later HB0.out) (by have := Hla.out; omega))
      rw [HoX.out] at HC3
      clear hp hk16
      go_wp2_with (first
        | (go_at_call 19
           with_reducible refine (HC1.out.go HB.out).mono ?_
           rintro e w12x ⟨rfl, hbx⟩
           have HBn := Lib.hid (Mem.then_ HB.out hbx)
           have c0n := Mem.keep hbx c0
           have c1n := Mem.keep hbx c1
           clear hbx HB c0 c1
           have HB := HBn
           clear HBn
           have c0 := c0n
           clear c0n
           have c1 := c1n
           clear c1n)
        | (go_at_call 19
           with_reducible refine (HC2.out.go HB.out).mono ?_
           rintro e w13x ⟨rfl, hbx⟩
           have HBn := Lib.hid (Mem.then_ HB.out hbx)
           have c0n := Mem.keep hbx c0
           have c1n := Mem.keep hbx c1
           clear hbx HB c0 c1
           have HB := HBn
           clear HBn
           have c0 := c0n
           clear c0n
           have c1 := c1n
           clear c1n)
        | (go_at_call 17
           with_reducible refine (HC3.out.go HB.out).mono ?_
           rintro e w14x ⟨rfl, hbx⟩
           have HBn := Lib.hid (Mem.then_ HB.out hbx)
           have c0n := Mem.keep hbx c0
           have c1n := Mem.keep hbx c1
           clear hbx HB c0 c1
           have HB := HBn
           clear HBn
           have c0 := c0n
           clear c0n
           have c1 := c1n
           clear c1n))
      go_ret
      exact ⟨rfl, Mem.then_ HB0.out HB.out⟩

theorem vectRaises_walk (a0 : Option Addr) (len0 cap0 : Nat) (a1_0 : Int) (a1_1 : Int) (w : World) (_wa1_0 : (Lit.int .i64 a1_0).wf = true) (_wa1_1 : (Lit.int .i64 a1_1).wf = true) (h0 : ∃ (H : Type) (enc : TypeId × Value → H) (d : DataW H) (p : List MemPlace), DataW.Trod enc Tryd.prog w 0 (fun _ => true) true 22 (.slice a0 len0 cap0) d p) :
    Calls Tryd.prog 5 #[.slice a0 len0 cap0, .agg #[.int .i64 a1_0, .int .i64 a1_1]] w fun e w' => e = .returned (.bool true) ∧ Below w.heap.size w w' := by
  obtain ⟨_, _, _, _, t0⟩ := h0
  obtain ⟨la, k1, k2, k3⟩ := Vec.arg_ints t0
  have ha : Vec.Arg w a0 len0 cap0 la := ⟨k1, k2, k3⟩
  by_cases g : 100 < len0
  · exact raises_great a0 len0 cap0 la a1_0 a1_1 w ha g
  · by_cases h : Vec.raiseE la a1_0 a1_1 = 0
    · obtain ⟨S, n, h1, h2, h3, h4⟩ := Vec.up_of h
      exact raises_yes a0 len0 cap0 la a1_0 a1_1 w ha (by omega) S n h1 h2 h3 h4
    · exact raises_not a0 len0 cap0 la a1_0 a1_1 w ha (by omega) _ rfl h

end Go.Proofs.YtdnpiginkndpcaaDoor
