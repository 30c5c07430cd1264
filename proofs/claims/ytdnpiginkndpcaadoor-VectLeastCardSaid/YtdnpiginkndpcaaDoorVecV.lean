/- The walk of VectLeast. (Printed by gen_vect2.py.) -/
import Derived.Test.YtdnpiginkndpcaaDoorVecU
namespace Go.Proofs.YtdnpiginkndpcaaDoor
open Go.RowKit
open PVectAsks

namespace Vec
open Go.Proofs.YtdnpiginkndpcaaDoorW.PrintWords
theorem great_rows {w : World} {A : Option Addr} {n c : Nat} {ls : List (List Int)} (h : ArgR w A n c ls) : Says 10 #[.slice A n c] w (.bool (greatB ls)) := fun w1 hb => by
  obtain ⟨rfl, hc, hC⟩ := h
  exact (foolscaplaw06_great.calls _ A c ls _ w1 (Kd.C_below hC hb) hc (great_eval ls hC.2.1)).mono fun e w2 h2 => ⟨h2.1, drawn_below h2.2⟩
theorem great_fit {ls : List (List Int)} (h : greatB ls = false) : ls.length ≤ 100 ∧ ∀ j, j < ls.length → (rowAt ls j).length ≤ 100 := by
  unfold greatB at h
  rw [Bool.or_eq_false_iff] at h
  refine ⟨by have := of_decide_eq_false h.2; omega, fun j hj => ?_⟩
  have h1 := h.1
  rw [List.any_eq_false] at h1
  unfold rowAt
  rw [List.getD_eq_getElem?_getD, List.getElem?_eq_getElem hj]
  have := h1 _ (List.getElem_mem hj)
  simp only [decide_eq_true_eq] at this
  show (ls[j]).length ≤ 100
  omega
theorem least_no_says {w : World} {A : Option Addr} {n c : Nat} {ls : List (List Int)} (h : ArgR w A n c ls) (hn : n ≤ 1000) (hlen : ∀ j, j < n → (rowAt ls j).length ≤ 1000) (hno : n = 0 ∨ ∃ j, j < n ∧ may (rowAt ls j) = false) : Says 25 #[.slice A n c] w (.tuple #[.slice none 0 0, .int .i64 1]) := fun w1 hb => by
  by_cases h0 : n = 0
  · subst h0
    refine (vect_least_none A c w1).mono ?_
    rintro e w2 ⟨rfl, rfl⟩
    exact ⟨rfl, Below.refl _ _⟩
  · obtain ⟨ad, rfl⟩ := h.addr (by omega)
    exact vect_least_no ad n c ls w1 (h.later hb) (by omega) hn hlen (hno.resolve_left h0)
theorem least_yes_says {w : World} {ad : Addr} {n c : Nat} {ls : List (List Int)} (h : ArgR w (some ad) n c ls) (hn : n ≤ 1000) (h0 : 0 < n) (hm : ∀ l ∈ ls, may l = true) {m : Nat} (ht : Tr (fullLow ls) m) : SaysRow 25 #[.slice (some ad) n c] w ((fullLow ls).take m).length ((fullLow ls).take m) := fun w1 hb => by
  have hl := h.hl
  refine (vect_least_yes ad n c ls w1 (h.later hb) h0 hn hm).mono ?_
  rintro e w2 ⟨O, k, A, d, rfl, hk, hlow, ha, hb2⟩
  have e2 : O.take k = (fullLow ls).take m := hk.agree ht fun i => by rw [hlow i, fullLow_getD hm (by omega), hl]
  have e3 : k = ((fullLow ls).take m).length := by rw [← e2, List.length_take]; have := hk.le; omega
  rw [e2] at ha
  subst e3
  exact ⟨A, d, rfl, ha, hb2⟩
theorem ref_least_says {w : World} {ad : Addr} {n c : Nat} {ls : List (List Int)} (h : ArgR w (some ad) n c ls) (hn : n ≤ 1000) (h0 : 0 < n) (hm : ∀ l ∈ ls, may l = true) {m : Nat} (ht : Tr (fullLow ls) m) : SaysList 26 #[.slice (some ad) n c] w ((fullLow ls).take m).length ((fullLow ls).take m) := fun w1 hb => by
  have hl := h.hl
  refine (ref_least ad n c ls w1 (h.later hb) h0 hn (fun j hj => by have := may_len (rowAt_may hm j (by omega)); omega)).mono ?_
  rintro e w2 ⟨k, v, rfl, hk, ho, hb2⟩
  have e1 : (List.range 16).map (lowF ls n) = fullLow ls := by unfold fullLow; rw [hl]
  rw [e1] at hk ho
  have e2 := hk.one ht
  subst e2
  obtain ⟨A, d, rfl, ha⟩ := Arg.own ho
  exact ⟨A, d, rfl, ha, hb2⟩
theorem all_step (v b a c : Bool) (j : Nat) (h : v = (decide (j = 0) || (b && a))) (h0 : j = 0 → a = true) : (v && (b && c)) = (decide (j + 1 = 0) || (b && (a && c))) := by
  rw [h]
  by_cases e : j = 0
  · rw [decide_eq_true e, h0 e]; cases b <;> cases c <;> rfl
  · rw [decide_eq_false e]; cases b <;> cases a <;> cases c <;> rfl
structure LX (ls : List (List Int)) (lc : List Int) (n k : Nat) (w wr : World) : Prop where
  hk : k ≤ n
  b : Below w.heap.size w wr
end Vec

set_option maxRecDepth 100000 in
set_option maxHeartbeats 4000000 in
theorem least_great1 (A0 Ac : Option Addr) (n c Lc cc : Nat) (ls : List (List Int)) (lc : List Int) (w : World) (ha : Vec.ArgR w A0 n c ls) (_hc : Vec.Arg w Ac Lc cc lc) (hg : Vec.greatB ls = true) :
    Calls Tryd.prog 6 #[.slice A0 n c, .slice Ac Lc cc] w fun e w' => e = .returned (.bool true) ∧ Below w.heap.size w w' := by
  have HG := Lib.hid (Vec.great_rows ha)
  rw [hg] at HG
  have HL := Lib.hid (Vec.alive_says w)
  have HB := Lib.hid (Below.refl w.heap.size w)
  clear ha hg
  go_enter Tryd.func6, Tryd.ntmps6
  go_wp2_with (first
      | (go_at_call 9
         with_reducible refine (HL.out.go HB.out).mono ?_
         rintro e w1x ⟨rfl, hbx⟩
         have HBn := Lib.hid (Mem.then_ HB.out hbx)
         clear hbx HB
         have HB := HBn
         clear HBn)
      | (go_at_call 10
         with_reducible refine (HG.out.go HB.out).mono ?_
         rintro e w2x ⟨rfl, hbx⟩
         have HBn := Lib.hid (Mem.then_ HB.out hbx)
         clear hbx HB
         have HB := HBn
         clear HBn))
  go_ret
  exact ⟨rfl, HB.out⟩

set_option maxRecDepth 100000 in
set_option maxHeartbeats 4000000 in
theorem least_great2 (A0 Ac : Option Addr) (n c Lc cc : Nat) (ls : List (List Int)) (lc : List Int) (w : World) (ha : Vec.ArgR w A0 n c ls) (hc : Vec.Arg w Ac Lc cc lc) (hg : Vec.greatB ls = false) (h : 100 < Lc) :
    Calls Tryd.prog 6 #[.slice A0 n c, .slice Ac Lc cc] w fun e w' => e = .returned (.bool true) ∧ Below w.heap.size w w' := by
  have HG := Lib.hid (Vec.great_rows ha)
  rw [hg] at HG
  have HGc := Lib.hid (Vec.great_says (w := w) [⟨Ac, cc, lc⟩] (by simp) 1 rfl #[.slice Ac Lc cc] (by rw [List.map_cons, hc.val]; rfl) true (by have e0 := hc.hl; subst e0; simp [Vec.greatB]; omega) (by
    intro t ht
    simp only [List.mem_cons, List.not_mem_nil, or_false] at ht
    rcases ht with rfl
    exact hc.at))
  have HL := Lib.hid (Vec.alive_says w)
  have HB := Lib.hid (Below.refl w.heap.size w)
  clear ha hc hg h
  go_enter Tryd.func6, Tryd.ntmps6
  go_wp2_with (first
      | (go_at_call 9
         with_reducible refine (HL.out.go HB.out).mono ?_
         rintro e w3x ⟨rfl, hbx⟩
         have HBn := Lib.hid (Mem.then_ HB.out hbx)
         clear hbx HB
         have HB := HBn
         clear HBn)
      | (go_at_call 10
         with_reducible refine (HG.out.go HB.out).mono ?_
         rintro e w4x ⟨rfl, hbx⟩
         have HBn := Lib.hid (Mem.then_ HB.out hbx)
         clear hbx HB
         have HB := HBn
         clear HBn)
      | (go_at_call 10
         with_reducible refine (HGc.out.go HB.out).mono ?_
         rintro e w5x ⟨rfl, hbx⟩
         have HBn := Lib.hid (Mem.then_ HB.out hbx)
         clear hbx HB
         have HB := HBn
         clear HBn))
  go_ret
  exact ⟨rfl, HB.out⟩

set_option maxRecDepth 100000 in
set_option maxHeartbeats 4000000 in
theorem least_zero (A0 Ac : Option Addr) (n c Lc cc : Nat) (ls : List (List Int)) (lc : List Int) (w : World) (ha : Vec.ArgR w A0 n c ls) (hc : Vec.Arg w Ac Lc cc lc) (hg : Vec.greatB ls = false) (hlc : Lc ≤ 100) (h0 : n = 0) :
    Calls Tryd.prog 6 #[.slice A0 n c, .slice Ac Lc cc] w fun e w' => e = .returned (.bool true) ∧ Below w.heap.size w w' := by
  have HG := Lib.hid (Vec.great_rows ha)
  rw [hg] at HG
  have HGc := Lib.hid (Vec.great_says (w := w) [⟨Ac, cc, lc⟩] (by simp) 1 rfl #[.slice Ac Lc cc] (by rw [List.map_cons, hc.val]; rfl) false (by have e0 := hc.hl; subst e0; simp [Vec.greatB]; omega) (by
    intro t ht
    simp only [List.mem_cons, List.not_mem_nil, or_false] at ht
    rcases ht with rfl
    exact hc.at))
  have HL := Lib.hid (Vec.alive_says w)
  have HB := Lib.hid (Below.refl w.heap.size w)
  have HLe := Lib.hid (Vec.least_no_says ha (by omega) (fun j hj => by omega) (.inl h0))
  subst h0
  clear ha hc hg hlc
  go_enter Tryd.func6, Tryd.ntmps6
  go_wp2_with (first
      | (go_at_call 9
         with_reducible refine (HL.out.go HB.out).mono ?_
         rintro e w6x ⟨rfl, hbx⟩
         have HBn := Lib.hid (Mem.then_ HB.out hbx)
         clear hbx HB
         have HB := HBn
         clear HBn)
      | (go_at_call 10
         with_reducible refine (HG.out.go HB.out).mono ?_
         rintro e w7x ⟨rfl, hbx⟩
         have HBn := Lib.hid (Mem.then_ HB.out hbx)
         clear hbx HB
         have HB := HBn
         clear HBn)
      | (go_at_call 10
         with_reducible refine (HGc.out.go HB.out).mono ?_
         rintro e w8x ⟨rfl, hbx⟩
         have HBn := Lib.hid (Mem.then_ HB.out hbx)
         clear hbx HB
         have HB := HBn
         clear HBn)
      | (go_at_call 25
         with_reducible refine (HLe.out.go HB.out).mono ?_
         rintro e w9x ⟨rfl, hbx⟩
         have HBn := Lib.hid (Mem.then_ HB.out hbx)
         clear hbx HB
         have HB := HBn
         clear HBn))
  go_loopw [7] (fun t7 wr => t7 = .int .i64 0 ∧ Below w.heap.size w wr) (fun _ _ => 0)
  case atStart => exact ⟨rfl, HB.out⟩
  case round =>
    obtain ⟨rfl, hbw⟩ := hrel
    have HBw := Lib.hid hbw
    clear hbw
    go_wp2
    go_ret
    exact ⟨rfl, HBw.out⟩

set_option maxRecDepth 100000 in
set_option maxHeartbeats 4000000 in
theorem least_not (A0 Ac : Option Addr) (n c Lc cc : Nat) (ls : List (List Int)) (lc : List Int) (w : World) (ha : Vec.ArgR w A0 n c ls) (hc : Vec.Arg w Ac Lc cc lc) (hg : Vec.greatB ls = false) (hlc : Lc ≤ 100) (hn : 0 < n) (hno : ∃ j, j < n ∧ Vec.may (Vec.rowAt ls j) = false) :
    Calls Tryd.prog 6 #[.slice A0 n c, .slice Ac Lc cc] w fun e w' => e = .returned (.bool true) ∧ Below w.heap.size w w' := by
  obtain ⟨ad, rfl⟩ := ha.addr hn
  have HG := Lib.hid (Vec.great_rows ha)
  rw [hg] at HG
  have HGc := Lib.hid (Vec.great_says (w := w) [⟨Ac, cc, lc⟩] (by simp) 1 rfl #[.slice Ac Lc cc] (by rw [List.map_cons, hc.val]; rfl) false (by have e0 := hc.hl; subst e0; simp [Vec.greatB]; omega) (by
    intro t ht
    simp only [List.mem_cons, List.not_mem_nil, or_false] at ht
    rcases ht with rfl
    exact hc.at))
  have HL := Lib.hid (Vec.alive_says w)
  have HB := Lib.hid (Below.refl w.heap.size w)
  obtain ⟨hl1, hl2⟩ := Vec.great_fit hg
  rw [ha.hl] at hl1 hl2
  have HLn := Lib.hid (fun j hj => show (Vec.rowAt ls j).length ≤ 1000 by have := hl2 j hj; omega)
  have HLe := Lib.hid (Vec.least_no_says ha (by omega) HLn.out (.inr hno))
  have HA := Lib.hid ha
  have HN := Lib.hid hno
  clear ha hc hg hlc hl2 hno
  go_enter Tryd.func6, Tryd.ntmps6
  go_wp2_with (first
      | (go_at_call 9
         with_reducible refine (HL.out.go HB.out).mono ?_
         rintro e w10x ⟨rfl, hbx⟩
         have HBn := Lib.hid (Mem.then_ HB.out hbx)
         clear hbx HB
         have HB := HBn
         clear HBn)
      | (go_at_call 10
         with_reducible refine (HG.out.go HB.out).mono ?_
         rintro e w11x ⟨rfl, hbx⟩
         have HBn := Lib.hid (Mem.then_ HB.out hbx)
         clear hbx HB
         have HB := HBn
         clear HBn)
      | (go_at_call 10
         with_reducible refine (HGc.out.go HB.out).mono ?_
         rintro e w12x ⟨rfl, hbx⟩
         have HBn := Lib.hid (Mem.then_ HB.out hbx)
         clear hbx HB
         have HB := HBn
         clear HBn)
      | (go_at_call 25
         with_reducible refine (HLe.out.go HB.out).mono ?_
         rintro e w13x ⟨rfl, hbx⟩
         have HBn := Lib.hid (Mem.then_ HB.out hbx)
         clear hbx HB
         have HB := HBn
         clear HBn))
  go_loopw [7] (fun t7 wr => ∃ k : Nat, t7 = .int .i64 k ∧ Vec.LB ls n k w wr) (fun t7 _ => n - (intOf t7).toNat)
  case atStart => exact ⟨0, rfl, ⟨Nat.zero_le _, HB.out, fun j hj => by omega⟩⟩
  case round =>
    obtain ⟨k, rfl, Rr⟩ := hrel
    have HR := Lib.hid Rr
    have hk := Rr.hk
    clear Rr HB
    by_cases hlt : k < n
    · have d1 : (k : Int) < (n : Int) := by omega
      have d2 : (0 : Int) ≤ (k : Int) := by omega
      obtain ⟨B, d, hcell, harg⟩ := (HA.out.later HR.out.b).row k hlt
      have HM := Lib.hid (Vec.ref_may_says harg (HLn.out k hlt))
      obtain ⟨m, hm⟩ : ∃ m, (Vec.rowAt ls k).length = m := ⟨_, rfl⟩
      rw [hm] at hcell HM
      cases hmy : Vec.may (Vec.rowAt ls k) with
      | true =>
        have Hmy := Lib.hid hmy
        rw [hmy] at HM
        clear harg hm hmy
        go_wp2_with (
          go_at_call 12
          with_reducible refine (HM.out.go (Below.refl _ _)).mono ?_
          rintro e w3 ⟨rfl, hb3⟩
          have HB3 := Lib.hid hb3
          clear hb3)
        refine ⟨⟨k + 1, by push_cast; rfl, ⟨hlt, Mem.then_ HR.out.b HB3.out, fun j hj => ?_⟩⟩, by simp only [intOf]; omega⟩
        by_cases e : j = k
        · rw [e]; exact Hmy.out
        · exact HR.out.ok j (by omega)
      | false =>
        rw [hmy] at HM
        clear harg hm hmy
        go_wp2_with (
          go_at_call 12
          with_reducible refine (HM.out.go (Below.refl _ _)).mono ?_
          rintro e w3 ⟨rfl, hb3⟩
          have HB3 := Lib.hid hb3
          clear hb3)
        go_ret
        exact ⟨rfl, Mem.then_ HR.out.b HB3.out⟩
    · obtain ⟨j, h1, h2⟩ := HN.out
      have := HR.out.ok j (by omega)
      rw [this] at h2
      cases h2

set_option maxRecDepth 100000 in
set_option maxHeartbeats 4000000 in
theorem least_yes (A0 Ac : Option Addr) (n c Lc cc : Nat) (ls : List (List Int)) (lc : List Int) (w : World) (ha : Vec.ArgR w A0 n c ls) (hc : Vec.Arg w Ac Lc cc lc) (hg : Vec.greatB ls = false) (hlc : Lc ≤ 100) (hn : 0 < n) (hm : ∀ l ∈ ls, Vec.may l = true) :
    Calls Tryd.prog 6 #[.slice A0 n c, .slice Ac Lc cc] w fun e w' => e = .returned (.bool true) ∧ Below w.heap.size w w' := by
  obtain ⟨ad, rfl⟩ := ha.addr hn
  have HG := Lib.hid (Vec.great_rows ha)
  rw [hg] at HG
  have HGc := Lib.hid (Vec.great_says (w := w) [⟨Ac, cc, lc⟩] (by simp) 1 rfl #[.slice Ac Lc cc] (by rw [List.map_cons, hc.val]; rfl) false (by have e0 := hc.hl; subst e0; simp [Vec.greatB]; omega) (by
    intro t ht
    simp only [List.mem_cons, List.not_mem_nil, or_false] at ht
    rcases ht with rfl
    exact hc.at))
  have HL := Lib.hid (Vec.alive_says w)
  have HB := Lib.hid (Below.refl w.heap.size w)
  obtain ⟨hl1, hl2⟩ := Vec.great_fit hg
  rw [ha.hl] at hl1 hl2
  have hls := ha.hl
  obtain ⟨m0, ht⟩ := Vec.tr_exists (Vec.fullLow ls)
  have HLe := Lib.hid (Vec.least_yes_says ha (by omega) hn hm ht)
  have HRl := Lib.hid (Vec.ref_least_says ha (by omega) hn hm ht)
  have HMy := Lib.hid (fun j (hj : j < n) => Vec.rowAt_may hm j (by omega))
  have hmx := Vec.low_may hm (by omega) ht
  have hcx := Vec.covers_low hm (by omega) ht
  have hxc := Vec.low_covers hm (by omega) ht lc
  rw [hls] at hcx hxc
  obtain ⟨lx, hlx⟩ : ∃ lx, (Vec.fullLow ls).take m0 = lx := ⟨_, rfl⟩
  rw [hlx] at HLe HRl hmx hcx hxc
  have hX := Vec.may_len hmx
  obtain ⟨X, hXX⟩ : ∃ X, lx.length = X := ⟨_, rfl⟩
  rw [hXX] at HLe HRl hX
  have Hmx := Lib.hid hmx
  have Hcx := Lib.hid hcx
  have Hxc := Lib.hid hxc
  have HA := Lib.hid ha
  have HAc := Lib.hid hc
  have HRc := Lib.hid (Vec.ref_may_says hc (by omega))
  have HSx := Lib.hid (fun (w1 : World) (A : Option Addr) (c : Nat) (h : Vec.Arg w1 A X c lx) (B : Option Addr) (d : Nat) (g : Vec.Arg w1 B X d lx) => Vec.same_true h (by omega) g)
  have HMx := Lib.hid (fun (w1 : World) (A : Option Addr) (c : Nat) (h : Vec.Arg w1 A X c lx) => Vec.may_says h (by omega))
  rw [hmx] at HMx
  have d0 : ((n : Int) == 0) = false := beq_eq_false_iff_ne.2 (by omega)
  have d0' : (n == 0) = false := beq_eq_false_iff_ne.2 (by omega)
  clear ha hc hg hl2 hls hm ht hlx hXX hmx hcx hxc
  go_enter Tryd.func6, Tryd.ntmps6
  go_wp2_with (first
      | (go_at_call 9
         with_reducible refine (HL.out.go HB.out).mono ?_
         rintro e w14x ⟨rfl, hbx⟩
         have HBn := Lib.hid (Mem.then_ HB.out hbx)
         clear hbx HB
         have HB := HBn
         clear HBn)
      | (go_at_call 10
         with_reducible refine (HG.out.go HB.out).mono ?_
         rintro e w15x ⟨rfl, hbx⟩
         have HBn := Lib.hid (Mem.then_ HB.out hbx)
         clear hbx HB
         have HB := HBn
         clear HBn)
      | (go_at_call 10
         with_reducible refine (HGc.out.go HB.out).mono ?_
         rintro e w16x ⟨rfl, hbx⟩
         have HBn := Lib.hid (Mem.then_ HB.out hbx)
         clear hbx HB
         have HB := HBn
         clear HBn)
      | (go_at_call 25
         with_reducible refine (HLe.out.go HB.out).mono ?_
         rintro e w3 ⟨x, xc, rfl, hax, hbx⟩
         have HBn := Lib.hid (Mem.then_ HB.out hbx)
         have HAx := Lib.hid hax
         clear hax hbx HB
         have HB := HBn
         clear HBn))
  go_loopw [7] (fun t7 wr => ∃ k : Nat, t7 = .int .i64 k ∧ Vec.LN ls n k w3 wr) (fun t7 _ => n - (intOf t7).toNat)
  case atStart => exact ⟨0, rfl, ⟨Nat.zero_le _, Below.refl _ _⟩⟩
  case round =>
    obtain ⟨k, rfl, Rr⟩ := hrel
    have HR := Lib.hid Rr
    have hk := Rr.hk
    clear Rr
    by_cases hlt : k < n
    · have d1 : (k : Int) < (n : Int) := by omega
      have d2 : (0 : Int) ≤ (k : Int) := by omega
      obtain ⟨B, d, hcell, harg⟩ := (HA.out.later (Mem.then_ HB.out HR.out.b)).row k hlt
      have hM := Vec.may_len (HMy.out k hlt)
      have HM := Lib.hid (Vec.ref_may_says harg (by omega))
      rw [HMy.out k hlt] at HM
      obtain ⟨m, hm⟩ : ∃ m, (Vec.rowAt ls k).length = m := ⟨_, rfl⟩
      rw [hm] at hcell HM
      clear harg hm hM
      go_wp2_with (
        go_at_call 12
        with_reducible refine (HM.out.go (Below.refl _ _)).mono ?_
        rintro e w4 ⟨rfl, hb3⟩
        have HB3 := Lib.hid hb3
        clear hb3)
      refine ⟨⟨k + 1, by push_cast; rfl, ⟨hlt, Mem.then_ HR.out.b HB3.out⟩⟩, by simp only [intOf]; omega⟩
    · have hkn : k = n := by omega
      subst hkn
      obtain ⟨wo, rfl⟩ : ∃ wo : World, wo = wr := ⟨_, rfl⟩
      have e0 : decide ((k : Int) < (k : Int)) = false := decide_eq_false (by omega)
      have HAxn := Lib.hid (HAx.out.later HR.out.b)
      have HBn := Lib.hid (Mem.then_ HB.out HR.out.b)
      clear HAx HB
      have HAx := HAxn
      have HB := HBn
      clear HAxn HBn
      go_wp2_with (first
        | (go_at_call 26
           with_reducible refine (HRl.out.go HB.out).mono ?_
           rintro e w5 ⟨y, yc, rfl, hax, hbx⟩
           have HBn := Lib.hid (Mem.then_ HB.out hbx)
           have HAy := Lib.hid hax
           have HAxn := Lib.hid (Vec.Arg.later HAx.out hbx)
           clear hax hbx HB HAx
           have HB := HBn
           have HAx := HAxn
           clear HBn HAxn)
        | (go_at_call 13
           with_reducible refine ((HSx.out _ _ _ HAx.out _ _ HAy.out).go (Below.refl _ _)).mono ?_
           rintro e w6 ⟨rfl, hbx⟩
           have HBn := Lib.hid (Mem.then_ HB.out hbx)
           have HAxn := Lib.hid (Vec.Arg.later HAx.out hbx)
           clear hbx HB HAx
           have HB := HBn
           have HAx := HAxn
           clear HBn HAxn)
        | (go_at_call 16
           with_reducible refine ((HMx.out _ _ _ HAx.out).go (Below.refl _ _)).mono ?_
           rintro e w7 ⟨rfl, hbx⟩
           have HBn := Lib.hid (Mem.then_ HB.out hbx)
           have HAxn := Lib.hid (Vec.Arg.later HAx.out hbx)
           clear hbx HB HAx
           have HB := HBn
           have HAx := HAxn
           clear HBn HAxn))
      obtain ⟨b, hb⟩ : ∃ b, Vec.may lc = b := ⟨_, rfl⟩
      have Hb := Lib.hid hb
      clear hb
      go_loopw [8, 9] (fun t8 t9 wr => ∃ (j : Nat) (v : Bool), t8 = .bool v ∧ t9 = .int .i64 j ∧ v = (decide (j = 0) || (b && Vec.allCov ls lc j)) ∧ Vec.LN ls k j w7 wr) (fun _ t9 _ => k - (intOf t9).toNat)
      case atStart => exact ⟨0, true, rfl, rfl, rfl, ⟨Nat.zero_le _, Below.refl _ _⟩⟩
      case round =>
        obtain ⟨j, v, rfl, rfl, hv, Rr⟩ := hrel
        have HR2 := Lib.hid Rr
        have hj := Rr.hk
        clear Rr
        have HV := Lib.hid hv
        clear hv
        by_cases hlt : j < k
        · have d1 : (j : Int) < (k : Int) := by omega
          have d2 : (0 : Int) ≤ (j : Int) := by omega
          obtain ⟨B, d, hcell, harg⟩ := (HA.out.later (Mem.then_ HB.out HR2.out.b)).row j hlt
          have hM := Vec.may_len (HMy.out j hlt)
          have HC1 := Lib.hid (Vec.covers_says harg (by omega) (HAx.out.later HR2.out.b) (by omega))
          have HC2 := Lib.hid (Vec.covers_says harg (by omega) (HAc.out.later (Mem.then_ HB.out HR2.out.b)) (by omega))
          rw [HMy.out j hlt, Hmx.out, Hcx.out j hlt] at HC1
          rw [HMy.out j hlt, Hb.out] at HC2
          simp only [Bool.and_self, Bool.true_and] at HC1 HC2
          obtain ⟨u, hu⟩ : ∃ u, (b && Vec.covers (Vec.rowAt ls j) lc) = u := ⟨_, rfl⟩
          rw [hu] at HC2
          have hst := Vec.all_step v b (Vec.allCov ls lc j) (Vec.covers (Vec.rowAt ls j) lc) j HV.out (fun e => by subst e; rfl)
          rw [hu, ← Vec.allCov_succ] at hst
          have Hst := Lib.hid hst
          obtain ⟨q, hq⟩ : ∃ q, (Vec.rowAt ls j).length = q := ⟨_, rfl⟩
          rw [hq] at hcell HC1 HC2
          clear harg hM hu hst hq
          cases v
          all_goals
            go_wp2_with (first
              | (go_at_call 15
                 with_reducible refine (HC1.out.go (Below.refl _ _)).mono ?_
                 rintro e w8 ⟨rfl, hbx⟩
                 have HB8 := Lib.hid hbx
                 have hcell8 := Mem.keep hbx hcell
                 clear hbx hcell)
              | (go_at_call 15
                 with_reducible refine (HC2.out.go HB8.out).mono ?_
                 rintro e w9 ⟨rfl, hbx⟩
                 have HB9 := Lib.hid (Mem.then_ HB8.out hbx)
                 clear hbx))
          · exact ⟨⟨j + 1, false, rfl, by push_cast; rfl, Hst.out, ⟨hlt, Mem.then_ HR2.out.b HB8.out⟩⟩, by simp only [intOf]; omega⟩
          · exact ⟨⟨j + 1, u, rfl, by push_cast; rfl, Hst.out, ⟨hlt, Mem.then_ HR2.out.b HB9.out⟩⟩, by simp only [intOf]; omega⟩
        · have hjk : j = k := by omega
          subst hjk
          have e1 : decide ((j : Int) < (j : Int)) = false := decide_eq_false (by omega)
          have HC1 := Lib.hid (Vec.covers_says (HAx.out.later HR2.out.b) (by omega) (HAc.out.later (Mem.then_ HB.out HR2.out.b)) (by omega))
          rw [Hmx.out, Hb.out, Hxc.out] at HC1
          have HRb := HRc
          rw [Hb.out] at HRb
          have hv := HV.out
          cases b
          · clear hv
            go_wp2_with (
              go_at_call 12
              with_reducible refine (HRb.out.go (Mem.then_ HB.out HR2.out.b)).mono ?_
              rintro e w8 ⟨rfl, hbx⟩
              have HB8 := Lib.hid hbx
              clear hbx)
            go_ret
            exact ⟨rfl, Mem.then_ (Mem.then_ HB.out HR2.out.b) HB8.out⟩
          · have hv2 : v = Vec.allCov ls lc j := by rw [hv, decide_eq_false (by omega)]; simp
            simp only [Bool.and_self, Bool.true_and] at HC1
            rw [← hv2] at HC1
            clear hv hv2
            go_wp2_with (first
              | (go_at_call 12
                 with_reducible refine (HRb.out.go (Mem.then_ HB.out HR2.out.b)).mono ?_
                 rintro e w8 ⟨rfl, hbx⟩
                 have HB8 := Lib.hid hbx
                 clear hbx)
              | (go_at_call 15
                 with_reducible refine (HC1.out.go HB8.out).mono ?_
                 rintro e w9 ⟨rfl, hbx⟩
                 have HB9 := Lib.hid (Mem.then_ HB8.out hbx)
                 clear hbx))
            go_ret
            exact ⟨rfl, Mem.then_ (Mem.then_ HB.out HR2.out.b) HB9.out⟩

theorem vectLeast_walk (a0 : Option Addr) (len0 cap0 : Nat) (a1 : Option Addr) (len1 cap1 : Nat) (w : World) (h0 : ∃ (H : Type) (enc : TypeId × Value → H) (d : DataW H) (p : List MemPlace), DataW.Trod enc Tryd.prog w 0 (fun _ => true) true 40 (.slice a0 len0 cap0) d p) (h1 : ∃ (H : Type) (enc : TypeId × Value → H) (d : DataW H) (p : List MemPlace), DataW.Trod enc Tryd.prog w 0 (fun _ => true) true 22 (.slice a1 len1 cap1) d p) :
    Calls Tryd.prog 6 #[.slice a0 len0 cap0, .slice a1 len1 cap1] w fun e w' => e = .returned (.bool true) ∧ Below w.heap.size w w' := by
  obtain ⟨_, _, _, _, t0⟩ := h0
  obtain ⟨_, _, _, _, t1⟩ := h1
  obtain ⟨ls, k1, k2, k3⟩ := Vec.arg_rows t0
  obtain ⟨lc, m1, m2, m3⟩ := Vec.arg_ints t1
  have ha : Vec.ArgR w a0 len0 cap0 ls := ⟨k1, k2, k3⟩
  have hc : Vec.Arg w a1 len1 cap1 lc := ⟨m1, m2, m3⟩
  cases hg : Vec.greatB ls with
  | true => exact least_great1 a0 a1 len0 cap0 len1 cap1 ls lc w ha hc hg
  | false =>
    by_cases g : 100 < len1
    · exact least_great2 a0 a1 len0 cap0 len1 cap1 ls lc w ha hc hg g
    · by_cases h0 : len0 = 0
      · exact least_zero a0 a1 len0 cap0 len1 cap1 ls lc w ha hc hg (by omega) h0
      · by_cases hno : ∃ j, j < len0 ∧ Vec.may (Vec.rowAt ls j) = false
        · exact least_not a0 a1 len0 cap0 len1 cap1 ls lc w ha hc hg (by omega) (by omega) hno
        · refine least_yes a0 a1 len0 cap0 len1 cap1 ls lc w ha hc hg (by omega) (by omega) fun l hl => ?_
          obtain ⟨j, hj, rfl⟩ := List.getElem_of_mem hl
          cases hmy : Vec.may ls[j] with
          | true => rfl
          | false =>
            refine absurd ⟨j, by omega, ?_⟩ hno
            unfold Vec.rowAt
            rw [List.getD_eq_getElem?_getD, List.getElem?_eq_getElem hj]
            exact hmy
end Go.Proofs.YtdnpiginkndpcaaDoor
