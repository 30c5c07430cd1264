/- The walks of Least and of the reference's Least. (Printed by gen_vect2.py.) -/
import Derived.Test.YtdnpiginkndpcaaDoorVecT
namespace Go.Proofs.YtdnpiginkndpcaaDoor
open Go.RowKit
open PVectAsks

namespace Vec
open Go.Proofs.YtdnpiginkndpcaaDoorW.PrintWords
/-- the slice at A reads as a list of lists -/
structure ArgR (w : World) (A : Option Addr) (n c : Nat) (ls : List (List Int)) : Prop where
  hl : ls.length = n
  hc : n ≤ c
  hC : Kd.C (Kd.slice 3 (Kd.int .i64)) w A ls.length ls
theorem ArgR.later {w w1 : World} {A : Option Addr} {n c : Nat} {l : List (List Int)} (h : ArgR w A n c l) (hb : Below w.heap.size w w1) : ArgR w1 A n c l := ⟨h.hl, h.hc, Kd.C_below h.hC hb⟩
theorem ArgR.addr {w : World} {A : Option Addr} {n c : Nat} {l : List (List Int)} (h : ArgR w A n c l) (hn : 0 < n) : ∃ ad, A = some ad := by
  obtain ⟨h1, h2, h3, h4, h5⟩ := h
  obtain ⟨ad, e, _⟩ := h5 (by omega)
  exact ⟨ad, e⟩
theorem ArgR.row {w : World} {ad : Addr} {n c : Nat} {l : List (List Int)} (h : ArgR w (some ad) n c l) (i : Nat) (hi : i < n) : ∃ B d, w.cell? (ad.add i) = some (.slice B (rowAt l i).length d) ∧ Arg w B (rowAt l i).length d (rowAt l i) := by
  have hl := h.hl
  obtain ⟨ad', B, d, e, h1, h2, h3⟩ := at_L2 h.hC (i : Int) (by omega) (by omega)
  cases e
  have e2 : rd_L2 l (i : Int) = rowAt l i := by unfold rd_L2 rowAt; rw [show ((i : Int)).toNat = i by omega]
  rw [e2, show ((i : Int)).toNat = i by omega] at h1
  rw [e2] at h2 h3
  exact ⟨B, d, h1, rfl, h2, h3⟩
structure LN (ls : List (List Int)) (n k : Nat) (w wr : World) : Prop where
  hk : k ≤ n
  b : Below w.heap.size w wr
structure LB (ls : List (List Int)) (n k : Nat) (w wr : World) : Prop where
  hk : k ≤ n
  b : Below w.heap.size w wr
  ok : ∀ j, j < k → may (rowAt ls j) = true
structure LO (ls : List (List Int)) (n k : Nat) (A : Option Addr) (c : Nat) (O : List Int) (w wr : World) : Prop where
  hk : k ≤ n
  b : Below w.heap.size w wr
  arg : Arg wr A O.length c O
  len : O.length ≤ 16
  low : ∀ i, O.getD i 0 = lowF ls k i
structure LR (ls : List (List Int)) (n k j : Nat) (lr : List Int) (b : Nat) (w wr : World) : Prop where
  hj : j ≤ n
  but : Mem.But (· = b) w wr
  row : wr.heap[b]? = some (.cells (ints (lr.set k (lowF ls j k))).toArray 53 (0, 0))
theorem min_low {ls : List (List Int)} {O : List Int} {k : Nat} (h : ∀ i, O.getD i 0 = lowF ls k i) (i : Nat) : (upL min O (rowAt ls k)).getD i 0 = lowF ls (k + 1) i := by
  rw [upL_getD min rfl, h]; rfl
end Vec

set_option maxRecDepth 100000 in
set_option maxHeartbeats 4000000 in
theorem vect_least_none (A : Option Addr) (c : Nat) (w : World) : Calls Tryd.prog 25 #[.slice A 0 c] w fun e w' => e = .returned (.tuple #[.slice none 0 0, .int .i64 1]) ∧ w = w' := by
  go_enter Tryd.func25, Tryd.ntmps25
  go_wp2
  go_ret2
  exact ⟨rfl, rfl⟩

set_option maxRecDepth 100000 in
set_option maxHeartbeats 4000000 in
theorem vect_least_no (ad : Addr) (n c : Nat) (ls : List (List Int)) (w : World) (h : Vec.ArgR w (some ad) n c ls) (hn : 0 < n) (hn2 : n ≤ 1000) (hlen : ∀ j, j < n → (Vec.rowAt ls j).length ≤ 1000) (hno : ∃ j, j < n ∧ Vec.may (Vec.rowAt ls j) = false) :
    Calls Tryd.prog 25 #[.slice (some ad) n c] w fun e w' => e = .returned (.tuple #[.slice none 0 0, .int .i64 1]) ∧ Below w.heap.size w w' := by
  have HA := Lib.hid h
  have HLn := Lib.hid hlen
  have HN := Lib.hid hno
  have d0 : ((n : Int) == 0) = false := beq_eq_false_iff_ne.2 (by omega)
  have d0' : (n == 0) = false := beq_eq_false_iff_ne.2 (by omega)
  clear h hlen hno
  go_enter Tryd.func25, Tryd.ntmps25
  go_wp2
  go_loopw [14] (fun t14 wr => ∃ k : Nat, t14 = .int .i64 k ∧ Vec.LB ls n k w wr) (fun t14 _ => n - (intOf t14).toNat)
  case atStart => exact ⟨0, rfl, ⟨Nat.zero_le _, Below.refl _ _, fun j hj => by omega⟩⟩
  case round =>
    obtain ⟨k, rfl, Rr⟩ := hrel
    have HR := Lib.hid Rr
    have hk := Rr.hk
    clear Rr
    by_cases hlt : k < n
    · have d1 : (k : Int) < (n : Int) := by omega
      have d2 : (0 : Int) ≤ (k : Int) := by omega
      obtain ⟨B, d, hcell, harg⟩ := (HA.out.later HR.out.b).row k hlt
      obtain ⟨m, hm⟩ : ∃ m, (Vec.rowAt ls k).length = m := ⟨_, rfl⟩
      have hM := HLn.out k hlt
      rw [hm] at hcell harg hM
      have HM := Lib.hid (Vec.may_says harg hM)
      cases hmy : Vec.may (Vec.rowAt ls k) with
      | true =>
        have Hmy := Lib.hid hmy
        rw [hmy] at HM
        clear harg hm hM hmy
        go_wp2_with (
          go_at_call 16
          with_reducible refine (HM.out.go (Below.refl _ _)).mono ?_
          rintro e w3 ⟨rfl, hb3⟩
          have HB3 := Lib.hid hb3
          clear hb3)
        refine ⟨⟨k + 1, by push_cast; rfl, ⟨hlt, Mem.then_ HR.out.b HB3.out, fun j hj => ?_⟩⟩, by simp only [intOf]; omega⟩
        by_cases e : j = k
        · rw [e]; exact Hmy.out
        · exact HR.out.ok j (by omega)
      | false =>
        rw [hmy] at HM
        clear harg hm hM hmy
        go_wp2_with (
          go_at_call 16
          with_reducible refine (HM.out.go (Below.refl _ _)).mono ?_
          rintro e w3 ⟨rfl, hb3⟩
          have HB3 := Lib.hid hb3
          clear hb3)
        go_ret2
        exact ⟨rfl, Mem.then_ HR.out.b HB3.out⟩
    · obtain ⟨j, h1, h2⟩ := HN.out
      have := HR.out.ok j (by omega)
      rw [this] at h2
      cases h2

set_option maxRecDepth 100000 in
set_option maxHeartbeats 4000000 in
theorem vect_least_yes (ad : Addr) (n c : Nat) (ls : List (List Int)) (w : World) (h : Vec.ArgR w (some ad) n c ls) (hn : 0 < n) (hn2 : n ≤ 1000) (hm : ∀ l ∈ ls, Vec.may l = true) :
    Calls Tryd.prog 25 #[.slice (some ad) n c] w fun e w' => ∃ O m A c, e = .returned (.tuple #[.slice A m c, .int .i64 0]) ∧ Vec.Tr O m ∧ (∀ i, O.getD i 0 = Vec.lowF ls n i) ∧ Vec.Arg w' A m c (O.take m) ∧ Below w.heap.size w w' := by
  have HA := Lib.hid h
  have hlen : ls.length = n := h.hl
  have hmay : ∀ j, j < n → Vec.may (Vec.rowAt ls j) = true := fun j hj => Vec.rowAt_may hm j (by omega)
  have HMy := Lib.hid hmay
  have d0 : ((n : Int) == 0) = false := beq_eq_false_iff_ne.2 (by omega)
  have d0' : (n == 0) = false := beq_eq_false_iff_ne.2 (by omega)
  have d00 : (0 : Int) < (n : Int) := by omega
  clear h hm hmay hlen
  go_enter Tryd.func25, Tryd.ntmps25
  go_wp2
  go_loopw [14] (fun t14 wr => ∃ k : Nat, t14 = .int .i64 k ∧ Vec.LN ls n k w wr) (fun t14 _ => n - (intOf t14).toNat)
  case atStart => exact ⟨0, rfl, ⟨Nat.zero_le _, Below.refl _ _⟩⟩
  case round =>
    obtain ⟨k, rfl, Rr⟩ := hrel
    have HR := Lib.hid Rr
    have hk := Rr.hk
    clear Rr
    by_cases hlt : k < n
    · have d1 : (k : Int) < (n : Int) := by omega
      have d2 : (0 : Int) ≤ (k : Int) := by omega
      obtain ⟨B, d, hcell, harg⟩ := (HA.out.later HR.out.b).row k hlt
      have hM := Vec.may_len (HMy.out k hlt)
      have HM := Lib.hid (Vec.may_says harg (by omega))
      rw [HMy.out k hlt] at HM
      obtain ⟨m, hm⟩ : ∃ m, (Vec.rowAt ls k).length = m := ⟨_, rfl⟩
      rw [hm] at hcell HM
      clear harg hm hM
      go_wp2_with (
        go_at_call 16
        with_reducible refine (HM.out.go (Below.refl _ _)).mono ?_
        rintro e w3 ⟨rfl, hb3⟩
        have HB3 := Lib.hid hb3
        clear hb3)
      refine ⟨⟨k + 1, by push_cast; rfl, ⟨hlt, Mem.then_ HR.out.b HB3.out⟩⟩, by simp only [intOf]; omega⟩
    · have hkn : k = n := by omega
      subst hkn
      obtain ⟨wo, rfl⟩ : ∃ wo : World, wo = wr := ⟨_, rfl⟩
      have e0 : decide ((k : Int) < (k : Int)) = false := decide_eq_false (by omega)
      obtain ⟨B0, q0, hcell, harg⟩ := (HA.out.later HR.out.b).row 0 hn
      rw [show ad.add 0 = ad by unfold Addr.add; split <;> simp_all] at hcell
      have HL0 := Lib.hid (Vec.may_len (HMy.out 0 hn))
      have Hh : Vec.LO ls k 0 B0 q0 (Vec.rowAt ls 0) wo wo := ⟨Nat.zero_le _, Below.refl _ _, harg, HL0.out, fun _ => rfl⟩
      have HH := Lib.hid Hh
      obtain ⟨r0, hr0⟩ : ∃ r0, Vec.rowAt ls 0 = r0 := ⟨_, rfl⟩
      rw [hr0] at hcell HH
      obtain ⟨m0, hm0⟩ : ∃ m0, r0.length = m0 := ⟨_, rfl⟩
      rw [hm0] at hcell
      have Hm0 := Lib.hid hm0
      clear harg Hh hm0 hr0
      go_wp2
      go_loopw [6, 27] (fun t6 t27 wr => ∃ (j m : Nat) (O : List Int) (A : Option Addr) (c : Nat), t6 = .slice A m c ∧ t27 = .int .i64 j ∧ O.length = m ∧ Vec.LO ls k j A c O wo wr) (fun _ t27 _ => k - (intOf t27).toNat)
      case atStart => exact ⟨0, m0, r0, B0, q0, rfl, rfl, Hm0.out, HH.out⟩
      case round =>
        obtain ⟨j, m, O, A, cO, rfl, rfl, hOm, Rr⟩ := hrel
        have HR2 := Lib.hid Rr
        have hj := Rr.hk
        clear Rr
        by_cases hlt : j < k
        · have d1 : (j : Int) < (k : Int) := by omega
          have d2 : (0 : Int) ≤ (j : Int) := by omega
          obtain ⟨B, d, hcell, harg⟩ := (HA.out.later (Mem.then_ HR.out.b HR2.out.b)).row j hlt
          have hO := HR2.out.arg
          have hOl := HR2.out.len
          have hV := Vec.may_len (HMy.out j hlt)
          have HP := Lib.hid (Vec.pairs_min_says hO harg (by omega) (by omega))
          have hlow := Vec.min_low HR2.out.low
          have hul : (Vec.upL min O (Vec.rowAt ls j)).length ≤ 16 := by rw [Vec.upL_length]; omega
          rw [hOm] at HP
          obtain ⟨q, hq⟩ : ∃ q, (Vec.rowAt ls j).length = q := ⟨_, rfl⟩
          rw [hq] at hcell HP
          obtain ⟨U, hU⟩ : ∃ U, Vec.upL min O (Vec.rowAt ls j) = U := ⟨_, rfl⟩
          rw [hU] at HP hlow hul
          obtain ⟨u, hu⟩ : ∃ u, U.length = u := ⟨_, rfl⟩
          rw [hu] at HP
          have Hlow := Lib.hid hlow
          have Hul := Lib.hid hul
          have Hu := Lib.hid hu
          clear harg hO hOl hV hq hU hlow hul hu hOm
          go_wp2_with (
            go_at_call 34
            with_reducible refine (HP.out.go (Below.refl _ _)).mono ?_
            rintro e w5 ⟨A5, c5, rfl, ha5, hb5⟩
            have HA5 := Lib.hid ha5
            have HB5 := Lib.hid hb5
            clear ha5 hb5)
          refine ⟨⟨j + 1, u, U, A5, c5, rfl, by push_cast; rfl, Hu.out, ⟨hlt, Mem.then_ HR2.out.b HB5.out, ?_, Hul.out, Hlow.out⟩⟩, by simp only [intOf]; omega⟩
          rw [Hu.out]
          exact HA5.out
        · have hjk : j = k := by omega
          subst hjk
          have e1 : decide ((j : Int) < (j : Int)) = false := decide_eq_false (by omega)
          have hO := HR2.out.arg
          rw [hOm] at hO
          have hm16 : m ≤ 1000 := by have := HR2.out.len; omega
          have HT := Lib.hid (Vec.trim_says hO hm16)
          clear hO hm16 hOm
          go_wp2_with (
            go_at_call 42
            with_reducible refine HT.out.mono ?_
            rintro e w6 ⟨m6, rfl, ht6, ha6, hb6⟩
            have HT6 := Lib.hid ht6
            have HA6 := Lib.hid ha6
            have HB6 := Lib.hid hb6
            clear ht6 ha6 hb6)
          go_ret2
          exact ⟨O, m6, A, cO, rfl, HT6.out, HR2.out.low, HA6.out, Mem.then_ (Mem.then_ HR.out.b HR2.out.b) HB6.out⟩

set_option maxRecDepth 100000 in
set_option maxHeartbeats 4000000 in
theorem ref_least (ad : Addr) (n c : Nat) (ls : List (List Int)) (w : World) (h : Vec.ArgR w (some ad) n c ls) (hn : 0 < n) (hn2 : n ≤ 1000) (hlen : ∀ j, j < n → (Vec.rowAt ls j).length ≤ 1000) :
    Calls Tryd.prog 26 #[.slice (some ad) n c] w fun e w' => ∃ m v, e = .returned v ∧ Vec.Tr ((List.range 16).map (Vec.lowF ls n)) m ∧ Vec.Own w' w.heap.size v (((List.range 16).map (Vec.lowF ls n)).take m) ∧ Below w.heap.size w w' := by
  have HA := Lib.hid h
  have HLn := Lib.hid hlen
  obtain ⟨f, hf⟩ : ∃ f : Nat → Int, Vec.lowF ls n = f := ⟨_, rfl⟩
  rw [hf]
  have Hf := Lib.hid hf
  have d00 : (0 : Int) < (n : Int) := by omega
  clear h hlen hf
  go_enter Tryd.func26, Tryd.ntmps26
  go_wp2_with (
    with_reducible refine Mem.wpList_alloc (o := ⟨some 3, _, _, _, _, _⟩) ?_ 53 ?_ _ Vec.zero_arr ?_
    · rfl
    · rfl
    intro w6 hn6
    have Hn6 := Lib.hid hn6
    clear hn6)
  go_loopw [4] (fun t4 wr => ∃ k : Nat, t4 = .int .i64 ((k : Int) + 1) ∧ Vec.FR f w6 w.heap.size k wr) (fun t4 _ => 17 - (intOf t4).toNat)
  case atStart =>
    refine ⟨0, by simp, ⟨Nat.zero_le _, Mem.But.refl _ _, ?_⟩⟩
    rw [Vec.fillL_zero]
    exact Hn6.out.row
  case round =>
    obtain ⟨k, rfl, Rr⟩ := hrel
    have HR := Lib.hid Rr
    have hk := Rr.hk
    clear Rr
    have hb0 : Below w.heap.size w wr := Hn6.out.below.trans (HR.out.but.below (B := w.heap.size) Hn6.out.below.size (fun _ e => by rw [e]; exact Nat.le_refl _))
    have HBr := Lib.hid hb0
    clear hb0
    by_cases hk16 : k < 16
    · have i1 : (k : Int) + 1 ≤ 16 := by omega
      have i2 : (0 : Int) ≤ (k : Int) := by omega
      have i3 : (k : Int) < 16 := by omega
      obtain ⟨B0, q0, hcell, harg⟩ := (HA.out.later HBr.out).row 0 hn
      rw [show ad.add 0 = ad by unfold Addr.add; split <;> simp_all] at hcell
      have HC0 := Lib.hid (Vec.ref_count_says harg (HLn.out 0 hn) ((k : Int) + 1))
      rw [Vec.cnt_at'] at HC0
      obtain ⟨x, hx⟩ : ∃ x, (Vec.rowAt ls 0).getD k 0 = x := ⟨_, rfl⟩
      rw [hx] at HC0
      have hx1 : Vec.lowF ls 1 k = x := by unfold Vec.lowF; rw [show Vec.lowF ls 0 k = (Vec.rowAt ls 0).getD k 0 from rfl, hx]; omega
      have Hx1 := Lib.hid hx1
      obtain ⟨m0, hm0⟩ : ∃ m0, (Vec.rowAt ls 0).length = m0 := ⟨_, rfl⟩
      rw [hm0] at hcell HC0
      have hlen := Vec.fillL_length f k hk
      have Hlen := Lib.hid hlen
      obtain ⟨lr, hlr⟩ : ∃ lr, Vec.fillL f k = lr := ⟨_, rfl⟩
      rw [hlr] at Hlen
      have Hlr := Lib.hid hlr
      have hrow := HR.out.row
      rw [hlr] at hrow
      have HRow := Lib.hid hrow
      clear harg hx hx1 hm0 hlen hlr hrow
      go_wp2_with (first
        | (go_at_call 21
           with_reducible refine (HC0.out.go (Below.refl _ _)).mono ?_
           rintro e w8 ⟨rfl, hb8⟩
           have Hrow8 := Lib.hid ((hb8.block _ ((Array.getElem?_eq_some_iff.1 HRow.out).1)).trans HRow.out)
           have Hb8 := Lib.hid hb8
           clear hb8)
        | (with_reducible refine Mem.wpList_store_cell (o := ⟨none, .store 3 (.tmp 17) (.tmp 16), _, _, _, _⟩) ?_ 3 (.tmp 17) (.tmp 16) ?_ w.heap.size k ?_ (.int .i64 x) ?_ ?_ ?_ 53 (Vec.ints lr).toArray Hrow8.out ?_ (Vec.ints (lr.set k x)).toArray ?_ ?_
           · rfl
           · rfl
           · rfl
           · rfl
           · rfl
           · kernel_rfl
           · rw [List.size_toArray, Vec.ints, List.length_map, Hlen.out]; omega
           · exact Vec.store_ints (by rw [Hlen.out]; exact hk16) x
           intro w9 hp9
           have Hp9 := Lib.hid hp9
           clear hp9))
      have Hbut9 := Lib.hid ((HR.out.but.trans (Mem.But.of_below Hb8.out)).trans (Mem.But.of_put Hp9.out rfl))
      obtain ⟨wo, rfl⟩ : ∃ wo : World, wo = wr := ⟨_, rfl⟩
      go_loopw [5] (fun t5 wr => ∃ j : Nat, t5 = .int .i64 j ∧ 1 ≤ j ∧ Vec.LR ls n k j lr w.heap.size w6 wr) (fun t5 _ => n - (intOf t5).toNat)
      case atStart =>
        refine ⟨1, by simp, Nat.le_refl _, ⟨hn, Hbut9.out, ?_⟩⟩
        rw [Hx1.out]
        exact Hp9.out.row
      case round =>
        obtain ⟨j, rfl, hj1, Rr⟩ := hrel
        have HR2 := Lib.hid Rr
        have hj := Rr.hj
        clear Rr
        have hb2 : Below w.heap.size w wr := Hn6.out.below.trans (HR2.out.but.below (B := w.heap.size) Hn6.out.below.size (fun _ e => by rw [e]; exact Nat.le_refl _))
        have HB := Lib.hid hb2
        clear hb2
        by_cases hlt : j < n
        · have d1 : (j : Int) < (n : Int) := by omega
          have d2 : (0 : Int) ≤ (j : Int) := by omega
          obtain ⟨B, d, hcell1, harg1⟩ := (HA.out.later HB.out).row j hlt
          have HC := Lib.hid (Vec.ref_count_says harg1 (HLn.out j hlt) ((k : Int) + 1))
          rw [Vec.cnt_at'] at HC
          obtain ⟨y, hy⟩ : ∃ y, (Vec.rowAt ls j).getD k 0 = y := ⟨_, rfl⟩
          rw [hy] at HC
          have hstep : Vec.lowF ls (j + 1) k = min (Vec.lowF ls j k) y := by unfold Vec.lowF; rw [hy]; cases j <;> rfl
          have hrow := HR2.out.row
          obtain ⟨z, hz⟩ : ∃ z, Vec.lowF ls j k = z := ⟨_, rfl⟩
          rw [hz] at hstep hrow
          have Hstep := Lib.hid hstep
          have HRow2 := Lib.hid hrow
          obtain ⟨q, hq⟩ : ∃ q, (Vec.rowAt ls j).length = q := ⟨_, rfl⟩
          rw [hq] at hcell1 HC
          have hcellz : wr.cell? ⟨w.heap.size, k, none⟩ = some (.int .i64 z) := by
            have := Vec.cell_ints hrow (i := k) (by rw [List.length_set, Hlen.out]; exact hk16)
            rw [this, List.getD_eq_getElem?_getD, List.getElem?_set_self (by rw [Hlen.out]; exact hk16)]
            rfl
          clear harg1 hy hstep hz hrow hq
          have hways : y < z ∨ ¬ y < z := by omega
          have j0 : ∀ i : Mem.Later wr, i.w.cell? ⟨w.heap.size, k, none⟩ = some (.int .i64 z) := fun i => i.cell hcellz
          have j1 : ∀ i : Mem.Later wr, i.w.cell? (ad.add j) = some (.slice B q d) := fun i => i.cell hcell1
          rcases hways with hyz | hyz
          all_goals
            go_upto_region 9 with (fail)
            refine Mem.wp_region_later (by kernel_rfl) (by kernel_rfl) ?_
            repeat (go_big_quiet_step ((go_at_call 21; refine Mem.later_call (HC.out.go (Mem.Later.h _)))))
            refine wpQuiet_nil ?_
            rintro wq ⟨⟨_, hq⟩, rfl⟩
            clear j0 j1
            have Hbut := Lib.hid (HR2.out.but.trans (Mem.But.of_below hq))
            have Hrowq := Lib.hid ((hq.block _ ((Array.getElem?_eq_some_iff.1 HRow2.out).1)).trans HRow2.out)
            have Hq := Lib.hid hq
            have hcq := Mem.keep hq hcell1
            clear hq hcell1 hcellz
          · go_wp2_with (first
              | (go_at_call 21
                 with_reducible refine (HC.out.go Hq.out).mono ?_
                 rintro e w11 ⟨rfl, hb11⟩
                 have Hrow11 := Lib.hid ((hb11.block _ ((Array.getElem?_eq_some_iff.1 Hrowq.out).1)).trans Hrowq.out)
                 have Hb11 := Lib.hid hb11
                 clear hb11)
              | (with_reducible refine Mem.wpList_store_cell (o := ⟨none, .store 3 (.tmp 43) (.tmp 42), _, _, _, _⟩) ?_ 3 (.tmp 43) (.tmp 42) ?_ w.heap.size k ?_ (.int .i64 y) ?_ ?_ ?_ 53 (Vec.ints (lr.set k z)).toArray Hrow11.out ?_ (Vec.ints ((lr.set k z).set k y)).toArray ?_ ?_
                 · rfl
                 · rfl
                 · rfl
                 · rfl
                 · rfl
                 · kernel_rfl
                 · rw [List.size_toArray, Vec.ints, List.length_map, List.length_set, Hlen.out]; omega
                 · exact Vec.store_ints (by rw [List.length_set, Hlen.out]; exact hk16) y
                 intro w12 hp12
                 have Hp12 := Lib.hid hp12
                 clear hp12))
            refine ⟨⟨j + 1, by push_cast; rfl, by omega, ⟨hlt, (Hbut.out.trans (Mem.But.of_below Hb11.out)).trans (Mem.But.of_put Hp12.out rfl), ?_⟩⟩, by simp only [intOf]; omega⟩
            have := Hp12.out.row
            rw [List.set_set] at this
            rw [Hstep.out, show min z y = y by omega]
            exact this
          · go_wp2
            refine ⟨⟨j + 1, by push_cast; rfl, by omega, ⟨hlt, Hbut.out, ?_⟩⟩, by simp only [intOf]; omega⟩
            rw [Hstep.out, show min z y = z by omega]
            exact Hrowq.out
        · have hjn : j = n := by omega
          subst hjn
          have e1 : decide ((j : Int) < (j : Int)) = false := decide_eq_false (by omega)
          go_wp2
          refine ⟨⟨k + 1, by push_cast; rfl, ⟨hk16, HR2.out.but, ?_⟩⟩, by simp only [intOf]; omega⟩
          have := HR2.out.row
          rw [show Vec.lowF ls j k = f k by rw [← Hf.out], ← Hlr.out, Vec.fillL_set f k hk16] at this
          exact this
    · have hk' : k = 16 := by omega
      subst hk'
      obtain ⟨lm, hlm⟩ : ∃ lm, (List.range 16).map f = lm := ⟨_, rfl⟩
      have hrow := HR.out.row
      rw [Vec.fillL_full, hlm] at hrow
      have HM := Lib.hid (fun w1 => ref_made lm (by rw [← hlm]; simp) w1)
      have Hsz := Lib.hid (show lm.length = 16 by rw [← hlm]; simp)
      have HRow := Lib.hid hrow
      have Hlm := Lib.hid hlm
      clear hlm hrow hk16
      go_wp2_with (first
        | (with_reducible refine wpList_load_row (o := ⟨some 44, _, _, _, _, _⟩) ?_ 53 (.tmp 3) ?_ _ ?_ _ _ _ _ HRow.out Tryd.underlying53 ?_ ?_ ?_
           · rfl
           · rfl
           · rfl
           · rfl
           · rw [Vec.size_arr, List.size_toArray, Vec.ints, List.length_map, Hsz.out])
        | (go_at_call 36
           with_reducible refine (HM.out _).mono ?_
           rintro e w10 ⟨m, v, rfl, htr, ho, hb10⟩
           have Htr := Lib.hid htr
           have Ho := Lib.hid ho
           have Hb10 := Lib.hid hb10
           clear htr ho hb10))
      go_ret
      rw [Hlm.out]
      exact ⟨m, v, rfl, Htr.out, Go.Proofs.YtdnpiginkndpcaaDoorW.PrintWords.own_weaken Ho.out HBr.out.size, Mem.then_ HBr.out Hb10.out⟩
end Go.Proofs.YtdnpiginkndpcaaDoor
