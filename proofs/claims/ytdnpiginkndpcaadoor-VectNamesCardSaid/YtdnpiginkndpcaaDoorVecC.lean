/- The walk of vect.Covers. -/
import Derived.Test.YtdnpiginkndpcaaDoorVecB
namespace Go.Proofs.YtdnpiginkndpcaaDoor
open Go.RowKit
open PVectAsks

set_option maxRecDepth 100000 in
set_option maxHeartbeats 2000000 in
theorem vect_covers (la lb : List Int) (La Lb : Nat) (hLa : la.length = La) (hLb : lb.length = Lb) (Aa Ab : Option Addr) (ca cb : Nat) (w : World)
    (hCa : Go.Proofs.YtdnpiginkndpcaaDoorW.PrintWords.Kd.C (Go.Proofs.YtdnpiginkndpcaaDoorW.PrintWords.Kd.int .i64) w Aa la.length la) (hca : la.length ≤ ca) (hCb : Go.Proofs.YtdnpiginkndpcaaDoorW.PrintWords.Kd.C (Go.Proofs.YtdnpiginkndpcaaDoorW.PrintWords.Kd.int .i64) w Ab lb.length lb) (hcb : lb.length ≤ cb) (hla : La ≤ 1000) (hlb : Lb ≤ 1000) :
    Calls Tryd.prog 15 #[.slice Aa La ca, .slice Ab Lb cb] w fun e w' => e = .returned (.bool (Vec.may la && Vec.may lb && Vec.covers la lb)) ∧ Below w.heap.size w w' := by
  have hMa := fun w1 h1 => vect_May.calls _ Aa ca la _ w1 h1 hca (Vec.may_eval la (by omega) (la.length + 1) (by omega))
  have hMb := fun w1 h1 => vect_May.calls _ Ab cb lb _ w1 h1 hcb (Vec.may_eval lb (by omega) (lb.length + 1) (by omega))
  rw [hLa] at hMa hCa
  rw [hLb] at hMb hCb
  have HMa := Lib.hid hMa
  have HMb := Lib.hid hMb
  have HCa := Lib.hid hCa
  have HCb := Lib.hid hCb
  clear hMa hMb hCa hCb
  cases hma : Vec.may la with
  | false =>
    rw [hma] at HMa
    go_enter Tryd.func15, Tryd.ntmps15
    go_wp2_with (
      go_at_call 16
      with_reducible refine (HMa.out _ HCa.out).mono ?_
      rintro e w1 ⟨rfl, hd1⟩)
    go_ret
    exact ⟨by simp, by obtain ⟨k, hk⟩ := hd1; rw [hk]; exact Mem.below_drewN (Below.refl _ _) _⟩
  | true =>
    rw [hma] at HMa
    cases hmb : Vec.may lb with
    | false =>
      rw [hmb] at HMb
      go_enter Tryd.func15, Tryd.ntmps15
      go_wp2_with (first
        | (go_at_call 16
           with_reducible refine (HMa.out _ HCa.out).mono ?_
           rintro e w1 ⟨rfl, hd1⟩
           have hb1 : Below w.heap.size w w1 := by obtain ⟨k, hk⟩ := hd1; rw [hk]; exact Mem.below_drewN (Below.refl _ _) _
           have HB1 := Lib.hid hb1
           clear hd1 hb1)
        | (go_at_call 16
           with_reducible refine (HMb.out _ (Go.Proofs.YtdnpiginkndpcaaDoorW.PrintWords.Kd.C_below HCb.out HB1.out)).mono ?_
           rintro e w2 ⟨rfl, hd2⟩
           have hb2 : Below w1.heap.size w1 w2 := by obtain ⟨k, hk⟩ := hd2; rw [hk]; exact Mem.below_drewN (Below.refl _ _) _
           have HB2 := Lib.hid hb2
           clear hd2 hb2))
      go_ret
      exact ⟨by simp, Mem.then_ HB1.out HB2.out⟩
    | true =>
      rw [hmb] at HMb
      have ha16 : la.length ≤ 16 := by
        unfold Vec.may at hma
        simp only [Bool.and_eq_true, decide_eq_true_eq] at hma
        exact hma.1.1
      have hb16 : lb.length ≤ 16 := by
        unfold Vec.may at hmb
        simp only [Bool.and_eq_true, decide_eq_true_eq] at hmb
        exact hmb.1.1
      obtain ⟨N, hN, hN1, hN2, hN3⟩ : ∃ N, ((La < Lb ∧ N = Lb) ∨ (¬ La < Lb ∧ N = La)) ∧ la.length ≤ N ∧ lb.length ≤ N ∧ N ≤ 16 := by
        by_cases h : La < Lb
        · exact ⟨Lb, .inl ⟨h, rfl⟩, by omega, by omega, by omega⟩
        · exact ⟨La, .inr ⟨h, rfl⟩, by omega, by omega, by omega⟩
      have HP := Lib.hid (fun g w1 k1 k2 k3 => pairs_bool la lb La Lb N hLa hLb hN Aa Ab ca cb g w1 k1 hca k2 hcb hla hlb k3)
      have HU := Lib.hid (Vec.upTo_covers la lb N hN1 hN2 hN3)
      have HLa := Lib.hid hLa
      have HLb := Lib.hid hLb
      clear hca hcb hma hmb ha16 hb16 hN hN1 hN2 hN3 hLa hLb
      go_enter Tryd.func15, Tryd.ntmps15
      go_upto_region 4 with (first
        | (go_at_call 16
           with_reducible refine (HMa.out _ HCa.out).mono ?_
           rintro e w1 ⟨rfl, hd1⟩
           have hb1 : Below w.heap.size w w1 := by obtain ⟨k, hk⟩ := hd1; rw [hk]; exact Mem.below_drewN (Below.refl _ _) _
           have HB1 := Lib.hid hb1
           clear hd1 hb1)
        | (go_at_call 16
           with_reducible refine (HMb.out _ (Go.Proofs.YtdnpiginkndpcaaDoorW.PrintWords.Kd.C_below HCb.out HB1.out)).mono ?_
           rintro e w2 ⟨rfl, hd2⟩
           have hb2 : Below w1.heap.size w1 w2 := by obtain ⟨k, hk⟩ := hd2; rw [hk]; exact Mem.below_drewN (Below.refl _ _) _
           have HB2 := Lib.hid (Mem.then_ HB1.out hb2)
           clear hd2 hb2))
      have hn3 := Mem.new_alloc w2 #[.bool true] 4
      generalize w2.alloc (.cells #[.bool true] 4) = w3 at hn3 ⊢
      have Hn3 := Lib.hid hn3
      have HB3 := Lib.hid (HB2.out.trans (hn3.below.mono HB2.out.size))
      have k1 : Go.Proofs.YtdnpiginkndpcaaDoorW.PrintWords.Kd.C (Go.Proofs.YtdnpiginkndpcaaDoorW.PrintWords.Kd.int .i64) w3 Aa la.length la := by rw [HLa.out]; exact Go.Proofs.YtdnpiginkndpcaaDoorW.PrintWords.Kd.C_below HCa.out HB3.out
      have k2 : Go.Proofs.YtdnpiginkndpcaaDoorW.PrintWords.Kd.C (Go.Proofs.YtdnpiginkndpcaaDoorW.PrintWords.Kd.int .i64) w3 Ab lb.length lb := by rw [HLb.out]; exact Go.Proofs.YtdnpiginkndpcaaDoorW.PrintWords.Kd.C_below HCb.out HB3.out
      have HP3 := Lib.hid (HP.out w2.heap.size w3 k1 k2 hn3.row)
      clear hn3 k1 k2
      go_wp2_with (
        go_at_call 37
        with_reducible refine HP3.out.mono ?_
        rintro e w4 ⟨⟨v, rfl⟩, hr4, hb4⟩
        have c4 : w4.cell? ⟨w2.heap.size, 0, none⟩ = _ := (cell_of_row _ _ 0 _ _ _ hr4).trans rfl
        have Hb4 := Lib.hid hb4
        clear hr4 hb4)
      go_ret
      rw [HU.out]
      refine ⟨by simp, HB3.out.trans (Hb4.out.below HB3.out.size (fun k hk => ?_))⟩
      subst hk
      exact HB2.out.size
end Go.Proofs.YtdnpiginkndpcaaDoor
