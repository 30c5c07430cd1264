/- The walk of vect.Order. -/
import Derived.Test.YtdnpiginkndpcaaDoorVecC
namespace Go.Proofs.YtdnpiginkndpcaaDoor
open Go.RowKit
open PVectAsks

namespace Vec
def order (a b : List Int) : Int := if may a && may b then (if covers a b then (if covers b a then 0 else 1) else (if covers b a then 2 else 3)) else -1
theorem drawn_below {w1 w2 : World} (h : Go.Proofs.YtdnpiginkndpcaaDoorW.PrintWords.Drawn0 w1 w2) : Below w1.heap.size w1 w2 := by obtain ⟨k, hk⟩ := h; rw [hk]; exact Mem.below_drewN (Below.refl _ _) _
end Vec

set_option maxRecDepth 100000 in
set_option maxHeartbeats 2000000 in
theorem vect_order (la lb : List Int) (La Lb : Nat) (hLa : la.length = La) (hLb : lb.length = Lb) (Aa Ab : Option Addr) (ca cb : Nat) (w : World)
    (hCa : Go.Proofs.YtdnpiginkndpcaaDoorW.PrintWords.Kd.C (Go.Proofs.YtdnpiginkndpcaaDoorW.PrintWords.Kd.int .i64) w Aa la.length la) (hca : la.length ≤ ca) (hCb : Go.Proofs.YtdnpiginkndpcaaDoorW.PrintWords.Kd.C (Go.Proofs.YtdnpiginkndpcaaDoorW.PrintWords.Kd.int .i64) w Ab lb.length lb) (hcb : lb.length ≤ cb) (hla : La ≤ 1000) (hlb : Lb ≤ 1000) :
    Calls Tryd.prog 17 #[.slice Aa La ca, .slice Ab Lb cb] w fun e w' => e = .returned (.int .i64 (Vec.order la lb)) ∧ Below w.heap.size w w' := by
  have hMa := fun w1 h1 => vect_May.calls _ Aa ca la _ w1 h1 hca (Vec.may_eval la (by omega) (la.length + 1) (by omega))
  have hMb := fun w1 h1 => vect_May.calls _ Ab cb lb _ w1 h1 hcb (Vec.may_eval lb (by omega) (lb.length + 1) (by omega))
  have hK1 := fun w1 h1 h2 => vect_covers la lb La Lb hLa hLb Aa Ab ca cb w1 h1 hca h2 hcb hla hlb
  have hK2 := fun w1 h1 h2 => vect_covers lb la Lb La hLb hLa Ab Aa cb ca w1 h1 hcb h2 hca hlb hla
  rw [hLa] at hMa hCa hK1 hK2
  rw [hLb] at hMb hCb hK1 hK2
  have HMa := Lib.hid hMa
  have HMb := Lib.hid hMb
  have HCa := Lib.hid hCa
  have HCb := Lib.hid hCb
  obtain ⟨O, hO⟩ : ∃ O, Vec.order la lb = O := ⟨_, rfl⟩
  rw [hO]
  unfold Vec.order at hO
  obtain ⟨x, hx⟩ : ∃ x, Vec.may la = x := ⟨_, rfl⟩
  obtain ⟨y, hy⟩ : ∃ x, Vec.may lb = x := ⟨_, rfl⟩
  obtain ⟨p, hp⟩ : ∃ x, Vec.covers la lb = x := ⟨_, rfl⟩
  obtain ⟨q, hq⟩ : ∃ x, Vec.covers lb la = x := ⟨_, rfl⟩
  rw [hx, hy, hp, hq] at hO
  rw [hx] at HMa hK1 hK2
  rw [hy] at HMb hK1 hK2
  rw [hp] at hK1
  rw [hq] at hK2
  have HK1 := Lib.hid hK1
  have HK2 := Lib.hid hK2
  clear hMa hMb hCa hCb hca hcb hx hy hp hq hK1 hK2 hLa hLb
  cases x <;> cases y <;> cases p <;> cases q
  all_goals
    simp at hO
    subst hO
    go_enter Tryd.func17, Tryd.ntmps17
    go_wp2_with (first
      | (go_at_call 16
         with_reducible refine (HMa.out _ HCa.out).mono ?_
         rintro e w1 ⟨rfl, hd1⟩
         have HB := Lib.hid (Vec.drawn_below hd1)
         clear hd1)
      | (go_at_call 16
         with_reducible refine (HMb.out _ (Go.Proofs.YtdnpiginkndpcaaDoorW.PrintWords.Kd.C_below HCb.out HB.out)).mono ?_
         rintro e w2 ⟨rfl, hd2⟩
         have HBn := Lib.hid (Mem.then_ HB.out (Vec.drawn_below hd2))
         clear hd2 HB
         have HB := HBn
         clear HBn)
      | (go_at_call 15
         with_reducible refine (HK1.out _ (Go.Proofs.YtdnpiginkndpcaaDoorW.PrintWords.Kd.C_below HCa.out HB.out) (Go.Proofs.YtdnpiginkndpcaaDoorW.PrintWords.Kd.C_below HCb.out HB.out)).mono ?_
         rintro e w3 ⟨rfl, hb3⟩
         have HBn := Lib.hid (Mem.then_ HB.out hb3)
         clear hb3 HB
         have HB := HBn
         clear HBn)
      | (go_at_call 15
         with_reducible refine (HK2.out _ (Go.Proofs.YtdnpiginkndpcaaDoorW.PrintWords.Kd.C_below HCb.out HB.out) (Go.Proofs.YtdnpiginkndpcaaDoorW.PrintWords.Kd.C_below HCa.out HB.out)).mono ?_
         rintro e w4 ⟨rfl, hb4⟩
         have HBn := Lib.hid (Mem.then_ HB.out hb4)
         clear hb4 HB
         have HB := HBn
         clear HBn))
    go_ret
    exact ⟨rfl, HB.out⟩
end Go.Proofs.YtdnpiginkndpcaaDoor
