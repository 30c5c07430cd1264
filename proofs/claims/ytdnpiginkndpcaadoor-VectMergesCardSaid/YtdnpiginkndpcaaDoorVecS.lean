/- The walk of VectMerges. (Printed by gen_vect2.py.) -/
import Derived.Test.YtdnpiginkndpcaaDoorVecR
namespace Go.Proofs.YtdnpiginkndpcaaDoor
open Go.RowKit
open PVectAsks

set_option maxRecDepth 100000 in
set_option maxHeartbeats 4000000 in
theorem merges_great (Aa Ab Ac : Option Addr) (La ca Lb cb Lc cc : Nat) (la lb lc : List Int) (w : World) (ha : Vec.Arg w Aa La ca la) (hb : Vec.Arg w Ab Lb cb lb) (hc : Vec.Arg w Ac Lc cc lc) (h : 100 < La ∨ 100 < Lb ∨ 100 < Lc) :
    Calls Tryd.prog 3 #[.slice Aa La ca, .slice Ab Lb cb, .slice Ac Lc cc] w fun e w' => e = .returned (.bool true) ∧ Below w.heap.size w w' := by
  have HG := Lib.hid (Vec.great_says (w := w) [⟨Aa, ca, la⟩, ⟨Ab, cb, lb⟩, ⟨Ac, cc, lc⟩] (by simp) 3 rfl #[.slice Aa La ca, .slice Ab Lb cb, .slice Ac Lc cc] (by rw [List.map_cons, List.map_cons, List.map_cons, ha.val, hb.val, hc.val]; rfl) true (by have e0 := ha.hl; subst e0; have e1 := hb.hl; subst e1; have e2 := hc.hl; subst e2; simp [Vec.greatB]; omega) (by
    intro t ht
    simp only [List.mem_cons, List.not_mem_nil, or_false] at ht
    rcases ht with rfl | rfl | rfl
    · exact ha.at
    · exact hb.at
    · exact hc.at))
  have HL := Lib.hid (Vec.alive_says w)
  clear ha hb hc h
  have HB := Lib.hid (Below.refl w.heap.size w)
  go_enter Tryd.func3, Tryd.ntmps3
  go_wp2_with (first
      | (go_at_call 9
         with_reducible refine (HL.out.go HB.out).mono ?_
         rintro e w1x ⟨rfl, hbx⟩
         have HBn := Lib.hid (Mem.then_ HB.out hbx)
         clear hbx HB
         have HB := HBn
         clear HBn)
      | (go_at_call 10
         with_reducible refine (HG.out.go HB.out).mono ?_
         rintro e w2x ⟨rfl, hbx⟩
         have HBn := Lib.hid (Mem.then_ HB.out hbx)
         clear hbx HB
         have HB := HBn
         clear HBn))
  go_ret
  exact ⟨rfl, HB.out⟩

set_option maxRecDepth 100000 in
set_option maxHeartbeats 4000000 in
theorem merges_not (Aa Ab Ac : Option Addr) (La ca Lb cb Lc cc : Nat) (la lb lc : List Int) (w : World) (ha : Vec.Arg w Aa La ca la) (hb : Vec.Arg w Ab Lb cb lb) (hc : Vec.Arg w Ac Lc cc lc) (hla : La ≤ 100) (hlb : Lb ≤ 100) (hlc : Lc ≤ 100) (h : Vec.may la = false ∨ Vec.may lb = false) :
    Calls Tryd.prog 3 #[.slice Aa La ca, .slice Ab Lb cb, .slice Ac Lc cc] w fun e w' => e = .returned (.bool true) ∧ Below w.heap.size w w' := by
  have HG := Lib.hid (Vec.great_says (w := w) [⟨Aa, ca, la⟩, ⟨Ab, cb, lb⟩, ⟨Ac, cc, lc⟩] (by simp) 3 rfl #[.slice Aa La ca, .slice Ab Lb cb, .slice Ac Lc cc] (by rw [List.map_cons, List.map_cons, List.map_cons, ha.val, hb.val, hc.val]; rfl) false (by have e0 := ha.hl; subst e0; have e1 := hb.hl; subst e1; have e2 := hc.hl; subst e2; simp [Vec.greatB]; omega) (by
    intro t ht
    simp only [List.mem_cons, List.not_mem_nil, or_false] at ht
    rcases ht with rfl | rfl | rfl
    · exact ha.at
    · exact hb.at
    · exact hc.at))
  have HL := Lib.hid (Vec.alive_says w)
  have HM := Lib.hid (vect_merge_no Aa Ab La ca Lb cb la lb w ha hb (by omega) (by omega) h)
  have HRa := Lib.hid (Vec.ref_may_says ha (by omega))
  have HRb := Lib.hid (Vec.ref_may_says hb (by omega))
  obtain ⟨x, hx⟩ : ∃ x, Vec.may la = x := ⟨_, rfl⟩
  obtain ⟨y, hy⟩ : ∃ x, Vec.may lb = x := ⟨_, rfl⟩
  rw [hx] at HRa h
  rw [hy] at HRb h
  have HB := Lib.hid (Below.refl w.heap.size w)
  clear hx hy ha hb hc
  cases x
  all_goals cases y
  case true.true => simp at h
  all_goals
    clear h
    go_enter Tryd.func3, Tryd.ntmps3
    go_wp2_with (first
        | (go_at_call 9
           with_reducible refine (HL.out.go HB.out).mono ?_
           rintro e w3x ⟨rfl, hbx⟩
           have HBn := Lib.hid (Mem.then_ HB.out hbx)
           clear hbx HB
           have HB := HBn
           clear HBn)
        | (go_at_call 10
           with_reducible refine (HG.out.go HB.out).mono ?_
           rintro e w4x ⟨rfl, hbx⟩
           have HBn := Lib.hid (Mem.then_ HB.out hbx)
           clear hbx HB
           have HB := HBn
           clear HBn)
        | (go_at_call 11
           with_reducible refine (HM.out.go HB.out).mono ?_
           rintro e w5x ⟨rfl, hbx⟩
           have HBn := Lib.hid (Mem.then_ HB.out hbx)
           clear hbx HB
           have HB := HBn
           clear HBn)
        | (go_at_call 12
           with_reducible refine (HRa.out.go HB.out).mono ?_
           rintro e w6x ⟨rfl, hbx⟩
           have HBn := Lib.hid (Mem.then_ HB.out hbx)
           clear hbx HB
           have HB := HBn
           clear HBn)
        | (go_at_call 12
           with_reducible refine (HRb.out.go HB.out).mono ?_
           rintro e w7x ⟨rfl, hbx⟩
           have HBn := Lib.hid (Mem.then_ HB.out hbx)
           clear hbx HB
           have HB := HBn
           clear HBn))
    go_ret
    exact ⟨rfl, HB.out⟩

set_option maxRecDepth 100000 in
set_option maxHeartbeats 4000000 in
theorem merges_yes (Aa Ab Ac : Option Addr) (La ca Lb cb Lc cc : Nat) (la lb lc : List Int) (w : World) (ha : Vec.Arg w Aa La ca la) (hb : Vec.Arg w Ab Lb cb lb) (hc : Vec.Arg w Ac Lc cc lc) (hla : La ≤ 100) (hlb : Lb ≤ 100) (hlc : Lc ≤ 100) (h1 : Vec.may la = true) (h2 : Vec.may lb = true) :
    Calls Tryd.prog 3 #[.slice Aa La ca, .slice Ab Lb cb, .slice Ac Lc cc] w fun e w' => e = .returned (.bool true) ∧ Below w.heap.size w w' := by
  have HG := Lib.hid (Vec.great_says (w := w) [⟨Aa, ca, la⟩, ⟨Ab, cb, lb⟩, ⟨Ac, cc, lc⟩] (by simp) 3 rfl #[.slice Aa La ca, .slice Ab Lb cb, .slice Ac Lc cc] (by rw [List.map_cons, List.map_cons, List.map_cons, ha.val, hb.val, hc.val]; rfl) false (by have e0 := ha.hl; subst e0; have e1 := hb.hl; subst e1; have e2 := hc.hl; subst e2; simp [Vec.greatB]; omega) (by
    intro t ht
    simp only [List.mem_cons, List.not_mem_nil, or_false] at ht
    rcases ht with rfl | rfl | rfl
    · exact ha.at
    · exact hb.at
    · exact hc.at))
  have HL := Lib.hid (Vec.alive_says w)
  have HM := Lib.hid (vect_merge_yes Aa Ab La ca Lb cb la lb w ha hb (by omega) (by omega) h1 h2)
  have HR := Lib.hid (ref_merge_says ha hb (by omega) (by omega) h1 h2)
  have HRa := Lib.hid (Vec.ref_may_says ha (by omega))
  have HRb := Lib.hid (Vec.ref_may_says hb (by omega))
  have HRc := Lib.hid (Vec.ref_may_says hc (by omega))
  have HCa := Lib.hid (Vec.covers_says hc (by omega) ha (by omega))
  have HCb := Lib.hid (Vec.covers_says hc (by omega) hb (by omega))
  have hmx := Vec.max_may h1 h2
  have hcx := Vec.max_covers la lb
  have hcc := Vec.covers_max lc la lb
  have hX := Vec.may_len hmx
  obtain ⟨lx, hlx⟩ : ∃ lx, Vec.upL max la lb = lx := ⟨_, rfl⟩
  rw [hlx] at HM HR hmx hcx hcc hX
  obtain ⟨X, hXX⟩ : ∃ X, lx.length = X := ⟨_, rfl⟩
  rw [hXX] at HM HR hX
  have HXa := Lib.hid (fun (w1 : World) (A : Option Addr) (c : Nat) (h : Vec.Arg w1 A X c lx) (g : Vec.Arg w1 Aa La ca la) => Vec.covers_says h (by omega) g (by omega))
  have HXb := Lib.hid (fun (w1 : World) (A : Option Addr) (c : Nat) (h : Vec.Arg w1 A X c lx) (g : Vec.Arg w1 Ab Lb cb lb) => Vec.covers_says h (by omega) g (by omega))
  have HXc := Lib.hid (fun (w1 : World) (A : Option Addr) (c : Nat) (h : Vec.Arg w1 A X c lx) (g : Vec.Arg w1 Ac Lc cc lc) => Vec.covers_says g (by omega) h (by omega))
  have HSx := Lib.hid (fun (w1 : World) (A : Option Addr) (c : Nat) (h : Vec.Arg w1 A X c lx) (B : Option Addr) (d : Nat) (g : Vec.Arg w1 B X d lx) => Vec.same_true h (by omega) g)
  rw [hcc] at HXc
  rw [hmx] at HXa HXb HXc
  rw [h1] at HRa HXa HCa
  rw [h2] at HRb HXb HCb
  rw [hcx.1] at HXa
  rw [hcx.2] at HXb
  obtain ⟨z, hz⟩ : ∃ z, Vec.may lc = z := ⟨_, rfl⟩
  obtain ⟨p, hp⟩ : ∃ p, Vec.covers lc la = p := ⟨_, rfl⟩
  obtain ⟨q, hq⟩ : ∃ q, Vec.covers lc lb = q := ⟨_, rfl⟩
  rw [hz] at HRc HCa HCb HXc
  rw [hp] at HCa HXc
  rw [hq] at HCb HXc
  have HAa := Lib.hid ha
  have HAb := Lib.hid hb
  have HAc := Lib.hid hc
  have HB := Lib.hid (Below.refl w.heap.size w)
  clear ha hb hc h1 h2 hmx hcx hcc hX hXX hlx hz hp hq hla hlb hlc
  cases z <;> cases p <;> cases q
  all_goals
    simp at HXa HXb HXc HCa HCb
    go_enter Tryd.func3, Tryd.ntmps3
    go_wp2_with (first
        | (go_at_call 9
           with_reducible refine (HL.out.go HB.out).mono ?_
           rintro e w8x ⟨rfl, hbx⟩
           have HBn := Lib.hid (Mem.then_ HB.out hbx)
           have HAan := Lib.hid (Vec.Arg.later HAa.out hbx)
           have HAbn := Lib.hid (Vec.Arg.later HAb.out hbx)
           have HAcn := Lib.hid (Vec.Arg.later HAc.out hbx)
           clear hbx HB HAa HAb HAc
           have HB := HBn
           clear HBn
           have HAa := HAan
           clear HAan
           have HAb := HAbn
           clear HAbn
           have HAc := HAcn
           clear HAcn)
        | (go_at_call 10
           with_reducible refine (HG.out.go HB.out).mono ?_
           rintro e w9x ⟨rfl, hbx⟩
           have HBn := Lib.hid (Mem.then_ HB.out hbx)
           have HAan := Lib.hid (Vec.Arg.later HAa.out hbx)
           have HAbn := Lib.hid (Vec.Arg.later HAb.out hbx)
           have HAcn := Lib.hid (Vec.Arg.later HAc.out hbx)
           clear hbx HB HAa HAb HAc
           have HB := HBn
           clear HBn
           have HAa := HAan
           clear HAan
           have HAb := HAbn
           clear HAbn
           have HAc := HAcn
           clear HAcn)
        | (go_at_call 11
           with_reducible refine (HM.out.go HB.out).mono ?_
           rintro e w3 ⟨x, xc, rfl, hax, hbx⟩
           have HBn := Lib.hid (Mem.then_ HB.out hbx)
           have HAx := Lib.hid hax
           have HAan := Lib.hid (Vec.Arg.later HAa.out hbx)
           have HAbn := Lib.hid (Vec.Arg.later HAb.out hbx)
           have HAcn := Lib.hid (Vec.Arg.later HAc.out hbx)
           clear hax hbx HB HAa HAb HAc
           have HB := HBn
           clear HBn
           have HAa := HAan
           clear HAan
           have HAb := HAbn
           clear HAbn
           have HAc := HAcn
           clear HAcn)
        | (go_at_call 12
           with_reducible refine (HRa.out.go HB.out).mono ?_
           rintro e w10x ⟨rfl, hbx⟩
           have HBn := Lib.hid (Mem.then_ HB.out hbx)
           have HAxn := Lib.hid (Vec.Arg.later HAx.out hbx)
           have HAan := Lib.hid (Vec.Arg.later HAa.out hbx)
           have HAbn := Lib.hid (Vec.Arg.later HAb.out hbx)
           have HAcn := Lib.hid (Vec.Arg.later HAc.out hbx)
           clear hbx HB HAx HAa HAb HAc
           have HB := HBn
           clear HBn
           have HAx := HAxn
           clear HAxn
           have HAa := HAan
           clear HAan
           have HAb := HAbn
           clear HAbn
           have HAc := HAcn
           clear HAcn)
        | (go_at_call 12
           with_reducible refine (HRb.out.go HB.out).mono ?_
           rintro e w11x ⟨rfl, hbx⟩
           have HBn := Lib.hid (Mem.then_ HB.out hbx)
           have HAxn := Lib.hid (Vec.Arg.later HAx.out hbx)
           have HAan := Lib.hid (Vec.Arg.later HAa.out hbx)
           have HAbn := Lib.hid (Vec.Arg.later HAb.out hbx)
           have HAcn := Lib.hid (Vec.Arg.later HAc.out hbx)
           clear hbx HB HAx HAa HAb HAc
           have HB := HBn
           clear HBn
           have HAx := HAxn
           clear HAxn
           have HAa := HAan
           clear HAan
           have HAb := HAbn
           clear HAbn
           have HAc := HAcn
           clear HAcn)
        | (go_at_call 14
           with_reducible refine (HR.out.go HB.out).mono ?_
           rintro e w4 ⟨y, yc, rfl, hax, hbx⟩
           have HBn := Lib.hid (Mem.then_ HB.out hbx)
           have HAy := Lib.hid hax
           have HAxn := Lib.hid (Vec.Arg.later HAx.out hbx)
           have HAan := Lib.hid (Vec.Arg.later HAa.out hbx)
           have HAbn := Lib.hid (Vec.Arg.later HAb.out hbx)
           have HAcn := Lib.hid (Vec.Arg.later HAc.out hbx)
           clear hax hbx HB HAx HAa HAb HAc
           have HB := HBn
           clear HBn
           have HAx := HAxn
           clear HAxn
           have HAa := HAan
           clear HAan
           have HAb := HAbn
           clear HAbn
           have HAc := HAcn
           clear HAcn)
        | (go_at_call 13
           with_reducible refine ((HSx.out _ _ _ HAx.out _ _ HAy.out).go (Below.refl _ _)).mono ?_
           rintro e w5 ⟨rfl, hbx⟩
           have HBn := Lib.hid (Mem.then_ HB.out hbx)
           have HAxn := Lib.hid (Vec.Arg.later HAx.out hbx)
           have HAan := Lib.hid (Vec.Arg.later HAa.out hbx)
           have HAbn := Lib.hid (Vec.Arg.later HAb.out hbx)
           have HAcn := Lib.hid (Vec.Arg.later HAc.out hbx)
           clear hbx HB HAx HAa HAb HAc
           have HB := HBn
           clear HBn
           have HAx := HAxn
           clear HAxn
           have HAa := HAan
           clear HAan
           have HAb := HAbn
           clear HAbn
           have HAc := HAcn
           clear HAcn)
        | (go_at_call 15
           with_reducible refine ((HXa.out _ _ _ HAx.out HAa.out).go (Below.refl _ _)).mono ?_
           rintro e w6 ⟨rfl, hbx⟩
           have HBn := Lib.hid (Mem.then_ HB.out hbx)
           have HAxn := Lib.hid (Vec.Arg.later HAx.out hbx)
           have HAan := Lib.hid (Vec.Arg.later HAa.out hbx)
           have HAbn := Lib.hid (Vec.Arg.later HAb.out hbx)
           have HAcn := Lib.hid (Vec.Arg.later HAc.out hbx)
           clear hbx HB HAx HAa HAb HAc
           have HB := HBn
           clear HBn
           have HAx := HAxn
           clear HAxn
           have HAa := HAan
           clear HAan
           have HAb := HAbn
           clear HAbn
           have HAc := HAcn
           clear HAcn)
        | (go_at_call 15
           with_reducible refine ((HXb.out _ _ _ HAx.out HAb.out).go (Below.refl _ _)).mono ?_
           rintro e w7 ⟨rfl, hbx⟩
           have HBn := Lib.hid (Mem.then_ HB.out hbx)
           have HAxn := Lib.hid (Vec.Arg.later HAx.out hbx)
           have HAan := Lib.hid (Vec.Arg.later HAa.out hbx)
           have HAbn := Lib.hid (Vec.Arg.later HAb.out hbx)
           have HAcn := Lib.hid (Vec.Arg.later HAc.out hbx)
           clear hbx HB HAx HAa HAb HAc
           have HB := HBn
           clear HBn
           have HAx := HAxn
           clear HAxn
           have HAa := HAan
           clear HAan
           have HAb := HAbn
           clear HAbn
           have HAc := HAcn
           clear HAcn)
        | (go_at_call 12
           with_reducible refine (HRc.out.go HB.out).mono ?_
           rintro e w12x ⟨rfl, hbx⟩
           have HBn := Lib.hid (Mem.then_ HB.out hbx)
           have HAxn := Lib.hid (Vec.Arg.later HAx.out hbx)
           have HAan := Lib.hid (Vec.Arg.later HAa.out hbx)
           have HAbn := Lib.hid (Vec.Arg.later HAb.out hbx)
           have HAcn := Lib.hid (Vec.Arg.later HAc.out hbx)
           clear hbx HB HAx HAa HAb HAc
           have HB := HBn
           clear HBn
           have HAx := HAxn
           clear HAxn
           have HAa := HAan
           clear HAan
           have HAb := HAbn
           clear HAbn
           have HAc := HAcn
           clear HAcn)
        | (go_at_call 15
           with_reducible refine (HCa.out.go HB.out).mono ?_
           rintro e w13x ⟨rfl, hbx⟩
           have HBn := Lib.hid (Mem.then_ HB.out hbx)
           have HAxn := Lib.hid (Vec.Arg.later HAx.out hbx)
           have HAan := Lib.hid (Vec.Arg.later HAa.out hbx)
           have HAbn := Lib.hid (Vec.Arg.later HAb.out hbx)
           have HAcn := Lib.hid (Vec.Arg.later HAc.out hbx)
           clear hbx HB HAx HAa HAb HAc
           have HB := HBn
           clear HBn
           have HAx := HAxn
           clear HAxn
           have HAa := HAan
           clear HAan
           have HAb := HAbn
           clear HAbn
           have HAc := HAcn
           clear HAcn)
        | (go_at_call 15
           with_reducible refine (HCb.out.go HB.out).mono ?_
           rintro e w14x ⟨rfl, hbx⟩
           have HBn := Lib.hid (Mem.then_ HB.out hbx)
           have HAxn := Lib.hid (Vec.Arg.later HAx.out hbx)
           have HAan := Lib.hid (Vec.Arg.later HAa.out hbx)
           have HAbn := Lib.hid (Vec.Arg.later HAb.out hbx)
           have HAcn := Lib.hid (Vec.Arg.later HAc.out hbx)
           clear hbx HB HAx HAa HAb HAc
           have HB := HBn
           clear HBn
           have HAx := HAxn
           clear HAxn
           have HAa := HAan
           clear HAan
           have HAb := HAbn
           clear HAbn
           have HAc := HAcn
           clear HAcn)
        | (go_at_call 15
           with_reducible refine ((HXc.out _ _ _ HAx.out HAc.out).go (Below.refl _ _)).mono ?_
           rintro e w8 ⟨rfl, hbx⟩
           have HBn := Lib.hid (Mem.then_ HB.out hbx)
           have HAxn := Lib.hid (Vec.Arg.later HAx.out hbx)
           have HAan := Lib.hid (Vec.Arg.later HAa.out hbx)
           have HAbn := Lib.hid (Vec.Arg.later HAb.out hbx)
           have HAcn := Lib.hid (Vec.Arg.later HAc.out hbx)
           clear hbx HB HAx HAa HAb HAc
           have HB := HBn
           clear HBn
           have HAx := HAxn
           clear HAxn
           have HAa := HAan
           clear HAan
           have HAb := HAbn
           clear HAbn
           have HAc := HAcn
           clear HAcn))
    go_ret
    exact ⟨rfl, HB.out⟩

theorem vectMerges_walk (a0 : Option Addr) (len0 cap0 : Nat) (a1 : Option Addr) (len1 cap1 : Nat) (a2 : Option Addr) (len2 cap2 : Nat) (w : World) (h0 : ∃ (H : Type) (enc : TypeId × Value → H) (d : DataW H) (p : List MemPlace), DataW.Trod enc Tryd.prog w 0 (fun _ => true) true 22 (.slice a0 len0 cap0) d p) (h1 : ∃ (H : Type) (enc : TypeId × Value → H) (d : DataW H) (p : List MemPlace), DataW.Trod enc Tryd.prog w 0 (fun _ => true) true 22 (.slice a1 len1 cap1) d p) (h2 : ∃ (H : Type) (enc : TypeId × Value → H) (d : DataW H) (p : List MemPlace), DataW.Trod enc Tryd.prog w 0 (fun _ => true) true 22 (.slice a2 len2 cap2) d p) :
    Calls Tryd.prog 3 #[.slice a0 len0 cap0, .slice a1 len1 cap1, .slice a2 len2 cap2] w fun e w' => e = .returned (.bool true) ∧ Below w.heap.size w w' := by
  obtain ⟨_, _, _, _, t0⟩ := h0
  obtain ⟨_, _, _, _, t1⟩ := h1
  obtain ⟨_, _, _, _, t2⟩ := h2
  obtain ⟨la, k1, k2, k3⟩ := Vec.arg_ints t0
  obtain ⟨lb, m1, m2, m3⟩ := Vec.arg_ints t1
  obtain ⟨lc, n1, n2, n3⟩ := Vec.arg_ints t2
  have ha : Vec.Arg w a0 len0 cap0 la := ⟨k1, k2, k3⟩
  have hb : Vec.Arg w a1 len1 cap1 lb := ⟨m1, m2, m3⟩
  have hc : Vec.Arg w a2 len2 cap2 lc := ⟨n1, n2, n3⟩
  by_cases g : 100 < len0 ∨ 100 < len1 ∨ 100 < len2
  · exact merges_great a0 a1 a2 len0 cap0 len1 cap1 len2 cap2 la lb lc w ha hb hc g
  · by_cases h : Vec.may la = false ∨ Vec.may lb = false
    · exact merges_not a0 a1 a2 len0 cap0 len1 cap1 len2 cap2 la lb lc w ha hb hc (by omega) (by omega) (by omega) h
    · simp only [not_or, Bool.not_eq_false] at h
      exact merges_yes a0 a1 a2 len0 cap0 len1 cap1 len2 cap2 la lb lc w ha hb hc (by omega) (by omega) (by omega) h.1 h.2
end Go.Proofs.YtdnpiginkndpcaaDoor
