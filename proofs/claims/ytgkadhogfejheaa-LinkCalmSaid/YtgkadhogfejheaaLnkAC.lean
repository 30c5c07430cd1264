/- LinkCalm: the walk. -/
import Derived.Test.YtgkadhogfejheaaLnkAB
import Derived.Test.YtgkadhogfejheaaLnkX
namespace Go.Proofs.Ytgkadhogfejheaa
open Go.RowKit

set_option maxHeartbeats 400000 in
theorem idle_true (g : Nat) (A : Option Addr) (c : Nat) (w : World) (h : w.cell? ⟨g, 2, none⟩ = some (.slice A 0 c)) (h8 : w.cell? ⟨g, 10, none⟩ = some (.bool false)) : Calls Try.prog 15 #[.pointer (some ⟨g, 0, none⟩)] w fun e w' => e = .returned (.bool true) ∧ w' = w := by
  go_enter Try.func15, Try.ntmps15
  go_wp2
  go_ret
  exact ⟨rfl, rfl⟩

set_option maxRecDepth 100000 in
set_option maxHeartbeats 1000000 in
theorem linkCalm_walk (a0 : Int) (a1 : Option Addr) (len1 cap1 : Nat) (w : World) (wa0 : (Lit.int .u8 a0).wf = true) (h1 : ∃ (H : Type) (enc : TypeId × Value → H) (d : DataW H) (p : List MemPlace), DataW.Trod enc Try.prog w 0 (fun _ => true) true 22 (.slice a1 len1 cap1) d p) :
    Calls Try.prog 4 #[.int .u8 a0, .slice a1 len1 cap1] w fun e w' => e = .returned (.bool true) ∧ Below w.heap.size w w' := by
  obtain ⟨_, _, _, _, h1⟩ := h1
  obtain ⟨l, rfl, hcap, hmax, hat, hfit⟩ := Lnk.arg_steps h1
  obtain ⟨m, rfl, hm⟩ := Lnk.of_u8 wa0
  obtain ⟨wt, hd, law⟩ := Lnk.laws
  have LAW := Lib.hid law
  have HAT := Lib.hid hat
  have HFIT := Lib.hid hfit
  obtain ⟨K, hK⟩ : ∃ K, m % 16 = K := ⟨_, rfl⟩
  have hK16 : K < 16 := by omega
  have hrem : Int.tmod (m : Int) 16 = (K : Int) := by rw [← hK]; rfl
  have hwr : IntKind.i64.wrap (m : Int) = m := by rw [IntKind.wrap_i64]; omega
  have hw1 : wrap64 (1 + (K : Int)) = ((1 + K : Nat) : Int) := by unfold wrap64; omega
  have hw2 : wrap64 (m : Int) = m := by unfold wrap64; omega
  clear law hat hfit h1 wa0 hm hK hmax
  go_enter Try.func4, Try.ntmps4
  go_upto_region 1 with (fail)
  go_upto_region 3 with (go_at_call 7; refine (link_alive _).mono ?_; rintro r w1 ⟨rfl, hb1⟩; have HB1 := Lib.hid hb1; clear hb1)
  have hst := law_steps l a1 cap1 w1 (HAT.out.keep HB1.out)
  by_cases hgood : l.length ≤ 120 ∧ ∀ s ∈ l, s.S.length ≤ 100
  · have hst2 : Calls Try.prog 8 #[.slice a1 l.length cap1] w1 fun e w' => e = .returned (.bool false) ∧ w' = w1 := hst.mono fun e w' h => by
      rcases h.2 with h2 | h2
      · exact absurd hgood h2.2
      · exact ⟨h2.1, h.1⟩
    have HGOOD := Lib.hid hgood
    clear hst hgood
    go_upto_region 5 with (go_at_call 8; refine hst2.mono ?_; rintro r w2 ⟨rfl, hw2⟩; subst hw2)
    clear hst2
    have hnew := new_pair ((1 + K : Nat) : Int) (1 + K) rfl (by omega)
    go_upto_region 6 with (go_at_call 9; refine (hnew _).mono ?_; rintro r w3 ⟨q, rfl, hpa, hb3⟩; have PA := Lib.hid hpa; have HB3 := Lib.hid hb3; clear hpa hb3)
    clear hnew
    obtain ⟨n, hn⟩ : ∃ n, l.length = n := ⟨_, rfl⟩
    rw [hn]
    have HN := Lib.hid hn
    have hn120 : n ≤ 120 := by rw [← hn]; exact HGOOD.out.1
    clear hn
    go_wp2
    go_loopw [6] (fun v wr => ∃ (i : Nat) (P : Lnk.Ps), i ≤ n ∧ v = .int .i64 i ∧ (Lnk.Inv P (18 * i) ∧ Lnk.Runs P) ∧ Lnk.PAt wr w2.heap.size q P.1 P.2 ∧ Below w2.heap.size w2 wr) (fun v _ => n - (intOf v).toNat)
    case atStart => exact ⟨0, _, by omega, rfl, ⟨Lnk.inv_start (by omega), Lnk.runs_start _⟩, PA.out, HB3.out⟩
    case round =>
      obtain ⟨i, P, hi, rfl, ⟨hinv, hruns⟩, hpa, hb⟩ := hrel
      by_cases hlt : i < n
      · obtain ⟨s, hs⟩ : ∃ s, l[i]? = some s := ⟨_, List.getElem?_eq_getElem (by rw [HN.out]; exact hlt)⟩
        obtain ⟨b, o, rfl, hstep⟩ := HAT.out (by rw [HN.out]; omega)
        have hfit := HFIT.out s (List.mem_of_getElem? hs)
        have hS := HGOOD.out.2 s (List.mem_of_getElem? hs)
        have hbb := Mem.then_ HB1.out hb
        have c0 : wr.cell? ⟨b, o + i * 4, none⟩ = some (.int .u8 s.d) := Mem.keep hbb (hstep i s hs 0 _ rfl)
        have c1 := Mem.keep hbb (hstep i s hs 1 _ rfl)
        have c2 := Mem.keep hbb (hstep i s hs 2 _ rfl)
        have c3 := Mem.keep hbb (hstep i s hs 3 _ rfl)
        have hdo := pair_do LAW.out w2.heap.size q P (18 * i) hinv (by omega) s.d s.h s.k s.S hfit.2.1 hfit.2.2.1 (by omega) wr hpa
        have hinv2 := hinv.step (wt := wt) (hd := hd) (by omega) s.d s.h s.k s.S (by omega)
        have hruns2 := hruns.step (wt := wt) (hd := hd) hinv (by omega) s.d s.h s.k s.S
        obtain ⟨P2, hP2⟩ : ∃ P2, Lnk.doP wt hd s.d s.h s.k s.S P = P2 := ⟨_, rfl⟩
        rw [hP2] at hdo hinv2 hruns2
        rw [show Lnk.stepV s.d s.h s.k s.S = .agg #[.int .u8 s.d, .int .u8 s.h, .int .u16 s.k, .string (Mem.str s.S)] from rfl] at hdo
        have hlt2 : (i : Int) < (n : Int) := by omega
        have hwi : wrap64 ((i : Int) + 1) = ((i + 1 : Nat) : Int) := by unfold wrap64; omega
        have HS := Lib.hid hs
        have HB := Lib.hid hb
        have HINV := Lib.hid hinv2
        have HRUNS := Lib.hid hruns2
        have HFS := Lib.hid hfit
        clear hs hb hstep hfit hS hbb hinv hruns hinv2 hruns2 hpa hP2
        go_wp2_with (go_at_call 10; go_loud (refine hdo.mono ?_; rintro r w5 ⟨rfl, hp5, hb5⟩; have P5 := Lib.hid hp5; have HB5 := Lib.hid hb5; clear hp5 hb5))
        clear hdo c0 c1 c2 c3
        go_roundw
        case measure =>
          simp only [hwi]
          simp [intOf]
          exact Nat.sub_lt_sub_left hlt (Nat.lt_succ_self i)
        case rel => exact ⟨i + 1, P2, hlt, by rw [hwi], ⟨HINV.out.mono (by omega), HRUNS.out⟩, P5.out, HB.out.trans HB5.out⟩
      · have hkn : i = n := by omega
        subst hkn
        obtain ⟨T, hT⟩ : ∃ T, T = 120 := ⟨_, rfl⟩
        have hcalm := pair_calm LAW.out w2.heap.size q P (hinv.mono (by omega)) hruns T hT wr hpa
        have hall := fun (i : Nat) (hi : i < 2) => Lnk.calm_all (wt := wt) (hd := hd) (hinv.mono (by omega)) hruns (fun m d s => (LAW.out.wait m d s).1) hT hi
        have hsize := (Lnk.ci_all (wt := wt) (hd := hd) (hinv.mono (by omega)) hruns (fun m d s => (LAW.out.wait m d s).1) T (by omega)).inv.size
        obtain ⟨P2, hP2⟩ : ∃ P2, Lnk.calmN wt hd T P = P2 := ⟨_, rfl⟩
        rw [hP2] at hcalm hall hsize
        have HB := Lib.hid hb
        have HALL := Lib.hid hall
        have HSIZE := Lib.hid hsize
        clear hb hall hsize hinv hruns hpa hP2
        go_upto_region 10 with (fail)
        go_upto_region 11 with (go_at_call 13; go_loud (refine hcalm.mono ?_; rintro r w5 ⟨rfl, hp5, hb5⟩; have P5 := Lib.hid hp5; have HB5 := Lib.hid hb5; clear hp5 hb5))
        clear hcalm
        obtain ⟨g, F, v, L⟩ := P5.out
        have a0 := HALL.out 0 (by omega)
        have a1 := HALL.out 1 (by omega)
        have z4 : (P2.2 4).length ≤ 1000000 := Nat.le_trans (HSIZE.out 4 (by omega)) (Nat.le_trans (Lnk.ci_bound (by omega)) (by omega))
        have z5 : (P2.2 5).length ≤ 1000000 := Nat.le_trans (HSIZE.out 5 (by omega)) (Nat.le_trans (Lnk.ci_bound (by omega)) (by omega))
        have t0 := L.rows 4 (by omega)
        have t1 := L.rows 5 (by omega)
        have g0 := L.rows 2 (by omega)
        have g1 := L.rows 3 (by omega)
        obtain ⟨at0, ct0, et0, -, -⟩ := t0.form
        obtain ⟨at1, ct1, et1, -, -⟩ := t1.form
        obtain ⟨ag0, cg0, eg0, -, -⟩ := g0.form
        obtain ⟨ag1, cg1, eg1, -, -⟩ := g1.form
        obtain ⟨out0, b0, L0⟩ := L.ends 0 (by omega)
        obtain ⟨out1, b1, L1⟩ := L.ends 1 (by omega)
        obtain ⟨A0, cap0, eo0, -, -⟩ := L0.own.form
        obtain ⟨A1, cap1, eo1, -, -⟩ := L1.own.form
        rw [a0.1] at eo0
        rw [a1.1] at eo1
        have k0 : ∀ i : Mem.Later w5, i.w.cell? ⟨q, 0, none⟩ = some (.pointer (some ⟨g 0, 0, none⟩)) := fun i => i.cell ((cell_of_row _ _ 0 _ _ _ L.row).trans rfl)
        have k1 : ∀ i : Mem.Later w5, i.w.cell? ⟨q, 1, none⟩ = some (.pointer (some ⟨g 1, 0, none⟩)) := fun i => i.cell ((cell_of_row _ _ 1 _ _ _ L.row).trans rfl)
        have k4 : ∀ i : Mem.Later w5, i.w.cell? ⟨q, 4, none⟩ = some (.slice ag0 (P2.2 2).length cg0) := fun i => i.cell ((cell_of_row _ _ 4 _ _ _ L.row).trans (by rw [← eg0]; rfl))
        have k5 : ∀ i : Mem.Later w5, i.w.cell? ⟨q, 5, none⟩ = some (.slice ag1 (P2.2 3).length cg1) := fun i => i.cell ((cell_of_row _ _ 5 _ _ _ L.row).trans (by rw [← eg1]; rfl))
        have k6 : ∀ i : Mem.Later w5, i.w.cell? ⟨q, 6, none⟩ = some (.slice at0 (P2.2 4).length ct0) := fun i => i.cell ((cell_of_row _ _ 6 _ _ _ L.row).trans (by rw [← et0]; rfl))
        have k7 : ∀ i : Mem.Later w5, i.w.cell? ⟨q, 7, none⟩ = some (.slice at1 (P2.2 5).length ct1) := fun i => i.cell ((cell_of_row _ _ 7 _ _ _ L.row).trans (by rw [← et1]; rfl))
        have p2 : ∀ i : Mem.Later w5, i.w.cell? ⟨g 0, 2, none⟩ = some (.slice A0 0 cap0) := fun i => i.cell ((cell_of_row _ _ 2 _ _ _ L0.row).trans (by rw [eo0]; rfl))
        have p10 : ∀ i : Mem.Later w5, i.w.cell? ⟨g 0, 10, none⟩ = some (.bool false) := fun i => i.cell ((cell_of_row _ _ 10 _ _ _ L0.row).trans (by rw [← a0.2.1]; rfl))
        have q2 : ∀ i : Mem.Later w5, i.w.cell? ⟨g 1, 2, none⟩ = some (.slice A1 0 cap1) := fun i => i.cell ((cell_of_row _ _ 2 _ _ _ L1.row).trans (by rw [eo1]; rfl))
        have q10 : ∀ i : Mem.Later w5, i.w.cell? ⟨g 1, 10, none⟩ = some (.bool false) := fun i => i.cell ((cell_of_row _ _ 10 _ _ _ L1.row).trans (by rw [← a1.2.1]; rfl))
        rw [et0] at t0
        rw [et1] at t1
        rw [eg0] at g0
        rw [eg1] at g1
        have m1 : ∀ i : Mem.Later w5, Calls Try.prog 14 #[.slice at0 (P2.2 4).length ct0, .slice ag1 (P2.2 3).length cg1] i.w fun e w' => e = .returned (.bool true) ∧ ∃ j : Mem.Later w5, w' = j.w := fun i =>
          Mem.later_call ((ref20_same _ _ _ _ _ _ i.w (t0.below i.h) (g1.below i.h) z4).mono fun e w' h => ⟨h.1.trans (by rw [decide_eq_true a0.2.2]), h.2⟩)
        have m2 : ∀ i : Mem.Later w5, Calls Try.prog 14 #[.slice at1 (P2.2 5).length ct1, .slice ag0 (P2.2 2).length cg0] i.w fun e w' => e = .returned (.bool true) ∧ ∃ j : Mem.Later w5, w' = j.w := fun i =>
          Mem.later_call ((ref20_same _ _ _ _ _ _ i.w (t1.below i.h) (g0.below i.h) z5).mono fun e w' h => ⟨h.1.trans (by rw [decide_eq_true a1.2.2]), h.2⟩)
        have m3 : ∀ i : Mem.Later w5, Calls Try.prog 15 #[.pointer (some ⟨g 0, 0, none⟩)] i.w fun e w' => e = .returned (.bool true) ∧ ∃ j : Mem.Later w5, w' = j.w := fun i =>
          Mem.later_same ((idle_true _ _ _ _ (p2 i) (p10 i)).mono fun _ _ h => ⟨h.1, h.2.symm⟩)
        have m4 : ∀ i : Mem.Later w5, Calls Try.prog 15 #[.pointer (some ⟨g 1, 0, none⟩)] i.w fun e w' => e = .returned (.bool true) ∧ ∃ j : Mem.Later w5, w' = j.w := fun i =>
          Mem.later_same ((idle_true _ _ _ _ (q2 i) (q10 i)).mono fun _ _ h => ⟨h.1, h.2.symm⟩)
        obtain ⟨T0, hT0⟩ : ∃ T, (P2.2 4).length = T := ⟨_, rfl⟩
        obtain ⟨T1, hT1⟩ : ∃ T, (P2.2 5).length = T := ⟨_, rfl⟩
        obtain ⟨G0, hG0⟩ : ∃ T, (P2.2 2).length = T := ⟨_, rfl⟩
        obtain ⟨G1, hG1⟩ : ∃ T, (P2.2 3).length = T := ⟨_, rfl⟩
        rw [hT0] at k6 m1
        rw [hT1] at k7 m2
        rw [hG0] at k4 m2
        rw [hG1] at k5 m1
        clear L t0 t1 g0 g1 et0 et1 eg0 eg1 a0 a1 L0 L1 eo0 eo1 p2 p10 q2 q10 hT0 hT1 hG0 hG1 z4 z5
        refine Mem.wp_region_later (by kernel_rfl) (by kernel_rfl) ?_
        repeat (go_big_quiet_step (first | (go_at_call 14; first | with_reducible exact m1 _ | with_reducible exact m2 _) | (go_at_call 15; first | with_reducible exact m3 _ | with_reducible exact m4 _)))
        refine wpQuiet_nil ?_
        intro w6 hw6
        obtain ⟨i6, hi6⟩ := hw6
        have h6 : Below w5.heap.size w5 w6 := hi6 ▸ i6.h
        clear hi6 i6 m1 m2 m3 m4 k0 k1 k4 k5 k6 k7
        have hsz : w2.heap.size ≤ w5.heap.size := Nat.le_trans HB.out.size HB5.out.size
        have B6 := Lib.hid ((HB.out.trans HB5.out).trans (h6.mono hsz))
        clear h6 hsz
        go_wp2
        go_ret
        exact ⟨rfl, Mem.then_ HB1.out B6.out⟩
  · have hst2 : Calls Try.prog 8 #[.slice a1 l.length cap1] w1 fun e w' => e = .returned (.bool true) ∧ w' = w1 := hst.mono fun e w' h => by
      rcases h.2 with h2 | h2
      · exact ⟨h2.1, h.1⟩
      · exact absurd ⟨h2.2.1, h2.2.2⟩ hgood
    clear hst hgood
    go_wp2_with (go_at_call 8; refine hst2.mono ?_; rintro r w2 ⟨rfl, hw2⟩; subst hw2)
    go_ret
    exact ⟨rfl, HB1.out⟩
end Go.Proofs.Ytgkadhogfejheaa
