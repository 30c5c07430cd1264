/- The walk of the reference's Two. -/
import Derived.Test.YtihdcglkmilckaaSpnV
import Derived.StillTailTactics
namespace Go.Proofs.Ytihdcglkmilckaa
open Go.RowKit

namespace Spn
open PSpansOpen Go.Proofs.YtihdcglkmilckaaW.PrintWords
/-- what the reference's Two leaves -/
def TPost (what : Bool → Bool → Bool) (la lb : List Span) (w : World) (e : Ending) (w' : World) : Prop :=
  ∃ v r, e = .returned (.tuple #[v, .bool (may la && may lb)]) ∧ Own w' w.heap.size v r ∧ Below w.heap.size w w' ∧ ((may la && may lb) = false → r = []) ∧ ((may la && may lb) = true → may r = true ∧ ∀ p : Int, has r p = what (has la p) (has lb p))
structure RTwo (what : Bool → Bool → Bool) (la lb : List Span) (g : Nat) (w1 : World) (i : Nat) (out : List Bool) (wr : World) : Prop where
  hi : i ≤ 20000
  len : out.length = 20000
  bel : Below w1.heap.size w1 wr
  row : wr.heap[g]? = some (.cells (bools out) 4 (0, 0))
  places : ∀ p : Nat, p < 20000 → out[p]? = some (if p < i then what (has la p) (has lb p) else false)
theorem two_next {what : Bool → Bool → Bool} {la lb : List Span} {i : Nat} {out : List Bool} (h : ∀ p : Nat, p < 20000 → out[p]? = some (if p < i then what (has la p) (has lb p) else false)) (hlen : out.length = 20000) (hi : i < 20000) (x : Bool) (hx : what (has la i) (has lb i) = x) :
    ∀ p : Nat, p < 20000 → (out.set i x)[p]? = some (if p < i + 1 then what (has la p) (has lb p) else false) := by
  intro p hp
  by_cases e : i = p
  · subst e
    rw [List.getElem?_set_self (by omega), if_pos (by omega), hx]
  · rw [List.getElem?_set_ne e, h p hp]
    by_cases h1 : p < i
    · rw [if_pos h1, if_pos (by omega)]
    · rw [if_neg h1, if_neg (by omega)]
end Spn
open PSpansOpen

set_option maxRecDepth 100000 in
set_option maxHeartbeats 1000000 in
theorem ref_two_no (la lb : List Spn.Span) (Aa Ab : Option Addr) (ca cb : Nat) (wh : Int) (w : World) (hCa : Go.Proofs.YtihdcglkmilckaaW.PrintWords.Kd.C k42 w Aa la.length la) (hca : la.length ≤ ca) (hla : la.length ≤ 100000) (hCb : Go.Proofs.YtihdcglkmilckaaW.PrintWords.Kd.C k42 w Ab lb.length lb) (hcb : lb.length ≤ cb) (hlb : lb.length ≤ 100000)
    (hno : (Spn.may la && Spn.may lb) = false) :
    Calls Try.prog 24 #[.slice Aa la.length ca, .slice Ab lb.length cb, .int .i64 wh] w fun e w' => e = .returned (.tuple #[.slice none 0 0, .bool false]) ∧ Below w.heap.size w w' := by
  have qa := Spn.ref_may la hla (la.length + 1) (by omega)
  have qb := Spn.ref_may lb hlb (lb.length + 1) (by omega)
  have HQa := Lib.hid (fun w1 h1 => foolscapref07_May.calls _ Aa ca la _ w1 h1 hca qa)
  have HQb := Lib.hid (fun w1 h1 => foolscapref07_May.calls _ Ab cb lb _ w1 h1 hcb qb)
  have HCa := Lib.hid hCa
  have HCb := Lib.hid hCb
  clear qa qb hCa hCb
  have hways : Spn.may la = false ∨ (Spn.may la = true ∧ Spn.may lb = false) := by
    cases h : Spn.may la with
    | false => exact .inl rfl
    | true => rw [h] at hno; exact .inr ⟨rfl, by simpa using hno⟩
  rcases hways with h1 | ⟨h1, h2⟩
  · rw [h1] at HQa
    clear hno h1
    go_enter Try.func24, Try.ntmps24
    go_wp2_with (
      go_at_call 10
      with_reducible refine (HQa.out _ HCa.out).mono ?_
      rintro e w1 ⟨rfl, hd1⟩)
    go_ret2
    exact ⟨rfl, by obtain ⟨k, rfl⟩ := hd1; exact Mem.below_drewN (Below.refl _ _) _⟩
  · rw [h1] at HQa
    rw [h2] at HQb
    clear hno h1 h2
    go_enter Try.func24, Try.ntmps24
    go_wp2_with (first
      | (go_at_call 10
         with_reducible refine (HQa.out _ HCa.out).mono ?_
         rintro e w1 ⟨rfl, hd1⟩
         have HB1 := Lib.hid (show Below w.heap.size w w1 by obtain ⟨k, rfl⟩ := hd1; exact Mem.below_drewN (Below.refl _ _) _)
         clear hd1)
      | (go_at_call 10
         with_reducible refine (HQb.out _ (Go.Proofs.YtihdcglkmilckaaW.PrintWords.Kd.C_below HCb.out HB1.out)).mono ?_
         rintro e w2 ⟨rfl, hd2⟩
         have HB2 := Lib.hid (show Below w1.heap.size w1 w2 by obtain ⟨k, rfl⟩ := hd2; exact Mem.below_drewN (Below.refl _ _) _)
         clear hd2))
    go_ret2
    exact ⟨rfl, Mem.then_ HB1.out HB2.out⟩

set_option maxRecDepth 100000 in
set_option maxHeartbeats 4000000 in
theorem ref_two_yes (la lb : List Spn.Span) (Aa Ab : Option Addr) (ca cb : Nat) (wh : Int) (what : Bool → Bool → Bool) (hwh : (wh = 0 ∧ what = fun x y => x || y) ∨ (wh = 1 ∧ what = fun x y => x && y) ∨ (wh = 2 ∧ what = fun x y => x && !y)) (w : World)
    (hCa : Go.Proofs.YtihdcglkmilckaaW.PrintWords.Kd.C k42 w Aa la.length la) (hca : la.length ≤ ca) (hla : la.length ≤ 100000) (hCb : Go.Proofs.YtihdcglkmilckaaW.PrintWords.Kd.C k42 w Ab lb.length lb) (hcb : lb.length ≤ cb) (hlb : lb.length ≤ 100000)
    (hma : Spn.may la = true) (hmb : Spn.may lb = true) :
    Calls Try.prog 24 #[.slice Aa la.length ca, .slice Ab lb.length cb, .int .i64 wh] w (Spn.TPost what la lb w) := by
  have qa := Spn.ref_may la hla (la.length + 1) (by omega)
  have qb := Spn.ref_may lb hlb (lb.length + 1) (by omega)
  rw [hma] at qa
  rw [hmb] at qb
  have HQa := Lib.hid (fun w1 h1 => foolscapref07_May.calls _ Aa ca la _ w1 h1 hca qa)
  have HQb := Lib.hid (fun w1 h1 => foolscapref07_May.calls _ Ab cb lb _ w1 h1 hcb qb)
  have HCa := Lib.hid hCa
  have HCb := Lib.hid hCb
  obtain ⟨Ka, Ma, hMa1, hMa2, hMa3⟩ := Spn.marks la hla hma
  obtain ⟨Kb, Mb, hMb1, hMb2, hMb3⟩ := Spn.marks lb hlb hmb
  have HMa := Lib.hid (fun w1 h1 => foolscapref07_Marks.calls _ Aa ca la Ma true w1 h1 hca (hMa1 0))
  have HMb := Lib.hid (fun w1 h1 => foolscapref07_Marks.calls _ Ab cb lb Mb true w1 h1 hcb (hMb1 0))
  have HMa2 := Lib.hid hMa2
  have HMa3 := Lib.hid hMa3
  have HMb2 := Lib.hid hMb2
  have HMb3 := Lib.hid hMb3
  have Hm := Lib.hid (show (Spn.may la && Spn.may lb) = true by rw [hma, hmb]; rfl)
  have hW0 := hwh
  clear qa qb hCa hCb hMa1 hMa2 hMa3 hMb1 hMb2 hMb3 hma hmb hwh
  have HWh := Lib.hid hW0
  clear hW0
  go_enter Try.func24, Try.ntmps24
  go_upto_region 5 with (first
    | (go_at_call 10
       with_reducible refine (HQa.out _ HCa.out).mono ?_
       rintro e w1 ⟨rfl, hd1⟩
       have HB1 := Lib.hid (show Below w.heap.size w w1 by obtain ⟨k, rfl⟩ := hd1; exact Mem.below_drewN (Below.refl _ _) _)
       clear hd1)
    | (go_at_call 10
       with_reducible refine (HQb.out _ (Go.Proofs.YtihdcglkmilckaaW.PrintWords.Kd.C_below HCb.out HB1.out)).mono ?_
       rintro e w2 ⟨rfl, hd2⟩
       have HB2 := Lib.hid (show Below w.heap.size w w2 by obtain ⟨k, rfl⟩ := hd2; exact Mem.below_drewN HB1.out _)
       clear hd2)
    | (go_at_call 31
       with_reducible refine (HMa.out _ (Go.Proofs.YtihdcglkmilckaaW.PrintWords.Kd.C_below HCa.out HB2.out)).mono ?_
       rintro e w3 ⟨v3, rfl, hr3, hb3⟩
       obtain ⟨A3, c3, rfl, hc3, hC3⟩ := Go.Proofs.YtihdcglkmilckaaW.PrintWords.Kd.R_reads hr3
       have HC3 := Lib.hid hC3
       have HB3 := Lib.hid (Mem.then_ HB2.out hb3)
       clear hr3 hb3 hC3 hc3)
    | (go_at_call 31
       with_reducible refine (HMb.out _ (Go.Proofs.YtihdcglkmilckaaW.PrintWords.Kd.C_below HCb.out HB3.out)).mono ?_
       rintro e w4 ⟨v4, rfl, hr4, hb4⟩
       obtain ⟨A4, c4, rfl, hc4, hC4⟩ := Go.Proofs.YtihdcglkmilckaaW.PrintWords.Kd.R_reads hr4
       have HC4 := Lib.hid hC4
       have HC34 := Lib.hid (Go.Proofs.YtihdcglkmilckaaW.PrintWords.Kd.C_below HC3.out hb4)
       have HB4 := Lib.hid (Mem.then_ HB3.out hb4)
       clear hr4 hb4 hC4 hc4))
  go_wp2_with (
       refine Mem.wpList_make (o := ⟨some 32, _, _, _, _, _⟩) rfl _ _ 46 4 rfl Try.underlying46 (.bool false) 1 1 Spn.info_bool .i64 .i64 20000 20000 rfl rfl (by omega) (by omega) (by omega) (by omega) ?_
       intro w5 hn5
       have Hn5 := Lib.hid hn5
       clear hn5)
  obtain ⟨ba, offa, rfl, hata⟩ := Spn.mat_of HC34.out (by rw [HMa2.out]; omega)
  obtain ⟨bb, offb, rfl, hatb⟩ := Spn.mat_of HC4.out (by rw [HMb2.out]; omega)
  have HAta := Lib.hid hata
  have HAtb := Lib.hid hatb
  have hlen2 := HMa2.out
  have hlen3 := HMb2.out
  rw [hlen2, hlen3]
  clear hata hatb hlen2 hlen3
  go_loopw [13] (fun t13 wr => ∃ (i : Nat) (out : List Bool), t13 = .int .i64 i ∧ Spn.RTwo what la lb w4.heap.size w4 i out wr) (fun t13 _ => 20000 - (intOf t13).toNat)
  case atStart =>
    refine ⟨0, List.replicate 20000 false, rfl, by omega, List.length_replicate, Hn5.out.below, ?_, fun p hp => ?_⟩
    · have := Hn5.out.row
      rw [show ((20000 : Int).toNat * 1) = 20000 * 1 from rfl, Spn.made_bools] at this
      exact this
    · rw [List.getElem?_replicate, if_pos hp, if_neg (by omega)]
  case round =>
    obtain ⟨i, out, rfl, R⟩ := hrel
    have hi := R.hi
    have HR := Lib.hid R
    clear R
    by_cases hlt : i < 20000
    · have hMi := HMa3.out i hlt
      have hNi := HMb3.out i hlt
      have c0 : wr.cell? ⟨ba, offa + i, none⟩ = some (.bool (Spn.has la i)) := Mem.keep HR.out.bel (HAta.out i _ hMi)
      have c1 : wr.cell? ⟨bb, offb + i, none⟩ = some (.bool (Spn.has lb i)) := Mem.keep HR.out.bel (HAtb.out i _ hNi)
      have d6 : decide ((i : Int) < 20000) = true := decide_eq_true (by omega)
      have d7 : (i : Int) < 20000 := by omega
      have d8 : (0 : Int) ≤ (i : Int) := by omega
      clear hMi hNi hi
      obtain ⟨y, hy⟩ : ∃ y, Spn.has lb (i : Int) = y := ⟨_, rfl⟩
      obtain ⟨x, hx⟩ : ∃ x, Spn.has la (i : Int) = x := ⟨_, rfl⟩
      rw [hx] at c0
      rw [hy] at c1
      have HX := Lib.hid hx
      have HY := Lib.hid hy
      clear hx hy
      have hw4 : w4.heap.size < wr.heap.size := by have := HR.out.row; exact (Array.getElem?_eq_some_iff.1 this).1
      have HW4 := Lib.hid hw4
      have HSz := Lib.hid (show (Spn.bools out).size = 20000 by rw [Spn.bools_size, HR.out.len])
      clear hw4
      have key := fun (wx : World) (z : Bool) (hz : what x y = z) (hp : Mem.Put wr wx w4.heap.size (Spn.bools (out.set i z)) 4) =>
        (show Spn.RTwo what la lb w4.heap.size w4 (i + 1) (out.set i z) wx from ⟨by omega, by rw [List.length_set]; exact HR.out.len, HR.out.bel.trans (hp.below (Nat.le_refl _)), hp.row, Spn.two_next HR.out.places HR.out.len hlt z (by rw [HX.out, HY.out]; exact hz)⟩)
      have Key := Lib.hid key
      clear key
      go_upto_region 9 with (fail)
      have HSame := Lib.hid HWh.out
      clear HWh
      rcases HSame.out with ⟨rfl, rfl⟩ | ⟨rfl, rfl⟩ | ⟨rfl, rfl⟩
      all_goals
        cases x
        all_goals
          cases y
          all_goals
            go_wp2_with (first
            | (with_reducible refine Mem.wpList_store_cell (o := ⟨none, .store 4 (.tmp 86) (.tmp 85), _, _, _, _⟩) ?_ 4 (.tmp 86) (.tmp 85) ?_ w4.heap.size i ?_ (.bool false) ?_ ?_ Spn.size_bool 4 (Spn.bools out) HR.out.row (by rw [HSz.out]; omega) _ (Spn.bools_set out i false (by rw [HR.out.len]; omega)) ?_
               · rfl
               · rfl
               · rfl
               · rfl
               · rfl
               intro w8 hp8
               have Hp8 := Lib.hid hp8
               clear hp8)
            | (with_reducible refine Mem.wpList_store_cell (o := ⟨none, .store 4 (.tmp 86) (.tmp 85), _, _, _, _⟩) ?_ 4 (.tmp 86) (.tmp 85) ?_ w4.heap.size i ?_ (.bool true) ?_ ?_ Spn.size_bool 4 (Spn.bools out) HR.out.row (by rw [HSz.out]; omega) _ (Spn.bools_set out i true (by rw [HR.out.len]; omega)) ?_
               · rfl
               · rfl
               · rfl
               · rfl
               · rfl
               intro w8 hp8
               have Hp8 := Lib.hid hp8
               clear hp8))
            exact ⟨⟨i + 1, _, by push_cast; rfl, Key.out _ _ rfl Hp8.out⟩, by simp only [intOf]; omega⟩
    · have hi2 : i = 20000 := by omega
      subst hi2
      obtain ⟨K2, r, hr, hmr, hpr⟩ := Spn.made out HR.out.len
      have hC3 := Spn.bools_reads (by rw [HR.out.len]; omega) HR.out.row
      have HMade := Lib.hid (fun w1 h1 => foolscapref07_Made.calls _ (some ⟨w4.heap.size, 0, none⟩) 20000 out r w1 h1 (by rw [HR.out.len]; omega) (hr 0))
      have HC3 := Lib.hid hC3
      have HPr := Lib.hid hpr
      have HMr := Lib.hid hmr
      rw [HR.out.len] at HMade
      clear hC3 hr hpr hmr
      go_wp2_with (
        go_at_call 34
        refine (HMade.out _ (by have := HC3.out; rw [HR.out.len] at this; exact this)).mono ?_
        rintro e w9 ⟨v9, rfl, hr9, hb9⟩
        have Ho9 := Lib.hid (Spn.own_of_R hr9)
        have Hb9 := Lib.hid hb9
        clear hr9 hb9)
      go_ret2
      have hle := HR.out.bel.size
      have hle2 := HB4.out.size
      have hmm := Hm.out
      refine ⟨v9, r, by rw [hmm]; rfl, ?_, (HB4.out.trans (HR.out.bel.mono HB4.out.size)).trans (Hb9.out.mono (by omega)), (fun h => by rw [hmm] at h; cases h), fun _ => ⟨HMr.out, fun p => ?_⟩⟩
      · have ho := Ho9.out
        unfold Spn.Own at ho ⊢
        exact Spn.own_base ho (by omega)
      · rw [Bool.and_eq_true] at hmm
        have h00 : what false false = false := by rcases HWh.out with ⟨_, rfl⟩ | ⟨_, rfl⟩ | ⟨_, rfl⟩ <;> rfl
        rw [Bool.eq_iff_iff, HPr.out p]
        constructor
        · rintro ⟨j, h1, rfl, h3⟩
          have := HR.out.places j h1
          rw [h3, if_pos h1] at this
          exact (by simpa using this.symm)
        · intro h
          have hp : 0 ≤ p ∧ p < 20000 := by
            cases ha : Spn.has la p with
            | true =>
              have h1 := Spn.has_in (last := -1) hmm.1 ha
              have h2 := Spn.end_le (last := -1) hmm.1 (by omega)
              omega
            | false =>
              cases hb : Spn.has lb p with
              | true =>
                have h1 := Spn.has_in (last := -1) hmm.2 hb
                have h2 := Spn.end_le (last := -1) hmm.2 (by omega)
                omega
              | false => rw [ha, hb, h00] at h; cases h
          obtain ⟨j, rfl⟩ : ∃ j : Nat, p = j := ⟨p.toNat, by omega⟩
          have hj : j < 20000 := by omega
          refine ⟨j, hj, rfl, ?_⟩
          rw [HR.out.places j hj, if_pos hj, h]

theorem ref_two (la lb : List Spn.Span) (Aa Ab : Option Addr) (ca cb : Nat) (wh : Int) (what : Bool → Bool → Bool) (hwh : (wh = 0 ∧ what = fun x y => x || y) ∨ (wh = 1 ∧ what = fun x y => x && y) ∨ (wh = 2 ∧ what = fun x y => x && !y)) (w : World)
    (hCa : Go.Proofs.YtihdcglkmilckaaW.PrintWords.Kd.C k42 w Aa la.length la) (hca : la.length ≤ ca) (hla : la.length ≤ 100000) (hCb : Go.Proofs.YtihdcglkmilckaaW.PrintWords.Kd.C k42 w Ab lb.length lb) (hcb : lb.length ≤ cb) (hlb : lb.length ≤ 100000) :
    Calls Try.prog 24 #[.slice Aa la.length ca, .slice Ab lb.length cb, .int .i64 wh] w (Spn.TPost what la lb w) := by
  cases hm : (Spn.may la && Spn.may lb) with
  | false =>
    refine (ref_two_no la lb Aa Ab ca cb wh w hCa hca hla hCb hcb hlb hm).mono ?_
    rintro e w' ⟨rfl, hb⟩
    exact ⟨_, [], by rw [hm], Spn.own_nil _ _, hb, fun _ => rfl, fun h => by rw [hm] at h; cases h⟩
  | true =>
    rw [Bool.and_eq_true] at hm
    exact ref_two_yes la lb Aa Ab ca cb wh what hwh w hCa hca hla hCb hcb hlb hm.1 hm.2
end Go.Proofs.Ytihdcglkmilckaa
