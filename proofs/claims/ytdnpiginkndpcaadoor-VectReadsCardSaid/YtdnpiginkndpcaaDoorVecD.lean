/- The walk of vect.Order. -/
import Derived.Test.YtdnpiginkndpcaaDoorVecP
import Derived.Test.YtdnpiginkndpcaaDoorCell
/-! The walk of pairs over what Covers hands on. -/
namespace Go.Proofs.YtdnpiginkndpcaaDoor
open Go.RowKit

set_option maxRecDepth 100000 in
theorem covers_one (x y : Int) (r : Bool) (g : Nat) (w : World) (hg : w.heap[g]? = some (.cells #[.bool r] 4 (0, 0))) :
    Calls Tryd.prog 38 #[.int .i64 x, .int .i64 y, .pointer (some ⟨g, 0, none⟩)] w fun e w' => e = .returned (.bool (r && decide (y ≤ x))) ∧ Mem.Put w w' g #[.bool (r && decide (y ≤ x))] 4 := by
  have c0 : w.cell? ⟨g, 0, none⟩ = some (.bool r) := (cell_of_row _ _ 0 _ _ _ hg).trans rfl
  have f0 := frozen_of_row _ g 0 _ _ hg
  have Hg := Lib.hid hg
  clear hg
  cases r with
  | false =>
    go_enter Tryd.func38, Tryd.ntmps38
    go_wp2
    go_ret
    exact ⟨rfl, Mem.put_setCell w g 0 (.bool false) _ _ Hg.out⟩
  | true =>
    obtain ⟨d, hd⟩ : ∃ d, decide (y ≤ x) = d := ⟨_, rfl⟩
    go_enter Tryd.func38, Tryd.ntmps38
    go_wp2
    go_ret
    rw [Bool.true_and, hd]
    exact ⟨rfl, Mem.put_setCell w g 0 (.bool d) _ _ Hg.out⟩

namespace Vec
open PVectAsks Go.Proofs.YtdnpiginkndpcaaDoorW.PrintWords
def upTo (a b : List Int) (n : Nat) : Bool := (List.range n).all fun i => decide (cnt b (i + 1 : Nat) ≤ cnt a (i + 1 : Nat))
theorem upTo_succ (a b : List Int) (n : Nat) : upTo a b (n + 1) = (upTo a b n && decide (cnt b (n + 1 : Nat) ≤ cnt a (n + 1 : Nat))) := by unfold upTo; rw [List.range_succ, List.all_append]; simp
theorem cnt_out (l : List Int) (n : Nat) (h : l.length ≤ n) : cnt l (n + 1 : Nat) = 0 := by unfold cnt; rw [if_neg (by omega)]
theorem upTo_more (a b : List Int) (n : Nat) (ha : a.length ≤ n) (hb : b.length ≤ n) : ∀ d, upTo a b (n + d) = upTo a b n := by
  intro d
  induction d with
  | zero => rfl
  | succ d ih =>
    rw [← Nat.add_assoc, upTo_succ, ih, cnt_out a _ (by omega), cnt_out b _ (by omega)]
    simp
theorem upTo_covers (a b : List Int) (n : Nat) (ha : a.length ≤ n) (hb : b.length ≤ n) (hn : n ≤ 16) : upTo a b n = covers a b := by
  obtain ⟨d, hd⟩ : ∃ d, 16 = n + d := ⟨16 - n, by omega⟩
  have := upTo_more a b n ha hb d
  rw [← hd] at this
  exact this.symm
/-- a list of numbers is read on when a box of another kind has been written -/
theorem reads_but {w w1 : World} {A : Option Addr} {n : Nat} {l : List Int} {g : Nat} {r : Bool} (h : Kd.C (Kd.int .i64) w A n l) (hg : w.heap[g]? = some (.cells #[.bool r] 4 (0, 0))) (hb : Mem.But (· = g) w w1) : Kd.C (Kd.int .i64) w1 A n l := by
  refine ⟨h.1, h.2.1, fun hn => ?_⟩
  obtain ⟨ad, rfl, hc⟩ := h.2.2 hn
  refine ⟨ad, rfl, fun j p hj => ?_⟩
  obtain ⟨c, h1, h2, h3⟩ := hc j p hj
  have h2' : c = [.int .i64 p] := h2
  subst h2'
  refine ⟨_, h1, h2, fun i u hu => ?_⟩
  have h4 := h3 i u hu
  have hu' : u = .int .i64 p := by
    cases i with
    | zero => simpa using hu.symm
    | succ i => simp at hu
  refine (World.cell?_of_block (hb.block _ (block_lt_of_cell h4) (fun e => ?_))).trans h4
  unfold World.cell? at h4
  rw [e, hg, hu'] at h4
  simp only at h4
  split at h4
  · cases h4
  · rename_i hs
    have := Array.getElem?_eq_some_iff.1 h4
    obtain ⟨k, hk⟩ := this
    have k0 : (ad.add (j * (Kd.int .i64).sz + i)).off = 0 := by simpa using k
    simp [k0] at hk
theorem info_bool : (Tryd.prog.info? 4).map (fun i => (i.zero, i.size, i.bytes)) = some (some (.bool false), 1, 1) := by kernel_rfl
structure PB (la lb : List Int) (g o : Nat) (w0 : World) (N i : Nat) (wr : World) : Prop where
  hi : i ≤ N
  but : Mem.But (· = g) w0 wr
  box : wr.heap[g]? = some (.cells #[.bool (upTo la lb i)] 4 (0, 0))
  row : ∃ cs, wr.heap[o]? = some (.cells cs 4 (0, 0)) ∧ cs.size = N
end Vec
open PVectAsks

set_option maxRecDepth 100000 in
set_option maxHeartbeats 2000000 in
theorem pairs_bool (la lb : List Int) (La Lb N : Nat) (hLa : la.length = La) (hLb : lb.length = Lb) (hN : (La < Lb ∧ N = Lb) ∨ (¬ La < Lb ∧ N = La)) (Aa Ab : Option Addr) (ca cb g : Nat) (w : World)
    (hCa : Go.Proofs.YtdnpiginkndpcaaDoorW.PrintWords.Kd.C (Go.Proofs.YtdnpiginkndpcaaDoorW.PrintWords.Kd.int .i64) w Aa la.length la) (hca : la.length ≤ ca) (hCb : Go.Proofs.YtdnpiginkndpcaaDoorW.PrintWords.Kd.C (Go.Proofs.YtdnpiginkndpcaaDoorW.PrintWords.Kd.int .i64) w Ab lb.length lb) (hcb : lb.length ≤ cb) (hla : La ≤ 1000) (hlb : Lb ≤ 1000)
    (hg : w.heap[g]? = some (.cells #[.bool true] 4 (0, 0))) :
    Calls Tryd.prog 37 #[.slice Aa La ca, .slice Ab Lb cb, .func (.func 38) #[] #[.pointer (some ⟨g, 0, none⟩)]] w fun e w' => (∃ v, e = .returned v) ∧ w'.heap[g]? = some (.cells #[.bool (Vec.upTo la lb N)] 4 (0, 0)) ∧ Mem.But (· = g) w w' := by
  have HCa := Lib.hid hCa
  have HCb := Lib.hid hCb
  have Hg := Lib.hid hg
  have HLa := Lib.hid hLa
  have HLb := Lib.hid hLb
  clear hCa hCb hg hLa hLb
  rcases hN with ⟨hlt, rfl⟩ | ⟨hlt, rfl⟩
  · have hlt' : (La : Int) < (N : Int) := by omega
    go_enter Tryd.func37, Tryd.ntmps37
    go_wp2_with (
      with_reducible refine Mem.wpList_make (o := ⟨some 14, _, _, _, _, _⟩) ?_ (.tmp 13) (.tmp 13) 55 4 ?_ Tryd.underlying55 (.bool false) 1 1 Vec.info_bool .i64 .i64 N N ?_ ?_ ?_ ?_ ?_ ?_ ?_
      · rfl
      · rfl
      · rfl
      · rfl
      · omega
      · omega
      · omega
      · omega
      intro w3 hn3
      have Hn3 := Lib.hid hn3
      clear hn3)
    have hgw : g ≠ w.heap.size := by have := (Array.getElem?_eq_some_iff.1 Hg.out).1; omega
    go_loopw [8, 17] (fun t8 t17 wr => ∃ i : Nat, t17 = .int .i64 i ∧ Vec.PB la lb g w.heap.size w N i wr) (fun _ t17 _ => N - (intOf t17).toNat)
    case atStart =>
      refine ⟨0, rfl, ⟨Nat.zero_le _, (Mem.But.of_new Hn3.out), ?_, ⟨_, Hn3.out.row, by simp [madeCells]⟩⟩⟩
      exact (Hn3.out.old (Array.getElem?_eq_some_iff.1 Hg.out).1).trans Hg.out
    case round =>
      obtain ⟨i, rfl, R⟩ := hrel
      have HR := Lib.hid R
      have hi := R.hi
      clear R
      by_cases hl : i < N
      · have d1 : (i : Int) < (N : Int) := by omega
        have d2 : (0 : Int) ≤ (i : Int) := by omega
        have Hca2 := Lib.hid (show _ from fun w1 (k1 : Go.Proofs.YtdnpiginkndpcaaDoorW.PrintWords.Kd.C (Go.Proofs.YtdnpiginkndpcaaDoorW.PrintWords.Kd.int .i64) w1 Aa La la) => show Calls Tryd.prog 40 #[.slice Aa La ca, .int .i64 ((i : Int) + 1)] w1 fun e w' => e = .returned (.int .i64 (Vec.cnt la ((i : Int) + 1))) ∧ Go.Proofs.YtdnpiginkndpcaaDoorW.PrintWords.Drawn0 w1 w' by
          have := vect_count.calls Aa ca la ((i : Int) + 1) _ w1 (by rw [HLa.out]; exact k1) hca (Vec.count_eval la _ (by rw [HLa.out]; omega))
          rw [HLa.out] at this
          exact this)
        have Hcb2 := Lib.hid (show _ from fun w1 (k1 : Go.Proofs.YtdnpiginkndpcaaDoorW.PrintWords.Kd.C (Go.Proofs.YtdnpiginkndpcaaDoorW.PrintWords.Kd.int .i64) w1 Ab N lb) => show Calls Tryd.prog 40 #[.slice Ab N cb, .int .i64 ((i : Int) + 1)] w1 fun e w' => e = .returned (.int .i64 (Vec.cnt lb ((i : Int) + 1))) ∧ Go.Proofs.YtdnpiginkndpcaaDoorW.PrintWords.Drawn0 w1 w' by
          have := vect_count.calls Ab cb lb ((i : Int) + 1) _ w1 (by rw [HLb.out]; exact k1) hcb (Vec.count_eval lb _ (by rw [HLb.out]; omega))
          rw [HLb.out] at this
          exact this)
        have HRa := Lib.hid (show Go.Proofs.YtdnpiginkndpcaaDoorW.PrintWords.Kd.C (Go.Proofs.YtdnpiginkndpcaaDoorW.PrintWords.Kd.int .i64) wr Aa La la by have := Vec.reads_but HCa.out Hg.out HR.out.but; rw [HLa.out] at this; exact this)
        have HRb := Lib.hid (show Go.Proofs.YtdnpiginkndpcaaDoorW.PrintWords.Kd.C (Go.Proofs.YtdnpiginkndpcaaDoorW.PrintWords.Kd.int .i64) wr Ab N lb by have := Vec.reads_but HCb.out Hg.out HR.out.but; rw [HLb.out] at this; exact this)
        obtain ⟨cs, hcs, hcz⟩ := HR.out.row
        have Hcs := Lib.hid hcs
        have Hcz := Lib.hid hcz
        clear hcs hcz hca hcb
        go_wp2_with (first
          | (go_at_call 40
             with_reducible refine (Hca2.out _ HRa.out).mono ?_
             rintro e w4 ⟨rfl, hd4⟩
             have hb4 : ∃ k, w4 = wr.drewN k := by obtain ⟨k, hk⟩ := hd4; exact ⟨k, hk⟩
             obtain ⟨k4, rfl⟩ := hb4)
          | (go_at_call 40
             with_reducible refine (Hcb2.out _ (Go.Proofs.YtdnpiginkndpcaaDoorW.PrintWords.Kd.C_below HRb.out (Mem.below_drewN (Below.refl _ _) _))).mono ?_
             rintro e w5 ⟨rfl, hd5⟩
             have hb5 : ∃ k, w5 = (wr.drewN k4).drewN k := by obtain ⟨k, hk⟩ := hd5; exact ⟨k, hk⟩
             obtain ⟨k5, rfl⟩ := hb5)
          | (go_at_call 38
             refine (covers_one _ _ (Vec.upTo la lb i) g (wr.drewN (k4 + k5)) (show (wr.drewN (k4 + k5)).heap[g]? = _ from HR.out.box)).mono ?_
             rintro e w6 ⟨rfl, hp6⟩
             have hc6 : w6.heap[w.heap.size]? = some (.cells cs 4 (0, 0)) := (hp6.other _ (Ne.symm hgw)).trans Hcs.out
             have Hc6 := Lib.hid hc6
             have Hp6 := Lib.hid hp6
             clear hp6 hc6)
          | (with_reducible refine Mem.wpList_store_cell (o := ⟨none, .store 4 (.tmp 32) (.tmp 31), _, _, _, _⟩) ?_ 4 (.tmp 32) (.tmp 31) ?_ w.heap.size i ?_ (.bool (Vec.upTo la lb i && decide (Vec.cnt lb ((i : Int) + 1) ≤ Vec.cnt la ((i : Int) + 1)))) ?_ ?_ ?_ 4 cs Hc6.out ?_ _ rfl ?_
             · rfl
             · rfl
             · rfl
             · rfl
             · rfl
             · kernel_rfl
             · have := Hcz.out; omega
             intro w7 hp7
             have Hp7 := Lib.hid hp7
             clear hp7))
        have hbut : Mem.But (· = g) w w7 := by
          have h1 : Mem.But (· = g) w w6 := (HR.out.but.trans (Mem.But.of_drewN (k4 + k5))).trans (Mem.But.of_put Hp6.out rfl)
          exact Mem.But.later h1 (Mem.But.of_put (S := (· = w.heap.size)) Hp7.out rfl) (fun k hk e => by omega)
        refine ⟨⟨i + 1, by push_cast; rfl, ⟨hl, hbut, ?_, ⟨_, Hp7.out.row, ?_⟩⟩⟩, by simp only [intOf]; omega⟩
        · have := (Hp7.out.other g hgw).trans Hp6.out.row
          rw [Vec.upTo_succ]
          exact this
        · have := Hcz.out
          simp
          omega
      · have hiN : i = N := by omega
        subst hiN
        go_wp2
        go_ret
        exact ⟨⟨_, rfl⟩, HR.out.box, HR.out.but⟩
  · have hlt' : ¬ (N : Int) < (Lb : Int) := by omega
    go_enter Tryd.func37, Tryd.ntmps37
    go_wp2_with (
      with_reducible refine Mem.wpList_make (o := ⟨some 14, _, _, _, _, _⟩) ?_ (.tmp 13) (.tmp 13) 55 4 ?_ Tryd.underlying55 (.bool false) 1 1 Vec.info_bool .i64 .i64 N N ?_ ?_ ?_ ?_ ?_ ?_ ?_
      · rfl
      · rfl
      · rfl
      · rfl
      · omega
      · omega
      · omega
      · omega
      intro w3 hn3
      have Hn3 := Lib.hid hn3
      clear hn3)
    have hgw : g ≠ w.heap.size := by have := (Array.getElem?_eq_some_iff.1 Hg.out).1; omega
    go_loopw [8, 17] (fun t8 t17 wr => ∃ i : Nat, t17 = .int .i64 i ∧ Vec.PB la lb g w.heap.size w N i wr) (fun _ t17 _ => N - (intOf t17).toNat)
    case atStart =>
      refine ⟨0, rfl, ⟨Nat.zero_le _, (Mem.But.of_new Hn3.out), ?_, ⟨_, Hn3.out.row, by simp [madeCells]⟩⟩⟩
      exact (Hn3.out.old (Array.getElem?_eq_some_iff.1 Hg.out).1).trans Hg.out
    case round =>
      obtain ⟨i, rfl, R⟩ := hrel
      have HR := Lib.hid R
      have hi := R.hi
      clear R
      by_cases hl : i < N
      · have d1 : (i : Int) < (N : Int) := by omega
        have d2 : (0 : Int) ≤ (i : Int) := by omega
        have Hca2 := Lib.hid (show _ from fun w1 (k1 : Go.Proofs.YtdnpiginkndpcaaDoorW.PrintWords.Kd.C (Go.Proofs.YtdnpiginkndpcaaDoorW.PrintWords.Kd.int .i64) w1 Aa N la) => show Calls Tryd.prog 40 #[.slice Aa N ca, .int .i64 ((i : Int) + 1)] w1 fun e w' => e = .returned (.int .i64 (Vec.cnt la ((i : Int) + 1))) ∧ Go.Proofs.YtdnpiginkndpcaaDoorW.PrintWords.Drawn0 w1 w' by
          have := vect_count.calls Aa ca la ((i : Int) + 1) _ w1 (by rw [HLa.out]; exact k1) hca (Vec.count_eval la _ (by rw [HLa.out]; omega))
          rw [HLa.out] at this
          exact this)
        have Hcb2 := Lib.hid (show _ from fun w1 (k1 : Go.Proofs.YtdnpiginkndpcaaDoorW.PrintWords.Kd.C (Go.Proofs.YtdnpiginkndpcaaDoorW.PrintWords.Kd.int .i64) w1 Ab Lb lb) => show Calls Tryd.prog 40 #[.slice Ab Lb cb, .int .i64 ((i : Int) + 1)] w1 fun e w' => e = .returned (.int .i64 (Vec.cnt lb ((i : Int) + 1))) ∧ Go.Proofs.YtdnpiginkndpcaaDoorW.PrintWords.Drawn0 w1 w' by
          have := vect_count.calls Ab cb lb ((i : Int) + 1) _ w1 (by rw [HLb.out]; exact k1) hcb (Vec.count_eval lb _ (by rw [HLb.out]; omega))
          rw [HLb.out] at this
          exact this)
        have HRa := Lib.hid (show Go.Proofs.YtdnpiginkndpcaaDoorW.PrintWords.Kd.C (Go.Proofs.YtdnpiginkndpcaaDoorW.PrintWords.Kd.int .i64) wr Aa N la by have := Vec.reads_but HCa.out Hg.out HR.out.but; rw [HLa.out] at this; exact this)
        have HRb := Lib.hid (show Go.Proofs.YtdnpiginkndpcaaDoorW.PrintWords.Kd.C (Go.Proofs.YtdnpiginkndpcaaDoorW.PrintWords.Kd.int .i64) wr Ab Lb lb by have := Vec.reads_but HCb.out Hg.out HR.out.but; rw [HLb.out] at this; exact this)
        obtain ⟨cs, hcs, hcz⟩ := HR.out.row
        have Hcs := Lib.hid hcs
        have Hcz := Lib.hid hcz
        clear hcs hcz hca hcb
        go_wp2_with (first
          | (go_at_call 40
             with_reducible refine (Hca2.out _ HRa.out).mono ?_
             rintro e w4 ⟨rfl, hd4⟩
             have hb4 : ∃ k, w4 = wr.drewN k := by obtain ⟨k, hk⟩ := hd4; exact ⟨k, hk⟩
             obtain ⟨k4, rfl⟩ := hb4)
          | (go_at_call 40
             with_reducible refine (Hcb2.out _ (Go.Proofs.YtdnpiginkndpcaaDoorW.PrintWords.Kd.C_below HRb.out (Mem.below_drewN (Below.refl _ _) _))).mono ?_
             rintro e w5 ⟨rfl, hd5⟩
             have hb5 : ∃ k, w5 = (wr.drewN k4).drewN k := by obtain ⟨k, hk⟩ := hd5; exact ⟨k, hk⟩
             obtain ⟨k5, rfl⟩ := hb5)
          | (go_at_call 38
             refine (covers_one _ _ (Vec.upTo la lb i) g (wr.drewN (k4 + k5)) (show (wr.drewN (k4 + k5)).heap[g]? = _ from HR.out.box)).mono ?_
             rintro e w6 ⟨rfl, hp6⟩
             have hc6 : w6.heap[w.heap.size]? = some (.cells cs 4 (0, 0)) := (hp6.other _ (Ne.symm hgw)).trans Hcs.out
             have Hc6 := Lib.hid hc6
             have Hp6 := Lib.hid hp6
             clear hp6 hc6)
          | (with_reducible refine Mem.wpList_store_cell (o := ⟨none, .store 4 (.tmp 32) (.tmp 31), _, _, _, _⟩) ?_ 4 (.tmp 32) (.tmp 31) ?_ w.heap.size i ?_ (.bool (Vec.upTo la lb i && decide (Vec.cnt lb ((i : Int) + 1) ≤ Vec.cnt la ((i : Int) + 1)))) ?_ ?_ ?_ 4 cs Hc6.out ?_ _ rfl ?_
             · rfl
             · rfl
             · rfl
             · rfl
             · rfl
             · kernel_rfl
             · have := Hcz.out; omega
             intro w7 hp7
             have Hp7 := Lib.hid hp7
             clear hp7))
        have hbut : Mem.But (· = g) w w7 := by
          have h1 : Mem.But (· = g) w w6 := (HR.out.but.trans (Mem.But.of_drewN (k4 + k5))).trans (Mem.But.of_put Hp6.out rfl)
          exact Mem.But.later h1 (Mem.But.of_put (S := (· = w.heap.size)) Hp7.out rfl) (fun k hk e => by omega)
        refine ⟨⟨i + 1, by push_cast; rfl, ⟨hl, hbut, ?_, ⟨_, Hp7.out.row, ?_⟩⟩⟩, by simp only [intOf]; omega⟩
        · have := (Hp7.out.other g hgw).trans Hp6.out.row
          rw [Vec.upTo_succ]
          exact this
        · have := Hcz.out
          simp
          omega
      · have hiN : i = N := by omega
        subst hiN
        go_wp2
        go_ret
        exact ⟨⟨_, rfl⟩, HR.out.box, HR.out.but⟩
end Go.Proofs.YtdnpiginkndpcaaDoor

/-! The walk of vect.Covers. -/
namespace Go.Proofs.YtdnpiginkndpcaaDoor
open Go.RowKit
open PVectAsks

set_option maxRecDepth 100000 in
set_option maxHeartbeats 2000000 in
theorem vect_covers (la lb : List Int) (La Lb : Nat) (hLa : la.length = La) (hLb : lb.length = Lb) (Aa Ab : Option Addr) (ca cb : Nat) (w : World)
    (hCa : Go.Proofs.YtdnpiginkndpcaaDoorW.PrintWords.Kd.C (Go.Proofs.YtdnpiginkndpcaaDoorW.PrintWords.Kd.int .i64) w Aa la.length la) (hca : la.length ≤ ca) (hCb : Go.Proofs.YtdnpiginkndpcaaDoorW.PrintWords.Kd.C (Go.Proofs.YtdnpiginkndpcaaDoorW.PrintWords.Kd.int .i64) w Ab lb.length lb) (hcb : lb.length ≤ cb) (hla : La ≤ 1000) (hlb : Lb ≤ 1000) :
    Calls Tryd.prog 15 #[.slice Aa La ca, .slice Ab Lb cb] w fun e w' => e = .returned (.bool (Vec.may la && Vec.may lb && Vec.covers la lb)) ∧ Below w.heap.size w w' := by
  have hMa := fun w1 h1 => vect_May.calls _ Aa ca la _ w1 h1 hca (Vec.may_eval la (by omega) (la.length + 1) (by omega))
  have hMb := fun w1 h1 => vect_May.calls _ Ab cb lb _ w1 h1 hcb (Vec.may_eval lb (by omega) (lb.length + 1) (by omega))
  rw [hLa] at hMa hCa
  rw [hLb] at hMb hCb
  have HMa := Lib.hid hMa
  have HMb := Lib.hid hMb
  have HCa := Lib.hid hCa
  have HCb := Lib.hid hCb
  clear hMa hMb hCa hCb
  cases hma : Vec.may la with
  | false =>
    rw [hma] at HMa
    go_enter Tryd.func15, Tryd.ntmps15
    go_wp2_with (
      go_at_call 16
      with_reducible refine (HMa.out _ HCa.out).mono ?_
      rintro e w1 ⟨rfl, hd1⟩)
    go_ret
    exact ⟨by simp, by obtain ⟨k, hk⟩ := hd1; rw [hk]; exact Mem.below_drewN (Below.refl _ _) _⟩
  | true =>
    rw [hma] at HMa
    cases hmb : Vec.may lb with
    | false =>
      rw [hmb] at HMb
      go_enter Tryd.func15, Tryd.ntmps15
      go_wp2_with (first
        | (go_at_call 16
           with_reducible refine (HMa.out _ HCa.out).mono ?_
           rintro e w1 ⟨rfl, hd1⟩
           have hb1 : Below w.heap.size w w1 := by obtain ⟨k, hk⟩ := hd1; rw [hk]; exact Mem.below_drewN (Below.refl _ _) _
           have HB1 := Lib.hid hb1
           clear hd1 hb1)
        | (go_at_call 16
           with_reducible refine (HMb.out _ (Go.Proofs.YtdnpiginkndpcaaDoorW.PrintWords.Kd.C_below HCb.out HB1.out)).mono ?_
           rintro e w2 ⟨rfl, hd2⟩
           have hb2 : Below w1.heap.size w1 w2 := by obtain ⟨k, hk⟩ := hd2; rw [hk]; exact Mem.below_drewN (Below.refl _ _) _
           have HB2 := Lib.hid hb2
           clear hd2 hb2))
      go_ret
      exact ⟨by simp, Mem.then_ HB1.out HB2.out⟩
    | true =>
      rw [hmb] at HMb
      have ha16 : la.length ≤ 16 := by
        unfold Vec.may at hma
        simp only [Bool.and_eq_true, decide_eq_true_eq] at hma
        exact hma.1.1
      have hb16 : lb.length ≤ 16 := by
        unfold Vec.may at hmb
        simp only [Bool.and_eq_true, decide_eq_true_eq] at hmb
        exact hmb.1.1
      obtain ⟨N, hN, hN1, hN2, hN3⟩ : ∃ N, ((La < Lb ∧ N = Lb) ∨ (¬ La < Lb ∧ N = La)) ∧ la.length ≤ N ∧ lb.length ≤ N ∧ N ≤ 16 := by
        by_cases h : La < Lb
        · exact ⟨Lb, .inl ⟨h, rfl⟩, by omega, by omega, by omega⟩
        · exact ⟨La, .inr ⟨h, rfl⟩, by omega, by omega, by omega⟩
      have HP := Lib.hid (fun g w1 k1 k2 k3 => pairs_bool la lb La Lb N hLa hLb hN Aa Ab ca cb g w1 k1 hca k2 hcb hla hlb k3)
      have HU := Lib.hid (Vec.upTo_covers la lb N hN1 hN2 hN3)
      have HLa := Lib.hid hLa
      have HLb := Lib.hid hLb
      clear hca hcb hma hmb ha16 hb16 hN hN1 hN2 hN3 hLa hLb
      go_enter Tryd.func15, Tryd.ntmps15
      go_upto_region 4 with (first
        | (go_at_call 16
           with_reducible refine (HMa.out _ HCa.out).mono ?_
           rintro e w1 ⟨rfl, hd1⟩
           have hb1 : Below w.heap.size w w1 := by obtain ⟨k, hk⟩ := hd1; rw [hk]; exact Mem.below_drewN (Below.refl _ _) _
           have HB1 := Lib.hid hb1
           clear hd1 hb1)
        | (go_at_call 16
           with_reducible refine (HMb.out _ (Go.Proofs.YtdnpiginkndpcaaDoorW.PrintWords.Kd.C_below HCb.out HB1.out)).mono ?_
           rintro e w2 ⟨rfl, hd2⟩
           have hb2 : Below w1.heap.size w1 w2 := by obtain ⟨k, hk⟩ := hd2; rw [hk]; exact Mem.below_drewN (Below.refl _ _) _
           have HB2 := Lib.hid (Mem.then_ HB1.out hb2)
           clear hd2 hb2))
      have hn3 := Mem.new_alloc w2 #[.bool true] 4
      generalize w2.alloc (.cells #[.bool true] 4) = w3 at hn3 ⊢
      have Hn3 := Lib.hid hn3
      have HB3 := Lib.hid (HB2.out.trans (hn3.below.mono HB2.out.size))
      have k1 : Go.Proofs.YtdnpiginkndpcaaDoorW.PrintWords.Kd.C (Go.Proofs.YtdnpiginkndpcaaDoorW.PrintWords.Kd.int .i64) w3 Aa la.length la := by rw [HLa.out]; exact Go.Proofs.YtdnpiginkndpcaaDoorW.PrintWords.Kd.C_below HCa.out HB3.out
      have k2 : Go.Proofs.YtdnpiginkndpcaaDoorW.PrintWords.Kd.C (Go.Proofs.YtdnpiginkndpcaaDoorW.PrintWords.Kd.int .i64) w3 Ab lb.length lb := by rw [HLb.out]; exact Go.Proofs.YtdnpiginkndpcaaDoorW.PrintWords.Kd.C_below HCb.out HB3.out
      have HP3 := Lib.hid (HP.out w2.heap.size w3 k1 k2 hn3.row)
      clear hn3 k1 k2
      go_wp2_with (
        go_at_call 37
        with_reducible refine HP3.out.mono ?_
        rintro e w4 ⟨⟨v, rfl⟩, hr4, hb4⟩
        have c4 : w4.cell? ⟨w2.heap.size, 0, none⟩ = _ := (cell_of_row _ _ 0 _ _ _ hr4).trans rfl
        have Hb4 := Lib.hid hb4
        clear hr4 hb4)
      go_ret
      rw [HU.out]
      refine ⟨by simp, HB3.out.trans (Hb4.out.below HB3.out.size (fun k hk => ?_))⟩
      subst hk
      exact HB2.out.size
end Go.Proofs.YtdnpiginkndpcaaDoor

/-! The walk of vect.Order. -/
namespace Go.Proofs.YtdnpiginkndpcaaDoor
open Go.RowKit
open PVectAsks

namespace Vec
def order (a b : List Int) : Int := if may a && may b then (if covers a b then (if covers b a then 0 else 1) else (if covers b a then 2 else 3)) else -1
theorem drawn_below {w1 w2 : World} (h : Go.Proofs.YtdnpiginkndpcaaDoorW.PrintWords.Drawn0 w1 w2) : Below w1.heap.size w1 w2 := by obtain ⟨k, hk⟩ := h; rw [hk]; exact Mem.below_drewN (Below.refl _ _) _
end Vec

set_option maxRecDepth 100000 in
set_option maxHeartbeats 2000000 in
theorem vect_order (la lb : List Int) (La Lb : Nat) (hLa : la.length = La) (hLb : lb.length = Lb) (Aa Ab : Option Addr) (ca cb : Nat) (w : World)
    (hCa : Go.Proofs.YtdnpiginkndpcaaDoorW.PrintWords.Kd.C (Go.Proofs.YtdnpiginkndpcaaDoorW.PrintWords.Kd.int .i64) w Aa la.length la) (hca : la.length ≤ ca) (hCb : Go.Proofs.YtdnpiginkndpcaaDoorW.PrintWords.Kd.C (Go.Proofs.YtdnpiginkndpcaaDoorW.PrintWords.Kd.int .i64) w Ab lb.length lb) (hcb : lb.length ≤ cb) (hla : La ≤ 1000) (hlb : Lb ≤ 1000) :
    Calls Tryd.prog 17 #[.slice Aa La ca, .slice Ab Lb cb] w fun e w' => e = .returned (.int .i64 (Vec.order la lb)) ∧ Below w.heap.size w w' := by
  have hMa := fun w1 h1 => vect_May.calls _ Aa ca la _ w1 h1 hca (Vec.may_eval la (by omega) (la.length + 1) (by omega))
  have hMb := fun w1 h1 => vect_May.calls _ Ab cb lb _ w1 h1 hcb (Vec.may_eval lb (by omega) (lb.length + 1) (by omega))
  have hK1 := fun w1 h1 h2 => vect_covers la lb La Lb hLa hLb Aa Ab ca cb w1 h1 hca h2 hcb hla hlb
  have hK2 := fun w1 h1 h2 => vect_covers lb la Lb La hLb hLa Ab Aa cb ca w1 h1 hcb h2 hca hlb hla
  rw [hLa] at hMa hCa hK1 hK2
  rw [hLb] at hMb hCb hK1 hK2
  have HMa := Lib.hid hMa
  have HMb := Lib.hid hMb
  have HCa := Lib.hid hCa
  have HCb := Lib.hid hCb
  obtain ⟨O, hO⟩ : ∃ O, Vec.order la lb = O := ⟨_, rfl⟩
  rw [hO]
  unfold Vec.order at hO
  obtain ⟨x, hx⟩ : ∃ x, Vec.may la = x := ⟨_, rfl⟩
  obtain ⟨y, hy⟩ : ∃ x, Vec.may lb = x := ⟨_, rfl⟩
  obtain ⟨p, hp⟩ : ∃ x, Vec.covers la lb = x := ⟨_, rfl⟩
  obtain ⟨q, hq⟩ : ∃ x, Vec.covers lb la = x := ⟨_, rfl⟩
  rw [hx, hy, hp, hq] at hO
  rw [hx] at HMa hK1 hK2
  rw [hy] at HMb hK1 hK2
  rw [hp] at hK1
  rw [hq] at hK2
  have HK1 := Lib.hid hK1
  have HK2 := Lib.hid hK2
  clear hMa hMb hCa hCb hca hcb hx hy hp hq hK1 hK2 hLa hLb
  cases x <;> cases y <;> cases p <;> cases q
  all_goals
    simp at hO
    subst hO
    go_enter Tryd.func17, Tryd.ntmps17
    go_wp2_with (first
      | (go_at_call 16
         with_reducible refine (HMa.out _ HCa.out).mono ?_
         rintro e w1 ⟨rfl, hd1⟩
         have HB := Lib.hid (Vec.drawn_below hd1)
         clear hd1)
      | (go_at_call 16
         with_reducible refine (HMb.out _ (Go.Proofs.YtdnpiginkndpcaaDoorW.PrintWords.Kd.C_below HCb.out HB.out)).mono ?_
         rintro e w2 ⟨rfl, hd2⟩
         have HBn := Lib.hid (Mem.then_ HB.out (Vec.drawn_below hd2))
         clear hd2 HB
         have HB := HBn
         clear HBn)
      | (go_at_call 15
         with_reducible refine (HK1.out _ (Go.Proofs.YtdnpiginkndpcaaDoorW.PrintWords.Kd.C_below HCa.out HB.out) (Go.Proofs.YtdnpiginkndpcaaDoorW.PrintWords.Kd.C_below HCb.out HB.out)).mono ?_
         rintro e w3 ⟨rfl, hb3⟩
         have HBn := Lib.hid (Mem.then_ HB.out hb3)
         clear hb3 HB
         have HB := HBn
         clear HBn)
      | (go_at_call 15
         with_reducible refine (HK2.out _ (Go.Proofs.YtdnpiginkndpcaaDoorW.PrintWords.Kd.C_below HCb.out HB.out) (Go.Proofs.YtdnpiginkndpcaaDoorW.PrintWords.Kd.C_below HCa.out HB.out)).mono ?_
         rintro e w4 ⟨rfl, hb4⟩
         have HBn := Lib.hid (Mem.then_ HB.out hb4)
         clear hb4 HB
         have HB := HBn
         clear HBn))
    go_ret
    exact ⟨rfl, HB.out⟩
end Go.Proofs.YtdnpiginkndpcaaDoor
