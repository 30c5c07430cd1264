/- The walk of pairs over what Covers hands on. -/
import Derived.Test.YtdnpiginkndpcaaDoorVecP
import Derived.Test.YtdnpiginkndpcaaDoorCell
namespace Go.Proofs.YtdnpiginkndpcaaDoor
open Go.RowKit

set_option maxRecDepth 100000 in
theorem covers_one (x y : Int) (r : Bool) (g : Nat) (w : World) (hg : w.heap[g]? = some (.cells #[.bool r] 4 (0, 0))) :
    Calls Tryd.prog 38 #[.int .i64 x, .int .i64 y, .pointer (some ⟨g, 0, none⟩)] w fun e w' => e = .returned (.bool (r && decide (y ≤ x))) ∧ Mem.Put w w' g #[.bool (r && decide (y ≤ x))] 4 := by
  have c0 : w.cell? ⟨g, 0, none⟩ = some (.bool r) := (cell_of_row _ _ 0 _ _ _ hg).trans rfl
  have f0 := frozen_of_row _ g 0 _ _ hg
  have Hg := Lib.hid hg
  clear hg
  cases r with
  | false =>
    go_enter Tryd.func38, Tryd.ntmps38
    go_wp2
    go_ret
    exact ⟨rfl, Mem.put_setCell w g 0 (.bool false) _ _ Hg.out⟩
  | true =>
    obtain ⟨d, hd⟩ : ∃ d, decide (y ≤ x) = d := ⟨_, rfl⟩
    go_enter Tryd.func38, Tryd.ntmps38
    go_wp2
    go_ret
    rw [Bool.true_and, hd]
    exact ⟨rfl, Mem.put_setCell w g 0 (.bool d) _ _ Hg.out⟩

namespace Vec
open PVectAsks Go.Proofs.YtdnpiginkndpcaaDoorW.PrintWords
def upTo (a b : List Int) (n : Nat) : Bool := (List.range n).all fun i => decide (cnt b (i + 1 : Nat) ≤ cnt a (i + 1 : Nat))
theorem upTo_succ (a b : List Int) (n : Nat) : upTo a b (n + 1) = (upTo a b n && decide (cnt b (n + 1 : Nat) ≤ cnt a (n + 1 : Nat))) := by unfold upTo; rw [List.range_succ, List.all_append]; simp
theorem cnt_out (l : List Int) (n : Nat) (h : l.length ≤ n) : cnt l (n + 1 : Nat) = 0 := by unfold cnt; rw [if_neg (by omega)]
theorem upTo_more (a b : List Int) (n : Nat) (ha : a.length ≤ n) (hb : b.length ≤ n) : ∀ d, upTo a b (n + d) = upTo a b n := by
  intro d
  induction d with
  | zero => rfl
  | succ d ih =>
    rw [← Nat.add_assoc, upTo_succ, ih, cnt_out a _ (by omega), cnt_out b _ (by omega)]
    simp
theorem upTo_covers (a b : List Int) (n : Nat) (ha : a.length ≤ n) (hb : b.length ≤ n) (hn : n ≤ 16) : upTo a b n = covers a b := by
  obtain ⟨d, hd⟩ : ∃ d, 16 = n + d := ⟨16 - n, by omega⟩
  have := upTo_more a b n ha hb d
  rw [← hd] at this
  exact this.symm
/-- a list of numbers is read on when a box of another kind has been written -/
theorem reads_but {w w1 : World} {A : Option Addr} {n : Nat} {l : List Int} {g : Nat} {r : Bool} (h : Kd.C (Kd.int .i64) w A n l) (hg : w.heap[g]? = some (.cells #[.bool r] 4 (0, 0))) (hb : Mem.But (· = g) w w1) : Kd.C (Kd.int .i64) w1 A n l := by
  refine ⟨h.1, h.2.1, fun hn => ?_⟩
  obtain ⟨ad, rfl, hc⟩ := h.2.2 hn
  refine ⟨ad, rfl, fun j p hj => ?_⟩
  obtain ⟨c, h1, h2, h3⟩ := hc j p hj
  have h2' : c = [.int .i64 p] := h2
  subst h2'
  refine ⟨_, h1, h2, fun i u hu => ?_⟩
  have h4 := h3 i u hu
  have hu' : u = .int .i64 p := by
    cases i with
    | zero => simpa using hu.symm
    | succ i => simp at hu
  refine (World.cell?_of_block (hb.block _ (block_lt_of_cell h4) (fun e => ?_))).trans h4
  unfold World.cell? at h4
  rw [e, hg, hu'] at h4
  simp only at h4
  split at h4
  · cases h4
  · rename_i hs
    have := Array.getElem?_eq_some_iff.1 h4
    obtain ⟨k, hk⟩ := this
    have k0 : (ad.add (j * (Kd.int .i64).sz + i)).off = 0 := by simpa using k
    simp [k0] at hk
theorem info_bool : (Tryd.prog.info? 4).map (fun i => (i.zero, i.size, i.bytes)) = some (some (.bool false), 1, 1) := by kernel_rfl
structure PB (la lb : List Int) (g o : Nat) (w0 : World) (N i : Nat) (wr : World) : Prop where
  hi : i ≤ N
  but : Mem.But (· = g) w0 wr
  box : wr.heap[g]? = some (.cells #[.bool (upTo la lb i)] 4 (0, 0))
  row : ∃ cs, wr.heap[o]? = some (.cells cs 4 (0, 0)) ∧ cs.size = N
end Vec
open PVectAsks

set_option maxRecDepth 100000 in
set_option maxHeartbeats 2000000 in
theorem pairs_bool (la lb : List Int) (La Lb N : Nat) (hLa : la.length = La) (hLb : lb.length = Lb) (hN : (La < Lb ∧ N = Lb) ∨ (¬ La < Lb ∧ N = La)) (Aa Ab : Option Addr) (ca cb g : Nat) (w : World)
    (hCa : Go.Proofs.YtdnpiginkndpcaaDoorW.PrintWords.Kd.C (Go.Proofs.YtdnpiginkndpcaaDoorW.PrintWords.Kd.int .i64) w Aa la.length la) (hca : la.length ≤ ca) (hCb : Go.Proofs.YtdnpiginkndpcaaDoorW.PrintWords.Kd.C (Go.Proofs.YtdnpiginkndpcaaDoorW.PrintWords.Kd.int .i64) w Ab lb.length lb) (hcb : lb.length ≤ cb) (hla : La ≤ 1000) (hlb : Lb ≤ 1000)
    (hg : w.heap[g]? = some (.cells #[.bool true] 4 (0, 0))) :
    Calls Tryd.prog 37 #[.slice Aa La ca, .slice Ab Lb cb, .func (.func 38) #[] #[.pointer (some ⟨g, 0, none⟩)]] w fun e w' => (∃ v, e = .returned v) ∧ w'.heap[g]? = some (.cells #[.bool (Vec.upTo la lb N)] 4 (0, 0)) ∧ Mem.But (· = g) w w' := by
  have HCa := Lib.hid hCa
  have HCb := Lib.hid hCb
  have Hg := Lib.hid hg
  have HLa := Lib.hid hLa
  have HLb := Lib.hid hLb
  clear hCa hCb hg hLa hLb
  rcases hN with ⟨hlt, rfl⟩ | ⟨hlt, rfl⟩
  · have hlt' : (La : Int) < (N : Int) := by omega
    go_enter Tryd.func37, Tryd.ntmps37
    go_wp2_with (
      with_reducible refine Mem.wpList_make (o := ⟨some 14, _, _, _, _, _⟩) ?_ (.tmp 13) (.tmp 13) 55 4 ?_ Tryd.underlying55 (.bool false) 1 1 Vec.info_bool .i64 .i64 N N ?_ ?_ ?_ ?_ ?_ ?_ ?_
      · rfl
      · rfl
      · rfl
      · rfl
      · omega
      · omega
      · omega
      · omega
      intro w3 hn3
      have Hn3 := Lib.hid hn3
      clear hn3)
    have hgw : g ≠ w.heap.size := by have := (Array.getElem?_eq_some_iff.1 Hg.out).1; omega
    go_loopw [8, 17] (fun t8 t17 wr => ∃ i : Nat, t17 = .int .i64 i ∧ Vec.PB la lb g w.heap.size w N i wr) (fun _ t17 _ => N - (intOf t17).toNat)
    case atStart =>
      refine ⟨0, rfl, ⟨Nat.zero_le _, (Mem.But.of_new Hn3.out), ?_, ⟨_, Hn3.out.row, by simp [madeCells]⟩⟩⟩
      exact (Hn3.out.old (Array.getElem?_eq_some_iff.1 Hg.out).1).trans Hg.out
    case round =>
      obtain ⟨i, rfl, R⟩ := hrel
      have HR := Lib.hid R
      have hi := R.hi
      clear R
      by_cases hl : i < N
      · have d1 : (i : Int) < (N : Int) := by omega
        have d2 : (0 : Int) ≤ (i : Int) := by omega
        have Hca2 := Lib.hid (show _ from fun w1 (k1 : Go.Proofs.YtdnpiginkndpcaaDoorW.PrintWords.Kd.C (Go.Proofs.YtdnpiginkndpcaaDoorW.PrintWords.Kd.int .i64) w1 Aa La la) => show Calls Tryd.prog 40 #[.slice Aa La ca, .int .i64 ((i : Int) + 1)] w1 fun e w' => e = .returned (.int .i64 (Vec.cnt la ((i : Int) + 1))) ∧ Go.Proofs.YtdnpiginkndpcaaDoorW.PrintWords.Drawn0 w1 w' by
          have := vect_count.calls Aa ca la ((i : Int) + 1) _ w1 (by rw [HLa.out]; exact k1) hca (Vec.count_eval la _ (by rw [HLa.out]; omega))
          rw [HLa.out] at this
          exact this)
        have Hcb2 := Lib.hid (show _ from fun w1 (k1 : Go.Proofs.YtdnpiginkndpcaaDoorW.PrintWords.Kd.C (Go.Proofs.YtdnpiginkndpcaaDoorW.PrintWords.Kd.int .i64) w1 Ab N lb) => show Calls Tryd.prog 40 #[.slice Ab N cb, .int .i64 ((i : Int) + 1)] w1 fun e w' => e = .returned (.int .i64 (Vec.cnt lb ((i : Int) + 1))) ∧ Go.Proofs.YtdnpiginkndpcaaDoorW.PrintWords.Drawn0 w1 w' by
          have := vect_count.calls Ab cb lb ((i : Int) + 1) _ w1 (by rw [HLb.out]; exact k1) hcb (Vec.count_eval lb _ (by rw [HLb.out]; omega))
          rw [HLb.out] at this
          exact this)
        have HRa := Lib.hid (show Go.Proofs.YtdnpiginkndpcaaDoorW.PrintWords.Kd.C (Go.Proofs.YtdnpiginkndpcaaDoorW.PrintWords.Kd.int .i64) wr Aa La la by have := Vec.reads_but HCa.out Hg.out HR.out.but; rw [HLa.out] at this; exact this)
        have HRb := Lib.hid (show Go.Proofs.YtdnpiginkndpcaaDoorW.PrintWords.Kd.C (Go.Proofs.YtdnpiginkndpcaaDoorW.PrintWords.Kd.int .i64) wr Ab N lb by have := Vec.reads_but HCb.out Hg.out HR.out.but; rw [HLb.out] at this; exact this)
        obtain ⟨cs, hcs, hcz⟩ := HR.out.row
        have Hcs := Lib.hid hcs
        have Hcz := Lib.hid hcz
        clear hcs hcz hca hcb
        go_wp2_with (first
          | (go_at_call 40
             with_reducible refine (Hca2.out _ HRa.out).mono ?_
             rintro e w4 ⟨rfl, hd4⟩
             have hb4 : ∃ k, w4 = wr.drewN k := by obtain ⟨k, hk⟩ := hd4; exact ⟨k, hk⟩
             obtain ⟨k4, rfl⟩ := hb4)
          | (go_at_call 40
             with_reducible refine (Hcb2.out _ (Go.Proofs.YtdnpiginkndpcaaDoorW.PrintWords.Kd.C_below HRb.out (Mem.below_drewN (Below.refl _ _) _))).mono ?_
             rintro e w5 ⟨rfl, hd5⟩
             have hb5 : ∃ k, w5 = (wr.drewN k4).drewN k := by obtain ⟨k, hk⟩ := hd5; exact ⟨k, hk⟩
             obtain ⟨k5, rfl⟩ := hb5)
          | (go_at_call 38
             refine (covers_one _ _ (Vec.upTo la lb i) g (wr.drewN (k4 + k5)) (show (wr.drewN (k4 + k5)).heap[g]? = _ from HR.out.box)).mono ?_
             rintro e w6 ⟨rfl, hp6⟩
             have hc6 : w6.heap[w.heap.size]? = some (.cells cs 4 (0, 0)) := (hp6.other _ (Ne.symm hgw)).trans Hcs.out
             have Hc6 := Lib.hid hc6
             have Hp6 := Lib.hid hp6
             clear hp6 hc6)
          | (with_reducible refine Mem.wpList_store_cell (o := ⟨none, .store 4 (.tmp 32) (.tmp 31), _, _, _, _⟩) ?_ 4 (.tmp 32) (.tmp 31) ?_ w.heap.size i ?_ (.bool (Vec.upTo la lb i && decide (Vec.cnt lb ((i : Int) + 1) ≤ Vec.cnt la ((i : Int) + 1)))) ?_ ?_ ?_ 4 cs Hc6.out ?_ _ rfl ?_
             · rfl
             · rfl
             · rfl
             · rfl
             · rfl
             · kernel_rfl
             · have := Hcz.out; omega
             intro w7 hp7
             have Hp7 := Lib.hid hp7
             clear hp7))
        have hbut : Mem.But (· = g) w w7 := by
          have h1 : Mem.But (· = g) w w6 := (HR.out.but.trans (Mem.But.of_drewN (k4 + k5))).trans (Mem.But.of_put Hp6.out rfl)
          exact Mem.But.later h1 (Mem.But.of_put (S := (· = w.heap.size)) Hp7.out rfl) (fun k hk e => by omega)
        refine ⟨⟨i + 1, by push_cast; rfl, ⟨hl, hbut, ?_, ⟨_, Hp7.out.row, ?_⟩⟩⟩, by simp only [intOf]; omega⟩
        · have := (Hp7.out.other g hgw).trans Hp6.out.row
          rw [Vec.upTo_succ]
          exact this
        · have := Hcz.out
          simp
          omega
      · have hiN : i = N := by omega
        subst hiN
        go_wp2
        go_ret
        exact ⟨⟨_, rfl⟩, HR.out.box, HR.out.but⟩
  · have hlt' : ¬ (N : Int) < (Lb : Int) := by omega
    go_enter Tryd.func37, Tryd.ntmps37
    go_wp2_with (
      with_reducible refine Mem.wpList_make (o := ⟨some 14, _, _, _, _, _⟩) ?_ (.tmp 13) (.tmp 13) 55 4 ?_ Tryd.underlying55 (.bool false) 1 1 Vec.info_bool .i64 .i64 N N ?_ ?_ ?_ ?_ ?_ ?_ ?_
      · rfl
      · rfl
      · rfl
      · rfl
      · omega
      · omega
      · omega
      · omega
      intro w3 hn3
      have Hn3 := Lib.hid hn3
      clear hn3)
    have hgw : g ≠ w.heap.size := by have := (Array.getElem?_eq_some_iff.1 Hg.out).1; omega
    go_loopw [8, 17] (fun t8 t17 wr => ∃ i : Nat, t17 = .int .i64 i ∧ Vec.PB la lb g w.heap.size w N i wr) (fun _ t17 _ => N - (intOf t17).toNat)
    case atStart =>
      refine ⟨0, rfl, ⟨Nat.zero_le _, (Mem.But.of_new Hn3.out), ?_, ⟨_, Hn3.out.row, by simp [madeCells]⟩⟩⟩
      exact (Hn3.out.old (Array.getElem?_eq_some_iff.1 Hg.out).1).trans Hg.out
    case round =>
      obtain ⟨i, rfl, R⟩ := hrel
      have HR := Lib.hid R
      have hi := R.hi
      clear R
      by_cases hl : i < N
      · have d1 : (i : Int) < (N : Int) := by omega
        have d2 : (0 : Int) ≤ (i : Int) := by omega
        have Hca2 := Lib.hid (show _ from fun w1 (k1 : Go.Proofs.YtdnpiginkndpcaaDoorW.PrintWords.Kd.C (Go.Proofs.YtdnpiginkndpcaaDoorW.PrintWords.Kd.int .i64) w1 Aa N la) => show Calls Tryd.prog 40 #[.slice Aa N ca, .int .i64 ((i : Int) + 1)] w1 fun e w' => e = .returned (.int .i64 (Vec.cnt la ((i : Int) + 1))) ∧ Go.Proofs.YtdnpiginkndpcaaDoorW.PrintWords.Drawn0 w1 w' by
          have := vect_count.calls Aa ca la ((i : Int) + 1) _ w1 (by rw [HLa.out]; exact k1) hca (Vec.count_eval la _ (by rw [HLa.out]; omega))
          rw [HLa.out] at this
          exact this)
        have Hcb2 := Lib.hid (show _ from fun w1 (k1 : Go.Proofs.YtdnpiginkndpcaaDoorW.PrintWords.Kd.C (Go.Proofs.YtdnpiginkndpcaaDoorW.PrintWords.Kd.int .i64) w1 Ab Lb lb) => show Calls Tryd.prog 40 #[.slice Ab Lb cb, .int .i64 ((i : Int) + 1)] w1 fun e w' => e = .returned (.int .i64 (Vec.cnt lb ((i : Int) + 1))) ∧ Go.Proofs.YtdnpiginkndpcaaDoorW.PrintWords.Drawn0 w1 w' by
          have := vect_count.calls Ab cb lb ((i : Int) + 1) _ w1 (by rw [HLb.out]; exact k1) hcb (Vec.count_eval lb _ (by rw [HLb.out]; omega))
          rw [HLb.out] at this
          exact this)
        have HRa := Lib.hid (show Go.Proofs.YtdnpiginkndpcaaDoorW.PrintWords.Kd.C (Go.Proofs.YtdnpiginkndpcaaDoorW.PrintWords.Kd.int .i64) wr Aa N la by have := Vec.reads_but HCa.out Hg.out HR.out.but; rw [HLa.out] at this; exact this)
        have HRb := Lib.hid (show Go.Proofs.YtdnpiginkndpcaaDoorW.PrintWords.Kd.C (Go.Proofs.YtdnpiginkndpcaaDoorW.PrintWords.Kd.int .i64) wr Ab Lb lb by have := Vec.reads_but HCb.out Hg.out HR.out.but; rw [HLb.out] at this; exact this)
        obtain ⟨cs, hcs, hcz⟩ := HR.out.row
        have Hcs := Lib.hid hcs
        have Hcz := Lib.hid hcz
        clear hcs hcz hca hcb
        go_wp2_with (first
          | (go_at_call 40
             with_reducible refine (Hca2.out _ HRa.out).mono ?_
             rintro e w4 ⟨rfl, hd4⟩
             have hb4 : ∃ k, w4 = wr.drewN k := by obtain ⟨k, hk⟩ := hd4; exact ⟨k, hk⟩
             obtain ⟨k4, rfl⟩ := hb4)
          | (go_at_call 40
             with_reducible refine (Hcb2.out _ (Go.Proofs.YtdnpiginkndpcaaDoorW.PrintWords.Kd.C_below HRb.out (Mem.below_drewN (Below.refl _ _) _))).mono ?_
             rintro e w5 ⟨rfl, hd5⟩
             have hb5 : ∃ k, w5 = (wr.drewN k4).drewN k := by obtain ⟨k, hk⟩ := hd5; exact ⟨k, hk⟩
             obtain ⟨k5, rfl⟩ := hb5)
          | (go_at_call 38
             refine (covers_one _ _ (Vec.upTo la lb i) g (wr.drewN (k4 + k5)) (show (wr.drewN (k4 + k5)).heap[g]? = _ from HR.out.box)).mono ?_
             rintro e w6 ⟨rfl, hp6⟩
             have hc6 : w6.heap[w.heap.size]? = some (.cells cs 4 (0, 0)) := (hp6.other _ (Ne.symm hgw)).trans Hcs.out
             have Hc6 := Lib.hid hc6
             have Hp6 := Lib.hid hp6
             clear hp6 hc6)
          | (with_reducible refine Mem.wpList_store_cell (o := ⟨none, .store 4 (.tmp 32) (.tmp 31), _, _, _, _⟩) ?_ 4 (.tmp 32) (.tmp 31) ?_ w.heap.size i ?_ (.bool (Vec.upTo la lb i && decide (Vec.cnt lb ((i : Int) + 1) ≤ Vec.cnt la ((i : Int) + 1)))) ?_ ?_ ?_ 4 cs Hc6.out ?_ _ rfl ?_
             · rfl
             · rfl
             · rfl
             · rfl
             · rfl
             · kernel_rfl
             · have := Hcz.out; omega
             intro w7 hp7
             have Hp7 := Lib.hid hp7
             clear hp7))
        have hbut : Mem.But (· = g) w w7 := by
          have h1 : Mem.But (· = g) w w6 := (HR.out.but.trans (Mem.But.of_drewN (k4 + k5))).trans (Mem.But.of_put Hp6.out rfl)
          exact Mem.But.later h1 (Mem.But.of_put (S := (· = w.heap.size)) Hp7.out rfl) (fun k hk e => by omega)
        refine ⟨⟨i + 1, by push_cast; rfl, ⟨hl, hbut, ?_, ⟨_, Hp7.out.row, ?_⟩⟩⟩, by simp only [intOf]; omega⟩
        · have := (Hp7.out.other g hgw).trans Hp6.out.row
          rw [Vec.upTo_succ]
          exact this
        · have := Hcz.out
          simp
          omega
      · have hiN : i = N := by omega
        subst hiN
        go_wp2
        go_ret
        exact ⟨⟨_, rfl⟩, HR.out.box, HR.out.but⟩
end Go.Proofs.YtdnpiginkndpcaaDoor
