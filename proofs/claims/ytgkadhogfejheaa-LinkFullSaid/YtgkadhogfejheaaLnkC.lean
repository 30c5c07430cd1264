/- The walks of link.New and Send. -/
import Derived.Test.YtgkadhogfejheaaLnkB
import Derived.Deep.RegionLaw
import Derived.Carry
namespace Go.Proofs.Ytgkadhogfejheaa
open Go.RowKit

namespace Lnk
def start (n : Nat) : St := ⟨n, 0, 0, 0, 0, 0, 0, false, false, 0, [], fun _ => none, 0⟩
theorem start_lie (n : Nat) (w : World) : Lie ((w.alloc (.map #[] 0)).alloc (.cells ((start n).cells (.slice none 0 0) (.map (some w.heap.size))) 77 (0, 0))) (w.heap.size + 1) (fun k => k = w.heap.size + 1 ∨ k = w.heap.size) (start n) (.slice none 0 0) w.heap.size where
  row := by
    have := heap_alloc_new (w.alloc (.map #[] 0)) (.cells ((start n).cells (.slice none 0 0) (.map (some w.heap.size))) 77 (0, 0))
    simpa using this
  own := own_nil _ _
  map := mp_keep (mp_made w) (heap_alloc_old _ _ (by simp))
  gb := by omega
  og := by simp [Value.ownBlock]
  ob := by simp [Value.ownBlock]
  fg := .inl rfl
  fb := .inr rfl
  fo := fun k h => by simp [Value.ownBlock] at h
  lt := fun k h => by simp; omega
end Lnk

set_option maxHeartbeats 1000000 in
theorem link_new (n : Nat) (hn : 1 ≤ n ∧ n ≤ 16) (w : World) : Calls Try.prog 17 #[.int .i64 n] w fun e w' =>
    e = .returned (.tuple #[.pointer (some ⟨w.heap.size + 1, 0, none⟩), .int .i64 0]) ∧ Lnk.At w' (w.heap.size + 1) (fun k => k = w.heap.size + 1 ∨ k = w.heap.size) (Lnk.start n) ∧ Below w.heap.size w w' := by
  have h1 : ¬ (n : Int) < 1 := by omega
  have h2 : ¬ (16 : Int) < n := by omega
  have hmm := @run_makeMap Try.prog
  go_enter Try.func17, Try.ntmps17
  go_wp2
  refine bodyPost_ret (results_tmp2 rfl _ _ _) rfl ⟨rfl, ⟨_, _, Lnk.start_lie n w⟩, ?_⟩
  exact (((Below.refl _ _).alloc (Nat.le_refl _) _).alloc (by simp) _)

theorem link_new_at (z : Int) (n : Nat) (hz : z = n) (hn : 1 ≤ n ∧ n ≤ 16) (w : World) : Calls Try.prog 17 #[.int .i64 z] w fun e w' =>
    e = .returned (.tuple #[.pointer (some ⟨w.heap.size + 1, 0, none⟩), .int .i64 0]) ∧ Lnk.At w' (w.heap.size + 1) (fun k => k = w.heap.size + 1 ∨ k = w.heap.size) (Lnk.start n) ∧ Below w.heap.size w w' := by
  subst hz
  exact link_new n hn w

set_option maxHeartbeats 1000000 in
theorem link_new_bad (n : Int) (hn : n < 1 ∨ 16 < n) (w : World) : Calls Try.prog 17 #[.int .i64 n] w fun e w' =>
    e = .returned (.tuple #[.pointer none, .int .i64 1]) ∧ w' = w := by
  have hmm := @run_makeMap Try.prog
  by_cases h1 : n < 1
  · go_enter Try.func17, Try.ntmps17
    go_wp2
    exact bodyPost_ret (results_tmp2 rfl _ _ _) rfl ⟨rfl, rfl⟩
  · have h2 : (16 : Int) < n := by omega
    go_enter Try.func17, Try.ntmps17
    go_wp2
    exact bodyPost_ret (results_tmp2 rfl _ _ _) rfl ⟨rfl, rfl⟩

set_option maxHeartbeats 400000 in
theorem send_nil (s : ByteArray) (w : World) : Calls Try.prog 20 #[.pointer none, .string s] w fun e w' => e = .returned (.int .i64 1) ∧ w' = w := by
  go_enter Try.func20, Try.ntmps20
  go_wp2
  go_ret
  exact ⟨rfl, rfl⟩

set_option maxHeartbeats 1000000 in
theorem send_full (g : Nat) (F : Nat → Prop) (e : Lnk.St) (s : ByteArray) (hs : s.size ≤ 1048576) (hl : e.out.length = 64) (w : World) (h : Lnk.At w g F e) :
    Calls Try.prog 20 #[.pointer (some ⟨g, 0, none⟩), .string s] w fun e' w' => e' = .returned (.int .i64 6) ∧ w' = w := by
  obtain ⟨out, b, h⟩ := h
  obtain ⟨A, cap, rfl, h1, h2⟩ := h.own.form
  rw [hl] at h
  have c2 : w.cell? ⟨g, 2, none⟩ = some (.slice A 64 cap) := (cell_of_row _ _ 2 _ _ _ h.row).trans rfl
  have hd : ¬ 1048576 < (s.size : Int) := by omega
  clear h
  go_enter Try.func20, Try.ntmps20
  go_wp2
  go_ret
  exact ⟨rfl, rfl⟩

namespace Lnk
def send (e : St) (s : List UInt8) : St := { e with given := e.given + 1, out := e.out ++ [⟨e.given + 1, 0, 0, s⟩] }
end Lnk
set_option maxRecDepth 100000 in
set_option maxHeartbeats 1000000 in
theorem send_ok (g : Nat) (F : Nat → Prop) (e : Lnk.St) (s : List UInt8) (hs : s.length ≤ 1048576) (hl : e.out.length < 64) (hg : e.given < 1099511627776) (w : World) (h : Lnk.At w g F e) :
    Calls Try.prog 20 #[.pointer (some ⟨g, 0, none⟩), .string (Mem.str s)] w fun e' w' => e' = .returned (.int .i64 0) ∧
      Mem.But F w w' ∧ ∃ F', Lnk.At w' g F' (Lnk.send e s) ∧ ∀ k, F' k → F k ∨ w.heap.size ≤ k := by
  obtain ⟨site, now, given, top, got, mean, dev, any, owed, refused, l, early, room⟩ := e
  obtain ⟨out, b, h⟩ := h
  obtain ⟨A, cap, rfl, h1, h2⟩ := h.own.form
  have row := h.row
  unfold Lnk.St.cells at row
  simp only at row hg hl h1
  have cc := fun i => cell_of_row _ _ i _ _ _ row
  have cf := fun i => frozen_of_row w g i _ _ row
  have hsz0 : (Mem.str s).size = s.length := Mem.str_size s
  have hd : ¬ 1048576 < (s.length : Int) := by omega
  have hl2 : ¬ (l.length : Int) = 64 := by omega
  have hg2 : ¬ (given : Int) = 1099511627776 := by omega
  have hw : wrap64 (given + 1) = (given : Int) + 1 := by unfold wrap64; omega
  have H := Lib.hid h
  have R := Lib.hid row
  have HG := Lib.hid hg
  clear h row hg
  go_enter Try.func20, Try.ntmps20
  go_wp2
  have p1 : Mem.Put w (w.setCell ⟨g, 3, none⟩ (.int .i64 ((given : Int) + 1))) g _ 77 := Mem.put_setCell w g 3 (.int .i64 ((given : Int) + 1)) _ _ R.out
  generalize w.setCell ⟨g, 3, none⟩ (.int .i64 ((given : Int) + 1)) = w1 at p1 ⊢
  have P1 := Lib.hid p1
  have b1 : Mem.But (· = g) w w1 := Mem.But.of_put p1 rfl
  have o1 := Lib.hid (H.out.own.keep fun k hk ho => p1.other k (fun e => H.out.og (e ▸ ho)))
  have B1 := Lib.hid b1
  have r1 := p1.row
  clear p1 b1 cc cf
  have c2 : w1.cell? ⟨g, 2, none⟩ = some (.slice A l.length cap) := (cell_of_row _ _ 2 _ _ _ r1).trans rfl
  have c3 : w1.cell? ⟨g, 3, none⟩ = some (.int .i64 ((given : Int) + 1)) := (cell_of_row _ _ 3 _ _ _ r1).trans rfl
  have f2 := frozen_of_row w1 g 2 _ _ r1
  have R1 := Lib.hid r1
  clear r1
  obtain ⟨i, hi, hz, hz1, hz2⟩ := info_parts Lnk.info_wt
  have hA : some g ≠ (Value.slice A l.length cap).ownBlock := fun e => H.out.og e.symm
  have hsz : w1.heap.size = w.heap.size := P1.out.size
  have hgw : g < w1.heap.size := by rw [hsz]; exact H.out.lt g H.out.fg
  have kB : ∀ o, Below w1.heap.size w1 (w1.alloc o).drew := fun o => ((Below.refl w1.heap.size w1).alloc (Nat.le_refl _) o).drew
  have ca : ∀ o, (w1.alloc o).cell? ⟨g, 2, none⟩ = some (.slice A l.length cap) := fun o => Mem.keep ((Below.refl w1.heap.size w1).alloc (Nat.le_refl _) o) c2
  go_region_law (first
    | (refine Mem.step_append_row _ rfl (.tmp 37) (.tmp 44) 73 rfl 0 80 i _ 4 40 Try.underlying73 hi hz hz1 hz2 rfl (.slice A l.length cap) l.length (Lnk.flat l) rfl (Mem.Row.drew (Mem.Row.alloc o1.out _))
        ⟨w.heap.size, 0, none⟩ 1 1 [.int .i64 ((given : Int) + 1), .int .i64 0, .int .i64 0, .string (Mem.str s)] rfl rfl (World.news_of_block (hsz ▸ heap_alloc_new w1 _)) (by intro u hu; simp at hu; rcases hu with rfl | rfl | rfl | rfl <;> rfl) (by omega) (by unfold maxLen; omega) (by omega) (by omega) ?_
       intro v' w2 hown hgrow hat
       obtain ⟨A', cap', hv', _, _⟩ := hown.form
       subst hv'
       have fc := (hgrow.cell_far ⟨g, 2, none⟩ (by simp; omega) hA).trans (Mem.keep (kB _) c2)
       have ff := (hgrow.frozen_far ⟨g, 2, none⟩ (by simp; omega) hA).trans (((kB _).frozen hgw).trans f2)))
  all_goals
    have FC := Lib.hid fc
    clear fc c2 c3 f2 ff ca
    go_wp2
    go_ret
    have hS := H.out
    have hgr := (hgrow.block g (by simp; omega) hA).trans (((kB _).block g hgw).trans R1.out)
    generalize (Value.slice A' (l.length + 1) cap') = v' at *
    have p3 := Mem.put_setCell w2 g 2 v' _ _ hgr
    have hv : v'.ownBlock ≠ some g := fun e => by
      rcases hat with e2 | e2
      · exact hS.og (e2 ▸ e)
      · rw [e2] at e; simp at e; omega
    have hlt2 : w2.heap.size = (w2.setCell ⟨g, 2, none⟩ v').heap.size := by simp
    have hbut : Mem.But F w1 w2 := by
      refine ⟨hgrow.os, hgrow.tape, hgrow.output, ?_, fun k hk hF => ?_⟩
      · have := hgrow.size; simp at this; omega
      · exact (hgrow.block k (by simp; omega) (fun e => hF (hS.fo k e.symm))).trans ((kB _).block k hk)
    have hall : Mem.But F w (w2.setCell ⟨g, 2, none⟩ v') := (B1.out.mono fun k _ e => e ▸ hS.fg).trans (hbut.trans (Mem.But.of_setCell _ _ hS.fg))
    refine ⟨rfl, hall, fun k => F k ∨ v'.ownBlock = some k, ⟨v', b, ?_⟩, fun k hk => ?_⟩
    · refine { row := p3.row, own := ?_, map := ?_, gb := hS.gb, og := hv, ob := ?_, fg := .inl hS.fg, fb := .inl hS.fb, fo := fun k hk => .inr hk, lt := fun k hk => ?_ }
      · exact (Lnk.own_snoc hown).keep fun k _ ho => p3.other k fun e => hv (e ▸ ho)
      · refine Lnk.mp_keep hS.map ?_
        rw [p3.other b (Ne.symm hS.gb), hgrow.block b (by have := Lnk.mp_lt hS.map; simp; omega) (fun e => hS.ob e.symm), (kB _).block b (by have := Lnk.mp_lt hS.map; omega)]
        exact P1.out.other b (Ne.symm hS.gb)
      · intro e
        rcases hat with e2 | e2
        · exact hS.ob (e2 ▸ e)
        · have := Lnk.mp_lt hS.map
          rw [e2] at e; simp at e; omega
      · have hlt : w.heap.size ≤ (w2.setCell ⟨g, 2, none⟩ v').heap.size := hall.size
        rcases hk with hk | hk
        · exact Nat.lt_of_lt_of_le (hS.lt k hk) hlt
        · rw [← hlt2]
          exact (hown.block hk).2
    · rcases hk with hk | hk
      · exact .inl hk
      · rcases hat with e2 | e2
        · exact .inl (hS.fo k (e2 ▸ hk))
        · rw [e2] at hk
          simp at hk
          omega
end Go.Proofs.Ytgkadhogfejheaa
