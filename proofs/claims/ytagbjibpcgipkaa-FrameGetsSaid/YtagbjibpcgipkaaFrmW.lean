/- The laws of chapter 05: FrameGets. -/
import Derived.Test.YtagbjibpcgipkaaFrmV
namespace Go.Proofs.Ytagbjibpcgipkaa
open Go.RowKit

theorem frame_refget (s : List UInt8) (hs : s.length < 2 ^ 61) (w : World) :
    Calls Try.prog 15 #[.string (Mem.str s)] w fun e w' => e = .returned (.tuple #[Frm.val (Frm.get s).1, .int .i64 (Frm.get s).2]) ∧ Below w.heap.size w w' :=
  PFrameGets.foolscapref05_Get.calls (10 * s.length + 101) (Mem.str s) _ _ _ _ _ _ w (RefN.get_eq s hs _ (by omega))

namespace Frm
theorem eq_frames (f g : F) (w : World) : (Op.equalIn 10000 23 (.agg (cells f)) (.agg (cells g))).run Try.prog w =
    .ok (f.kind == g.kind && (f.site == g.site && (f.seq == g.seq && (f.ack == g.ack && ((Mem.str f.body).toList == (Mem.str g.body).toList))))) w := by
  obtain ⟨k, s, q, a, b⟩ := f
  obtain ⟨k', s', q', a', b'⟩ := g
  unfold cells
  cases h1 : (k == k') <;> cases h2 : (s == s') <;> cases h3 : (q == q') <;> cases h4 : (a == a') <;> cases h5 : ((Mem.str b).toList == (Mem.str b').toList) <;> go_simp
theorem eq_same (f : F) (w : World) : (Op.equalIn 10000 23 (.agg #[.int .i64 f.kind, .int .i64 f.site, .int .i64 f.seq, .int .i64 f.ack, .string (Mem.str f.body)]) (.agg #[.int .i64 f.kind, .int .i64 f.site, .int .i64 f.seq, .int .i64 f.ack, .string (Mem.str f.body)])).run Try.prog w = .ok true w :=
  (eq_frames f f w).trans (by simp)
end Frm

set_option maxRecDepth 100000 in
set_option maxHeartbeats 1000000 in
theorem frameGets_main (s : List UInt8) (w : World) (hb : s.length ≤ 3000) :
    Calls Try.prog 4 #[.string (Mem.str s)] w fun e w' => e = .returned (.bool true) ∧ Below w.heap.size w w' := by
  have hsz := Mem.str_size s
  have hd : decide ((3000 : Int) < s.length) = false := by rw [decide_eq_false_iff_not]; omega
  have hi : ¬ (3000 : Int) < s.length := by omega
  have Hl := Lib.hid (show s.length < 2 ^ 61 by omega)
  obtain ⟨f, hf⟩ : ∃ f, (Frm.get s).1 = f := ⟨_, rfl⟩
  obtain ⟨c, hc⟩ : ∃ c, (Frm.get s).2 = c := ⟨_, rfl⟩
  have Hf := Lib.hid hf
  have Hc := Lib.hid hc
  clear hb hf hc
  go_enter Try.func4, Try.ntmps4
  go_wp2_with (first
    | (go_at_call 8
       refine (frame_alive _).mono ?_
       rintro e w2 ⟨rfl, hb2⟩
       have Hb2 := Lib.hid hb2
       clear hb2)
    | (go_at_call 14
       refine (frame_get s Hl.out _).mono ?_
       rw [Hf.out, Hc.out]
       rintro e w3 ⟨rfl, hb3⟩
       have Hb3 := Lib.hid hb3
       clear hb3)
    | (refine Mem.wpList_alloc (o := ⟨some 3, _, _, _, _, _⟩) rfl 28 rfl _ Frm.zero_frame ?_
       intro w4 hn4
       have Hn4 := Lib.hid hn4
       clear hn4)
    | (refine Mem.wpList_store rfl 28 (.tmp 3) (.tmp 15) rfl _ #[.int .i64 f.kind, .int .i64 f.site, .int .i64 f.seq, .int .i64 f.ack, .string (Mem.str f.body)] rfl rfl _ _ Hn4.out.row Frm.size_frame rfl (Frm.one_cells _ _ _ _ _) ?_
       intro w5 hp
       have e0 := Mem.put_cell1 hp 0 (v := .int .i64 f.kind) rfl
       have e1 := Mem.put_cell1 hp 1 (v := .int .i64 f.site) rfl
       have e2 := Mem.put_cell1 hp 2 (v := .int .i64 f.seq) rfl
       have e3 := Mem.put_cell1 hp 3 (v := .int .i64 f.ack) rfl
       have e4 := Mem.put_cell1 hp 4 (v := .string (Mem.str f.body)) rfl
       have Hp := Lib.hid hp
       clear hp)
    | (go_at_call 15
       refine (frame_refget s Hl.out _).mono ?_
       rw [Hf.out, Hc.out]
       rintro e w6 ⟨rfl, hb6⟩
       have f0 := Mem.keep hb6 e0
       have f1 := Mem.keep hb6 e1
       have f2 := Mem.keep hb6 e2
       have f3 := Mem.keep hb6 e3
       have f4 := Mem.keep hb6 e4
       have Hb6 := Lib.hid hb6
       clear hb6 e0 e1 e2 e3 e4)
    | (refine Mem.wpList_alloc (o := ⟨some 5, _, _, _, _, _⟩) rfl 23 rfl _ Frm.zero_refframe ?_
       intro w7 hn7
       have e0 := Mem.keep hn7.below f0
       have e1 := Mem.keep hn7.below f1
       have e2 := Mem.keep hn7.below f2
       have e3 := Mem.keep hn7.below f3
       have e4 := Mem.keep hn7.below f4
       have Hn7 := Lib.hid hn7
       clear hn7 f0 f1 f2 f3 f4)
    | (refine Mem.wpList_store rfl 23 (.tmp 5) (.tmp 20) rfl _ #[.int .i64 f.kind, .int .i64 f.site, .int .i64 f.seq, .int .i64 f.ack, .string (Mem.str f.body)] rfl rfl _ _ Hn7.out.row Frm.size_refframe rfl (Frm.one_cells _ _ _ _ _) ?_
       intro w8 hp8
       have hbt := Mem.But.of_put (S := fun i => i = w6.heap.size) hp8 rfl
       have hneq : ¬ w3.heap.size = w6.heap.size := by have := Hn4.out.size; have := Hp.out.size; have := Hb6.out.size; omega
       have f0 := Mem.keep_but hbt hneq e0
       have f1 := Mem.keep_but hbt hneq e1
       have f2 := Mem.keep_but hbt hneq e2
       have f3 := Mem.keep_but hbt hneq e3
       have f4 := Mem.keep_but hbt hneq e4
       have p0 := Mem.put_cell1 hp8 0 (v := .int .i64 f.kind) rfl
       have p1 := Mem.put_cell1 hp8 1 (v := .int .i64 f.site) rfl
       have p2 := Mem.put_cell1 hp8 2 (v := .int .i64 f.seq) rfl
       have p3 := Mem.put_cell1 hp8 3 (v := .int .i64 f.ack) rfl
       have p4 := Mem.put_cell1 hp8 4 (v := .string (Mem.str f.body)) rfl
       have Hp8 := Lib.hid hp8
       clear hp8 hbt hneq e0 e1 e2 e3 e4))
  have l0 : ∀ i : Mem.Later w8, i.w.cell? ⟨w3.heap.size, 0, none⟩ = some (.int .i64 f.kind) := fun i => i.cell f0
  have l1 : ∀ i : Mem.Later w8, i.w.cell? ⟨w3.heap.size, 1, none⟩ = some (.int .i64 f.site) := fun i => i.cell f1
  have l2 : ∀ i : Mem.Later w8, i.w.cell? ⟨w3.heap.size, 2, none⟩ = some (.int .i64 f.seq) := fun i => i.cell f2
  have l3 : ∀ i : Mem.Later w8, i.w.cell? ⟨w3.heap.size, 3, none⟩ = some (.int .i64 f.ack) := fun i => i.cell f3
  have l4 : ∀ i : Mem.Later w8, i.w.cell? ⟨w3.heap.size, 4, none⟩ = some (.string (Mem.str f.body)) := fun i => i.cell f4
  have m0 : ∀ i : Mem.Later w8, i.w.cell? ⟨w6.heap.size, 0, none⟩ = some (.int .i64 f.kind) := fun i => i.cell p0
  have m1 : ∀ i : Mem.Later w8, i.w.cell? ⟨w6.heap.size, 1, none⟩ = some (.int .i64 f.site) := fun i => i.cell p1
  have m2 : ∀ i : Mem.Later w8, i.w.cell? ⟨w6.heap.size, 2, none⟩ = some (.int .i64 f.seq) := fun i => i.cell p2
  have m3 : ∀ i : Mem.Later w8, i.w.cell? ⟨w6.heap.size, 3, none⟩ = some (.int .i64 f.ack) := fun i => i.cell p3
  have m4 : ∀ i : Mem.Later w8, i.w.cell? ⟨w6.heap.size, 4, none⟩ = some (.string (Mem.str f.body)) := fun i => i.cell p4
  clear f0 f1 f2 f3 f4 p0 p1 p2 p3 p4
  have hPn : ∀ i : Mem.Later w8, Calls Try.prog 16 #[.agg #[.int .i64 f.kind, .int .i64 f.site, .int .i64 f.seq, .int .i64 f.ack, .string (Mem.str f.body)]] i.w fun e w'' =>
      e = .returned (.agg #[.int .i64 f.kind, .int .i64 f.site, .int .i64 f.seq, .int .i64 f.ack, .string (Mem.str f.body)]) ∧ ∃ j : Mem.Later w8, w'' = j.w := fun i => Mem.later_call (frame_plain f i.w)
  have hEq := Frm.eq_same f
  refine Mem.wp_region_later (by kernel_rfl) (by kernel_rfl) ?_
  repeat (go_big_quiet_step ((go_at_call 16; with_reducible exact hPn _)))
  refine wpQuiet_nil ?_
  rintro w9 ⟨⟨wq, hq⟩, rfl⟩
  have Hq := Lib.hid hq
  clear hq l0 l1 l2 l3 l4 m0 m1 m2 m3 m4 hPn hEq
  go_wp2
  go_ret
  refine ⟨rfl, ?_⟩
  have b3 := Mem.then_ Hb2.out Hb3.out
  have b5 := (Mem.then_ b3 Hn4.out.below).trans (Hp.out.below b3.size)
  have b6 := Mem.then_ b5 Hb6.out
  exact Mem.then_ ((Mem.then_ b6 Hn7.out.below).trans (Hp8.out.below b6.size)) Hq.out

set_option maxRecDepth 100000 in
theorem frameGets_walk (a0 : ByteArray) (w : World) (_wa0 : a0.size ≤ maxLen) :
    Calls Try.prog 4 #[.string a0] w fun e w' => e = .returned (.bool true) ∧ Below w.heap.size w w' := by
  have hl : a0.data.toList.length = a0.size := by simp
  by_cases hs : a0.size ≤ 3000
  · have := frameGets_main a0.data.toList w (by omega)
    rw [Mem.str_of] at this
    exact this
  · have hd : decide ((3000 : Int) < a0.size) = true := by rw [decide_eq_true_iff]; omega
    have hi : (3000 : Int) < a0.size := by omega
    clear hl hs
    go_enter Try.func4, Try.ntmps4
    go_wp2_with (
      go_at_call 8
      refine (frame_alive _).mono ?_
      rintro e w2 ⟨rfl, hb2⟩
      have Hb2 := Lib.hid hb2
      clear hb2)
    go_ret
    exact ⟨rfl, Hb2.out⟩
end Go.Proofs.Ytagbjibpcgipkaa
