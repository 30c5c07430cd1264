/- The walk of an end's Take. -/
import Derived.Test.YtgkadhogfejheaaLnkH
namespace Go.Proofs.Ytgkadhogfejheaa
open Go.RowKit

namespace Lnk
/-- behind the frame's own errors -/
def takeF (hd : Nat → Nat → Bool → Nat → Nat × Nat × Bool) (e : St) (f : Frm.F) : St × List (List UInt8) × Int :=
  let e1 := acked hd f.ack e
  if f.kind = 2 then (e1, [], 0) else
  let e2 := { e1 with owed := true }
  if (e.early f.seq.toNat).isSome = true ∨ f.seq ≤ e.got then (e2, [], 15) else
  let t := told (e.got + 9) { e2 with early := upd e.early f.seq.toNat (some f.body), room := e.room + 1 }
  (t.1, t.2, 0)
def take (hd : Nat → Nat → Bool → Nat → Nat × Nat × Bool) (e : St) (s : List UInt8) : St × List (List UInt8) × Int :=
  let c := if (Frm.get s).2 = 0 then asked e (Frm.get s).1 else (Frm.get s).2
  if c = 0 then takeF hd e (Frm.get s).1 else ({ e with refused := e.refused + 1 }, [], c)
theorem zero_frame : (Try.prog.info? 84).bind (·.zero) = some (.agg #[.int .i64 0, .int .i64 0, .int .i64 0, .int .i64 0, .string ⟨#[]⟩]) := by kernel_rfl
theorem size_frame : (Try.prog.info? 84).map (·.size) = some 5 := by kernel_rfl
theorem one_frame (a b c d : Int) (s : ByteArray) : (#[Value.int .i64 a, .int .i64 b, .int .i64 c, .int .i64 d, .string s]).all (·.oneCell') = true := by simp [Value.oneCell']
end Lnk
set_option maxRecDepth 100000 in
theorem take_nil (s : ByteArray) (w : World) : Calls Try.prog 22 #[.pointer none, .string s] w fun e w' => e = .returned (.tuple #[.slice none 0 0, .int .i64 1]) ∧ w' = w := by
  go_enter Try.func22, Try.ntmps22
  go_wp2
  exact bodyPost_ret (results_tmp2 rfl _ _ _) rfl ⟨rfl, rfl⟩

set_option maxRecDepth 100000 in
set_option maxHeartbeats 1000000 in
/-- refused: the frame's error, or the end's -/
theorem take_bad (g : Nat) (F : Nat → Prop) (e : Lnk.St) (s : List UInt8) (hs : s.length < 2 ^ 61) (hgot : e.got < 2199023255552) (hr : e.refused < 2199023255552) (c : Int)
    (hc : (if (Frm.get s).2 = 0 then Lnk.asked e (Frm.get s).1 else (Frm.get s).2) = c) (hc0 : c ≠ 0) (w : World) (h : Lnk.At w g F e) :
    Calls Try.prog 22 #[.pointer (some ⟨g, 0, none⟩), .string (Mem.str s)] w fun r w' => r = .returned (.tuple #[.slice none 0 0, .int .i64 c]) ∧ Lnk.At w' g F { e with refused := e.refused + 1 } ∧ Mem.But F w w' := by
  have hget := frame_get s hs
  obtain ⟨⟨kind, site, seq, ack, body⟩, k, hk⟩ : ∃ f k, Frm.get s = (f, k) := ⟨_, _, rfl⟩
  rw [hk] at hc hget
  simp only at hc hget
  have H := Lib.hid h
  have HC := Lib.hid hc
  have hwr : wrap64 ((e.refused : Int) + 1) = ((e.refused + 1 : Nat) : Int) := by unfold wrap64; omega
  have hcb : (c != 0) = true := by simpa using hc0
  have hcb2 : (c == 0) = false := by simpa using hc0
  clear h hc hk
  by_cases k0 : k = 0
  · subst k0
    have hc2 := HC.out
    rw [if_pos rfl] at hc2
    have HC2 := Lib.hid hc2
    clear hc2
    go_enter Try.func22, Try.ntmps22
    go_wp2_with (first
      | (go_at_call 34
         refine (hget _).mono ?_
         rintro r w1 ⟨rfl, hb1⟩
         have HB1 := Lib.hid hb1
         clear hb1)
      | (refine Mem.wpList_alloc (o := ⟨some 6, _, _, _, _, _⟩) rfl 84 rfl _ Lnk.zero_frame ?_
         intro w2 hn2
         have Hn2 := Lib.hid hn2
         clear hn2)
      | (refine Mem.wpList_store rfl 84 (.tmp 6) (.tmp 15) rfl w1.heap.size #[.int .i64 kind, .int .i64 site, .int .i64 seq, .int .i64 ack, .string (Mem.str body)] rfl rfl 84 _ Hn2.out.row Lnk.size_frame rfl (Lnk.one_frame _ _ _ _ _) ?_
         go_loud (
         intro w3 hp3
         have y := fun i => cell_of_row _ _ i _ _ _ hp3.row
         have hb3 := Lib.hid (Mem.then_ HB1.out (Hn2.out.below.trans (hp3.below (Nat.le_refl _)))))
         clear hp3)
      | (go_at_call 35
         go_loud (
         refine (link_asked g F e ⟨kind, site, seq, ack, body⟩ hgot _ (H.out.below hb3.out)).mono ?_
         rw [HC2.out]
         rintro r w4 ⟨rfl, hb4⟩
         obtain ⟨out, b, l4⟩ := H.out.below (Mem.then_ hb3.out hb4)
         have r11 : w4.cell? ⟨g, 11, none⟩ = some (.int .i64 e.refused) := (cell_of_row _ _ 11 _ _ _ l4.row).trans rfl
         have f11 := frozen_of_row _ g 11 _ _ l4.row
         have L4 := Lib.hid l4
         have HB4 := Lib.hid (Mem.then_ hb3.out hb4)
         clear hb4 l4)))
    exact bodyPost_ret (results_tmp2 rfl _ _ _) rfl ⟨rfl, ⟨out, b, L4.out.put { e with refused := e.refused + 1 } (Mem.put_setCell w4 g 11 (.int .i64 ((e.refused + 1 : Nat) : Int)) _ _ L4.out.row) rfl rfl rfl⟩, (Mem.But.of_below HB4.out).trans (Mem.But.of_setCell _ _ L4.out.fg)⟩
  · have hc2 := HC.out
    rw [if_neg k0] at hc2
    subst hc2
    clear HC
    go_enter Try.func22, Try.ntmps22
    go_wp2_with (first
      | (go_at_call 34
         refine (hget _).mono ?_
         rintro r w1 ⟨rfl, hb1⟩
         have HB1 := Lib.hid hb1
         clear hb1)
      | (refine Mem.wpList_alloc (o := ⟨some 6, _, _, _, _, _⟩) rfl 84 rfl _ Lnk.zero_frame ?_
         intro w2 hn2
         have Hn2 := Lib.hid hn2
         clear hn2)
      | (refine Mem.wpList_store rfl 84 (.tmp 6) (.tmp 15) rfl w1.heap.size #[.int .i64 kind, .int .i64 site, .int .i64 seq, .int .i64 ack, .string (Mem.str body)] rfl rfl 84 _ Hn2.out.row Lnk.size_frame rfl (Lnk.one_frame _ _ _ _ _) ?_
         intro w3 hp3
         have hb3 := Lib.hid (Mem.then_ HB1.out (Hn2.out.below.trans (hp3.below (Nat.le_refl _))))
         obtain ⟨out, b, l4⟩ := H.out.below hb3.out
         have r11 : w3.cell? ⟨g, 11, none⟩ = some (.int .i64 e.refused) := (cell_of_row _ _ 11 _ _ _ l4.row).trans rfl
         have f11 := frozen_of_row _ g 11 _ _ l4.row
         have L4 := Lib.hid l4
         clear hp3 l4))
    exact bodyPost_ret (results_tmp2 rfl _ _ _) rfl ⟨rfl, ⟨out, b, L4.out.put { e with refused := e.refused + 1 } (Mem.put_setCell w3 g 11 (.int .i64 ((e.refused + 1 : Nat) : Int)) _ _ L4.out.row) rfl rfl rfl⟩, (Mem.But.of_below hb3.out).trans (Mem.But.of_setCell _ _ L4.out.fg)⟩

set_option maxRecDepth 100000 in
set_option maxHeartbeats 1000000 in
/-- a frame that only tells -/
theorem take_tell {wt : Nat → Nat → Bool → Nat} {hd : Nat → Nat → Bool → Nat → Nat × Nat × Bool} (law : Lnk.Law wt hd) (g : Nat) (F : Nat → Prop) (e : Lnk.St) (s : List UInt8) (hs : s.length < 2 ^ 61) (hgot : e.got < 2199023255552) (hnow : e.now < 1099511627776) (hx : ∀ x ∈ e.out, x.sent < 1099511627776)
    (site seq ack : Int) (body : List UInt8) (hk : Frm.get s = (⟨2, site, seq, ack, body⟩, 0)) (ha : Lnk.asked e ⟨2, site, seq, ack, body⟩ = 0) (w : World) (h : Lnk.At w g F e) :
    Calls Try.prog 22 #[.pointer (some ⟨g, 0, none⟩), .string (Mem.str s)] w fun r w' => r = .returned (.tuple #[.slice none 0 0, .int .i64 0]) ∧ Lnk.At w' g F (Lnk.acked hd ack e) ∧ Mem.But F w w' := by
  have hget := frame_get s hs
  rw [hk] at hget
  simp only at hget
  have H := Lib.hid h
  have HA := Lib.hid ha
  clear h ha hk
  go_enter Try.func22, Try.ntmps22
  go_wp2_with (first
      | (go_at_call 34
         refine (hget _).mono ?_
         rintro r w1 ⟨rfl, hb1⟩
         have HB1 := Lib.hid hb1
         clear hb1)
      | (refine Mem.wpList_alloc (o := ⟨some 6, _, _, _, _, _⟩) rfl 84 rfl _ Lnk.zero_frame ?_
         intro w2 hn2
         have Hn2 := Lib.hid hn2
         clear hn2)
      | (refine Mem.wpList_store rfl 84 (.tmp 6) (.tmp 15) rfl w1.heap.size #[.int .i64 2, .int .i64 site, .int .i64 seq, .int .i64 ack, .string (Mem.str body)] rfl rfl 84 _ Hn2.out.row Lnk.size_frame rfl (Lnk.one_frame _ _ _ _ _) ?_
         intro w3 hp3
         have y := fun i => cell_of_row _ _ i _ _ _ hp3.row
         have hb3 := Lib.hid (Mem.then_ HB1.out (Hn2.out.below.trans (hp3.below (Nat.le_refl _))))
         have HP3 := Lib.hid hp3
         clear hp3)
      | (go_at_call 35
         go_loud (
         refine (link_asked g F e ⟨2, site, seq, ack, body⟩ hgot _ (H.out.below hb3.out)).mono ?_
         rw [HA.out]
         rintro r w4 ⟨rfl, hb4⟩
         have L4 := Lib.hid (H.out.below (Mem.then_ hb3.out hb4))
         have row4 := (hb4.block w1.heap.size (Array.getElem?_eq_some_iff.1 HP3.out.row).1).trans HP3.out.row
         have y4 := fun i => cell_of_row _ _ i _ _ _ row4
         have HB4 := Lib.hid (Mem.then_ hb3.out hb4)
         have ROW4 := Lib.hid row4
         clear hb4 row4 y))
      | (go_at_call 36
         go_loud (
         refine (link_acked law g F e ack hnow hx _ L4.out).mono ?_
         rintro r w5 ⟨rfl, ⟨out, b, l5⟩, hb5⟩
         have hq : ¬ F w1.heap.size := fun hf => by
           obtain ⟨_, _, h0⟩ := H.out
           have := h0.lt _ hf
           have := HB1.out.size
           omega
         have row5 := (hb5.block w1.heap.size (Array.getElem?_eq_some_iff.1 ROW4.out).1 hq).trans ROW4.out
         have y5 := fun i => cell_of_row _ _ i _ _ _ row5
         have k10 : w5.cell? ⟨g, 10, none⟩ = some (.bool e.owed) := (cell_of_row _ _ 10 _ _ _ l5.row).trans rfl
         have f10 := frozen_of_row _ g 10 _ _ l5.row
         have L5 := Lib.hid l5
         have HB5 := Lib.hid ((Mem.But.of_below HB4.out).trans hb5)
         have ROW5 := Lib.hid row5
         have HQ := Lib.hid hq
         clear l5 hb5 hq row5 y4)))
  exact bodyPost_ret (results_tmp2 rfl _ _ _) rfl ⟨rfl, ⟨out, b, L5.out⟩, HB5.out⟩

set_option maxRecDepth 100000 in
set_option maxHeartbeats 1000000 in
/-- a body that came before -/
theorem take_twice {wt : Nat → Nat → Bool → Nat} {hd : Nat → Nat → Bool → Nat → Nat × Nat × Bool} (law : Lnk.Law wt hd) (g : Nat) (F : Nat → Prop) (e : Lnk.St) (s : List UInt8) (hs : s.length < 2 ^ 61) (hgot : e.got < 2199023255552) (hnow : e.now < 1099511627776) (hx : ∀ x ∈ e.out, x.sent < 1099511627776)
    (site ack : Int) (seq : Nat) (body : List UInt8) (hseq : seq < 2199023255552) (hcame : (e.early seq).isSome = true ∨ seq ≤ e.got) (hk : Frm.get s = (⟨1, site, seq, ack, body⟩, 0)) (ha : Lnk.asked e ⟨1, site, seq, ack, body⟩ = 0) (w : World) (h : Lnk.At w g F e) :
    Calls Try.prog 22 #[.pointer (some ⟨g, 0, none⟩), .string (Mem.str s)] w fun r w' => r = .returned (.tuple #[.slice none 0 0, .int .i64 15]) ∧ Lnk.At w' g F { Lnk.acked hd ack e with owed := true } ∧ Mem.But F w w' := by
  have hget := frame_get s hs
  rw [hk] at hget
  simp only at hget
  have H := Lib.hid h
  have HA := Lib.hid ha
  clear h ha hk
  have hcc := Lib.hid hcame
  clear hcame
  go_enter Try.func22, Try.ntmps22
  go_wp2_with (first
      | (go_at_call 34
         refine (hget _).mono ?_
         rintro r w1 ⟨rfl, hb1⟩
         have HB1 := Lib.hid hb1
         clear hb1)
      | (refine Mem.wpList_alloc (o := ⟨some 6, _, _, _, _, _⟩) rfl 84 rfl _ Lnk.zero_frame ?_
         intro w2 hn2
         have Hn2 := Lib.hid hn2
         clear hn2)
      | (refine Mem.wpList_store rfl 84 (.tmp 6) (.tmp 15) rfl w1.heap.size #[.int .i64 1, .int .i64 site, .int .i64 seq, .int .i64 ack, .string (Mem.str body)] rfl rfl 84 _ Hn2.out.row Lnk.size_frame rfl (Lnk.one_frame _ _ _ _ _) ?_
         intro w3 hp3
         have y := fun i => cell_of_row _ _ i _ _ _ hp3.row
         have hb3 := Lib.hid (Mem.then_ HB1.out (Hn2.out.below.trans (hp3.below (Nat.le_refl _))))
         have HP3 := Lib.hid hp3
         clear hp3)
      | (go_at_call 35
         go_loud (
         refine (link_asked g F e ⟨1, site, seq, ack, body⟩ hgot _ (H.out.below hb3.out)).mono ?_
         rw [HA.out]
         rintro r w4 ⟨rfl, hb4⟩
         have L4 := Lib.hid (H.out.below (Mem.then_ hb3.out hb4))
         have row4 := (hb4.block w1.heap.size (Array.getElem?_eq_some_iff.1 HP3.out.row).1).trans HP3.out.row
         have y4 := fun i => cell_of_row _ _ i _ _ _ row4
         have HB4 := Lib.hid (Mem.then_ hb3.out hb4)
         have ROW4 := Lib.hid row4
         clear hb4 row4 y))
      | (go_at_call 36
         go_loud (
         refine (link_acked law g F e ack hnow hx _ L4.out).mono ?_
         rintro r w5 ⟨rfl, ⟨out, b, l5⟩, hb5⟩
         have hq : ¬ F w1.heap.size := fun hf => by
           obtain ⟨_, _, h0⟩ := H.out
           have := h0.lt _ hf
           have := HB1.out.size
           omega
         have row5 := (hb5.block w1.heap.size (Array.getElem?_eq_some_iff.1 ROW4.out).1 hq).trans ROW4.out
         have y5 := fun i => cell_of_row _ _ i _ _ _ row5
         have k10 : w5.cell? ⟨g, 10, none⟩ = some (.bool e.owed) := (cell_of_row _ _ 10 _ _ _ l5.row).trans rfl
         have f10 := frozen_of_row _ g 10 _ _ l5.row
         have L5 := Lib.hid l5
         have HB5 := Lib.hid ((Mem.But.of_below HB4.out).trans hb5)
         have ROW5 := Lib.hid row5
         have HQ := Lib.hid hq
         clear l5 hb5 hq row5 y4)))
  have l6 : Lnk.Lie (w5.setCell ⟨g, 10, none⟩ (.bool true)) g F { Lnk.acked hd ack e with owed := true } out b := L5.out.put { Lnk.acked hd ack e with owed := true } (Mem.put_setCell w5 g 10 (.bool true) _ _ L5.out.row) rfl rfl rfl
  have b6 := HB5.out.trans (Mem.But.of_setCell (⟨g, 10, none⟩ : Addr) (.bool true) L5.out.fg)
  have hqg : w1.heap.size ≠ g := fun e => HQ.out (e ▸ L5.out.fg)
  have row6 := (heap_setCell_other w5 (⟨g, 10, none⟩ : Addr) _ (.bool true) hqg).trans ROW5.out
  clear k10 f10 y5
  generalize w5.setCell ⟨g, 10, none⟩ (.bool true) = w6 at l6 b6 row6 ⊢
  have m6 : ∀ i : Mem.Later w6, i.w.cell? ⟨g, 6, none⟩ = some (.map (some b)) := fun i => i.cell ((cell_of_row _ _ 6 _ _ _ l6.row).trans rfl)
  have m2 : ∀ i : Mem.Later w6, i.w.cell? ⟨w1.heap.size, 2, none⟩ = some (.int .i64 seq) := fun i => i.cell ((cell_of_row _ _ 2 _ _ _ row6).trans rfl)
  have ml : ∀ i : Mem.Later w6, (Instr.lookup 74 (.map (some b)) (.int .i64 (seq : Int)) true).run Try.prog i.w = .ok (.tuple #[.string (Mem.str ((e.early seq).getD [])), .bool (e.early seq).isSome]) i.w :=
    fun i => Lnk.mp_look (Lnk.mp_keep (E := e.early) l6.map (i.h.block b (Lnk.mp_lt l6.map))) seq (by omega)
  have L6 := Lib.hid l6
  have B6 := Lib.hid b6
  have ROW6 := Lib.hid row6
  clear l6 b6 row6 hqg
  cases hcm : (e.early seq).isSome with
  | true =>
    rw [hcm] at ml
    refine Mem.wp_region_later (by kernel_rfl) (by kernel_rfl) ?_
    repeat (go_big_quiet_step (fail))
    refine wpQuiet_nil ?_
    intro w7 hw7
    obtain ⟨i7, hi7⟩ := hw7
    have h7 : Below w6.heap.size w6 w7 := hi7 ▸ i7.h
    clear hi7 i7 m6 m2 ml
    have L7 := Lib.hid (L6.out.below h7)
    have B7 := Lib.hid (B6.out.trans (Mem.But.of_below h7))
    have row7 := (h7.block w1.heap.size (Array.getElem?_eq_some_iff.1 ROW6.out).1).trans ROW6.out
    have n2 : ∀ i : Mem.Later w7, i.w.cell? ⟨w1.heap.size, 2, none⟩ = some (.int .i64 seq) := fun i => i.cell ((cell_of_row _ _ 2 _ _ _ row7).trans rfl)
    have n5 : ∀ i : Mem.Later w7, i.w.cell? ⟨g, 5, none⟩ = some (.int .i64 e.got) := fun i => i.cell ((cell_of_row _ _ 5 _ _ _ L7.out.row).trans rfl)
    have ROW7 := Lib.hid row7
    clear h7 row7
    go_wp2
    refine Mem.wp_region_later (by kernel_rfl) (by kernel_rfl) ?_
    repeat (go_big_quiet_step (fail))
    refine wpQuiet_nil ?_
    intro w8 hw8
    obtain ⟨i8, hi8⟩ := hw8
    have h8 : Below w7.heap.size w7 w8 := hi8 ▸ i8.h
    clear hi8 i8 n2 n5
    have L8 := Lib.hid (L7.out.below h8)
    have B8 := Lib.hid (B7.out.trans (Mem.But.of_below h8))
    have row8 := (h8.block w1.heap.size (Array.getElem?_eq_some_iff.1 ROW7.out).1).trans ROW7.out
    have ROW8 := Lib.hid row8
    clear h8 row8
    go_wp2
    exact bodyPost_ret (results_tmp2 rfl _ _ _) rfl ⟨rfl, ⟨out, b, L8.out⟩, B8.out⟩
  | false =>
    rw [hcm] at ml
    have hle : seq ≤ e.got := by
      rcases hcc.out with h | h
      · rw [hcm] at h; cases h
      · exact h
    have hle2 : (seq : Int) ≤ e.got := by omega
    refine Mem.wp_region_later (by kernel_rfl) (by kernel_rfl) ?_
    repeat (go_big_quiet_step (fail))
    refine wpQuiet_nil ?_
    intro w7 hw7
    obtain ⟨i7, hi7⟩ := hw7
    have h7 : Below w6.heap.size w6 w7 := hi7 ▸ i7.h
    clear hi7 i7 m6 m2 ml
    have L7 := Lib.hid (L6.out.below h7)
    have B7 := Lib.hid (B6.out.trans (Mem.But.of_below h7))
    have row7 := (h7.block w1.heap.size (Array.getElem?_eq_some_iff.1 ROW6.out).1).trans ROW6.out
    have n2 : ∀ i : Mem.Later w7, i.w.cell? ⟨w1.heap.size, 2, none⟩ = some (.int .i64 seq) := fun i => i.cell ((cell_of_row _ _ 2 _ _ _ row7).trans rfl)
    have n5 : ∀ i : Mem.Later w7, i.w.cell? ⟨g, 5, none⟩ = some (.int .i64 e.got) := fun i => i.cell ((cell_of_row _ _ 5 _ _ _ L7.out.row).trans rfl)
    have ROW7 := Lib.hid row7
    clear h7 row7
    go_wp2
    refine Mem.wp_region_later (by kernel_rfl) (by kernel_rfl) ?_
    repeat (go_big_quiet_step (fail))
    refine wpQuiet_nil ?_
    intro w8 hw8
    obtain ⟨i8, hi8⟩ := hw8
    have h8 : Below w7.heap.size w7 w8 := hi8 ▸ i8.h
    clear hi8 i8 n2 n5
    have L8 := Lib.hid (L7.out.below h8)
    have B8 := Lib.hid (B7.out.trans (Mem.But.of_below h8))
    have row8 := (h8.block w1.heap.size (Array.getElem?_eq_some_iff.1 ROW7.out).1).trans ROW7.out
    have ROW8 := Lib.hid row8
    clear h8 row8
    go_wp2
    exact bodyPost_ret (results_tmp2 rfl _ _ _) rfl ⟨rfl, ⟨out, b, L8.out⟩, B8.out⟩
set_option maxRecDepth 100000 in
set_option maxHeartbeats 1000000 in
/-- a new body -/
theorem take_new {wt : Nat → Nat → Bool → Nat} {hd : Nat → Nat → Bool → Nat → Nat × Nat × Bool} (law : Lnk.Law wt hd) (g : Nat) (F : Nat → Prop) (e : Lnk.St) (s : List UInt8) (hs : s.length < 2 ^ 61) (hgot : e.got < 2199023255552) (hnow : e.now < 1099511627776) (hx : ∀ x ∈ e.out, x.sent < 1099511627776)
    (site ack : Int) (seq : Nat) (body : List UInt8) (hseq : seq < 2199023255552) (hcame : (e.early seq).isSome = false ∧ e.got < seq ∧ seq ≤ e.got + 8) (hbody : body.length ≤ 1048576) (hroom : e.room < 1099511627776) (hE : ∀ k, e.got + 9 ≤ k → e.early k = none) (hk : Frm.get s = (⟨1, site, seq, ack, body⟩, 0)) (ha : Lnk.asked e ⟨1, site, seq, ack, body⟩ = 0) (w : World) (h : Lnk.At w g F e) :
    Calls Try.prog 22 #[.pointer (some ⟨g, 0, none⟩), .string (Mem.str s)] w fun r w' => ∃ v, r = .returned (.tuple #[v, .int .i64 0]) ∧
      Lnk.At w' g F (Lnk.told (e.got + 9) { Lnk.acked hd ack e with owed := true, early := Lnk.upd e.early seq (some body), room := e.room + 1 }).1 ∧
      Mem.Row w' w.heap.size 9 1 v (Lnk.told (e.got + 9) { Lnk.acked hd ack e with owed := true, early := Lnk.upd e.early seq (some body), room := e.room + 1 }).2.length (Lnk.strs (Lnk.told (e.got + 9) { Lnk.acked hd ack e with owed := true, early := Lnk.upd e.early seq (some body), room := e.room + 1 }).2) ∧ Mem.But F w w' := by
  have hget := frame_get s hs
  rw [hk] at hget
  simp only at hget
  have H := Lib.hid h
  have HA := Lib.hid ha
  clear h ha hk
  have hcc := Lib.hid hcame
  have HE := Lib.hid hE
  clear hcame hE
  go_enter Try.func22, Try.ntmps22
  go_wp2_with (first
      | (go_at_call 34
         refine (hget _).mono ?_
         rintro r w1 ⟨rfl, hb1⟩
         have HB1 := Lib.hid hb1
         clear hb1)
      | (refine Mem.wpList_alloc (o := ⟨some 6, _, _, _, _, _⟩) rfl 84 rfl _ Lnk.zero_frame ?_
         intro w2 hn2
         have Hn2 := Lib.hid hn2
         clear hn2)
      | (refine Mem.wpList_store rfl 84 (.tmp 6) (.tmp 15) rfl w1.heap.size #[.int .i64 1, .int .i64 site, .int .i64 seq, .int .i64 ack, .string (Mem.str body)] rfl rfl 84 _ Hn2.out.row Lnk.size_frame rfl (Lnk.one_frame _ _ _ _ _) ?_
         intro w3 hp3
         have y := fun i => cell_of_row _ _ i _ _ _ hp3.row
         have hb3 := Lib.hid (Mem.then_ HB1.out (Hn2.out.below.trans (hp3.below (Nat.le_refl _))))
         have HP3 := Lib.hid hp3
         clear hp3)
      | (go_at_call 35
         go_loud (
         refine (link_asked g F e ⟨1, site, seq, ack, body⟩ hgot _ (H.out.below hb3.out)).mono ?_
         rw [HA.out]
         rintro r w4 ⟨rfl, hb4⟩
         have L4 := Lib.hid (H.out.below (Mem.then_ hb3.out hb4))
         have row4 := (hb4.block w1.heap.size (Array.getElem?_eq_some_iff.1 HP3.out.row).1).trans HP3.out.row
         have y4 := fun i => cell_of_row _ _ i _ _ _ row4
         have HB4 := Lib.hid (Mem.then_ hb3.out hb4)
         have ROW4 := Lib.hid row4
         clear hb4 row4 y))
      | (go_at_call 36
         go_loud (
         refine (link_acked law g F e ack hnow hx _ L4.out).mono ?_
         rintro r w5 ⟨rfl, ⟨out, b, l5⟩, hb5⟩
         have hq : ¬ F w1.heap.size := fun hf => by
           obtain ⟨_, _, h0⟩ := H.out
           have := h0.lt _ hf
           have := HB1.out.size
           omega
         have row5 := (hb5.block w1.heap.size (Array.getElem?_eq_some_iff.1 ROW4.out).1 hq).trans ROW4.out
         have y5 := fun i => cell_of_row _ _ i _ _ _ row5
         have k10 : w5.cell? ⟨g, 10, none⟩ = some (.bool e.owed) := (cell_of_row _ _ 10 _ _ _ l5.row).trans rfl
         have f10 := frozen_of_row _ g 10 _ _ l5.row
         have L5 := Lib.hid l5
         have HB5 := Lib.hid ((Mem.But.of_below HB4.out).trans hb5)
         have ROW5 := Lib.hid row5
         have HQ := Lib.hid hq
         clear l5 hb5 hq row5 y4)))
  have l6 : Lnk.Lie (w5.setCell ⟨g, 10, none⟩ (.bool true)) g F { Lnk.acked hd ack e with owed := true } out b := L5.out.put { Lnk.acked hd ack e with owed := true } (Mem.put_setCell w5 g 10 (.bool true) _ _ L5.out.row) rfl rfl rfl
  have b6 := HB5.out.trans (Mem.But.of_setCell (⟨g, 10, none⟩ : Addr) (.bool true) L5.out.fg)
  have hqg : w1.heap.size ≠ g := fun e => HQ.out (e ▸ L5.out.fg)
  have row6 := (heap_setCell_other w5 (⟨g, 10, none⟩ : Addr) _ (.bool true) hqg).trans ROW5.out
  clear k10 f10 y5
  generalize w5.setCell ⟨g, 10, none⟩ (.bool true) = w6 at l6 b6 row6 ⊢
  have m6 : ∀ i : Mem.Later w6, i.w.cell? ⟨g, 6, none⟩ = some (.map (some b)) := fun i => i.cell ((cell_of_row _ _ 6 _ _ _ l6.row).trans rfl)
  have m2 : ∀ i : Mem.Later w6, i.w.cell? ⟨w1.heap.size, 2, none⟩ = some (.int .i64 seq) := fun i => i.cell ((cell_of_row _ _ 2 _ _ _ row6).trans rfl)
  have ml : ∀ i : Mem.Later w6, (Instr.lookup 74 (.map (some b)) (.int .i64 (seq : Int)) true).run Try.prog i.w = .ok (.tuple #[.string (Mem.str ((e.early seq).getD [])), .bool (e.early seq).isSome]) i.w :=
    fun i => Lnk.mp_look (Lnk.mp_keep (E := e.early) l6.map (i.h.block b (Lnk.mp_lt l6.map))) seq (by omega)
  have L6 := Lib.hid l6
  have B6 := Lib.hid b6
  have ROW6 := Lib.hid row6
  clear l6 b6 row6 hqg
  have hcm := hcc.out.1
  rw [hcm] at ml
  have hle : ¬ (seq : Int) ≤ e.got := by have := hcc.out.2.1; omega
  have hle2 : decide ((seq : Int) ≤ e.got) = false := decide_eq_false hle
  have hle3 : ¬ seq ≤ e.got := by have := hcc.out.2.1; omega
  refine Mem.wp_region_later (by kernel_rfl) (by kernel_rfl) ?_
  repeat (go_big_quiet_step (fail))
  refine wpQuiet_nil ?_
  intro w7 hw7
  obtain ⟨i7, hi7⟩ := hw7
  have h7 : Below w6.heap.size w6 w7 := hi7 ▸ i7.h
  clear hi7 i7 m6 m2 ml
  have L7 := Lib.hid (L6.out.below h7)
  have B7 := Lib.hid (B6.out.trans (Mem.But.of_below h7))
  have row7 := (h7.block w1.heap.size (Array.getElem?_eq_some_iff.1 ROW6.out).1).trans ROW6.out
  have n2 : ∀ i : Mem.Later w7, i.w.cell? ⟨w1.heap.size, 2, none⟩ = some (.int .i64 seq) := fun i => i.cell ((cell_of_row _ _ 2 _ _ _ row7).trans rfl)
  have n5 : ∀ i : Mem.Later w7, i.w.cell? ⟨g, 5, none⟩ = some (.int .i64 e.got) := fun i => i.cell ((cell_of_row _ _ 5 _ _ _ L7.out.row).trans rfl)
  have ROW7 := Lib.hid row7
  clear h7 row7
  go_wp2
  refine Mem.wp_region_later (by kernel_rfl) (by kernel_rfl) ?_
  repeat (go_big_quiet_step (fail))
  refine wpQuiet_nil ?_
  intro w8 hw8
  obtain ⟨i8, hi8⟩ := hw8
  have h8 : Below w7.heap.size w7 w8 := hi8 ▸ i8.h
  clear hi8 i8 n2 n5
  have L8 := Lib.hid (L7.out.below h8)
  have B8 := Lib.hid (B7.out.trans (Mem.But.of_below h8))
  have row8 := (h8.block w1.heap.size (Array.getElem?_eq_some_iff.1 ROW7.out).1).trans ROW7.out
  have ROW8 := Lib.hid row8
  clear h8 row8
  go_wp2
  have m6 : ∀ i : Mem.Later w8, i.w.cell? ⟨g, 6, none⟩ = some (.map (some b)) := fun i => i.cell ((cell_of_row _ _ 6 _ _ _ L8.out.row).trans rfl)
  have m2 : ∀ i : Mem.Later w8, i.w.cell? ⟨w1.heap.size, 2, none⟩ = some (.int .i64 seq) := fun i => i.cell ((cell_of_row _ _ 2 _ _ _ ROW8.out).trans rfl)
  have m4 : ∀ i : Mem.Later w8, i.w.cell? ⟨w1.heap.size, 4, none⟩ = some (.string (Mem.str body)) := fun i => i.cell ((cell_of_row _ _ 4 _ _ _ ROW8.out).trans rfl)
  refine Mem.wp_region_later_tail 8 (by kernel_rfl) (by kernel_rfl) ?_
  simp only [List.take_succ_cons, List.take_zero, List.drop_succ_cons, List.drop_zero]
  repeat (go_big_quiet_step (fail))
  refine wpQuiet_nil ?_
  intro w9 hw9
  obtain ⟨i9, hi9⟩ := hw9
  have h9 : Below w8.heap.size w8 w9 := hi9 ▸ i9.h
  clear hi9 i9 m6 m2 m4
  have L9 := Lib.hid (L8.out.below h9)
  have B9 := Lib.hid (B8.out.trans (Mem.But.of_below h9))
  clear h9
  refine Lnk.wpList_keep rfl _ _ _ rfl b e.room e.early L9.out.map (by unfold maxLen; omega) rfl seq (by omega) rfl body (by unfold maxLen; omega) rfl ?_
  intro w10 hm10 hg10
  have l10 : Lnk.Lie w10 g F { Lnk.acked hd ack e with owed := true, early := Lnk.upd e.early seq (some body), room := e.room + 1 } out b := L9.out.turned hm10 hg10
  have L10 := Lib.hid l10
  have B10 := Lib.hid (B9.out.trans (Lnk.But_grown hg10 L9.out.fb))
  clear hm10 hg10 l10
  have hE2 : ∀ k, e.got + 9 ≤ k → Lnk.upd e.early seq (some body) k = none := fun k hk => by
    unfold Lnk.upd
    rw [if_neg (by have := hcc.out.2.2; omega)]
    exact HE.out k hk
  go_wp2_with (go_at_call 37; go_loud (
    refine (link_told g F { Lnk.acked hd ack e with owed := true, early := Lnk.upd e.early seq (some body), room := e.room + 1 } (e.got + 9) (by omega) hE2 (by show e.got ≤ e.got + 9; omega) _ ⟨out, b, L10.out⟩).mono ?_
    rintro r w11 ⟨v, rfl, hat, hrow, hb11⟩))
  exact bodyPost_ret (results_tmp2 rfl _ _ _) rfl ⟨v, rfl, hat, hrow.mono B10.out.size, B10.out.trans hb11⟩
end Go.Proofs.Ytgkadhogfejheaa
