/- The walk of frame.Get, whole. -/
import Derived.Test.YtgkadhogfejheaaZFrmH
set_option linter.unusedVariables false
set_option linter.unusedSimpArgs false
namespace Go.Proofs.Ytgkadhogfejheaa
open Go.RowKit

namespace Mem
theorem put_cell1 {w w1 : World} {g : Nat} {cs : Array Value} {t : TypeId} (h : Put w w1 g cs t) (i : Nat) {v : Value} (hv : cs[i]? = some v) : w1.cell? ⟨g, i, none⟩ = some v := (cell_of_row w1 g i _ _ _ h.row).trans hv
end Mem
namespace Frm
theorem get_short (s : List UInt8) (h : s.length < 3) : get s = (zero, 8) := by
  match s with
  | [] => rfl
  | [_] => rfl
  | [_, _] => rfl
  | _ :: _ :: _ :: _ => simp at h; omega
theorem get_form (a b k : UInt8) (l : List UInt8) (h : ¬ (a = 70 ∧ b = 83 ∧ (k = 1 ∨ k = 2))) : get (a :: b :: k :: l) = (zero, 9) := by
  rw [get_cons, if_pos h]
end Frm

set_option maxRecDepth 100000 in
theorem frame_get_short (s : List UInt8) (hs : s.length < 3) (w : World) :
    Calls Try.prog 34 #[.string (Mem.str s)] w fun e w' => e = .returned (.tuple #[Frm.val (Frm.get s).1, .int .i64 (Frm.get s).2]) ∧ Below w.heap.size w w' := by
  have hsz := Mem.str_size s
  have hd : decide ((s.length : Int) < 3) = true := by rw [decide_eq_true_iff]; omega
  have hi : (s.length : Int) < 3 := by omega
  rw [Frm.get_short s hs]
  clear hs
  go_enter Try.func34, Try.ntmps34
  go_wp2_with (first
    | (refine Mem.wpList_alloc (o := ⟨some 2, _, _, _, _, _⟩) rfl 84 rfl _ Frm.zero_frame ?_
       intro w1 hn1
       have Hn1 := Lib.hid hn1
       clear hn1)
    | (refine Mem.wpList_store rfl 84 (.tmp 2) (.tmp 13) rfl _ #[.int .i64 0, .int .i64 0, .int .i64 0, .int .i64 0, .string ⟨#[]⟩] rfl rfl _ _ Hn1.out.row Frm.size_frame rfl (Frm.one_cells _ _ _ _ _) ?_
       intro w9 hp9
       have Hp9 := Lib.hid hp9
       clear hp9))
  exact bodyPost_ret (Frm.results_row_tmp rfl _ _ w.heap.size (.int .i64 8) _ _ _ _ rfl rfl Hp9.out.row Try.underlying84 rfl Frm.size_frame) rfl ⟨rfl, Hn1.out.below.trans (Hp9.out.below (Nat.le_refl _))⟩

set_option maxRecDepth 100000 in
set_option maxHeartbeats 1000000 in
theorem frame_get_mark (a b k : UInt8) (l : List UInt8) (hl : l.length < 2 ^ 61) (hm : ¬ (a = 70 ∧ b = 83)) (w : World) :
    Calls Try.prog 34 #[.string (Mem.str (a :: b :: k :: l))] w fun e w' => e = .returned (.tuple #[Frm.val (Frm.get (a :: b :: k :: l)).1, .int .i64 (Frm.get (a :: b :: k :: l)).2]) ∧ Below w.heap.size w w' := by
  rw [Frm.get_form a b k l (fun h => hm ⟨h.1, h.2.1⟩)]
  obtain ⟨s, hs⟩ : ∃ s, a :: b :: k :: l = s := ⟨_, rfl⟩
  have hlen : s.length = l.length + 3 := by rw [← hs]; simp
  have hsz : (Mem.str s).size = s.length := Mem.str_size s
  have hd3 : decide ((s.length : Int) < 3) = false := by rw [decide_eq_false_iff_not]; omega
  have hi3 : ¬ (s.length : Int) < 3 := by omega
  have hget : ∀ h, (Mem.str s)[2]'h = k := by intro h; subst hs; rfl
  have hex1 : (Mem.str s).extract 0 2 = Mem.str [a, b] := by rw [Num.str_extract, ← hs]; rfl
  have hne : ((Mem.str [a, b]).toList == [70, 83]) = false := beq_eq_false_iff_ne.2 fun e => hm (by rw [ByteArray.toList_eq, Mem.str_toList] at e; simpa using e)
  have hne2 : ((Mem.str [a, b]).toList == ByteArray.toList ⟨#[70, 83]⟩) = false := beq_eq_false_iff_ne.2 fun e => hm (by rw [ByteArray.toList_eq, ByteArray.toList_eq, Mem.str_toList] at e; simpa using e)
  have hb2 : (2 : Int) ≤ s.length := by omega
  have hb4 : (2 : Int) < s.length := by omega
  have hwk : IntKind.i64.wrap (k.toNat : Int) = k.toNat := by have := k.toNat_lt; rw [IntKind.wrap_i64]; omega
  rw [hs]
  clear hl hs hlen hm
  go_enter Try.func34, Try.ntmps34
  go_wp2_with (first
    | (refine Mem.wpList_alloc (o := ⟨some 2, _, _, _, _, _⟩) rfl 84 rfl _ Frm.zero_frame ?_
       intro w1 hn1
       have Hn1 := Lib.hid hn1
       clear hn1)
    | (refine Mem.wpList_store rfl 84 (.tmp 2) (.tmp 25) rfl _ #[.int .i64 0, .int .i64 0, .int .i64 0, .int .i64 0, .string ⟨#[]⟩] rfl rfl _ _ Hn1.out.row Frm.size_frame rfl (Frm.one_cells _ _ _ _ _) ?_
       intro w9 hp9
       have Hp9 := Lib.hid hp9
       clear hp9))
  exact bodyPost_ret (Frm.results_row_tmp rfl _ _ w.heap.size (.int .i64 9) _ _ _ _ rfl rfl Hp9.out.row Try.underlying84 rfl Frm.size_frame) rfl ⟨rfl, Hn1.out.below.trans (Hp9.out.below (Nat.le_refl _))⟩

set_option maxRecDepth 100000 in
set_option maxHeartbeats 1000000 in
theorem frame_get_kind (k : UInt8) (l : List UInt8) (hl : l.length < 2 ^ 61) (hm : ¬ (k = 1 ∨ k = 2)) (w : World) :
    Calls Try.prog 34 #[.string (Mem.str (70 :: 83 :: k :: l))] w fun e w' => e = .returned (.tuple #[Frm.val (Frm.get (70 :: 83 :: k :: l)).1, .int .i64 (Frm.get (70 :: 83 :: k :: l)).2]) ∧ Below w.heap.size w w' := by
  rw [Frm.get_form 70 83 k l (fun h => hm h.2.2)]
  obtain ⟨s, hs⟩ : ∃ s, 70 :: 83 :: k :: l = s := ⟨_, rfl⟩
  have hlen : s.length = l.length + 3 := by rw [← hs]; simp
  have hsz : (Mem.str s).size = s.length := Mem.str_size s
  have hd3 : decide ((s.length : Int) < 3) = false := by rw [decide_eq_false_iff_not]; omega
  have hi3 : ¬ (s.length : Int) < 3 := by omega
  have hget : ∀ h, (Mem.str s)[2]'h = k := by intro h; subst hs; rfl
  have hex1 : (Mem.str s).extract 0 2 = ⟨#[70, 83]⟩ := by rw [Num.str_extract, ← hs]; rfl
  have hb2 : (2 : Int) ≤ s.length := by omega
  have hb4 : (2 : Int) < s.length := by omega
  have hwk : IntKind.i64.wrap (k.toNat : Int) = k.toNat := by have := k.toNat_lt; rw [IntKind.wrap_i64]; omega
  have hkd : decide (1 ≤ (k.toNat : Int) ∧ (k.toNat : Int) ≤ 2) = false := by
    rw [decide_eq_false_iff_not]
    rintro ⟨h1, h2⟩
    apply hm
    have : k.toNat = 1 ∨ k.toNat = 2 := by omega
    rcases this with h | h
    · exact .inl (UInt8.toNat_inj.1 h)
    · exact .inr (UInt8.toNat_inj.1 h)
  have Hkd := Lib.hid hkd
  rw [hs]
  clear hl hs hlen hm hkd
  go_enter Try.func34, Try.ntmps34
  go_wp2_with (first
    | (refine Mem.wpList_alloc (o := ⟨some 2, _, _, _, _, _⟩) rfl 84 rfl _ Frm.zero_frame ?_
       intro w1 hn1
       have Hn1 := Lib.hid hn1
       clear hn1)
    | (go_at_call 51
       refine (frame_within _ _ _ _).mono ?_
       rw [Hkd.out]
       rintro e w2 ⟨rfl, rfl⟩)
    | (refine Mem.wpList_store rfl 84 (.tmp 2) (.tmp 25) rfl _ #[.int .i64 0, .int .i64 0, .int .i64 0, .int .i64 0, .string ⟨#[]⟩] rfl rfl _ _ Hn1.out.row Frm.size_frame rfl (Frm.one_cells _ _ _ _ _) ?_
       intro w9 hp9
       have Hp9 := Lib.hid hp9
       clear hp9))
  exact bodyPost_ret (Frm.results_row_tmp rfl _ _ w.heap.size (.int .i64 9) _ _ _ _ rfl rfl Hp9.out.row Try.underlying84 rfl Frm.size_frame) rfl ⟨rfl, Hn1.out.below.trans (Hp9.out.below (Nat.le_refl _))⟩

theorem frame_get (s : List UInt8) (hl : s.length < 2 ^ 61) (w : World) :
    Calls Try.prog 34 #[.string (Mem.str s)] w fun e w' => e = .returned (.tuple #[Frm.val (Frm.get s).1, .int .i64 (Frm.get s).2]) ∧ Below w.heap.size w w' := by
  match s with
  | [] => exact frame_get_short [] (by simp) w
  | [a] => exact frame_get_short [a] (by simp) w
  | [a, b] => exact frame_get_short [a, b] (by simp) w
  | a :: b :: k :: l =>
    have hl' : l.length < 2 ^ 61 := by simp at hl; omega
    by_cases hm : a = 70 ∧ b = 83
    · obtain ⟨rfl, rfl⟩ := hm
      by_cases hk : k = 1 ∨ k = 2
      · exact frame_get_main k hk l hl' w
      · exact frame_get_kind k l hl' hk w
    · exact frame_get_mark a b k l hl' hm w
end Go.Proofs.Ytgkadhogfejheaa
