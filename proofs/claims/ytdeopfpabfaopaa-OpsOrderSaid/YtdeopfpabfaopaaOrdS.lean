/- The walks of runes.steps and of its iterator, runes.Len, at "ab". -/
import Derived.Test.YtdeopfpabfaopaaOrdR
namespace Go.Proofs.Ytdeopfpabfaopaa
open Go.RowKit Go.Shelf

attribute [local go_sem] Oper.semAt_some

set_option maxRecDepth 100000 in
set_option maxHeartbeats 1000000 in
theorem decode_ab (w : World) : Calls Try.prog 44 #[.string ⟨#[97, 98]⟩] w fun e w' => e = .returned (.tuple #[.int .i32 97, .int .i64 1]) ∧ w' = w := by
  go_enter Try.func44, Try.ntmps44
  go_wp2
  refine bodyPost_ret (results_tmp2 rfl _ _ _) rfl ⟨rfl, rfl⟩

set_option maxRecDepth 100000 in
set_option maxHeartbeats 1000000 in
theorem decode_b (w : World) : Calls Try.prog 44 #[.string ⟨#[98]⟩] w fun e w' => e = .returned (.tuple #[.int .i32 98, .int .i64 1]) ∧ w' = w := by
  go_enter Try.func44, Try.ntmps44
  go_wp2
  refine bodyPost_ret (results_tmp2 rfl _ _ _) rfl ⟨rfl, rfl⟩

set_option maxHeartbeats 1000000 in
theorem steps_in (n : Nat) (s : ByteArray) (w : World) :
    CallsIn Fence.wide n Try.prog 42 #[.string s] w fun e w' => e = .returned (.func (.func 43) #[] #[.pointer (some ⟨w.heap.size, 0, none⟩)]) ∧ w' = w.alloc (.cells #[.string s] 9) := by
  refine callsIn_of_wp Try.func42 rfl trivial ?_ rfl
  simp only [Try.ntmps42, List.size_toArray, List.length_cons, List.length_nil, Nat.reduceAdd, Nat.reduceSub, Array.replicate_succ, Array.replicate_zero, List.push_toArray, List.append_toArray, List.nil_append, List.cons_append]
  gi_wp2
  go_ret
  exact ⟨rfl, rfl⟩

namespace Rng
/-- how long the text is that box Bs holds -/
def lenAt (Bs : Nat) (w : World) : Nat := match w.cell? ⟨Bs, 0, none⟩ with | some (.string s) => s.size | _ => 0
theorem lenAt_of {Bs : Nat} {w : World} {s : ByteArray} {t : TypeId} (h : Boxed w Bs t (.string s)) : lenAt Bs w = s.size := by unfold lenAt; rw [h.cell]
end Rng

set_option maxRecDepth 100000 in
set_option maxHeartbeats 4000000 in
theorem steps1_gives (n : Nat) (hn : 2 ≤ n) (Bs : Nat) : Rng.Gives Fence.wide n Try.prog 43 #[.pointer (some ⟨Bs, 0, none⟩)] [#[.int .i32 97, .int .i64 1], #[.int .i32 98, .int .i64 1]] Bs (.cells #[.string ⟨#[97, 98]⟩] 9 (0, 0)) := by
  intro l J W hJ hB hY h0
  refine callsIn_of_wp Try.func43 rfl trivial ?_ rfl
  simp only [Try.ntmps43, List.size_toArray, List.length_cons, List.length_nil, Nat.reduceAdd, Nat.reduceSub, Array.replicate_succ, Array.replicate_zero, List.push_toArray, List.append_toArray, List.nil_append, List.cons_append]
  have HJ := Lib.hid hJ
  have HB := Lib.hid hB
  have HY := Lib.hid hY
  have h1 : 1 ≤ n := by omega
  clear hJ hB hY
  gi_wp2
  gi_loopw [] (fun wr => ∃ (k : Nat) (s : ByteArray), J k wr ∧ Boxed wr Bs 9 (.string s) ∧ (k = 0 ∧ s = ⟨#[97, 98]⟩ ∨ k = 1 ∧ s = ⟨#[98]⟩ ∨ k = 2 ∧ s = ⟨#[]⟩))
    (fun wr => Rng.lenAt Bs wr)
  case atStart => exact ⟨0, _, h0, HB.out, .inl ⟨rfl, rfl⟩⟩
  case round =>
    obtain ⟨k, s, hj, hb, hc⟩ := hrel
    have c0 := hb.cell
    have Hb := Lib.hid hb
    rcases hc with ⟨rfl, rfl⟩ | ⟨rfl, rfl⟩ | ⟨rfl, rfl⟩
    · obtain ⟨fn, tmps, assign, body, hy, hR⟩ := HY.out 0 _ wr rfl hj
      have HR := Lib.hid hR
      clear hR hj hb
      gi_wp2_with (
        refine ⟨trivial, ?_⟩
        gi_at_call 44
        refine (callsIn_wide.2 (decode_ab _)).mono ?_
        rintro e W2 ⟨rfl, rfl⟩)
      refine HR.out.mono ?_
      rintro e W3 ⟨rfl, hj3, hb3⟩
      have b3 : Boxed W3 Bs 9 _ := hb3.trans Hb.out
      have c3 := b3.cell
      have f3 := b3.frozen
      have B3 := Lib.hid b3
      have J3 := Lib.hid hj3
      clear b3 hj3 hb3
      gi_wp2
      refine ⟨⟨1, _, HJ.out _ _ _ J3.out (grownBy_setCell' _ _ _), B3.out.set _, .inr (.inl ⟨rfl, rfl⟩)⟩, ?_⟩
      rw [Rng.lenAt_of (B3.out.set _), Rng.lenAt_of Hb.out]
      decide
    · obtain ⟨fn, tmps, assign, body, hy, hR⟩ := HY.out 1 _ wr rfl hj
      have HR := Lib.hid hR
      clear hR hj hb
      gi_wp2_with (
        refine ⟨trivial, ?_⟩
        gi_at_call 44
        refine (callsIn_wide.2 (decode_b _)).mono ?_
        rintro e W2 ⟨rfl, rfl⟩)
      refine HR.out.mono ?_
      rintro e W3 ⟨rfl, hj3, hb3⟩
      have b3 : Boxed W3 Bs 9 _ := hb3.trans Hb.out
      have c3 := b3.cell
      have f3 := b3.frozen
      have B3 := Lib.hid b3
      have J3 := Lib.hid hj3
      clear b3 hj3 hb3
      gi_wp2
      refine ⟨⟨2, _, HJ.out _ _ _ J3.out (grownBy_setCell' _ _ _), B3.out.set _, .inr (.inr ⟨rfl, rfl⟩)⟩, ?_⟩
      rw [Rng.lenAt_of (B3.out.set _), Rng.lenAt_of Hb.out]
      decide
    · have Hj := Lib.hid hj
      clear hj hb
      gi_wp2
      refine bodyPost_end (results_none rfl _ _ _) rfl ?_
      exact ⟨⟨_, rfl⟩, Hj.out⟩
end Go.Proofs.Ytdeopfpabfaopaa
