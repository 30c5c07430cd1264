/- The walks of ops: within, of, mayText, and an insertion's methods at the document's example. -/
import Derived.Test.YtdeopfpabfaopaaOrdT
import Derived.Test.YtdeopfpabfaopaaOrdN
namespace Go.Proofs.Ytdeopfpabfaopaa
open Go.RowKit

set_option maxHeartbeats 1000000 in
theorem ops_within (n a b : Int) (w : World) : Calls Try.prog 13 #[.int .i64 n, .int .i64 a, .int .i64 b] w fun e w' => e = .returned (.bool (decide (a ≤ n) && decide (n ≤ b))) ∧ Below w.heap.size w w' := by
  go_enter Try.func13, Try.ntmps13
  by_cases h : a ≤ n
  · go_wp2
    go_ret
    exact ⟨by simp [h], Below.refl _ _⟩
  · go_wp2
    go_ret
    exact ⟨by simp; omega, Below.refl _ _⟩

set_option maxHeartbeats 1000000 in
theorem ops_may_text (w : World) : Calls Try.prog 40 #[.string ⟨#[97, 98]⟩] w fun e w' => e = .returned (.bool true) ∧ Below w.heap.size w w' := by
  go_enter Try.func40, Try.ntmps40
  go_wp2_with (first
    | (go_at_call 39
       refine (runes_len_ab _).mono ?_
       rintro e w1 ⟨rfl, hb1⟩)
    | (go_at_call 13
       refine (ops_within 2 1 200 _).mono ?_
       rintro e w2 ⟨rfl, hb2⟩))
  go_ret
  exact ⟨rfl, Mem.then_ hb1 hb2⟩

set_option maxHeartbeats 1000000 in
theorem ops_of_ins (w : World) : Calls Try.prog 12 #[.int .i64 1] w fun e w' => e = .returned (.iface 51 (.agg #[])) ∧ Below w.heap.size w w' := by
  go_enter Try.func12, Try.ntmps12
  go_wp2
  go_ret
  exact ⟨rfl, Below.refl _ _⟩
end Go.Proofs.Ytdeopfpabfaopaa
