/- The laws of chapter 05: FramePuts. -/
import Derived.Test.YtgkadhogfejheaaFrmS
namespace Go.Proofs.Ytgkadhogfejheaa
open Go.RowKit

namespace Frm
theorem shapes (f : F) (h : okB f = true) : (∃ s a : Nat, f = ⟨2, s, 0, a, []⟩ ∧ (1 ≤ s ∧ s ≤ 16) ∧ a ≤ 1099511627776) ∨
    (∃ (s q a : Nat) (b : List UInt8), f = ⟨1, s, q, a, b⟩ ∧ (1 ≤ s ∧ s ≤ 16) ∧ (1 ≤ q ∧ q ≤ 1099511627776) ∧ a ≤ 1099511627776 ∧ b.length ≤ 1048576) := by
  obtain ⟨k, s, q, a, b⟩ := f
  obtain ⟨h1, h2, h3⟩ := (ok_iff _).1 h
  simp only at h1 h2 h3
  rcases h3 with ⟨rfl, rfl, rfl⟩ | ⟨rfl, h4, h5⟩
  · refine .inl ⟨s.toNat, a.toNat, ?_, by omega, by omega⟩
    have e1 : ((s.toNat : Nat) : Int) = s := by omega
    have e2 : ((a.toNat : Nat) : Int) = a := by omega
    rw [e1, e2]
  · refine .inr ⟨s.toNat, q.toNat, a.toNat, b, ?_, by omega, by omega, by omega, h5⟩
    have e1 : ((s.toNat : Nat) : Int) = s := by omega
    have e2 : ((a.toNat : Nat) : Int) = a := by omega
    have e3 : ((q.toNat : Nat) : Int) = q := by omega
    rw [e1, e2, e3]
end Frm

theorem frame_put (f : Frm.F) (hok : Frm.okB f = true) (w : World) :
    Calls Try.prog 32 #[Frm.val f] w fun e w' => e = .returned (.tuple #[.string (Mem.str (Frm.put f)), .int .i64 0]) ∧ Below w.heap.size w w' := by
  rcases Frm.shapes f hok with ⟨s, a, rfl, h1, h2⟩ | ⟨s, q, a, b, rfl, h1, h2, h3, h4⟩
  · exact frame_put_two s a h1 h2 w
  · exact frame_put_one s q a b h1 h2 h3 h4 w
theorem frame_refput (f : Frm.F) (hok : Frm.okB f = true) (w : World) :
    Calls Try.prog 25 #[Frm.val f] w fun e w' => e = .returned (.string (Mem.str (Frm.put f))) ∧ Below w.heap.size w w' := by
  rcases Frm.shapes f hok with ⟨s, a, rfl, h1, h2⟩ | ⟨s, q, a, b, rfl, h1, h2, h3, h4⟩
  · exact frame_refput_two s a h1 h2 w
  · exact frame_refput_one s q a b h1 h2 h3 h4 w

end Go.Proofs.Ytgkadhogfejheaa
