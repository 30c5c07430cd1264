/- The pair's tick and come. -/
import Derived.Test.YtgkadhogfejheaaZLnkM
import Derived.Deep.RegionLaw
set_option linter.unusedVariables false
set_option linter.unusedSimpArgs false
namespace Go.Proofs.Ytgkadhogfejheaa
open Go.RowKit

namespace Lnk
/-- a pair's world, but for blocks from B on, stays -/
theorem PLie.size {w : World} {B q : Nat} {g : Nat → Nat} {F : Nat → Nat → Prop} {s : Nat → Value} {e : Nat → St} {c : Nat → List (List UInt8)} (h : PLie w B q g F s e c) : B ≤ w.heap.size := Nat.le_trans h.bq (Nat.le_of_lt h.qlt)
end Lnk

-- END tick

namespace Lnk
theorem toldGo_len : ∀ (f g : Nat) (E : Nat → Option (List UInt8)) (acc : List (List UInt8)), (toldGo f g E acc).2.2.length ≤ acc.length + f
  | 0, g, E, acc => Nat.le_refl _
  | f + 1, g, E, acc => by
    unfold toldGo
    cases hE : E (g + 1) with
    | none => simp only; omega
    | some s =>
      have := toldGo_len f (g + 1) (upd E (g + 1) none) (acc ++ [s])
      simp only [List.length_append, List.length_cons, List.length_nil] at this ⊢
      omega
theorem take_len (hd : Nat → Nat → Bool → Nat → Nat × Nat × Bool) (e : St) (s : List UInt8) : (take hd e s).2.1.length ≤ 9 := by
  unfold take
  simp only
  by_cases hc : (if (Frm.get s).2 = 0 then asked e (Frm.get s).1 else (Frm.get s).2) = 0
  · rw [if_pos hc]
    unfold takeF
    simp only
    split
    · simp
    · split
      · simp
      · have := toldGo_len (e.got + 9 - e.got) e.got (upd e.early (Frm.get s).1.seq.toNat (some (Frm.get s).1.body)) []
        simp only [List.length_nil] at this
        show (toldGo (e.got + 9 - e.got) e.got (upd e.early (Frm.get s).1.seq.toNat (some (Frm.get s).1.body)) []).2.2.length ≤ 9
        omega
  · rw [if_neg hc]
    simp
end Lnk

-- END come
end Go.Proofs.Ytgkadhogfejheaa
