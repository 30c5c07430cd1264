/- The walk of an end's due. -/
import Derived.Test.YtgkadhogfejheaaLnkC
import Derived.Test.YtgkadhogfejheaaPacW
namespace Go.Proofs.Ytgkadhogfejheaa
open Go.RowKit

namespace Lnk
/-- how long this pace waits -/
def WaitIs (m d : Nat) (s : Bool) (n : Nat) : Prop := ∀ (t : Int) (w : World), t ≤ 9223372036854775807 →
  Calls Try.prog 44 #[.agg #[.float .f64 m, .float .f64 d, .bool s], .int .i64 t] w fun e w' => e = .returned (.int .i64 (Pac.dbl n t.toNat)) ∧ Below w.heap.size w w'
def due (n now : Nat) (x : Wt) : Bool := decide (x.tries = 0) || decide ((Pac.dbl n (x.tries - 1) : Int) ≤ (now : Int) - x.sent)
end Lnk

set_option maxRecDepth 100000 in
set_option maxHeartbeats 1000000 in
theorem link_due (g p o now m d n : Nat) (s : Bool) (x : Lnk.Wt) (hn : Lnk.WaitIs m d s n) (w : World) (h1 : w.cell? ⟨g, 1, none⟩ = some (.int .i64 now)) (h7 : w.cell? ⟨g, 7, none⟩ = some (.float .f64 m)) (h8 : w.cell? ⟨g, 8, none⟩ = some (.float .f64 d)) (h9 : w.cell? ⟨g, 9, none⟩ = some (.bool s))
    (x1 : w.cell? ⟨p, o + 1, none⟩ = some (.int .i64 x.tries)) (x2 : w.cell? ⟨p, o + 2, none⟩ = some (.int .i64 x.sent)) (hb : now < 1099511627776 ∧ x.sent < 1099511627776 ∧ x.tries < 1099511627776) :
    Calls Try.prog 31 #[.pointer (some ⟨g, 0, none⟩), .pointer (some ⟨p, o, none⟩)] w fun e w' => e = .returned (.bool (Lnk.due n now x)) ∧ Below w.heap.size w w' := by
  obtain ⟨seq, tries, sent, body⟩ := x
  simp only at x1 x2 hb
  unfold Lnk.due
  simp only
  have kc : ∀ {a : Addr} {v : Value} (i : Mem.Later w), w.cell? a = some v → i.w.cell? a = some v := fun i h => i.cell h
  have e1 : ∀ i : Mem.Later w, i.w.cell? ⟨g, 1, none⟩ = some (.int .i64 now) := fun i => i.cell h1
  have e7 : ∀ i : Mem.Later w, i.w.cell? ⟨g, 7, none⟩ = some (.float .f64 m) := fun i => i.cell h7
  have e8 : ∀ i : Mem.Later w, i.w.cell? ⟨g, 8, none⟩ = some (.float .f64 d) := fun i => i.cell h8
  have e9 : ∀ i : Mem.Later w, i.w.cell? ⟨g, 9, none⟩ = some (.bool s) := fun i => i.cell h9
  have f1 : ∀ i : Mem.Later w, i.w.cell? ⟨p, o + 1, none⟩ = some (.int .i64 tries) := fun i => i.cell x1
  have f2 : ∀ i : Mem.Later w, i.w.cell? ⟨p, o + 2, none⟩ = some (.int .i64 sent) := fun i => i.cell x2
  have Hb := Lib.hid hb
  have Hn := Lib.hid hn
  clear h1 h7 h8 h9 x1 x2 hb hn kc
  by_cases ht : tries = 0
  · subst ht
    go_enter Try.func31, Try.ntmps31
    go_wp2
    refine Mem.wp_region_later (by kernel_rfl) (by kernel_rfl) ?_
    repeat (go_big_quiet_step (fail))
    refine wpQuiet_nil ?_
    rintro _ ⟨⟨wr, hr⟩, rfl⟩
    go_wp2
    go_ret
    exact ⟨by simp, hr⟩
  · have d1 : ((tries : Int) == 0) = false := by simp; omega
    have w1 : wrap64 ((tries : Int) - 1) = ((tries - 1 : Nat) : Int) := by have := Hb.out; unfold wrap64; omega
    have w2 : wrap64 ((now : Int) - sent) = (now : Int) - sent := by have := Hb.out; unfold wrap64; omega
    go_enter Try.func31, Try.ntmps31
    go_wp2
    refine Mem.wp_region_later (by kernel_rfl) (by kernel_rfl) ?_
    repeat (go_big_quiet_step ((go_at_call 44; refine Mem.later_call (Hn.out _ _ (by have := Hb.out; omega)))))
    refine wpQuiet_nil ?_
    rintro _ ⟨⟨wr, hr⟩, rfl⟩
    go_wp2
    go_ret
    exact ⟨by simp [ht], hr⟩
end Go.Proofs.Ytgkadhogfejheaa
