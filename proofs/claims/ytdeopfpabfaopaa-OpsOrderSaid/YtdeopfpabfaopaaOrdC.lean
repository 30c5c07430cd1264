/- The walks of ops.Before and vect.NameLess; the order. -/
import Derived.Test.YtdeopfpabfaopaaOrdB
namespace Go.Proofs.Ytdeopfpabfaopaa
open Go.RowKit

namespace Ord
/-- an operation's cells -/
structure Op where
  s : Int
  q : Int
  n : Int
  k : Int
  p : Int
  t : ByteArray
  v : Value
def Op.cells (o : Op) : Array Value := #[.int .i64 o.s, .int .i64 o.q, .int .i64 o.n, .int .i64 o.k, .int .i64 o.p, .string o.t, o.v]
def less (s q s' q' : Int) : Bool := if s = s' then decide (q < q') else decide (s < s')
def before (a b : Op) : Bool := if a.n = b.n then less a.s a.q b.s b.q else decide (b.n = 0) || (decide (a.n ≠ 0) && decide (a.n < b.n))
theorem before_self (a : Op) : before a a = false := by unfold before less; simp
theorem before_asym (a b : Op) : (before a b && before b a) = false := by
  unfold before less
  by_cases h : a.n = b.n
  · have h' := h.symm
    by_cases h2 : a.s = b.s
    · have h2' := h2.symm
      simp [h, h2]; omega
    · have h2' : ¬ b.s = a.s := fun e => h2 e.symm
      simp [h, h2, h2']; omega
  · have h' : ¬ b.n = a.n := fun e => h e.symm
    simp [h, h']; omega
theorem before_total (a b : Op) (h : ¬ (a.s = b.s ∧ a.q = b.q ∧ a.n = b.n)) (h1 : before a b = false) : before b a = true := by
  unfold before less at h1 ⊢
  by_cases h2 : a.n = b.n
  · have h2' := h2.symm
    by_cases h3 : a.s = b.s
    · have h3' := h3.symm
      simp [h2, h3] at h1 ⊢
      have h4 : a.q ≠ b.q := fun e => h ⟨h3, e, h2⟩
      omega
    · have h3' : ¬ b.s = a.s := fun e => h3 e.symm
      simp [h2, h3, h3'] at h1 ⊢
      omega
  · have h2' : ¬ b.n = a.n := fun e => h2 e.symm
    simp [h2, h2'] at h1 ⊢
    omega
theorem before_trans (a b c : Op) (hb : 0 ≤ b.n) (hc : 0 ≤ c.n) (h1 : before a b = true) (h2 : before b c = true) : before a c = true := by
  unfold before less at h1 h2 ⊢
  split at h1 <;> split at h2 <;> split <;> (try split at h1) <;> (try split at h2) <;> (try split) <;> simp at h1 h2 ⊢ <;> omega
end Ord

set_option maxHeartbeats 1000000 in
theorem vect_nameless (s q s' q' : Int) (w : World) : Calls Try.prog 9 #[.agg #[.int .i64 s, .int .i64 q], .agg #[.int .i64 s', .int .i64 q']] w fun e w' => e = .returned (.bool (Ord.less s q s' q')) ∧ Below w.heap.size w w' := by
  go_enter Try.func9, Try.ntmps9
  have hb : Below w.heap.size w ((w.alloc (.cells #[.int .i64 s, .int .i64 q] 23)).alloc (.cells #[.int .i64 s', .int .i64 q'] 23)) := ((Below.refl _ w).alloc (Nat.le_refl _) _).alloc (by simp) _
  have Hb := Lib.hid hb
  clear hb
  by_cases h : s = s'
  · subst h
    go_wp2
    go_ret
    exact ⟨by simp [Ord.less], Hb.out⟩
  · go_wp2
    go_ret
    exact ⟨by simp [Ord.less, h], Hb.out⟩

set_option maxHeartbeats 2000000 in
theorem ops_before (a b : Ord.Op) (w : World) : Calls Try.prog 5 #[.agg a.cells, .agg b.cells] w fun e w' => e = .returned (.bool (Ord.before a b)) ∧ Below w.heap.size w w' := by
  obtain ⟨s, q, n, k, p, t, v⟩ := a
  obtain ⟨s', q', n', k', p', t', v'⟩ := b
  unfold Ord.Op.cells
  simp only
  go_enter Try.func5, Try.ntmps5
  have hb : Below w.heap.size w ((w.alloc (.cells #[.int .i64 s, .int .i64 q, .int .i64 n, .int .i64 k, .int .i64 p, .string t, v] 26)).alloc (.cells #[.int .i64 s', .int .i64 q', .int .i64 n', .int .i64 k', .int .i64 p', .string t', v'] 26)) := ((Below.refl _ w).alloc (Nat.le_refl _) _).alloc (by simp) _
  have Hb := Lib.hid hb
  clear hb
  by_cases h : n = n'
  · subst h
    have HL := Lib.hid (vect_nameless s q s' q')
    go_wp2_with (
      go_at_call 9
      refine (HL.out _).mono ?_
      rintro e w2 ⟨rfl, hb2⟩)
    go_ret
    exact ⟨by simp [Ord.before], Mem.then_ Hb.out hb2⟩
  · by_cases h0 : n' = 0
    · subst h0
      go_wp2
      all_goals go_ret
      all_goals exact ⟨by simp [Ord.before, h], Hb.out⟩
    · by_cases h1 : n = 0
      · subst h1
        go_wp2
        go_ret
        exact ⟨by simp [Ord.before, h, h0], Hb.out⟩
      · go_wp2
        go_ret
        refine ⟨?_, Hb.out⟩
        have e0 : (n' == 0) = false := by simpa using h0
        have e1 : (n != 0) = true := by simpa using h1
        simp [Ord.before, h, h0, h1, e0, e1]
end Go.Proofs.Ytdeopfpabfaopaa
