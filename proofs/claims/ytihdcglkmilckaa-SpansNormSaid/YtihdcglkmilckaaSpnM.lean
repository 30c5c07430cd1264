/- Words on memory for lists of spans: a row of one's own, and what it reads as. -/
import Derived.Test.YtihdcglkmilckaaMem
import Derived.Test.YtihdcglkmilckaaPSpansOpenx0
import Derived.Deep.AppendLies
namespace Go.Proofs.Ytihdcglkmilckaa
open Go.RowKit

namespace Spn
open PSpansOpen Go.Proofs.YtihdcglkmilckaaW.PrintWords
abbrev Span := S42
def flat (l : List Span) : List Value := l.flatMap fun s => [.int .i64 s.f0, .int .i64 s.f1]
theorem flat_nil : flat [] = [] := rfl
theorem flat_cons (s : Span) (l : List Span) : flat (s :: l) = .int .i64 s.f0 :: .int .i64 s.f1 :: flat l := rfl
theorem flat_append (l m : List Span) : flat (l ++ m) = flat l ++ flat m := by unfold flat; rw [List.flatMap_append]
theorem flat_length (l : List Span) : (flat l).length = l.length * 2 := by
  induction l with
  | nil => rfl
  | cons s l ih => rw [flat_cons]; simp only [List.length_cons, ih]; omega
theorem flat_get (l : List Span) (i : Nat) (s : Span) (h : l[i]? = some s) : (flat l)[i * 2]? = some (.int .i64 s.f0) ∧ (flat l)[i * 2 + 1]? = some (.int .i64 s.f1) := by
  induction l generalizing i with
  | nil => simp at h
  | cons t l ih =>
    rw [flat_cons]
    cases i with
    | zero => simp at h; subst h; simp
    | succ i =>
      have := ih i (by simpa using h)
      rw [show (i + 1) * 2 = i * 2 + 1 + 1 by omega, List.getElem?_cons_succ, List.getElem?_cons_succ, List.getElem?_cons_succ, List.getElem?_cons_succ]
      exact this
theorem flat_one (l : List Span) : ∀ u ∈ flat l, u.oneCell' = true := by
  intro u hu
  unfold flat at hu
  rw [List.mem_flatMap] at hu
  obtain ⟨s, _, hs⟩ := hu
  simp at hs
  rcases hs with rfl | rfl <;> rfl
/-- a row of one's own, from block base on -/
def Own (w : World) (base : Nat) (v : Value) (l : List Span) : Prop := w.ownsRow base 42 2 v l.length (flat l)
theorem own_nil (w : World) (base : Nat) : Own w base (.slice none 0 0) [] := ⟨rfl, .inl ⟨rfl, rfl⟩⟩
theorem own_form {w : World} {base : Nat} {v : Value} {l : List Span} (h : Own w base v l) : ∃ A cap, v = .slice A l.length cap ∧ l.length ≤ cap ∧ cap ≤ maxLen := by
  rcases h.2 with ⟨rfl, h0⟩ | ⟨g, cap, cur, rfl, _, _, h1, h2, _⟩
  · exact ⟨none, 0, by rw [h0], by omega, by unfold maxLen; omega⟩
  · exact ⟨_, cap, rfl, h1, h2⟩
/-- where it lies -/
theorem own_at {w : World} {base : Nat} {A : Option Addr} {cap : Nat} {l : List Span} (h : Own w base (.slice A l.length cap) l) (hl : 0 < l.length) :
    ∃ g cur, A = some ⟨g, 0, none⟩ ∧ base ≤ g ∧ w.heap[g]? = some (.cells cur 42 (0, 0)) ∧ cur.size = cap * 2 ∧ cur.toList.take (l.length * 2) = flat l ∧ l.length ≤ cap ∧ cap ≤ maxLen := by
  rcases h.2 with ⟨_, h0⟩ | ⟨g, cap', cur, hv, h1, h2, h3, h4, h5, h6⟩
  · omega
  · injection hv with ha _ hc
    subst hc
    exact ⟨g, cur, ha, h1, h2, h5, h6, h3, h4⟩
theorem own_cell {w : World} {g : Nat} {cur : Array Value} {l : List Span} (hg : w.heap[g]? = some (.cells cur 42 (0, 0))) (hc : cur.toList.take (l.length * 2) = flat l) (i : Nat) (s : Span) (h : l[i]? = some s) :
    w.cell? ⟨g, i * 2, none⟩ = some (.int .i64 s.f0) ∧ w.cell? ⟨g, i * 2 + 1, none⟩ = some (.int .i64 s.f1) := by
  obtain ⟨h1, h2⟩ := flat_get l i s h
  have hi : i < l.length := (List.getElem?_eq_some_iff.1 h).1
  rw [← hc] at h1 h2
  rw [List.getElem?_take_of_lt (by omega), Array.getElem?_toList] at h1 h2
  exact ⟨(cell_of_row _ _ _ _ _ _ hg).trans h1, (cell_of_row _ _ _ _ _ _ hg).trans h2⟩
theorem own_reads {w : World} {base : Nat} {A : Option Addr} {cap : Nat} {l : List Span} (h : Own w base (.slice A l.length cap) l) : Kd.C k42 w A l.length l := by
  obtain ⟨A', cap', hv, hlc, hm⟩ := own_form h
  refine ⟨rfl, by unfold maxLen at hm; omega, fun hl => ?_⟩
  obtain ⟨g, cur, rfl, _, hg, _, ht, _⟩ := own_at h hl
  refine ⟨_, rfl, fun j p hj => ⟨_, rfl, k42_mk w p, fun i u hu => ?_⟩⟩
  obtain ⟨h1, h2⟩ := own_cell hg ht j p hj
  rw [Go.WideShapes.add_plain, Nat.zero_add]
  match i, hu with
  | 0, hu => simp at hu; subst hu; exact h1
  | 1, hu => simp at hu; subst hu; exact h2
  | i + 2, hu => simp at hu
theorem own_of_R {w : World} {base : Nat} {ok : Nat → Prop} {v : Value} {l : List Span} (h : Kd.R k42 42 w base ok v l) : Own w base v l := by
  obtain ⟨_, inner, ho, hr⟩ := h
  have hsz : k42.sz = 2 := rfl
  have : inner = flat l := by
    have hlen : inner.length = l.length * 2 := hr.1
    apply List.ext_getElem?
    intro j
    rcases Nat.lt_or_ge j (l.length * 2) with hj | hj
    · obtain ⟨s, hp⟩ : ∃ s, l[j / 2]? = some s := ⟨_, List.getElem?_eq_getElem (by omega)⟩
      have h2 := hr.2 (j / 2) _ hp
      have h3 := k42_openM h2
      rw [hsz] at h3
      obtain ⟨f1, f2⟩ := flat_get l (j / 2) _ hp
      have h4 : ((inner.drop (j / 2 * 2)).take 2)[j % 2]? = inner[j]? := by
        rw [List.getElem?_take_of_lt (by omega), List.getElem?_drop]
        congr 1; omega
      rw [← h4, h3]
      rcases (by omega : j % 2 = 0 ∨ j % 2 = 1) with e | e
      · rw [e, ← show j / 2 * 2 = j by omega, f1]; rfl
      · rw [e, ← show j / 2 * 2 + 1 = j by omega, f2]; rfl
    · rw [List.getElem?_eq_none (by omega), List.getElem?_eq_none (by rw [flat_length]; omega)]
  rw [this] at ho
  exact ho
theorem own_below {w w1 : World} {base : Nat} {v : Value} {l : List Span} (h : Own w base v l) (hb : Below w.heap.size w w1) : Own w1 base v l := by
  obtain ⟨h1, h2⟩ := h
  refine ⟨h1, ?_⟩
  rcases h2 with h2 | ⟨g, cap, cur, rfl, hg, hh, r⟩
  · exact .inl h2
  · exact .inr ⟨g, cap, cur, rfl, hg, (hb.block g (Array.getElem?_eq_some_iff.1 hh).1).trans hh, r⟩
/-- other blocks may have been written -/
theorem own_keep {w w1 : World} {base : Nat} {v : Value} {l : List Span} (h : Own w base v l) (hb : ∀ k, k < w.heap.size → v.ownBlock = some k → w1.heap[k]? = w.heap[k]?) : Own w1 base v l := by
  obtain ⟨h1, h2⟩ := h
  refine ⟨h1, ?_⟩
  rcases h2 with h2 | ⟨g, cap, cur, rfl, hg, hh, r⟩
  · exact .inl h2
  · exact .inr ⟨g, cap, cur, rfl, hg, (hb g (Array.getElem?_eq_some_iff.1 hh).1 rfl).trans hh, r⟩
theorem own_drew {w : World} {base : Nat} {v : Value} {l : List Span} (h : Own w base v l) (n : Nat) : Own (w.drewN n) base v l := h
/-- the length of the last one is set -/
theorem own_set {w w1 : World} {base g cap : Nat} {cur : Array Value} {m : List Span} {t : Span} {y : Int} (h : Own w base (.slice (some ⟨g, 0, none⟩) (m.length + 1) cap) (m ++ [t]))
    (hg : w.heap[g]? = some (.cells cur 42 (0, 0))) (hp : Mem.Put w w1 g (cur.setIfInBounds (m.length * 2 + 1) (.int .i64 y)) 42) : Own w1 base (.slice (some ⟨g, 0, none⟩) (m.length + 1) cap) (m ++ [⟨t.f0, y⟩]) := by
  have hl : (m ++ [t]).length = m.length + 1 := by simp
  have hl2 : (m ++ [(⟨t.f0, y⟩ : Span)]).length = m.length + 1 := by simp
  rcases h.2 with ⟨_, h0⟩ | ⟨g', cap', cur', hv, h1, h2, h3, h4, h5, h6⟩
  · omega
  · injection hv with ha _ hc
    injection ha with ha
    injection ha with hg'
    subst hg'; subst hc
    rw [hg] at h2
    obtain rfl : cur = cur' := by simpa using h2
    refine ⟨flat_length _, .inr ⟨g, cap, _, by rw [hl2], h1, hp.row, by omega, h4, by simp [h5], ?_⟩⟩
    rw [Array.toList_setIfInBounds, List.take_set, hl2, ← hl, h6, flat_append, flat_append]
    apply List.ext_getElem?
    intro j
    have e1 : flat [t] = [.int .i64 t.f0, .int .i64 t.f1] := rfl
    have e2 : flat [(⟨t.f0, y⟩ : Span)] = [.int .i64 t.f0, .int .i64 y] := rfl
    rw [e1, e2, List.set_append_right _ _ (by rw [flat_length]; omega), flat_length, show m.length * 2 + 1 - m.length * 2 = 1 by omega]
    rfl
theorem info_span : (Try.prog.info? 42).map (fun i => (i.zero, i.size, i.bytes)) = some (some (.agg #[.int .i64 0, .int .i64 0]), 2, 16) := by kernel_rfl
/-- what an append of one leaves -/
theorem own_snoc {w : World} {base : Nat} {v : Value} {l : List Span} {s : Span} (h : w.ownsRow base 42 2 v (l.length + 1) (flat l ++ [.int .i64 s.f0, .int .i64 s.f1])) : Own w base v (l ++ [s]) := by
  unfold Own
  rw [List.length_append, flat_append]
  exact h
/-- append(l, t): t has just been laid into a block of its own -/
theorem append_one {ops : Array Oper} {rest : List Oper} {o : Oper} {a : Act} {Q : Exit → Act → World → Prop} {w : World} (hgd : o.guard = none) (s x : Operand)
    (ho : o.op = .call { callee := .builtin .append, args := #[s, x], argTypes := #[22, 22] }) (base : Nat) (l : List Span) (t : Span) (v : Value) (hs : a.eval s = v) (hx : a.eval x = .slice (some ⟨w.heap.size, 0, none⟩) 1 1)
    (hown : Own w base v l) (hlen : l.length ≤ 1000000) (hbase : base ≤ w.heap.size)
    (h : ∀ v' w', Own w' base v' (l ++ [t]) → w.grownBy w' v.ownBlock → (v'.ownBlock = v.ownBlock ∨ ∃ b, v'.ownBlock = some b ∧ w.heap.size ≤ b) → wpList Try.prog ops Q rest (a.put o.dst v') w') :
    wpList Try.prog ops Q (o :: rest) a (w.alloc (.cells #[.int .i64 t.f0, .int .i64 t.f1] 42)) := by
  obtain ⟨i, hi, hz, hz1, hz2⟩ := info_parts info_span
  refine wpList_append_own_at _ hgd s x 22 ho base 42 i _ 2 16 Try.underlying22 hi hz hz1 hz2 rfl (by omega) v l.length (flat l) hs (World.ownsRow.alloc hown _) ⟨w.heap.size, 0, none⟩ 1 1 [.int .i64 t.f0, .int .i64 t.f1] hx rfl ?_ ?_ (by unfold maxLen; omega) (by omega) (by simp; omega) ?_
  · exact World.news_of_block (heap_alloc_new w _)
  · intro u hu
    simp at hu
    rcases hu with rfl | rfl <;> rfl
  · intro v' w' h1 hg _ hat
    refine h v' w' (own_snoc h1) ⟨hg.os, hg.tape, hg.output, ?_, fun k hk hne => ?_⟩ ?_
    · have := hg.size
      simp at this; omega
    · refine (hg.block k (by simp; omega) hne).trans ?_
      exact ((Below.refl w.heap.size w).alloc (Nat.le_refl _) _).block k hk
    · rcases hat with e | e
      · exact .inl e
      · exact .inr ⟨_, e, by simp⟩
end Spn
end Go.Proofs.Ytihdcglkmilckaa
