/- A sorted row of spans on memory. -/
import Derived.Test.YtihdcglkmilckaaNrmA
import Derived.Test.YtihdcglkmilckaaBut
namespace Go.Proofs.Ytihdcglkmilckaa
open Go.RowKit Go.Sort

namespace Spn
open PSpansOpen Go.Proofs.YtihdcglkmilckaaW.PrintWords
def encS (x : Span) : List Value := [.int .i64 x.f0, .int .i64 x.f1]
theorem encS_len (x : Span) : (encS x).length = 2 := rfl
theorem encS_one (x : Span) : ∀ v ∈ encS x, v.oneCell' = true := by
  intro v hv
  simp only [encS, List.mem_cons, List.not_mem_nil, or_false] at hv
  rcases hv with rfl | rfl <;> rfl
theorem flatK_span (d : Array Span) : (flatK encS 2 d).toList = flat d.toList := by
  apply List.ext_getElem?
  intro t
  by_cases ht : t < d.size * 2
  · have hi : t / 2 < d.size := by omega
    have hs : d.toList[t / 2]? = some d[t / 2]! := by rw [Array.getElem?_toList, getElem!_pos d (t / 2) hi, Array.getElem?_eq_getElem hi]
    have h1 := flat_get d.toList (t / 2) _ hs
    have h2 : (flatK encS 2 d).toList[t]? = some (flatK encS 2 d)[t]! := by
      have hz : t < (flatK encS 2 d).size := by rw [size_flatK]; exact ht
      rw [Array.getElem?_toList, getElem!_pos _ t hz, Array.getElem?_eq_getElem hz]
    rw [h2, get_flatK _ _ _ t ht]
    rcases Nat.mod_two_eq_zero_or_one t with h0 | h0
    · rw [h0, show t = t / 2 * 2 by omega, h1.1, show t / 2 * 2 / 2 = t / 2 by omega]; rfl
    · rw [h0, show t = t / 2 * 2 + 1 by omega, h1.2, show (t / 2 * 2 + 1) / 2 = t / 2 by omega]; rfl
  · rw [List.getElem?_eq_none (by rw [Array.length_toList, size_flatK]; omega), List.getElem?_eq_none (by rw [flat_length, Array.length_toList]; omega)]
/-- a row of spans of one's own, as the sort holds it -/
theorem own_holds {w : World} {base g cap : Nat} {l : List Span} (h : Own w base (.slice (some ⟨g, 0, none⟩) l.length cap) l) : HoldsK encS 2 w g 0 l.toArray ∧ g < w.heap.size ∧ base ≤ g := by
  obtain ⟨h1, h2⟩ := h
  rcases h2 with ⟨e, _⟩ | ⟨g2, cap2, cur, e, hg, hrow, hn, hm, hc, ht⟩
  · cases e
  · cases e
    refine ⟨fun j hj => ?_, (Array.getElem?_eq_some_iff.1 hrow).1, hg⟩
    rw [size_flatK] at hj
    have hj2 : j < l.length * 2 := by simpa using hj
    have e1 : (flatK encS 2 l.toArray)[j]! = (flat l)[j]'(by rw [flat_length]; exact hj2) := by
      have hz : j < (flatK encS 2 l.toArray).size := by rw [size_flatK]; exact hj
      rw [getElem!_pos _ j hz]
      have := flatK_span l.toArray
      have h3 : (flatK encS 2 l.toArray).toList[j]? = (flat l)[j]? := by rw [this]
      rw [Array.getElem?_toList, Array.getElem?_eq_getElem hz, List.getElem?_eq_getElem (by rw [flat_length]; exact hj2)] at h3
      exact Option.some.inj h3
    rw [e1, Nat.zero_add]
    refine ⟨?_, frozen_of_row _ _ j _ _ hrow⟩
    rw [cell_of_row _ _ j _ _ _ hrow]
    have h3 : (cur.toList.take (l.length * 2))[j]? = (flat l)[j]? := by rw [ht]
    rw [List.getElem?_take_of_lt hj2, Array.getElem?_toList, List.getElem?_eq_getElem (by rw [flat_length]; exact hj2)] at h3
    exact h3
/-- .. and behind the sort -/
theorem sorted_own {w : World} {base g cap : Nat} {l : List Span} (h : Own w base (.slice (some ⟨g, 0, none⟩) l.length cap) l) (d' : Array Span) (hd : d'.size = l.length) (n : Nat) (os : Array Obj) :
    Own (sortWorldK encS 2 w g 0 n d' os) base (.slice (some ⟨g, 0, none⟩) l.length cap) d'.toList ∧ Mem.But (· = g) w (sortWorldK encS 2 w g 0 n d' os) := by
  obtain ⟨h1, h2⟩ := h
  rcases h2 with ⟨e, _⟩ | ⟨g2, cap2, cur, e, hg, hrow, hn, hm, hc, ht⟩
  · cases e
  · cases e
    have hlt : g < w.heap.size := (Array.getElem?_eq_some_iff.1 hrow).1
    have hz : (flatK encS 2 d').size = l.length * 2 := by rw [size_flatK, hd]
    have hdl : d'.toList.length = l.length := (Array.length_toList).trans hd
    have hB : Mem.But (· = g) w (sortWorldK encS 2 w g 0 n d' os) := by
      refine ⟨rfl, rfl, rfl, ?_, fun k hk hne => ?_⟩
      · show w.heap.size ≤ (w.heap.modify g _ ++ os).size
        simp
      · show (w.heap.modify g _ ++ os)[k]? = _
        rw [Array.getElem?_append_left (by simpa using hk), Array.getElem?_modify, if_neg (fun e => hne e.symm)]
    refine ⟨⟨by rw [flat_length, Array.length_toList], .inr ⟨g, cap, putCells id 0 (flatK encS 2 d') cur, by rw [hdl], hg, ?_, ?_, hm, ?_, ?_⟩⟩, hB⟩
    · show (w.heap.modify g _ ++ os)[g]? = _
      rw [Array.getElem?_append_left (by simpa using hlt), Array.getElem?_modify, if_pos rfl, hrow]
      rfl
    · rw [hdl]; exact hn
    · unfold putCells; rw [Array.size_mapIdx]; exact hc
    · rw [hdl]
      apply List.ext_getElem?
      intro t
      by_cases htt : t < l.length * 2
      · have hcur : t < cur.size := by rw [hc]; exact Nat.lt_of_lt_of_le htt (Nat.mul_le_mul_right 2 hn)
        rw [List.getElem?_take_of_lt htt, Array.getElem?_toList, ← flatK_span, Array.getElem?_toList]
        unfold putCells
        rw [Array.getElem?_mapIdx, Array.getElem?_eq_getElem hcur, Option.map_some, if_pos ⟨Nat.zero_le _, by rw [hz]; omega⟩, Nat.sub_zero, getElem!_pos _ t (by rw [hz]; exact htt), Array.getElem?_eq_getElem (by rw [hz]; exact htt)]
        rfl
      · rw [List.getElem?_eq_none (by rw [List.length_take]; omega), List.getElem?_eq_none (by rw [flat_length, hdl]; omega)]
end Spn
end Go.Proofs.Ytihdcglkmilckaa
