/- Opening an argument that is a list of spans. -/
import Derived.Test.YtihdcglkmilckaaSpnM
import Derived.Deep.Slices
import Derived.Deep.Fields
namespace Go.Proofs.Ytihdcglkmilckaa
open Go.RowKit

namespace Spn
open PSpansOpen Go.Proofs.YtihdcglkmilckaaW.PrintWords
theorem cells_span : Try.prog.cellsOf 42 = 2 := by kernel_rfl
theorem cells_one : Try.prog.cellsOf 3 = 1 := by kernel_rfl
/-- one span's two cells -/
theorem trod_span {H : Type} {enc : TypeId × Value → H} {w : World} {base : Nat} {spare : Nat → Bool} {held : Bool} {n : Nat} {cs : List Value} {x : DataW H × List MemPlace} (h : DataW.trod enc Try.prog w base spare held n 42 cs = some x) (hc : cs.length = 2) :
    ∃ s : Span, cs = [.int .i64 s.f0, .int .i64 s.f1] := by
  match cs, hc with
  | [c0, c1], _ =>
    obtain ⟨ys, m, _, _, _, hl, hf⟩ := DataW.trod_struct Try.underlying42 h
    obtain ⟨y0, y1, rfl⟩ : ∃ y0 y1, ys = [y0, y1] := by
      match ys, hl with
      | [y0, y1], _ => exact ⟨y0, y1, rfl⟩
    have h0 : DataW.trod enc Try.prog w base spare held m 3 (List.take (Try.prog.cellsOf 3) (List.drop 0 [c0, c1])) = [y0, y1][0]? := hf 0 _ rfl
    have h1 : DataW.trod enc Try.prog w base spare held m 3 (List.take (Try.prog.cellsOf 3) (List.drop 1 [c0, c1])) = [y0, y1][1]? := hf 1 _ rfl
    rw [cells_one] at h0 h1
    obtain ⟨x0, e0, _, _⟩ := DataW.trod_int Try.underlying3 (by simpa using h0)
    obtain ⟨x1, e1, _, _⟩ := DataW.trod_int Try.underlying3 (by simpa using h1)
    simp only [List.cons.injEq, and_true] at e0 e1
    exact ⟨⟨x0, x1⟩, by rw [e0, e1]⟩
/-- the argument reads as a list of spans -/
theorem arg_spans {H : Type} {enc : TypeId × Value → H} {w : World} {a0 : Option Addr} {len cap : Nat} {d : DataW H} {p : List MemPlace} (h : DataW.Trod enc Try.prog w 0 (fun _ => true) true 22 (.slice a0 len cap) d p) :
    ∃ l : List Span, l.length = len ∧ len ≤ cap ∧ Kd.C k42 w a0 l.length l := by
  obtain ⟨fuel, h⟩ := h
  simp only [Value.cells] at h
  rcases Deep.open_slice Try.underlying22 h with ⟨h1, _⟩ | ⟨a, l2, c2, m, n, D, Pl, h1, _, h3, h4, h5, _, h6⟩
  · simp only [List.cons.injEq, and_true] at h1
    cases h1
    exact ⟨[], rfl, by omega, Kd.C_nil _ _⟩
  · simp only [List.cons.injEq, and_true] at h1
    cases h1
    have hm : m = cap := h5
    subst hm
    rw [cells_span] at h6
    obtain ⟨f, hf⟩ := Deep.choose_lt (α := Int × Int) (n := len) (p := fun i (s : Int × Int) => w.cells? 0 (a.add (i * 2)) 2 = some [.int .i64 s.1, .int .i64 s.2]) (fun i hi => by
      obtain ⟨cs, g1, g2⟩ := h6 i (by omega)
      obtain ⟨_, hcl, _⟩ := World.cells?_some g1
      obtain ⟨s, rfl⟩ := trod_span g2 hcl
      exact ⟨(s.f0, s.f1), g1⟩)
    refine ⟨(List.range len).map fun i => ⟨(f i).1, (f i).2⟩, by simp, h3, ?_⟩
    refine ⟨rfl, by unfold maxLen at h4; simp; omega, fun hl => ⟨a, rfl, fun j s hj => ⟨_, rfl, k42_mk w s, fun i u hu => ?_⟩⟩⟩
    have hj2 : j < len := by have := (List.getElem?_eq_some_iff.1 hj).1; simpa using this
    have hs : s = ⟨(f j).1, (f j).2⟩ := by
      rw [List.getElem?_map, List.getElem?_range hj2] at hj
      simpa using hj.symm
    subst hs
    obtain ⟨_, _, hat⟩ := World.cells?_some (hf j hj2)
    have hi : i < 2 := by have := (List.getElem?_eq_some_iff.1 hu).1; simpa using this
    have h7 := hat i hi
    rw [Deep.add_add] at h7
    exact h7.trans hu
end Spn
end Go.Proofs.Ytihdcglkmilckaa
