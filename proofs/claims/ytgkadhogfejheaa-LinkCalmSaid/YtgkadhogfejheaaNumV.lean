/- The walks of package nums: Num, Text. -/
import Derived.Test.YtgkadhogfejheaaNumU
namespace Go.Proofs.Ytgkadhogfejheaa
open Go.RowKit

set_option maxRecDepth 100000 in
theorem nums_num_reads (w : World) (l : List UInt8) (hl : l.length < 2 ^ 62) (most : Nat) (hmost : most < 2 ^ 64) (bx y : Nat) (v0 : Int)
    (hx : w.cell? ⟨bx, 0, none⟩ = some (.int .u64 most)) (hy : w.heap[y]? = some (.cells #[.int .u64 v0] 99 (0, 0))) :
    Num.Reads 82 #[.pointer (some ⟨bx, 0, none⟩), .pointer (some ⟨y, 0, none⟩)] w l (· = y)
      (fun t w3 => ∃ v, Num.read most l = .ok (v, t) ∧ w3.heap[y]? = some (.cells #[.int .u64 v] 99 (0, 0))) (fun c w3 => ∃ n : Nat, c = n ∧ Num.read most l = .error n ∧ w3.heap[y]? = some (.cells #[.int .u64 v0] 99 (0, 0))) := by
  intro w2 p hp hbut hrd
  have hyl : y < w.heap.size := (Array.getElem?_eq_some_iff.1 hy).1
  have hxl := block_lt_of_cell hx
  simp only at hxl
  have hx2 : w2.cell? ⟨bx, 0, none⟩ = some (.int .u64 most) := (World.cell?_of_block (hbut.block bx hxl (fun h => h))).trans hx
  have hy2 : w2.heap[y]? = some (.cells #[.int .u64 v0] 99 (0, 0)) := (hbut.block y hyl (fun h => h)).trans hy
  have hpy : ¬ y = p := by omega
  have hpy2 : ¬ p = y := by omega
  have hy3 : w2.cell? ⟨y, 0, none⟩ = some (.int .u64 v0) := by rw [cell_of_row w2 y 0 _ _ _ hy2]; rfl
  have hy4 : w2.frozen? ⟨y, 0, none⟩ = false := frozen_of_row _ _ _ _ _ hy2
  have Hrd := Lib.hid hrd
  have Hy2 := Lib.hid hy2
  have Hl := Lib.hid hl
  have Hmost := Lib.hid hmost
  clear hx hy hbut hrd hy2 hl hmost
  show Calls _ _ #[.pointer (some ⟨p, 0, none⟩), .pointer (some ⟨bx, 0, none⟩), .pointer (some ⟨y, 0, none⟩)] _ _
  go_enter Try.func82, Try.ntmps82
  go_wp2_with (fail)
  refine (nums_num p most l 0 w2 Hmost.out Hl.out Hrd.out).mono ?_
  rintro e w' (⟨v, t, hr, rfl, rfl⟩ | ⟨c, hr, rfl, rfl⟩)
  · have Hr := Lib.hid hr
    clear hr
    go_wp2
    have hp := Mem.row_setCell w2 p 0 (.string (Mem.str t)) _ _ _ Hrd.out
    have hy5 : (w2.setCell ⟨p, 0, none⟩ (.string (Mem.str t))).heap[y]? = _ := (heap_setCell_other w2 _ y _ hpy).trans Hy2.out
    refine ⟨rfl, .tuple #[], by simp [results, Try.results82], .inl ⟨t, rfl, ?_, ⟨v, Hr.out, ?_⟩, ?_⟩⟩
    · exact (heap_setCell_other _ _ p _ hpy2).trans hp
    · exact Mem.row_setCell _ y 0 _ _ _ _ hy5
    · exact (Mem.But.of_setCell ⟨p, 0, none⟩ _ (.inl rfl)).trans (Mem.But.of_setCell ⟨y, 0, none⟩ _ (.inr rfl))
  · go_wp2
    exact ⟨rfl, .inr ⟨c, ⟨c, rfl, hr, Hy2.out⟩, rfl, Mem.But.refl _ _⟩⟩

namespace Num
def step (most : Nat) (l : List UInt8) (f : Int) : Nat × List UInt8 × Int :=
  if f ≠ 0 then (0, l, f) else match read most l with | .ok (x, t) => (x, t, 0) | .error c => (0, l, c)
theorem zero_u64 : (Try.prog.info? 99).bind (·.zero) = some (.int .u64 0) := by kernel_rfl
theorem zero_string : (Try.prog.info? 9).bind (·.zero) = some (.string ⟨#[]⟩) := by kernel_rfl
end Num

set_option maxRecDepth 100000 in
theorem nums_Num (g most : Nat) (l : List UInt8) (f : Int) (w : World) (hmost : most < 2 ^ 64) (hl : l.length < 2 ^ 62) (hrd : Num.Rd w g l f) :
    Calls Try.prog 67 #[.pointer (some ⟨g, 0, none⟩), .int .u64 most] w fun e w' =>
      ∃ x t f', Num.step most l f = (x, t, f') ∧ e = .returned (.int .u64 x) ∧ Num.Rd w' g t f' ∧ Mem.But (· = g) w w' := by
  have hmf : ∀ (fn : Fn) (first cap : Array Value) (w : World), (Instr.makeFunc fn first cap).run Try.prog w = .ok (.func fn first cap) w := fun _ _ _ _ => rfl
  have hgl := block_lt_of_cell hrd.rest
  simp only at hgl
  have Hrd := Lib.hid hrd
  have Hg := Lib.hid hgl
  have Hl := Lib.hid hl
  have Hmost := Lib.hid hmost
  clear hrd hgl hl hmost
  go_enter Try.func67, Try.ntmps67
  go_wp2_with (first
    | (refine Mem.wpList_box (o := ⟨some 3, _, _, _, _, _⟩) rfl 99 _ rfl (.int .u64 most) rfl ?_
       intro w1 hn1
       have Hn1 := Lib.hid hn1
       clear hn1)
    | (refine Mem.wpList_alloc (o := ⟨some 4, _, _, _, _, _⟩) rfl 99 rfl _ Num.zero_u64 ?_
       intro w2 hn2
       have Hn2 := Lib.hid hn2
       clear hn2))
  have hs1 := Hn1.out.size
  have hs2 := Hn2.out.size
  have hbut2 : Mem.But (fun _ => False) w w2 := (Mem.But.of_new Hn1.out).trans (Mem.But.of_new Hn2.out)
  have hrd2 : Num.Rd w2 g l f := (hbut2.block g Hg.out (fun h => h)).trans Hrd.out
  have hx : w2.cell? ⟨w.heap.size, 0, none⟩ = some (.int .u64 most) := by
    have : w2.heap[w.heap.size]? = w1.heap[w.heap.size]? := Hn2.out.old (by omega)
    rw [World.cell?_of_block this]; exact Hn1.out.cell1 0 rfl
  refine (nums_try_num g l f w2 hrd2 ⟨w.heap.size, 0, none⟩ ⟨w1.heap.size, 0, none⟩ (· = w1.heap.size) (by rintro k rfl; have := Hg.out; omega) _ _
    (nums_num_reads w2 l Hl.out most Hmost.out w.heap.size w1.heap.size 0 hx Hn2.out.row)).mono ?_
  have Hb := Lib.hid hbut2
  have Hs := Lib.hid (And.intro hs1 hs2)
  clear hs1 hs2 hbut2 hrd2 hx
  rintro e w3 (⟨hf, rfl, hrd3, hbut3⟩ | ⟨rfl, t, w4, ⟨v, hread, hrow⟩, rfl, hrd3, hbut3, hsame⟩ | ⟨rfl, c, w4, ⟨n, rfl, hread, hrow⟩, rfl, hrd3, hbut3, hsame⟩)
  · have hy : w3.heap[w1.heap.size]? = some (.cells #[.int .u64 0] 99 (0, 0)) := (hbut3.block _ (by have := Hs.out; omega) (fun h => h)).trans Hn2.out.row
    have e1 : w3.cell? ⟨w1.heap.size, 0, none⟩ = some (.int .u64 0) := by rw [cell_of_row _ _ 0 _ _ _ hy]; rfl
    have e2 : w3.frozen? ⟨w1.heap.size, 0, none⟩ = false := frozen_of_row _ _ _ _ _ hy
    have Hrd3 := Lib.hid hrd3
    have Hbut3 := Lib.hid hbut3
    have Hy := Lib.hid hy
    clear hrd3 hbut3 hy
    go_wp2
    have hp := Mem.put_setCell w3 w1.heap.size 0 (.int .u64 0) _ _ Hy.out
    refine bodyPost_ret (Mem.results_cell_one rfl _ _ w1.heap.size (.int .u64 0) _ rfl Try.underlying99 rfl (by rw [cell_of_row _ _ 0 _ _ _ hp.row]; rfl)) rfl ?_
    refine ⟨0, l, f, by simp [Num.step, hf], rfl, ?_, ?_⟩
    · exact (hp.other g (by have := Hg.out; have := Hs.out; omega)).trans Hrd3.out
    · exact ((Hb.out.trans Hbut3.out).mono fun _ _ h => h.elim).later (Mem.But.of_put hp (S := (· = w1.heap.size)) rfl) (by intro i hi (h : i = w1.heap.size); have := Hs.out; omega)
  · have hlt : w1.heap.size < w2.heap.size := by have := Hs.out; omega
    have hgs : ¬ w1.heap.size = g := by have := Hg.out; have := Hs.out; omega
    have hy : w3.heap[w1.heap.size]? = some (.cells #[.int .u64 v] 99 (0, 0)) := (hsame _ hlt hgs).trans hrow
    have e1 : w3.cell? ⟨w1.heap.size, 0, none⟩ = some (.int .u64 v) := by rw [cell_of_row _ _ 0 _ _ _ hy]; rfl
    have e2 : w3.frozen? ⟨w1.heap.size, 0, none⟩ = false := frozen_of_row _ _ _ _ _ hy
    have Hrd3 := Lib.hid hrd3
    have Hbut3 := Lib.hid hbut3
    have Hy := Lib.hid hy
    have Hread := Lib.hid hread
    clear hrd3 hbut3 hy hread hsame hrow hlt hgs
    go_wp2
    have hp := Mem.put_setCell w3 w1.heap.size 0 (.int .u64 v) _ _ Hy.out
    refine bodyPost_ret (Mem.results_cell_one rfl _ _ w1.heap.size (.int .u64 v) _ rfl Try.underlying99 rfl (by rw [cell_of_row _ _ 0 _ _ _ hp.row]; rfl)) rfl ?_
    refine ⟨v, t, 0, by simp [Num.step, Hread.out], rfl, ?_, ?_⟩
    · exact (hp.other g (by have := Hg.out; have := Hs.out; omega)).trans Hrd3.out
    · refine ((Hb.out.mono (T := (· = g)) fun _ _ h => h.elim).later Hbut3.out ?_).later (Mem.But.of_put hp (S := (· = w1.heap.size)) rfl) (by intro i hi (h : i = w1.heap.size); have := Hs.out; omega)
      intro i hi h
      rcases h with h | h
      · exact h
      · have h : i = w1.heap.size := h
        have := Hs.out; omega
  · have hlt : w1.heap.size < w2.heap.size := by have := Hs.out; omega
    have hgs : ¬ w1.heap.size = g := by have := Hg.out; have := Hs.out; omega
    have hy : w3.heap[w1.heap.size]? = some (.cells #[.int .u64 0] 99 (0, 0)) := (hsame _ hlt hgs).trans hrow
    have e1 : w3.cell? ⟨w1.heap.size, 0, none⟩ = some (.int .u64 0) := by rw [cell_of_row _ _ 0 _ _ _ hy]; rfl
    have e2 : w3.frozen? ⟨w1.heap.size, 0, none⟩ = false := frozen_of_row _ _ _ _ _ hy
    have Hrd3 := Lib.hid hrd3
    have Hbut3 := Lib.hid hbut3
    have Hy := Lib.hid hy
    have Hread := Lib.hid hread
    clear hrd3 hbut3 hy hread hsame hrow hlt hgs
    go_wp2
    have hp := Mem.put_setCell w3 w1.heap.size 0 (.int .u64 0) _ _ Hy.out
    refine bodyPost_ret (Mem.results_cell_one rfl _ _ w1.heap.size (.int .u64 0) _ rfl Try.underlying99 rfl (by rw [cell_of_row _ _ 0 _ _ _ hp.row]; rfl)) rfl ?_
    refine ⟨0, l, n, by simp [Num.step, Hread.out], rfl, ?_, ?_⟩
    · exact (hp.other g (by have := Hg.out; have := Hs.out; omega)).trans Hrd3.out
    · refine ((Hb.out.mono (T := (· = g)) fun _ _ h => h.elim).later Hbut3.out ?_).later (Mem.But.of_put hp (S := (· = w1.heap.size)) rfl) (by intro i hi (h : i = w1.heap.size); have := Hs.out; omega)
      intro i hi h
      rcases h with h | h
      · exact h
      · have h : i = w1.heap.size := h
        have := Hs.out; omega
end Go.Proofs.Ytgkadhogfejheaa
