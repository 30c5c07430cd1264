/- The walks of package nums: Text. -/
import Derived.Test.YtgkadhogfejheaaNumV
namespace Go.Proofs.Ytgkadhogfejheaa
open Go.RowKit

set_option maxRecDepth 100000 in
set_option maxHeartbeats 400000 in
theorem nums_text_reads (w : World) (l : List UInt8) (hl : l.length < 2 ^ 62) (most : Int) (hmost : most ≤ 9223372036854775807) (bx y : Nat)
    (hx : w.cell? ⟨bx, 0, none⟩ = some (.int .i64 most)) (hy : w.heap[y]? = some (.cells #[.string ⟨#[]⟩] 9 (0, 0))) :
    Num.Reads 84 #[.pointer (some ⟨bx, 0, none⟩), .pointer (some ⟨y, 0, none⟩)] w l (· = y)
      (fun t w3 => ∃ n t0, Num.read (max most 0).toNat l = .ok (n, t0) ∧ n ≤ t0.length ∧ t = t0.drop n ∧ w3.heap[y]? = some (.cells #[.string (Mem.str (t0.take n))] 9 (0, 0)))
      (fun c w3 => ((∃ n : Nat, c = n ∧ Num.read (max most 0).toNat l = .error n) ∨ (c = 8 ∧ ∃ n t0, Num.read (max most 0).toNat l = .ok (n, t0) ∧ t0.length < n)) ∧ w3.heap[y]? = some (.cells #[.string ⟨#[]⟩] 9 (0, 0))) := by
  intro w2 p hp hbut hrd
  have hyl : y < w.heap.size := (Array.getElem?_eq_some_iff.1 hy).1
  have hxl := block_lt_of_cell hx
  simp only at hxl
  have hx2 : w2.cell? ⟨bx, 0, none⟩ = some (.int .i64 most) := (World.cell?_of_block (hbut.block bx hxl (fun h => h))).trans hx
  have hy2 : w2.heap[y]? = some (.cells #[.string ⟨#[]⟩] 9 (0, 0)) := (hbut.block y hyl (fun h => h)).trans hy
  have hpy : ¬ y = p := by omega
  have hpy2 : ¬ p = y := by omega
  have hy3 : w2.cell? ⟨y, 0, none⟩ = some (.string ⟨#[]⟩) := by rw [cell_of_row w2 y 0 _ _ _ hy2]; rfl
  have hy4 : w2.frozen? ⟨y, 0, none⟩ = false := frozen_of_row _ _ _ _ _ hy2
  have hp3 := hrd.rest
  have hp4 := hrd.free 0
  have Hrd := Lib.hid hrd
  have Hy2 := Lib.hid hy2
  have Hl := Lib.hid hl
  have Hmost := Lib.hid hmost
  clear hx hy hbut hrd hy2 hl hmost
  show Calls _ _ #[.pointer (some ⟨p, 0, none⟩), .pointer (some ⟨bx, 0, none⟩), .pointer (some ⟨y, 0, none⟩)] _ _
  go_enter Try.func84, Try.ntmps84
  obtain ⟨M, hM⟩ : ∃ M, (max most 0).toNat = M := ⟨_, rfl⟩
  rw [hM]
  have hMlt : M < 2 ^ 64 := by have := Hmost.out; omega
  have HM := Lib.hid hM
  have HMlt := Lib.hid hMlt
  clear hM hMlt
  go_wp2_with (fail)
  all_goals
    first
      | (have e : IntKind.u64.wrap 0 = (M : Int) := by (rw [IntKind.wrap_u64]; have := HM.out; omega)
         rw [e])
      | (have e : IntKind.u64.wrap most = (M : Int) := by (rw [IntKind.wrap_u64]; have := HM.out; have := Hmost.out; omega)
         rw [e])
    clear e
    refine (nums_num p M l 0 w2 HMlt.out Hl.out Hrd.out).mono ?_
    rintro e w4 (⟨n, t0, hr, rfl, hw4⟩ | ⟨c, hr, rfl, rfl⟩)
    · have hpr : Num.Rd w4 p t0 0 := hw4 ▸ Mem.row_setCell w2 p 0 (.string (Mem.str t0)) _ _ _ Hrd.out
      have hyr : w4.heap[y]? = some (.cells #[.string ⟨#[]⟩] 9 (0, 0)) := hw4 ▸ (heap_setCell_other w2 _ y _ hpy).trans Hy2.out
      have hbut4 : Mem.But (fun k => k = p ∨ k = y) w2 w4 := hw4 ▸ Mem.But.of_setCell ⟨p, 0, none⟩ _ (.inl rfl)
      have e1 := hpr.rest
      have e2 := hpr.free 0
      have e3 : w4.cell? ⟨y, 0, none⟩ = some (.string ⟨#[]⟩) := by rw [cell_of_row w4 y 0 _ _ _ hyr]; rfl
      have e4 : w4.frozen? ⟨y, 0, none⟩ = false := frozen_of_row _ _ _ _ _ hyr
      have htl : t0.length ≤ l.length := by
        have := (Num.read_put hr).1
        rw [this]; simp
      have hsz := Mem.str_size t0
      have Hpr := Lib.hid hpr
      have Hyr := Lib.hid hyr
      have Hbut4 := Lib.hid hbut4
      have Htl := Lib.hid htl
      have Hr := Lib.hid hr
      clear hw4 hpr hyr hbut4 htl hr hx2 hy3 hy4 hp3 hp4
      by_cases hle : n ≤ t0.length
      · have hw : IntKind.u64.wrap (t0.length : Int) = (t0.length : Int) := by rw [IntKind.wrap_u64]; have := Htl.out; have := Hl.out; omega
        have hd1 : decide ((t0.length : Int) < n) = false := by simp; omega
        have hd2 : ¬ (t0.length : Int) < n := by omega
        have hleI : (n : Int) ≤ t0.length := by omega
        go_wp2
        go_region
        go_wp2
        have h1 := Mem.row_setCell w4 y 0 (.string (Mem.str (t0.take n))) _ _ _ Hyr.out
        have h2 : (w4.setCell ⟨y, 0, none⟩ (.string (Mem.str (t0.take n)))).heap[p]? = _ := (heap_setCell_other w4 _ p _ hpy2).trans Hpr.out
        have e5 : (Mem.str t0).extract 0 n = Mem.str (t0.take n) := by rw [Num.str_extract]; rfl
        have e6 : (Mem.str t0).extract n t0.length = Mem.str (t0.drop n) := Num.str_drop t0 n
        rw [e5, e6]
        refine ⟨rfl, .tuple #[], by simp [results, Try.results84], .inl ⟨t0.drop n, rfl, ?_, ⟨n, t0, Hr.out, hle, rfl, ?_⟩, ?_⟩⟩
        · exact Mem.row_setCell _ p 0 _ _ _ _ h2
        · exact (heap_setCell_other _ _ y _ hpy).trans h1
        · exact Hbut4.out.trans ((Mem.But.of_setCell ⟨y, 0, none⟩ _ (.inr rfl)).trans ((Mem.But.of_setCell ⟨p, 0, none⟩ _ (.inl rfl)).trans (Mem.But.of_drewN 1)))
      · have hw : IntKind.u64.wrap (t0.length : Int) = (t0.length : Int) := by rw [IntKind.wrap_u64]; have := Htl.out; have := Hl.out; omega
        have hd1 : decide ((t0.length : Int) < n) = true := by simp; omega
        have hd2 : (t0.length : Int) < n := by omega
        go_wp2
        exact ⟨rfl, .inr ⟨8, ⟨.inr ⟨rfl, n, t0, Hr.out, by omega⟩, Hyr.out⟩, rfl, Hbut4.out⟩⟩
    · go_wp2
      exact ⟨rfl, .inr ⟨c, ⟨.inl ⟨c, rfl, hr⟩, Hy2.out⟩, rfl, Mem.But.refl _ _⟩⟩

namespace Num
def text (most : Int) (l : List UInt8) (f : Int) : List UInt8 × List UInt8 × Int :=
  if f ≠ 0 then ([], l, f) else match read (max most 0).toNat l with
  | .error c => ([], l, c)
  | .ok (n, t) => if t.length < n then ([], l, 8) else (t.take n, t.drop n, 0)
end Num

set_option maxRecDepth 100000 in
theorem nums_Text (g : Nat) (most : Int) (l : List UInt8) (f : Int) (w : World) (hmost : most ≤ 9223372036854775807) (hl : l.length < 2 ^ 62) (hrd : Num.Rd w g l f) :
    Calls Try.prog 71 #[.pointer (some ⟨g, 0, none⟩), .int .i64 most] w fun e w' =>
      ∃ x t f', Num.text most l f = (x, t, f') ∧ e = .returned (.string (Mem.str x)) ∧ Num.Rd w' g t f' ∧ Mem.But (· = g) w w' := by
  have hmf : ∀ (fn : Fn) (first cap : Array Value) (w : World), (Instr.makeFunc fn first cap).run Try.prog w = .ok (.func fn first cap) w := fun _ _ _ _ => rfl
  have hgl := block_lt_of_cell hrd.rest
  simp only at hgl
  have Hrd := Lib.hid hrd
  have Hg := Lib.hid hgl
  have Hl := Lib.hid hl
  have Hmost := Lib.hid hmost
  clear hrd hgl hl hmost
  go_enter Try.func71, Try.ntmps71
  go_wp2_with (first
    | (refine Mem.wpList_box (o := ⟨some 3, _, _, _, _, _⟩) rfl 3 _ rfl (.int .i64 most) rfl ?_
       intro w1 hn1
       have Hn1 := Lib.hid hn1
       clear hn1)
    | (refine Mem.wpList_alloc (o := ⟨some 4, _, _, _, _, _⟩) rfl 9 rfl _ Num.zero_string ?_
       intro w2 hn2
       have Hn2 := Lib.hid hn2
       clear hn2))
  have hs1 := Hn1.out.size
  have hs2 := Hn2.out.size
  have hbut2 : Mem.But (fun _ => False) w w2 := (Mem.But.of_new Hn1.out).trans (Mem.But.of_new Hn2.out)
  have hrd2 : Num.Rd w2 g l f := (hbut2.block g Hg.out (fun h => h)).trans Hrd.out
  have hx : w2.cell? ⟨w.heap.size, 0, none⟩ = some (.int .i64 most) := by
    have : w2.heap[w.heap.size]? = w1.heap[w.heap.size]? := Hn2.out.old (by omega)
    rw [World.cell?_of_block this]; exact Hn1.out.cell1 0 rfl
  refine (nums_try_text g l f w2 hrd2 ⟨w.heap.size, 0, none⟩ ⟨w1.heap.size, 0, none⟩ (· = w1.heap.size) (by rintro k rfl; have := Hg.out; omega) _ _
    (nums_text_reads w2 l Hl.out most Hmost.out w.heap.size w1.heap.size hx Hn2.out.row)).mono ?_
  have Hb := Lib.hid hbut2
  have Hs := Lib.hid (And.intro hs1 hs2)
  clear hs1 hs2 hbut2 hrd2 hx
  rintro e w3 (⟨hf, rfl, hrd3, hbut3⟩ | ⟨rfl, t, w4, ⟨n, t0, hread, hle, ht, hrow⟩, rfl, hrd3, hbut3, hsame⟩ | ⟨rfl, c, w4, ⟨hread, hrow⟩, rfl, hrd3, hbut3, hsame⟩)
  · have hy : w3.heap[w1.heap.size]? = some (.cells #[.string ⟨#[]⟩] 9 (0, 0)) := (hbut3.block _ (by have := Hs.out; omega) (fun h => h)).trans Hn2.out.row
    have e1 : w3.cell? ⟨w1.heap.size, 0, none⟩ = some (.string ⟨#[]⟩) := by rw [cell_of_row _ _ 0 _ _ _ hy]; rfl
    have e2 : w3.frozen? ⟨w1.heap.size, 0, none⟩ = false := frozen_of_row _ _ _ _ _ hy
    have Hrd3 := Lib.hid hrd3
    have Hbut3 := Lib.hid hbut3
    have Hy := Lib.hid hy
    clear hrd3 hbut3 hy
    go_wp2
    have hp := Mem.put_setCell w3 w1.heap.size 0 (.string ⟨#[]⟩) _ _ Hy.out
    refine bodyPost_ret (Mem.results_cell_one rfl _ _ w1.heap.size (.string ⟨#[]⟩) _ rfl Try.underlying9 rfl (by rw [cell_of_row _ _ 0 _ _ _ hp.row]; rfl)) rfl ?_
    refine ⟨[], l, f, by simp [Num.text, hf], rfl, ?_, ?_⟩
    · exact (hp.other g (by have := Hg.out; have := Hs.out; omega)).trans Hrd3.out
    · exact ((Hb.out.trans Hbut3.out).mono fun _ _ h => h.elim).later (Mem.But.of_put hp (S := (· = w1.heap.size)) rfl) (by intro i hi (h : i = w1.heap.size); have := Hs.out; omega)
  · have hlt : w1.heap.size < w2.heap.size := by have := Hs.out; omega
    have hgs : ¬ w1.heap.size = g := by have := Hg.out; have := Hs.out; omega
    have hy : w3.heap[w1.heap.size]? = some (.cells #[.string (Mem.str (t0.take n))] 9 (0, 0)) := (hsame _ hlt hgs).trans hrow
    have e1 : w3.cell? ⟨w1.heap.size, 0, none⟩ = some (.string (Mem.str (t0.take n))) := by rw [cell_of_row _ _ 0 _ _ _ hy]; rfl
    have e2 : w3.frozen? ⟨w1.heap.size, 0, none⟩ = false := frozen_of_row _ _ _ _ _ hy
    have Hrd3 := Lib.hid hrd3
    have Hbut3 := Lib.hid hbut3
    have Hy := Lib.hid hy
    have Hread := Lib.hid hread
    clear hrd3 hbut3 hy hread hsame hrow hlt hgs
    go_wp2
    have hp := Mem.put_setCell w3 w1.heap.size 0 (.string (Mem.str (t0.take n))) _ _ Hy.out
    refine bodyPost_ret (Mem.results_cell_one rfl _ _ w1.heap.size (.string (Mem.str (t0.take n))) _ rfl Try.underlying9 rfl (by rw [cell_of_row _ _ 0 _ _ _ hp.row]; rfl)) rfl ?_
    refine ⟨t0.take n, t, 0, by simp [Num.text, Hread.out, ht, Nat.not_lt.2 hle], rfl, ?_, ?_⟩
    · exact (hp.other g (by have := Hg.out; have := Hs.out; omega)).trans Hrd3.out
    · refine ((Hb.out.mono (T := (· = g)) fun _ _ h => h.elim).later Hbut3.out ?_).later (Mem.But.of_put hp (S := (· = w1.heap.size)) rfl) (by intro i hi (h : i = w1.heap.size); have := Hs.out; omega)
      intro i hi h
      rcases h with h | h
      · exact h
      · have h : i = w1.heap.size := h
        have := Hs.out; omega
  · have hlt : w1.heap.size < w2.heap.size := by have := Hs.out; omega
    have hgs : ¬ w1.heap.size = g := by have := Hg.out; have := Hs.out; omega
    have hy : w3.heap[w1.heap.size]? = some (.cells #[.string ⟨#[]⟩] 9 (0, 0)) := (hsame _ hlt hgs).trans hrow
    have e1 : w3.cell? ⟨w1.heap.size, 0, none⟩ = some (.string ⟨#[]⟩) := by rw [cell_of_row _ _ 0 _ _ _ hy]; rfl
    have e2 : w3.frozen? ⟨w1.heap.size, 0, none⟩ = false := frozen_of_row _ _ _ _ _ hy
    have Hrd3 := Lib.hid hrd3
    have Hbut3 := Lib.hid hbut3
    have Hy := Lib.hid hy
    have Hread := Lib.hid hread
    clear hrd3 hbut3 hy hread hsame hrow hlt hgs
    go_wp2
    have hp := Mem.put_setCell w3 w1.heap.size 0 (.string ⟨#[]⟩) _ _ Hy.out
    refine bodyPost_ret (Mem.results_cell_one rfl _ _ w1.heap.size (.string ⟨#[]⟩) _ rfl Try.underlying9 rfl (by rw [cell_of_row _ _ 0 _ _ _ hp.row]; rfl)) rfl ?_
    refine ⟨[], l, c, by rcases Hread.out with ⟨n, rfl, h⟩ | ⟨rfl, n, t0, h, h2⟩ <;> simp [Num.text, h]; exact h2, rfl, ?_, ?_⟩
    · exact (hp.other g (by have := Hg.out; have := Hs.out; omega)).trans Hrd3.out
    · refine ((Hb.out.mono (T := (· = g)) fun _ _ h => h.elim).later Hbut3.out ?_).later (Mem.But.of_put hp (S := (· = w1.heap.size)) rfl) (by intro i hi (h : i = w1.heap.size); have := Hs.out; omega)
      intro i hi h
      rcases h with h | h
      · exact h
      · have h : i = w1.heap.size := h
        have := Hs.out; omega

end Go.Proofs.Ytgkadhogfejheaa
