/- The reference's Take: what it refuses. -/
import Derived.Test.YtgkadhogfejheaaZPlyB
set_option linter.unusedVariables false
set_option linter.unusedSimpArgs false
namespace Go.Proofs.Ytgkadhogfejheaa
open Go.RowKit

namespace Ply
open Lnk
theorem zero_refframe : (Try.prog.info? 54).bind (·.zero) = some (.agg #[.int .i64 0, .int .i64 0, .int .i64 0, .int .i64 0, .string ⟨#[]⟩]) := by kernel_rfl
theorem size_refframe : (Try.prog.info? 54).map (·.size) = some 5 := by kernel_rfl
theorem one_refframe (a b c d : Int) (s : ByteArray) : (#[Value.int .i64 a, .int .i64 b, .int .i64 c, .int .i64 d, .string s]).all (·.oneCell') = true := by simp [Value.oneCell']
theorem results_ctt {P : Program} {fn : Func} {p q r : Tmp} {ty : TypeId} (h : fn.results = #[.cell p ty, .tmp q, .tmp r]) (tmps : Array Value) (w : World) (g : Nat) (v u : Value) (t : TypeId) (cs : Array Value) (fr : Nat × Nat) (d : TypeDesc)
    (hp : tmps.getD p undef = .pointer (some ⟨g, 0, none⟩)) (hq : tmps.getD q undef = v) (hr : tmps.getD r undef = u) (hg : w.heap[g]? = some (.cells cs t fr))
    (hu : P.underlying ty = some d) (hd : (match d with | .struct _ | .array _ _ => true | _ => false) = true) (hi : (P.info? ty).map (·.size) = some cs.size) :
    (results fn tmps).run P w = .ok (.tuple #[.agg cs, v, u]) w := by
  have hp' : tmps[p]?.getD undef = .pointer (some ⟨g, 0, none⟩) := by simpa using hp
  have hq' : tmps[q]?.getD undef = v := by simpa using hq
  have hr' : tmps[r]?.getD undef = u := by simpa using hr
  simp [results, h, hp', hq', hr', asAddr, run_loadVar_row w g t ty cs fr d hg hu hd hi]
theorem rcells_any {w : World} {e : St} {pre : List Wt} {inn : List (Nat × List UInt8)} {va vi : Value} {N : Nat} {S : Nat → Prop} (h : RLie w e pre inn va vi N S) (e' : St) (p : Nat) : (rcells e' p va vi).all (·.oneCell') = true := by
  obtain ⟨A, c, rfl, _, _⟩ := h.all.form
  obtain ⟨B, d, rfl, _, _⟩ := h.came.form
  simp [rcells, Value.oneCell']
/-- all that a Take holds: its own end at g, its result at g2, the frame at gf -/
structure QS (S : Nat → Prop) (w0 w : World) (g g2 gf : Nat) (kind site seq ack : Int) (body : List UInt8) (e : St) (pre : List Wt) (inn : List (Nat × List UInt8)) (va vi : Value) : Prop where
  row : w.heap[g]? = some (.cells (rcells e pre.length va vi) 52 (0, 0))
  fr : w.heap[gf]? = some (.cells #[.int .i64 kind, .int .i64 site, .int .i64 seq, .int .i64 ack, .string (Mem.str body)] 54 (0, 0))
  res : w.heap[g2]? = some (.cells zs 52 (0, 0))
  all : Mem.Row w 0 86 3 va (pre.length + e.out.length) (bflat (pre ++ e.out))
  came : Mem.Row w 0 96 2 vi inn.length (cflat inn)
  fara : ∀ b, va.ownBlock = some b → b ≠ g ∧ b ≠ g2 ∧ b ≠ gf
  farc : ∀ b, vi.ownBlock = some b → b ≠ g ∧ b ≠ g2 ∧ b ≠ gf
  bel : Below g w0 w
  two : g = w0.heap.size ∧ g2 = g + 1 ∧ g2 < gf
  apS : ∀ b, va.ownBlock = some b ∨ vi.ownBlock = some b → ¬ S b
  sS : ∀ b, S b → b < w0.heap.size
section
variable {S : Nat → Prop} {w0 w w1 : World} {g g2 gf : Nat} {kind site seq ack : Int} {body : List UInt8} {e : St} {pre : List Wt} {inn : List (Nat × List UInt8)} {va vi : Value}
theorem QS.lt (h : QS S w0 w g g2 gf kind site seq ack body e pre inn va vi) : gf < w.heap.size := (Array.getElem?_eq_some_iff.1 h.fr).1
theorem QS.below (h : QS S w0 w g g2 gf kind site seq ack body e pre inn va vi) (hb : Below w.heap.size w w1) : QS S w0 w1 g g2 gf kind site seq ack body e pre inn va vi :=
  have h1 := h.lt
  have h2 := h.two
  ⟨(hb.block g (by omega)).trans h.row, (hb.block gf h1).trans h.fr, (hb.block g2 (by omega)).trans h.res, h.all.below hb, h.came.below hb, h.fara, h.farc, h.bel.trans (hb.mono (by omega)), h2, h.apS, h.sS⟩
/-- one of its own cells written -/
theorem QS.put (h : QS S w0 w g g2 gf kind site seq ack body e pre inn va vi) {e' : St} (i : Nat) (u : Value) (h1 : (rcells e pre.length va vi).setIfInBounds i u = rcells e' pre.length va vi) (h2 : e'.out = e.out) : QS S w0 (w.setCell ⟨g, i, none⟩ u) g g2 gf kind site seq ack body e' pre inn va vi :=
  have h3 := h.two
  ⟨by rw [← h1]; exact Mem.row_setCell _ _ _ _ _ _ _ h.row, (heap_setCell_other _ _ _ _ (by show gf ≠ g; omega)).trans h.fr, (heap_setCell_other _ _ _ _ (by show g2 ≠ g; omega)).trans h.res,
    by rw [h2]; exact h.all.keep fun k _ ho => heap_setCell_other _ _ _ _ (h.fara k ho).1, h.came.keep fun k _ ho => heap_setCell_other _ _ _ _ (h.farc k ho).1, h.fara, h.farc, h.bel.setCell (Nat.le_refl _) _, h3, h.apS, h.sS⟩
theorem Ok.refused {x : Nat} (h : Ok e pre inn) : Ok { e with refused := x } pre inn := ⟨h.seqs, h.given, h.top, h.keys, h.nodup, h.early, h.low, h.norm⟩
theorem QS.done {M : Nat} (h : QS S w0 w g g2 gf kind site seq ack body e pre inn va vi) (hp : Mem.Put w w1 g2 (rcells e pre.length va vi) 52) (hok : Ok e pre inn) (hM : inn.length ≤ M) :
    RAt w1 e (.agg (rcells e pre.length va vi)) M S ∧ Below w0.heap.size w0 w1 := by
  have h2 := h.two
  have hb : Below g w0 w1 := h.bel.trans (hp.below (by omega))
  rw [← h2.1]
  exact ⟨⟨pre, inn, va, vi, rfl, ⟨h.all.keep fun k _ ho => hp.other k (h.fara k ho).2.1, h.came.keep fun k _ ho => hp.other k (h.farc k ho).2.1, hok, hM, h.apS⟩⟩, hb⟩
theorem qs_start {M : Nat} {w2 w3 w4 w5 : World} {C4 : Array Value} (hL : RLie w0 e pre inn va vi M S) (hsS : ∀ b, S b → b < w0.heap.size) (hR : w3.heap[w0.heap.size]? = some (.cells (rcells e pre.length va vi) 52 (0, 0)))
    (hQ : w3.heap[w2.heap.size]? = some (.cells zs 52 (0, 0))) (hB : Below w0.heap.size w0 w3) (hS : w0.heap.size + 2 ≤ w3.heap.size) (hS1 : w2.heap.size = w0.heap.size + 1) (h4 : Mem.New w3 w4 C4 54)
    (h5 : Mem.Put w4 w5 w3.heap.size #[.int .i64 kind, .int .i64 site, .int .i64 seq, .int .i64 ack, .string (Mem.str body)] 54) :
    QS S w0 w5 w0.heap.size w2.heap.size w3.heap.size kind site seq ack body e pre inn va vi := by
  have hb : Below w3.heap.size w3 w5 := h4.below.trans (h5.below (Nat.le_refl _))
  have hb0 : Below w0.heap.size w0 w5 := hB.trans (hb.mono (by omega))
  exact ⟨(hb.block _ (by omega)).trans hR, h5.row, (hb.block _ (by omega)).trans hQ, hL.all.below hb0, hL.came.below hb0,
    fun b hb => by have := (Mem.Row.block hL.all hb).2; exact ⟨by omega, by omega, by omega⟩, fun b hb => by have := (Mem.Row.block hL.came hb).2; exact ⟨by omega, by omega, by omega⟩, hb0, ⟨rfl, hS1, by omega⟩, hL.apart, hsS⟩
end
end Ply

set_option maxRecDepth 100000 in
set_option maxHeartbeats 1000000 in
theorem rtake_err (e : Lnk.St) (v : Value) (N : Nat) (s : List UInt8) (hs : s.length < 2 ^ 61) (kind site seq ack : Int) (body : List UInt8) (c : Int) (hk : Frm.get s = (⟨kind, site, seq, ack, body⟩, c)) (hc : c ≠ 0) (hr : e.refused < 1099511627776) (hgot : e.got < 1099511627776) {S : Nat → Prop} (w : World) (hS : ∀ b, S b → b < w.heap.size) (h : Ply.RAt w e v N S) :
    Calls Try.prog 23 #[v, .string (Mem.str s)] w fun r w' => ∃ v', r = .returned (.tuple #[v', .slice none 0 0, .int .i64 c]) ∧ Ply.RAt w' { e with refused := e.refused + 1 } v' N S ∧ Below w.heap.size w w' := by
  have hget := frame_refget s hs
  rw [hk] at hget
  obtain ⟨pre, inn, va, vi, rfl, h⟩ := h
  have HL := Lib.hid h
  have HSS := Lib.hid hS
  clear hS
  have HWR := Lib.hid (show wrap64 ((e.refused : Int) + 1) = (e.refused : Int) + 1 by unfold wrap64; omega)
  have d0 : (c == 0) = false := beq_eq_false_iff_ne.2 hc
  have d1 : (c != 0) = true := bne_iff_ne.2 hc
  have d2 : decide (c = 0) = false := decide_eq_false hc
  clear h hr hgot hs hk
  go_enter Try.func23, Try.ntmps23
  go_upto_region 1 with (first
    | (with_reducible refine Mem.wpList_box (o := ⟨some 2, _, _, _, _, _⟩) ?_ 52 (.tmp 0) ?_ (.agg (Ply.rcells e pre.length va vi)) ?_ ?_
       · rfl
       · rfl
       · rfl
       intro w1 hn1
       have N1 := Lib.hid hn1
       clear hn1)
    | (with_reducible refine Mem.wpList_alloc (o := ⟨some 4, _, _, _, _, _⟩) ?_ 52 ?_ _ Ply.zero_end ?_
       · rfl
       · rfl
       intro w2 hn2
       have R2 := Lib.hid ((hn2.old (show w.heap.size < w1.heap.size by rw [N1.out.size]; omega)).trans N1.out.row)
       have Q2 := Lib.hid hn2.row
       have B2 := Lib.hid (Mem.then_ N1.out.below hn2.below)
       have S2 := Lib.hid (show w2.heap.size = w.heap.size + 2 by rw [hn2.size, N1.out.size])
       have S1 := Lib.hid N1.out.size
       clear hn2))
  go_wp2_with (first
    | (go_at_call 38
       refine (hget _).mono ?_
       rintro r w3 ⟨rfl, hb3⟩
       have R3 := Lib.hid ((hb3.block _ (show w.heap.size < w2.heap.size by rw [S2.out]; omega)).trans R2.out)
       have Q3 := Lib.hid ((hb3.block _ (show w1.heap.size < w2.heap.size by rw [S2.out, S1.out]; omega)).trans Q2.out)
       have B3 := Lib.hid (B2.out.trans (hb3.mono (by rw [S2.out]; omega)))
       have S3 := Lib.hid (show w.heap.size + 2 ≤ w3.heap.size by rw [← S2.out]; exact hb3.size)
       clear hb3)
    | (with_reducible refine Mem.wpList_alloc (o := ⟨some 7, _, _, _, _, _⟩) ?_ 54 ?_ _ Ply.zero_refframe ?_
       · rfl
       · rfl
       intro w4 hn4
       have N4 := Lib.hid hn4
       clear hn4)
    | (with_reducible refine Mem.wpList_store ?_ 54 (.tmp 7) (.tmp 17) ?_ w3.heap.size #[.int .i64 kind, .int .i64 site, .int .i64 seq, .int .i64 ack, .string (Mem.str body)] ?_ ?_ 54 _ N4.out.row ?_ ?_ ?_ ?_
       · rfl
       · rfl
       · rfl
       · rfl
       · exact Ply.size_refframe
       · rfl
       · exact Ply.one_refframe _ _ _ _ _
       intro w5 hp5
       have QQ := Lib.hid (Ply.qs_start HL.out HSS.out R3.out Q3.out B3.out S3.out S1.out N4.out hp5)
       have z0 : w5.cell? ⟨w.heap.size, 0, none⟩ = some (.int .i64 e.site) := (cell_of_row _ _ 0 _ _ _ QQ.out.row).trans rfl
       have z4 : w5.cell? ⟨w.heap.size, 4, none⟩ = some (.int .i64 e.top) := (cell_of_row _ _ 4 _ _ _ QQ.out.row).trans rfl
       have z5 : w5.cell? ⟨w.heap.size, 5, none⟩ = some (.int .i64 e.got) := (cell_of_row _ _ 5 _ _ _ QQ.out.row).trans rfl
       have y0 : w5.cell? ⟨w3.heap.size, 0, none⟩ = some (.int .i64 kind) := (cell_of_row _ _ 0 _ _ _ QQ.out.fr).trans rfl
       have y1 : w5.cell? ⟨w3.heap.size, 1, none⟩ = some (.int .i64 site) := (cell_of_row _ _ 1 _ _ _ QQ.out.fr).trans rfl
       have y2 : w5.cell? ⟨w3.heap.size, 2, none⟩ = some (.int .i64 seq) := (cell_of_row _ _ 2 _ _ _ QQ.out.fr).trans rfl
       have y3 : w5.cell? ⟨w3.heap.size, 3, none⟩ = some (.int .i64 ack) := (cell_of_row _ _ 3 _ _ _ QQ.out.fr).trans rfl
       have z11 : w5.cell? ⟨w.heap.size, 11, none⟩ = some (.int .i64 e.refused) := (cell_of_row _ _ 11 _ _ _ QQ.out.row).trans rfl
       have f11 := frozen_of_row w5 w.heap.size 11 _ _ QQ.out.row
       have L6 := Lib.hid (QQ.out.put (e' := { e with refused := e.refused + 1 }) 11 (.int .i64 ((e.refused : Int) + 1)) rfl rfl)
       have hwr := HWR.out
       clear hp5 N4 R3 Q3 S3 B3)
    | (with_reducible refine wpList_load_row (o := ⟨some 56, _, _, _, _, _⟩) ?_ 52 (.tmp 2) ?_ w.heap.size ?_ 52 (Ply.rcells { e with refused := e.refused + 1 } pre.length va vi) (0, 0) _ ?_ Try.underlying52 ?_ ?_ ?_
       · rfl
       · rfl
       · rfl
       · exact L6.out.row
       · rfl
       · exact Ply.size_end)
    | (with_reducible refine Mem.wpList_store ?_ 52 (.tmp 4) (.tmp 56) ?_ w1.heap.size (Ply.rcells { e with refused := e.refused + 1 } pre.length va vi) ?_ ?_ 52 _ L6.out.res ?_ ?_ ?_ ?_
       · rfl
       · rfl
       · rfl
       · rfl
       · exact Ply.size_end
       · rfl
       · exact Ply.rcells_any HL.out _ _
       intro w16 hp16
       have P16 := Lib.hid hp16
       clear hp16))
  refine bodyPost_ret (Ply.results_ctt rfl _ _ w1.heap.size (.slice none 0 0) (.int .i64 c) _ _ _ _ rfl rfl rfl P16.out.row Try.underlying52 rfl Ply.size_end) rfl ⟨_, rfl, ?_⟩
  exact L6.out.done P16.out HL.out.ok.refused HL.out.small

set_option maxRecDepth 100000 in
set_option maxHeartbeats 1000000 in
theorem rtake_site (e : Lnk.St) (v : Value) (N : Nat) (s : List UInt8) (hs : s.length < 2 ^ 61) (kind site seq ack : Int) (body : List UInt8) (hk : Frm.get s = (⟨kind, site, seq, ack, body⟩, 0)) (hc : site ≠ e.site) (hr : e.refused < 1099511627776) (hgot : e.got < 1099511627776) {S : Nat → Prop} (w : World) (hS : ∀ b, S b → b < w.heap.size) (h : Ply.RAt w e v N S) :
    Calls Try.prog 23 #[v, .string (Mem.str s)] w fun r w' => ∃ v', r = .returned (.tuple #[v', .slice none 0 0, .int .i64 12]) ∧ Ply.RAt w' { e with refused := e.refused + 1 } v' N S ∧ Below w.heap.size w w' := by
  have hget := frame_refget s hs
  rw [hk] at hget
  obtain ⟨pre, inn, va, vi, rfl, h⟩ := h
  have HL := Lib.hid h
  have HSS := Lib.hid hS
  clear hS
  have HWR := Lib.hid (show wrap64 ((e.refused : Int) + 1) = (e.refused : Int) + 1 by unfold wrap64; omega)
  have d1 : (site != (e.site : Int)) = true := bne_iff_ne.2 hc
  have d2 : (site == (e.site : Int)) = false := beq_eq_false_iff_ne.2 hc
  clear h hr hgot hs hk
  go_enter Try.func23, Try.ntmps23
  go_upto_region 1 with (first
    | (with_reducible refine Mem.wpList_box (o := ⟨some 2, _, _, _, _, _⟩) ?_ 52 (.tmp 0) ?_ (.agg (Ply.rcells e pre.length va vi)) ?_ ?_
       · rfl
       · rfl
       · rfl
       intro w1 hn1
       have N1 := Lib.hid hn1
       clear hn1)
    | (with_reducible refine Mem.wpList_alloc (o := ⟨some 4, _, _, _, _, _⟩) ?_ 52 ?_ _ Ply.zero_end ?_
       · rfl
       · rfl
       intro w2 hn2
       have R2 := Lib.hid ((hn2.old (show w.heap.size < w1.heap.size by rw [N1.out.size]; omega)).trans N1.out.row)
       have Q2 := Lib.hid hn2.row
       have B2 := Lib.hid (Mem.then_ N1.out.below hn2.below)
       have S2 := Lib.hid (show w2.heap.size = w.heap.size + 2 by rw [hn2.size, N1.out.size])
       have S1 := Lib.hid N1.out.size
       clear hn2))
  go_wp2_with (first
    | (go_at_call 38
       refine (hget _).mono ?_
       rintro r w3 ⟨rfl, hb3⟩
       have R3 := Lib.hid ((hb3.block _ (show w.heap.size < w2.heap.size by rw [S2.out]; omega)).trans R2.out)
       have Q3 := Lib.hid ((hb3.block _ (show w1.heap.size < w2.heap.size by rw [S2.out, S1.out]; omega)).trans Q2.out)
       have B3 := Lib.hid (B2.out.trans (hb3.mono (by rw [S2.out]; omega)))
       have S3 := Lib.hid (show w.heap.size + 2 ≤ w3.heap.size by rw [← S2.out]; exact hb3.size)
       clear hb3)
    | (with_reducible refine Mem.wpList_alloc (o := ⟨some 7, _, _, _, _, _⟩) ?_ 54 ?_ _ Ply.zero_refframe ?_
       · rfl
       · rfl
       intro w4 hn4
       have N4 := Lib.hid hn4
       clear hn4)
    | (with_reducible refine Mem.wpList_store ?_ 54 (.tmp 7) (.tmp 17) ?_ w3.heap.size #[.int .i64 kind, .int .i64 site, .int .i64 seq, .int .i64 ack, .string (Mem.str body)] ?_ ?_ 54 _ N4.out.row ?_ ?_ ?_ ?_
       · rfl
       · rfl
       · rfl
       · rfl
       · exact Ply.size_refframe
       · rfl
       · exact Ply.one_refframe _ _ _ _ _
       intro w5 hp5
       have QQ := Lib.hid (Ply.qs_start HL.out HSS.out R3.out Q3.out B3.out S3.out S1.out N4.out hp5)
       have z0 : w5.cell? ⟨w.heap.size, 0, none⟩ = some (.int .i64 e.site) := (cell_of_row _ _ 0 _ _ _ QQ.out.row).trans rfl
       have z4 : w5.cell? ⟨w.heap.size, 4, none⟩ = some (.int .i64 e.top) := (cell_of_row _ _ 4 _ _ _ QQ.out.row).trans rfl
       have z5 : w5.cell? ⟨w.heap.size, 5, none⟩ = some (.int .i64 e.got) := (cell_of_row _ _ 5 _ _ _ QQ.out.row).trans rfl
       have y0 : w5.cell? ⟨w3.heap.size, 0, none⟩ = some (.int .i64 kind) := (cell_of_row _ _ 0 _ _ _ QQ.out.fr).trans rfl
       have y1 : w5.cell? ⟨w3.heap.size, 1, none⟩ = some (.int .i64 site) := (cell_of_row _ _ 1 _ _ _ QQ.out.fr).trans rfl
       have y2 : w5.cell? ⟨w3.heap.size, 2, none⟩ = some (.int .i64 seq) := (cell_of_row _ _ 2 _ _ _ QQ.out.fr).trans rfl
       have y3 : w5.cell? ⟨w3.heap.size, 3, none⟩ = some (.int .i64 ack) := (cell_of_row _ _ 3 _ _ _ QQ.out.fr).trans rfl
       have z11 : w5.cell? ⟨w.heap.size, 11, none⟩ = some (.int .i64 e.refused) := (cell_of_row _ _ 11 _ _ _ QQ.out.row).trans rfl
       have f11 := frozen_of_row w5 w.heap.size 11 _ _ QQ.out.row
       have L6 := Lib.hid (QQ.out.put (e' := { e with refused := e.refused + 1 }) 11 (.int .i64 ((e.refused : Int) + 1)) rfl rfl)
       have hwr := HWR.out
       clear hp5 N4 R3 Q3 S3 B3)
    | (with_reducible refine wpList_load_row (o := ⟨some 56, _, _, _, _, _⟩) ?_ 52 (.tmp 2) ?_ w.heap.size ?_ 52 (Ply.rcells { e with refused := e.refused + 1 } pre.length va vi) (0, 0) _ ?_ Try.underlying52 ?_ ?_ ?_
       · rfl
       · rfl
       · rfl
       · exact L6.out.row
       · rfl
       · exact Ply.size_end)
    | (with_reducible refine Mem.wpList_store ?_ 52 (.tmp 4) (.tmp 56) ?_ w1.heap.size (Ply.rcells { e with refused := e.refused + 1 } pre.length va vi) ?_ ?_ 52 _ L6.out.res ?_ ?_ ?_ ?_
       · rfl
       · rfl
       · rfl
       · rfl
       · exact Ply.size_end
       · rfl
       · exact Ply.rcells_any HL.out _ _
       intro w16 hp16
       have P16 := Lib.hid hp16
       clear hp16))
  refine bodyPost_ret (Ply.results_ctt rfl _ _ w1.heap.size (.slice none 0 0) (.int .i64 12) _ _ _ _ rfl rfl rfl P16.out.row Try.underlying52 rfl Ply.size_end) rfl ⟨_, rfl, ?_⟩
  exact L6.out.done P16.out HL.out.ok.refused HL.out.small

set_option maxRecDepth 100000 in
set_option maxHeartbeats 1000000 in
theorem rtake_ack (e : Lnk.St) (v : Value) (N : Nat) (s : List UInt8) (hs : s.length < 2 ^ 61) (kind site seq ack : Int) (body : List UInt8) (hk : Frm.get s = (⟨kind, site, seq, ack, body⟩, 0)) (hc : site = e.site) (hc2 : (e.top : Int) < ack) (hr : e.refused < 1099511627776) (hgot : e.got < 1099511627776) {S : Nat → Prop} (w : World) (hS : ∀ b, S b → b < w.heap.size) (h : Ply.RAt w e v N S) :
    Calls Try.prog 23 #[v, .string (Mem.str s)] w fun r w' => ∃ v', r = .returned (.tuple #[v', .slice none 0 0, .int .i64 17]) ∧ Ply.RAt w' { e with refused := e.refused + 1 } v' N S ∧ Below w.heap.size w w' := by
  have hget := frame_refget s hs
  rw [hk] at hget
  obtain ⟨pre, inn, va, vi, rfl, h⟩ := h
  have HL := Lib.hid h
  have HSS := Lib.hid hS
  clear hS
  have HWR := Lib.hid (show wrap64 ((e.refused : Int) + 1) = (e.refused : Int) + 1 by unfold wrap64; omega)
  have d0 : (site != (e.site : Int)) = false := by rw [hc]; exact bne_self_eq_false _
  have d1 : decide ((e.top : Int) < ack) = true := decide_eq_true hc2
  clear hc
  clear h hr hgot hs hk
  go_enter Try.func23, Try.ntmps23
  go_upto_region 1 with (first
    | (with_reducible refine Mem.wpList_box (o := ⟨some 2, _, _, _, _, _⟩) ?_ 52 (.tmp 0) ?_ (.agg (Ply.rcells e pre.length va vi)) ?_ ?_
       · rfl
       · rfl
       · rfl
       intro w1 hn1
       have N1 := Lib.hid hn1
       clear hn1)
    | (with_reducible refine Mem.wpList_alloc (o := ⟨some 4, _, _, _, _, _⟩) ?_ 52 ?_ _ Ply.zero_end ?_
       · rfl
       · rfl
       intro w2 hn2
       have R2 := Lib.hid ((hn2.old (show w.heap.size < w1.heap.size by rw [N1.out.size]; omega)).trans N1.out.row)
       have Q2 := Lib.hid hn2.row
       have B2 := Lib.hid (Mem.then_ N1.out.below hn2.below)
       have S2 := Lib.hid (show w2.heap.size = w.heap.size + 2 by rw [hn2.size, N1.out.size])
       have S1 := Lib.hid N1.out.size
       clear hn2))
  go_wp2_with (first
    | (go_at_call 38
       refine (hget _).mono ?_
       rintro r w3 ⟨rfl, hb3⟩
       have R3 := Lib.hid ((hb3.block _ (show w.heap.size < w2.heap.size by rw [S2.out]; omega)).trans R2.out)
       have Q3 := Lib.hid ((hb3.block _ (show w1.heap.size < w2.heap.size by rw [S2.out, S1.out]; omega)).trans Q2.out)
       have B3 := Lib.hid (B2.out.trans (hb3.mono (by rw [S2.out]; omega)))
       have S3 := Lib.hid (show w.heap.size + 2 ≤ w3.heap.size by rw [← S2.out]; exact hb3.size)
       clear hb3)
    | (with_reducible refine Mem.wpList_alloc (o := ⟨some 7, _, _, _, _, _⟩) ?_ 54 ?_ _ Ply.zero_refframe ?_
       · rfl
       · rfl
       intro w4 hn4
       have N4 := Lib.hid hn4
       clear hn4)
    | (with_reducible refine Mem.wpList_store ?_ 54 (.tmp 7) (.tmp 17) ?_ w3.heap.size #[.int .i64 kind, .int .i64 site, .int .i64 seq, .int .i64 ack, .string (Mem.str body)] ?_ ?_ 54 _ N4.out.row ?_ ?_ ?_ ?_
       · rfl
       · rfl
       · rfl
       · rfl
       · exact Ply.size_refframe
       · rfl
       · exact Ply.one_refframe _ _ _ _ _
       intro w5 hp5
       have QQ := Lib.hid (Ply.qs_start HL.out HSS.out R3.out Q3.out B3.out S3.out S1.out N4.out hp5)
       have z0 : w5.cell? ⟨w.heap.size, 0, none⟩ = some (.int .i64 e.site) := (cell_of_row _ _ 0 _ _ _ QQ.out.row).trans rfl
       have z4 : w5.cell? ⟨w.heap.size, 4, none⟩ = some (.int .i64 e.top) := (cell_of_row _ _ 4 _ _ _ QQ.out.row).trans rfl
       have z5 : w5.cell? ⟨w.heap.size, 5, none⟩ = some (.int .i64 e.got) := (cell_of_row _ _ 5 _ _ _ QQ.out.row).trans rfl
       have y0 : w5.cell? ⟨w3.heap.size, 0, none⟩ = some (.int .i64 kind) := (cell_of_row _ _ 0 _ _ _ QQ.out.fr).trans rfl
       have y1 : w5.cell? ⟨w3.heap.size, 1, none⟩ = some (.int .i64 site) := (cell_of_row _ _ 1 _ _ _ QQ.out.fr).trans rfl
       have y2 : w5.cell? ⟨w3.heap.size, 2, none⟩ = some (.int .i64 seq) := (cell_of_row _ _ 2 _ _ _ QQ.out.fr).trans rfl
       have y3 : w5.cell? ⟨w3.heap.size, 3, none⟩ = some (.int .i64 ack) := (cell_of_row _ _ 3 _ _ _ QQ.out.fr).trans rfl
       have z11 : w5.cell? ⟨w.heap.size, 11, none⟩ = some (.int .i64 e.refused) := (cell_of_row _ _ 11 _ _ _ QQ.out.row).trans rfl
       have f11 := frozen_of_row w5 w.heap.size 11 _ _ QQ.out.row
       have L6 := Lib.hid (QQ.out.put (e' := { e with refused := e.refused + 1 }) 11 (.int .i64 ((e.refused : Int) + 1)) rfl rfl)
       have hwr := HWR.out
       clear hp5 N4 R3 Q3 S3 B3)
    | (with_reducible refine wpList_load_row (o := ⟨some 56, _, _, _, _, _⟩) ?_ 52 (.tmp 2) ?_ w.heap.size ?_ 52 (Ply.rcells { e with refused := e.refused + 1 } pre.length va vi) (0, 0) _ ?_ Try.underlying52 ?_ ?_ ?_
       · rfl
       · rfl
       · rfl
       · exact L6.out.row
       · rfl
       · exact Ply.size_end)
    | (with_reducible refine Mem.wpList_store ?_ 52 (.tmp 4) (.tmp 56) ?_ w1.heap.size (Ply.rcells { e with refused := e.refused + 1 } pre.length va vi) ?_ ?_ 52 _ L6.out.res ?_ ?_ ?_ ?_
       · rfl
       · rfl
       · rfl
       · rfl
       · exact Ply.size_end
       · rfl
       · exact Ply.rcells_any HL.out _ _
       intro w16 hp16
       have P16 := Lib.hid hp16
       clear hp16))
  refine bodyPost_ret (Ply.results_ctt rfl _ _ w1.heap.size (.slice none 0 0) (.int .i64 17) _ _ _ _ rfl rfl rfl P16.out.row Try.underlying52 rfl Ply.size_end) rfl ⟨_, rfl, ?_⟩
  exact L6.out.done P16.out HL.out.ok.refused HL.out.small

set_option maxRecDepth 100000 in
set_option maxHeartbeats 1000000 in
theorem rtake_seq (e : Lnk.St) (v : Value) (N : Nat) (s : List UInt8) (hs : s.length < 2 ^ 61) (kind site seq ack : Int) (body : List UInt8) (hk : Frm.get s = (⟨kind, site, seq, ack, body⟩, 0)) (hc : site = e.site) (hc2 : ¬ (e.top : Int) < ack) (hc3 : kind = 1) (hc4 : (e.got : Int) + 8 < seq) (hr : e.refused < 1099511627776) (hgot : e.got < 1099511627776) {S : Nat → Prop} (w : World) (hS : ∀ b, S b → b < w.heap.size) (h : Ply.RAt w e v N S) :
    Calls Try.prog 23 #[v, .string (Mem.str s)] w fun r w' => ∃ v', r = .returned (.tuple #[v', .slice none 0 0, .int .i64 17]) ∧ Ply.RAt w' { e with refused := e.refused + 1 } v' N S ∧ Below w.heap.size w w' := by
  have hget := frame_refget s hs
  rw [hk] at hget
  obtain ⟨pre, inn, va, vi, rfl, h⟩ := h
  have HL := Lib.hid h
  have HSS := Lib.hid hS
  clear hS
  have HWR := Lib.hid (show wrap64 ((e.refused : Int) + 1) = (e.refused : Int) + 1 by unfold wrap64; omega)
  have d0 : (site != (e.site : Int)) = false := by rw [hc]; exact bne_self_eq_false _
  have d3 : (kind == 1) = true := by rw [hc3]; rfl
  clear hc hc3
  have d1 : decide ((e.top : Int) < ack) = false := decide_eq_false hc2
  have d2 : decide ((e.got : Int) + 8 < seq) = true := decide_eq_true hc4
  have hw8 : wrap64 ((e.got : Int) + 8) = (e.got : Int) + 8 := by unfold wrap64; omega
  clear h hr hgot hs hk
  go_enter Try.func23, Try.ntmps23
  go_upto_region 1 with (first
    | (with_reducible refine Mem.wpList_box (o := ⟨some 2, _, _, _, _, _⟩) ?_ 52 (.tmp 0) ?_ (.agg (Ply.rcells e pre.length va vi)) ?_ ?_
       · rfl
       · rfl
       · rfl
       intro w1 hn1
       have N1 := Lib.hid hn1
       clear hn1)
    | (with_reducible refine Mem.wpList_alloc (o := ⟨some 4, _, _, _, _, _⟩) ?_ 52 ?_ _ Ply.zero_end ?_
       · rfl
       · rfl
       intro w2 hn2
       have R2 := Lib.hid ((hn2.old (show w.heap.size < w1.heap.size by rw [N1.out.size]; omega)).trans N1.out.row)
       have Q2 := Lib.hid hn2.row
       have B2 := Lib.hid (Mem.then_ N1.out.below hn2.below)
       have S2 := Lib.hid (show w2.heap.size = w.heap.size + 2 by rw [hn2.size, N1.out.size])
       have S1 := Lib.hid N1.out.size
       clear hn2))
  go_wp2_with (first
    | (go_at_call 38
       refine (hget _).mono ?_
       rintro r w3 ⟨rfl, hb3⟩
       have R3 := Lib.hid ((hb3.block _ (show w.heap.size < w2.heap.size by rw [S2.out]; omega)).trans R2.out)
       have Q3 := Lib.hid ((hb3.block _ (show w1.heap.size < w2.heap.size by rw [S2.out, S1.out]; omega)).trans Q2.out)
       have B3 := Lib.hid (B2.out.trans (hb3.mono (by rw [S2.out]; omega)))
       have S3 := Lib.hid (show w.heap.size + 2 ≤ w3.heap.size by rw [← S2.out]; exact hb3.size)
       clear hb3)
    | (with_reducible refine Mem.wpList_alloc (o := ⟨some 7, _, _, _, _, _⟩) ?_ 54 ?_ _ Ply.zero_refframe ?_
       · rfl
       · rfl
       intro w4 hn4
       have N4 := Lib.hid hn4
       clear hn4)
    | (with_reducible refine Mem.wpList_store ?_ 54 (.tmp 7) (.tmp 17) ?_ w3.heap.size #[.int .i64 kind, .int .i64 site, .int .i64 seq, .int .i64 ack, .string (Mem.str body)] ?_ ?_ 54 _ N4.out.row ?_ ?_ ?_ ?_
       · rfl
       · rfl
       · rfl
       · rfl
       · exact Ply.size_refframe
       · rfl
       · exact Ply.one_refframe _ _ _ _ _
       intro w5 hp5
       have QQ := Lib.hid (Ply.qs_start HL.out HSS.out R3.out Q3.out B3.out S3.out S1.out N4.out hp5)
       have z0 : w5.cell? ⟨w.heap.size, 0, none⟩ = some (.int .i64 e.site) := (cell_of_row _ _ 0 _ _ _ QQ.out.row).trans rfl
       have z4 : w5.cell? ⟨w.heap.size, 4, none⟩ = some (.int .i64 e.top) := (cell_of_row _ _ 4 _ _ _ QQ.out.row).trans rfl
       have z5 : w5.cell? ⟨w.heap.size, 5, none⟩ = some (.int .i64 e.got) := (cell_of_row _ _ 5 _ _ _ QQ.out.row).trans rfl
       have y0 : w5.cell? ⟨w3.heap.size, 0, none⟩ = some (.int .i64 kind) := (cell_of_row _ _ 0 _ _ _ QQ.out.fr).trans rfl
       have y1 : w5.cell? ⟨w3.heap.size, 1, none⟩ = some (.int .i64 site) := (cell_of_row _ _ 1 _ _ _ QQ.out.fr).trans rfl
       have y2 : w5.cell? ⟨w3.heap.size, 2, none⟩ = some (.int .i64 seq) := (cell_of_row _ _ 2 _ _ _ QQ.out.fr).trans rfl
       have y3 : w5.cell? ⟨w3.heap.size, 3, none⟩ = some (.int .i64 ack) := (cell_of_row _ _ 3 _ _ _ QQ.out.fr).trans rfl
       have z11 : w5.cell? ⟨w.heap.size, 11, none⟩ = some (.int .i64 e.refused) := (cell_of_row _ _ 11 _ _ _ QQ.out.row).trans rfl
       have f11 := frozen_of_row w5 w.heap.size 11 _ _ QQ.out.row
       have L6 := Lib.hid (QQ.out.put (e' := { e with refused := e.refused + 1 }) 11 (.int .i64 ((e.refused : Int) + 1)) rfl rfl)
       have hwr := HWR.out
       clear hp5 N4 R3 Q3 S3 B3)
    | (with_reducible refine wpList_load_row (o := ⟨some 56, _, _, _, _, _⟩) ?_ 52 (.tmp 2) ?_ w.heap.size ?_ 52 (Ply.rcells { e with refused := e.refused + 1 } pre.length va vi) (0, 0) _ ?_ Try.underlying52 ?_ ?_ ?_
       · rfl
       · rfl
       · rfl
       · exact L6.out.row
       · rfl
       · exact Ply.size_end)
    | (with_reducible refine Mem.wpList_store ?_ 52 (.tmp 4) (.tmp 56) ?_ w1.heap.size (Ply.rcells { e with refused := e.refused + 1 } pre.length va vi) ?_ ?_ 52 _ L6.out.res ?_ ?_ ?_ ?_
       · rfl
       · rfl
       · rfl
       · rfl
       · exact Ply.size_end
       · rfl
       · exact Ply.rcells_any HL.out _ _
       intro w16 hp16
       have P16 := Lib.hid hp16
       clear hp16))
  refine bodyPost_ret (Ply.results_ctt rfl _ _ w1.heap.size (.slice none 0 0) (.int .i64 17) _ _ _ _ rfl rfl rfl P16.out.row Try.underlying52 rfl Ply.size_end) rfl ⟨_, rfl, ?_⟩
  exact L6.out.done P16.out HL.out.ok.refused HL.out.small

end Go.Proofs.Ytgkadhogfejheaa
