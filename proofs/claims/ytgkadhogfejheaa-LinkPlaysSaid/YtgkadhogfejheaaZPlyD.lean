/- The reference's Take: what it hears. -/
import Derived.Test.YtgkadhogfejheaaZPlyC
import Derived.Test.YtgkadhogfejheaaQM
set_option linter.unusedVariables false
set_option linter.unusedSimpArgs false
namespace Go.Proofs.Ytgkadhogfejheaa
open Go.RowKit

namespace Ply
open Lnk
def RHears (hd : Nat → Nat → Bool → Nat → Nat × Nat × Bool) : Prop := ∀ m d s t w, Calls Try.prog 39 #[.agg #[.float .f64 m, .float .f64 d, .bool s], .float .f64 t] w fun e w' => e = .returned (.agg #[.float .f64 (hd m d s t).1, .float .f64 (hd m d s t).2.1, .bool (hd m d s t).2.2]) ∧ Below w.heap.size w w'
def accOf (w : World) (g : Nat) : Nat := match w.cell? ⟨g, 3, none⟩ with
  | some (.int _ z) => z.toNat
  | _ => 0
section
variable {S : Nat → Prop} {w0 w w1 : World} {g g2 gf : Nat} {kind site seq ack : Int} {body : List UInt8} {e : St} {pre : List Wt} {inn : List (Nat × List UInt8)} {va vi : Value}
theorem QS.acc (h : QS S w0 w g g2 gf kind site seq ack body e pre inn va vi) : accOf w g = pre.length := by
  unfold accOf
  rw [show w.cell? ⟨g, 3, none⟩ = some (.int .i64 pre.length) from (cell_of_row _ _ 3 _ _ _ h.row).trans rfl]
  rfl
/-- the first one waits no more -/
theorem QS.pop {x : Wt} {l : List Wt} {q : Nat × Nat × Bool} (h : QS S w0 w g g2 gf kind site seq ack body (less e (x :: l) q) pre inn va vi) : QS S w0 (w.setCell ⟨g, 3, none⟩ (.int .i64 ((pre.length : Int) + 1))) g g2 gf kind site seq ack body (less e l q) (pre ++ [x]) inn va vi := by
  have h3 := h.two
  have hlen : (pre ++ [x]).length = pre.length + 1 := by simp
  refine ⟨?_, (heap_setCell_other _ _ _ _ (by show gf ≠ g; omega)).trans h.fr, (heap_setCell_other _ _ _ _ (by show g2 ≠ g; omega)).trans h.res, ?_, h.came.keep fun k _ ho => heap_setCell_other _ _ _ _ (h.farc k ho).1, h.fara, h.farc, h.bel.setCell (Nat.le_refl _) _, h3, h.apS, h.sS⟩
  · rw [hlen]
    exact Mem.row_setCell _ _ _ _ _ _ _ h.row
  · have ha := h.all.keep (w1 := w.setCell ⟨g, 3, none⟩ (.int .i64 ((pre.length : Int) + 1))) fun k _ ho => heap_setCell_other _ _ _ _ (h.fara k ho).1
    show Mem.Row _ _ _ _ _ ((pre ++ [x]).length + l.length) (bflat ((pre ++ [x]) ++ l))
    have e1 : (pre ++ [x]).length + l.length = pre.length + (less e (x :: l) q).out.length := by show _ = pre.length + (x :: l).length; rw [hlen, List.length_cons]; omega
    rw [e1, List.append_assoc]
    exact ha
theorem Ok.pop {x : Wt} {l : List Wt} {q q' : Nat × Nat × Bool} (h : Ok (less e (x :: l) q) pre inn) : Ok (less e l q') (pre ++ [x]) inn where
  seqs := fun k y hy => by
    have := h.seqs (k + 1) y hy
    rw [this]
    simp
    omega
  given := by
    have := h.given
    show e.given = _
    have h2 : e.given = pre.length + (x :: l).length := this
    show e.given = (pre ++ [x]).length + l.length
    simp at h2 ⊢
    omega
  top := h.top
  keys := h.keys
  nodup := h.nodup
  early := h.early
  low := h.low
  norm := h.norm
theorem Ok.owed {b : Bool} (h : Ok e pre inn) : Ok { e with owed := b } pre inn := ⟨h.seqs, h.given, h.top, h.keys, h.nodup, h.early, h.low, h.norm⟩
theorem Ok.came {k : Nat} {b : List UInt8} (h : Ok e pre inn) (hm : (k, b) ∈ inn) : (e.early k).isSome = true ∨ k ≤ e.got := by
  rcases Nat.lt_or_ge e.got k with h1 | h1
  · exact .inl (by rw [(h.early k b h1).2 hm]; rfl)
  · exact .inr h1
theorem RAt.mono {v : Value} {N M : Nat} (h : RAt w e v N S) (hM : N ≤ M) : RAt w e v M S := by
  obtain ⟨pre, inn, va, vi, h1, h2⟩ := h
  exact ⟨pre, inn, va, vi, h1, ⟨h2.all, h2.came, h2.ok, Nat.le_trans h2.small hM, h2.apart⟩⟩
theorem cflat_cons (x : Nat × List UInt8) (l : List (Nat × List UInt8)) : cflat (x :: l) = .int .i64 x.1 :: .string (Mem.str x.2) :: cflat l := rfl
theorem cflat_at (l : List (Nat × List UInt8)) (k j : Nat) (x : Nat × List UInt8) (h : l[k]? = some x) (hj : j < 2) : (cflat l)[k * 2 + j]? = (cvals x)[j]? := by
  induction l generalizing k with
  | nil => simp at h
  | cons y l ih =>
    cases k with
    | zero =>
      simp at h
      subst h
      rw [Nat.zero_mul, Nat.zero_add, cflat_cons]
      match j, hj with
      | 0, _ => rfl
      | 1, _ => rfl
    | succ k =>
      rw [cflat_cons, show (k + 1) * 2 + j = k * 2 + j + 1 + 1 by omega, List.getElem?_cons_succ, List.getElem?_cons_succ]
      exact ih k (by simpa using h)
theorem came_cell {B n c p off : Nat} (h : Mem.Row w B 96 2 (.slice (some ⟨p, off, none⟩) n c) n (cflat inn)) {k : Nat} {x : Nat × List UInt8} (hx : inn[k]? = some x) {j : Nat} {u : Value} (hj : (cvals x)[j]? = some u) : w.cell? ⟨p, off + k * 2 + j, none⟩ = some u := by
  have hj2 : j < 2 := (List.getElem?_eq_some_iff.1 hj).1
  obtain ⟨a, ha, hc⟩ := Mem.Row.cell h rfl ((cflat_at inn k j x hx hj2).trans hj)
  cases ha
  rw [Nat.add_assoc]
  simpa [Addr.add_lit] using hc
theorem row_empty {b B size : Nat} {t : TypeId} (h : w.heap[b]? = some (.cells #[] t (0, 0))) (hB : B ≤ b) : Mem.Row w B t size (.slice (some ⟨b, 0, none⟩) 0 0) 0 [] :=
  ⟨by simp, .inr ⟨b, 0, 0, #[], rfl, hB, h, Nat.le_refl _, by unfold maxLen; omega, by simp, fun j u hj => by simp at hj⟩⟩
theorem below_new2 (w : World) (a b : Obj) : Below w.heap.size w ((w.alloc a).alloc b) := ((Below.refl _ _).alloc (Nat.le_refl _) a).alloc (by simp) b
theorem first_of2 (w : World) (a b : Obj) : ((w.alloc a).alloc b).heap[w.heap.size]? = some a := (heap_alloc_old _ _ (by simp)).trans (heap_alloc_new w a)
theorem second_of2 (w : World) (a b : Obj) : ((w.alloc a).alloc b).heap[w.heap.size + 1]? = some b := by
  have h := heap_alloc_new (w.alloc a) b
  rw [show (w.alloc a).heap.size = w.heap.size + 1 by simp] at h
  exact h
/-- one more that came -/
theorem QS.add (h : QS S w0 w g g2 gf kind site seq ack body e pre inn va vi) {v2 : Value} {x : Nat × List UInt8} (hb : Below w.heap.size w w1) (hr : Mem.Row w1 w.heap.size 96 2 v2 (inn.length + 1) (cflat inn ++ [.int .i64 x.1, .string (Mem.str x.2)])) :
    QS S w0 (w1.setCell ⟨g, 6, none⟩ v2) g g2 gf kind site seq ack body e pre (inn ++ [x]) va v2 := by
  have h1 := h.below hb
  have h3 := h.two
  have hl := h.lt
  have hf : ∀ b, v2.ownBlock = some b → b ≠ g ∧ b ≠ g2 ∧ b ≠ gf := fun b hb2 => by have := (Mem.Row.block hr hb2).1; exact ⟨by omega, by omega, by omega⟩
  refine ⟨?_, (heap_setCell_other _ _ _ _ (by show gf ≠ g; omega)).trans h1.fr, (heap_setCell_other _ _ _ _ (by show g2 ≠ g; omega)).trans h1.res, h1.all.keep fun k _ ho => heap_setCell_other _ _ _ _ (h.fara k ho).1, ?_, h.fara, hf, h1.bel.setCell (Nat.le_refl _) _, h3, fun b hb2 => ?_, h.sS⟩
  · exact Mem.row_setCell _ _ _ _ _ _ _ h1.row
  · rw [List.length_append, cflat_append]
    exact (hr.keep fun k _ ho => heap_setCell_other _ _ _ _ (hf k ho).1).mono (Nat.zero_le _)
  · rcases hb2 with hb2 | hb2
    · exact h.apS b (.inl hb2)
    · intro h4
      have h5 := (Mem.Row.block hr hb2).1
      have h6 := h.sS b h4
      have h7 := h.bel.size
      omega
/-- how all that came goes with what was got, and what waits early -/
structure In2 (G : Nat) (E : Nat → Option (List UInt8)) (l : List (Nat × List UInt8)) : Prop where
  keys : ∀ x ∈ l, 1 ≤ x.1
  nodup : (l.map (·.1)).Nodup
  early : ∀ k b, G < k → (E k = some b ↔ (k, b) ∈ l)
  low : ∀ k, 1 ≤ k → k ≤ G → ∃ b, (k, b) ∈ l
theorem uniq {l : List (Nat × List UInt8)} (h : (l.map (·.1)).Nodup) {i j : Nat} {x y : Nat × List UInt8} (hi : l[i]? = some x) (hj : l[j]? = some y) (he : x.1 = y.1) : i = j := by
  have h1 : i < (l.map (·.1)).length := by rw [List.length_map]; exact (List.getElem?_eq_some_iff.1 hi).1
  refine (List.getElem?_inj h1 h).1 ?_
  rw [List.getElem?_map, List.getElem?_map, hi, hj]
  simp [he]
theorem In2.start (h : Ok e pre inn) {k : Nat} {s : List UInt8} (hk : 1 ≤ k) (hno : ∀ x ∈ inn, x.1 ≠ k) : In2 e.got (upd e.early k (some s)) (inn ++ [(k, s)]) where
  keys := fun x hx => by
    rcases List.mem_append.1 hx with h1 | h1
    · exact h.keys x h1
    · simp at h1; rw [h1]; exact hk
  nodup := by
    rw [List.map_append, List.nodup_append]
    refine ⟨h.nodup, by simp, fun a ha b hb => ?_⟩
    simp at hb
    obtain ⟨x, hx, rfl⟩ := List.mem_map.1 ha
    rw [hb]
    exact hno x hx
  early := fun j b hj => by
    unfold upd
    split
    · rename_i hjk
      subst hjk
      constructor
      · intro h1
        injection h1 with h1
        rw [← h1]
        simp
      · intro h1
        rcases List.mem_append.1 h1 with h2 | h2
        · exact absurd rfl (hno _ h2)
        · simp at h2; rw [h2]
    · rename_i hjk
      rw [h.early j b hj]
      constructor
      · intro h1; exact List.mem_append_left _ h1
      · intro h1
        rcases List.mem_append.1 h1 with h2 | h2
        · exact h2
        · simp at h2; exact absurd h2.1 hjk
  low := fun j h1 h2 => by
    obtain ⟨b, hb⟩ := h.low j h1 h2
    exact ⟨b, List.mem_append_left _ hb⟩
theorem In2.next {G : Nat} {E : Nat → Option (List UInt8)} {l : List (Nat × List UInt8)} {b : List UInt8} (h : In2 G E l) (hb : E (G + 1) = some b) : In2 (G + 1) (upd E (G + 1) none) l where
  keys := h.keys
  nodup := h.nodup
  early := fun k c hk => by
    unfold upd
    rw [if_neg (by omega)]
    exact h.early k c (by omega)
  low := fun k h1 h2 => by
    rcases Nat.lt_or_ge G k with h3 | h3
    · have : k = G + 1 := by omega
      subst this
      exact ⟨b, (h.early _ b (by omega)).1 hb⟩
    · exact h.low k h1 h3
theorem Ok.told {G room : Nat} {E : Nat → Option (List UInt8)} {l : List (Nat × List UInt8)} (h : Ok e pre inn) (h2 : In2 G E l) (hn : E (G + 1) = none) : Ok { e with got := G, early := E, room := room } pre l :=
  ⟨h.seqs, h.given, h.top, h2.keys, h2.nodup, h2.early, h2.low, hn⟩
theorem QS.same (h : QS S w0 w g g2 gf kind site seq ack body e pre inn va vi) {e' : St} (h1 : rcells e pre.length va vi = rcells e' pre.length va vi) (h2 : e'.out = e.out) : QS S w0 w g g2 gf kind site seq ack body e' pre inn va vi :=
  ⟨by rw [← h1]; exact h.row, h.fr, h.res, by rw [h2]; exact h.all, h.came, h.fara, h.farc, h.bel, h.two, h.apS, h.sS⟩
def OutOk (w : World) (gf : Nat) (va vi v : Value) (acc : List (List UInt8)) : Prop := Mem.Row w (gf + 1) 9 1 v acc.length (strs acc) ∧ ∀ b, v.ownBlock = some b → va.ownBlock ≠ some b ∧ vi.ownBlock ≠ some b
theorem OutOk.below {v : Value} {acc : List (List UInt8)} (h : OutOk w gf va vi v acc) (hb : Below w.heap.size w w1) : OutOk w1 gf va vi v acc := ⟨h.1.below hb, h.2⟩
theorem OutOk.put {v : Value} {acc : List (List UInt8)} (h : OutOk w gf va vi v acc) (hg : g < gf) (i : Nat) (u : Value) : OutOk (w.setCell ⟨g, i, none⟩ u) gf va vi v acc :=
  ⟨h.1.keep fun k _ ho => heap_setCell_other _ _ _ _ (by have := (Mem.Row.block h.1 ho).1; show k ≠ g; omega), h.2⟩
theorem QS.grow (h : QS S w0 w g g2 gf kind site seq ack body e pre inn va vi) {v : Value} {acc : List (List UInt8)} (ho : OutOk w gf va vi v acc) (hg : w.grownBy w1 v.ownBlock) : QS S w0 w1 g g2 gf kind site seq ack body e pre inn va vi := by
  have hv : ∀ b, v.ownBlock = some b → gf + 1 ≤ b := fun b hb => (Mem.Row.block ho.1 hb).1
  have h1 := h.lt
  have h2 := h.two
  have hk : ∀ k, k ≤ gf → w1.heap[k]? = w.heap[k]? := fun k hk => hg.block k (by omega) fun e2 => by have := hv k e2.symm; omega
  exact ⟨(hk _ (by omega)).trans h.row, (hk _ (Nat.le_refl _)).trans h.fr, (hk _ (by omega)).trans h.res, h.all.keep fun k hk1 hk2 => hg.block k hk1 fun e2 => (ho.2 k e2.symm).1 hk2,
    h.came.keep fun k hk1 hk2 => hg.block k hk1 fun e2 => (ho.2 k e2.symm).2 hk2, h.fara, h.farc, h.bel.trans (grown_below hg (fun b hb => by have := hv b hb; omega) (by omega)), h2, h.apS, h.sS⟩
theorem OutOk.grow {v v' : Value} {acc acc' : List (List UInt8)} (h : QS S w0 w g g2 gf kind site seq ack body e pre inn va vi) (ho : OutOk w gf va vi v acc) (hr : Mem.Row w1 (gf + 1) 9 1 v' acc'.length (strs acc')) (hat : v'.ownBlock = v.ownBlock ∨ v'.ownBlock = some w.heap.size) : OutOk w1 gf va vi v' acc' := by
  refine ⟨hr, fun b hb => ?_⟩
  rcases hat with h3 | h3
  · exact ho.2 b (h3 ▸ hb)
  · rw [h3] at hb
    injection hb with hb
    exact ⟨fun hq => by have := (Mem.Row.block h.all hq).2; omega, fun hq => by have := (Mem.Row.block h.came hq).2; omega⟩
def gotOf (w : World) (g : Nat) : Nat := match w.cell? ⟨g, 5, none⟩ with
  | some (.int _ z) => z.toNat
  | _ => 0
theorem QS.gotIs (h : QS S w0 w g g2 gf kind site seq ack body e pre inn va vi) : gotOf w g = e.got := by
  unfold gotOf
  rw [show w.cell? ⟨g, 5, none⟩ = some (.int .i64 e.got) from (cell_of_row _ _ 5 _ _ _ h.row).trans rfl]
  rfl
end
end Ply

set_option maxRecDepth 100000 in
set_option maxHeartbeats 1000000 in
theorem rtake_tell {hd : Nat → Nat → Bool → Nat → Nat × Nat × Bool} (hears : Ply.RHears hd) (e : Lnk.St) (v : Value) (N : Nat) (s : List UInt8) (hs : s.length < 2 ^ 61) (site ack : Int) (body : List UInt8) (hk : Frm.get s = (⟨2, site, 0, ack, body⟩, 0)) (hc : site = e.site) (hc2 : ¬ (e.top : Int) < ack) (hnow : e.now < 1099511627776) (hsent : ∀ x ∈ e.out, x.sent < 1099511627776) (hg5 : e.given < 100000) (hgot : e.got < 1099511627776) {S : Nat → Prop} (w : World) (hS : ∀ b, S b → b < w.heap.size) (h : Ply.RAt w e v N S) :
    Calls Try.prog 23 #[v, .string (Mem.str s)] w fun r w' => ∃ v', r = .returned (.tuple #[v', .slice none 0 0, .int .i64 0]) ∧ Ply.RAt w' (Lnk.acked hd ack e) v' N S ∧ Below w.heap.size w w' := by
  have hget := frame_refget s hs
  rw [hk] at hget
  obtain ⟨pre, inn, va, vi, rfl, h⟩ := h
  have HL := Lib.hid h
  have HSS := Lib.hid hS
  clear hS
  obtain ⟨A, c, eva, -, -⟩ := h.all.form
  obtain ⟨T, hT⟩ : ∃ T, pre.length + e.out.length = T := ⟨_, rfl⟩
  rw [hT] at eva
  subst eva
  have HT := Lib.hid hT
  have HT5 := Lib.hid (show T < 100000 by have := h.ok.given; omega)
  have HACK := Lib.hid (show ack ≤ (e.given : Int) by have := h.ok.top; omega)
  have HNOW := Lib.hid hnow
  have HSENT := Lib.hid hsent
  have HGOT := Lib.hid hgot
  have HG5 := Lib.hid hg5
  obtain ⟨R, hR⟩ : ∃ R, Lnk.ackGo hd e.now ack e.out (e.mean, e.dev, e.any) = R := ⟨_, rfl⟩
  have HR := Lib.hid hR
  have d0 : (site != (e.site : Int)) = false := by rw [hc]; exact bne_self_eq_false _
  have d1 : decide ((e.top : Int) < ack) = false := decide_eq_false hc2
  clear h hgot hs hk hc hnow hsent hg5 hT hR
  go_enter Try.func23, Try.ntmps23
  go_upto_region 1 with (first
    | (with_reducible refine Mem.wpList_box (o := ⟨some 2, _, _, _, _, _⟩) ?_ 52 (.tmp 0) ?_ (.agg (Ply.rcells e pre.length (.slice A T c) vi)) ?_ ?_
       · rfl
       · rfl
       · rfl
       intro w1 hn1
       have N1 := Lib.hid hn1
       clear hn1)
    | (with_reducible refine Mem.wpList_alloc (o := ⟨some 4, _, _, _, _, _⟩) ?_ 52 ?_ _ Ply.zero_end ?_
       · rfl
       · rfl
       intro w2 hn2
       have R2 := Lib.hid ((hn2.old (show w.heap.size < w1.heap.size by rw [N1.out.size]; omega)).trans N1.out.row)
       have Q2 := Lib.hid hn2.row
       have B2 := Lib.hid (Mem.then_ N1.out.below hn2.below)
       have S2 := Lib.hid (show w2.heap.size = w.heap.size + 2 by rw [hn2.size, N1.out.size])
       have S1 := Lib.hid N1.out.size
       clear hn2))
  go_wp2_with (first
    | (go_at_call 38
       refine (hget _).mono ?_
       rintro r w3 ⟨rfl, hb3⟩
       have R3 := Lib.hid ((hb3.block _ (show w.heap.size < w2.heap.size by rw [S2.out]; omega)).trans R2.out)
       have Q3 := Lib.hid ((hb3.block _ (show w1.heap.size < w2.heap.size by rw [S2.out, S1.out]; omega)).trans Q2.out)
       have B3 := Lib.hid (B2.out.trans (hb3.mono (by rw [S2.out]; omega)))
       have S3 := Lib.hid (show w.heap.size + 2 ≤ w3.heap.size by rw [← S2.out]; exact hb3.size)
       clear hb3)
    | (with_reducible refine Mem.wpList_alloc (o := ⟨some 7, _, _, _, _, _⟩) ?_ 54 ?_ _ Ply.zero_refframe ?_
       · rfl
       · rfl
       intro w4 hn4
       have N4 := Lib.hid hn4
       clear hn4)
    | (with_reducible refine Mem.wpList_store ?_ 54 (.tmp 7) (.tmp 17) ?_ w3.heap.size #[.int .i64 2, .int .i64 site, .int .i64 0, .int .i64 ack, .string (Mem.str body)] ?_ ?_ 54 _ N4.out.row ?_ ?_ ?_ ?_
       · rfl
       · rfl
       · rfl
       · rfl
       · exact Ply.size_refframe
       · rfl
       · exact Ply.one_refframe _ _ _ _ _
       intro w5 hp5
       have QQ := Lib.hid (Ply.qs_start HL.out HSS.out R3.out Q3.out B3.out S3.out S1.out N4.out hp5)
       have z0 : w5.cell? ⟨w.heap.size, 0, none⟩ = some (.int .i64 e.site) := (cell_of_row _ _ 0 _ _ _ QQ.out.row).trans rfl
       have z4 : w5.cell? ⟨w.heap.size, 4, none⟩ = some (.int .i64 e.top) := (cell_of_row _ _ 4 _ _ _ QQ.out.row).trans rfl
       have z5 : w5.cell? ⟨w.heap.size, 5, none⟩ = some (.int .i64 e.got) := (cell_of_row _ _ 5 _ _ _ QQ.out.row).trans rfl
       have y0 : w5.cell? ⟨w3.heap.size, 0, none⟩ = some (.int .i64 2) := (cell_of_row _ _ 0 _ _ _ QQ.out.fr).trans rfl
       have y1 : w5.cell? ⟨w3.heap.size, 1, none⟩ = some (.int .i64 site) := (cell_of_row _ _ 1 _ _ _ QQ.out.fr).trans rfl
       have y2 : w5.cell? ⟨w3.heap.size, 2, none⟩ = some (.int .i64 0) := (cell_of_row _ _ 2 _ _ _ QQ.out.fr).trans rfl
       have y3 : w5.cell? ⟨w3.heap.size, 3, none⟩ = some (.int .i64 ack) := (cell_of_row _ _ 3 _ _ _ QQ.out.fr).trans rfl
       clear hp5 N4 R3 Q3 S3 B3))
  clear z0 z4 z5 y0 y1 y2 y3 d0 d1
  obtain ⟨g, hg⟩ : ∃ g, w.heap.size = g := ⟨_, rfl⟩
  obtain ⟨g2, hg2⟩ : ∃ g2, w1.heap.size = g2 := ⟨_, rfl⟩
  obtain ⟨gf, hgf⟩ : ∃ gf, w3.heap.size = gf := ⟨_, rfl⟩
  rw [hg, hg2, hgf] at QQ
  rw [hg, hg2, hgf]
  have HG := Lib.hid hg
  clear hg hg2 hgf S1 S2 Q2 R2 B2 N1
  go_loopw [9] (fun _ wr => ∃ (pp l : List Lnk.Wt) (q : Nat × Nat × Bool), (∀ x ∈ l, x.sent < 1099511627776) ∧ Lnk.ackGo hd e.now ack l q = R ∧
    Ply.QS S w wr g g2 gf 2 site 0 ack body (Lnk.less e l q) pp inn (.slice A T c) vi ∧ Ply.Ok (Lnk.less e l q) pp inn) (fun _ wr => ack.toNat - Ply.accOf wr g)
  case atStart => exact ⟨pre, e.out, (e.mean, e.dev, e.any), HSENT.out, HR.out, QQ.out, HL.out.ok⟩
  case round =>
    obtain ⟨pp, l, ⟨m, d, sm⟩, hx, hgo, hq, hok⟩ := hrel
    have k3 : wr.cell? ⟨g, 3, none⟩ = some (.int .i64 pp.length) := (cell_of_row _ _ 3 _ _ _ hq.row).trans rfl
    have y3 : wr.cell? ⟨gf, 3, none⟩ = some (.int .i64 ack) := (cell_of_row _ _ 3 _ _ _ hq.fr).trans rfl
    have hgiven : e.given = pp.length + l.length := hok.given
    by_cases hlt : (pp.length : Int) < ack
    · cases l with
      | nil =>
        exfalso
        have := HACK.out
        simp only [List.length_nil] at hgiven
        omega
      | cons x l =>
        have hsq : x.seq = pp.length + 1 := hok.seqs 0 x rfl
        obtain ⟨xseq, tries, sent, xbody⟩ := x
        simp only at hsq
        have hxs : sent < 1099511627776 := hx ⟨xseq, tries, sent, xbody⟩ (by simp)
        have hxl : ∀ y ∈ l, y.sent < 1099511627776 := fun y hy => hx y (by simp [hy])
        have hlen : pp.length + (Lnk.less e (⟨xseq, tries, sent, xbody⟩ :: l) (m, d, sm)).out.length = T := by
          show pp.length + (_ :: l).length = T
          have h1 := HL.out.ok.given
          have h2 := HT.out
          omega
        have hall := hq.all
        rw [hlen] at hall
        have hxj : (pp ++ (Lnk.less e (⟨xseq, tries, sent, xbody⟩ :: l) (m, d, sm)).out)[pp.length]? = some ⟨xseq, tries, sent, xbody⟩ := by
          have := Ply.pre_at (pre := pp) (k := 0) (x := ⟨xseq, tries, sent, xbody⟩) (l := ⟨xseq, tries, sent, xbody⟩ :: l) rfl
          exact this
        obtain ⟨pA, off, rfl⟩ : ∃ pA off, A = some ⟨pA, off, none⟩ := by
          rcases hall.2 with ⟨e1, _⟩ | ⟨pA, off, _, _, e1, _⟩
          · injection e1 with _ e2
            simp only [List.length_cons] at hgiven
            have h1 := HL.out.ok.given
            have h2 := HT.out
            omega
          · injection e1 with e2
            exact ⟨pA, off, e2⟩
        have hrng := Ply.body_range hall hxj
        simp only at hrng
        have kA : wr.cell? ⟨g, 2, none⟩ = some (.slice (some ⟨pA, off, none⟩) T c) := (cell_of_row _ _ 2 _ _ _ hq.row).trans rfl
        have hpT : (pp.length : Int) < (T : Int) := by
          simp only [List.length_cons] at hgiven
          have h1 := HL.out.ok.given
          have h2 := HT.out
          omega
        have hle : ((⟨xseq, tries, sent, xbody⟩ : Lnk.Wt).seq : Int) ≤ ack := by simp only; omega
        have hgo2 : Lnk.ackGo hd e.now ack l (if tries = 1 then hd m d sm (floatOfInt .f64 ((e.now : Int) - sent)) else (m, d, sm)) = R := by rw [← hgo]; conv => rhs; unfold Lnk.ackGo; rw [if_pos hle]
        have HPL := Lib.hid (show wrap64 ((pp.length : Int) + 1) = (pp.length : Int) + 1 by have := HT5.out; unfold wrap64; omega)
        have HWN := Lib.hid (show wrap64 ((e.now : Int) - (sent : Int)) = (e.now : Int) - sent by have := HNOW.out; unfold wrap64; omega)
        have HLT := Lib.hid (show pp.length < ack.toNat by omega)
        have d5 : decide ((pp.length : Int) < ack) = true := decide_eq_true hlt
        have HQ := Lib.hid hq
        have HOK := Lib.hid hok
        have HGO := Lib.hid hgo2
        have HXL := Lib.hid hxl
        have hacc := Lib.hid hq.acc
        clear hgo hgo2 hx hxl hall hxj hlen hsq hgiven hxs hle hq hok
        by_cases htr : tries = 1
        · have t1 : ((tries : Int) == 1) = true := by rw [htr]; rfl
          have HTR := Lib.hid htr
          clear htr
          have hst := Pac.run_store_float
          have hwn := HWN.out
          have hpl := HPL.out
          go_wp2_with (first
            | (with_reducible refine wpList_load_mid (op := ⟨some 68, _, _, _, _, _⟩) ?_ 86 (.tmp 67) ?_ pA (off + pp.length * 3) ?_ [.string (Mem.str xbody), .int .i64 tries, .int .i64 sent] _ hrng Try.underlying86 ?_ ?_ ?_
               · rfl
               · rfl
               · rfl
               · rfl
               · exact Ply.size_body)
            | (with_reducible refine Mem.wpList_alloc (o := ⟨some 9, _, _, _, _, _⟩) ?_ 86 ?_ _ Ply.zero_body ?_
               · rfl
               · rfl
               intro w6 hn6
               have N6 := Lib.hid hn6
               clear hn6)
            | (with_reducible refine Mem.wpList_store ?_ 86 (.tmp 9) (.tmp 68) ?_ wr.heap.size #[.string (Mem.str xbody), .int .i64 tries, .int .i64 sent] ?_ ?_ 86 _ N6.out.row ?_ ?_ ?_ ?_
               · rfl
               · rfl
               · rfl
               · rfl
               · exact Ply.size_body
               · rfl
               · exact Ply.bone3 _ _ _
               intro w7 hp7
               have hq7 := HQ.out.below (N6.out.below.trans (hp7.below (Nat.le_refl _)))
               have b1 : w7.cell? ⟨wr.heap.size, 1, none⟩ = some (.int .i64 tries) := (cell_of_row _ _ 1 _ _ _ hp7.row).trans rfl
               have b2 : w7.cell? ⟨wr.heap.size, 2, none⟩ = some (.int .i64 sent) := (cell_of_row _ _ 2 _ _ _ hp7.row).trans rfl
               have m1 : w7.cell? ⟨g, 1, none⟩ = some (.int .i64 e.now) := (cell_of_row _ _ 1 _ _ _ hq7.row).trans rfl
               have m7 : w7.cell? ⟨g, 7, none⟩ = some (.float .f64 m) := (cell_of_row _ _ 7 _ _ _ hq7.row).trans rfl
               have m8 : w7.cell? ⟨g, 8, none⟩ = some (.float .f64 d) := (cell_of_row _ _ 8 _ _ _ hq7.row).trans rfl
               have m9 : w7.cell? ⟨g, 9, none⟩ = some (.bool sm) := (cell_of_row _ _ 9 _ _ _ hq7.row).trans rfl
               have Q7 := Lib.hid hq7
               clear hp7 hq7)
            | (go_at_call 39
               refine (hears m d sm (floatOfInt .f64 ((e.now : Int) - sent)) _).mono ?_
               obtain ⟨⟨X, Y, Z⟩, hXYZ⟩ : ∃ q, hd m d sm (floatOfInt .f64 ((e.now : Int) - sent)) = q := ⟨_, rfl⟩
               rw [hXYZ]
               rintro r w8 ⟨rfl, hb8⟩
               have hq8 := Q7.out.below hb8
               have k7 : w8.cell? ⟨g, 7, none⟩ = some (.float .f64 m) := (cell_of_row _ _ 7 _ _ _ hq8.row).trans rfl
               have k8 : w8.cell? ⟨g, 8, none⟩ = some (.float .f64 d) := (cell_of_row _ _ 8 _ _ _ hq8.row).trans rfl
               have k9 : w8.cell? ⟨g, 9, none⟩ = some (.bool sm) := (cell_of_row _ _ 9 _ _ _ hq8.row).trans rfl
               have k33 : w8.cell? ⟨g, 3, none⟩ = some (.int .i64 pp.length) := (cell_of_row _ _ 3 _ _ _ hq8.row).trans rfl
               have ff := fun i => frozen_of_row _ g i _ _ hq8.row
               have HXYZ := Lib.hid hXYZ
               have Q8 := Lib.hid hq8
               clear hXYZ hb8 hq8 m1 m7 m8 m9 b1 b2))
          have q1 := ((Q8.out.put (e' := Lnk.less e (⟨xseq, tries, sent, xbody⟩ :: l) (X, d, sm)) 7 (.float .f64 X) rfl rfl).put (e' := Lnk.less e (⟨xseq, tries, sent, xbody⟩ :: l) (X, Y, sm)) 8 (.float .f64 Y) rfl rfl).put (e' := Lnk.less e (⟨xseq, tries, sent, xbody⟩ :: l) (X, Y, Z)) 9 (.bool Z) rfl rfl
          have q2 := q1.pop
          have hgo4 := HGO.out
          rw [if_pos HTR.out, HXYZ.out] at hgo4
          refine ⟨⟨pp ++ [⟨xseq, tries, sent, xbody⟩], l, (X, Y, Z), HXL.out, hgo4, q2, HOK.out.pop⟩, ?_⟩
          rw [q2.acc, hacc.out, List.length_append]
          have h1 := HLT.out
          show ack.toNat - (pp.length + 1) < _
          exact Nat.sub_lt_sub_left h1 (Nat.lt_succ_self _)
        · have t1 : ((tries : Int) == 1) = false := by simp; omega
          have HTR := Lib.hid htr
          clear htr
          have hpl := HPL.out
          go_wp2_with (first
            | (with_reducible refine wpList_load_mid (op := ⟨some 68, _, _, _, _, _⟩) ?_ 86 (.tmp 67) ?_ pA (off + pp.length * 3) ?_ [.string (Mem.str xbody), .int .i64 tries, .int .i64 sent] _ hrng Try.underlying86 ?_ ?_ ?_
               · rfl
               · rfl
               · rfl
               · rfl
               · exact Ply.size_body)
            | (with_reducible refine Mem.wpList_alloc (o := ⟨some 9, _, _, _, _, _⟩) ?_ 86 ?_ _ Ply.zero_body ?_
               · rfl
               · rfl
               intro w6 hn6
               have N6 := Lib.hid hn6
               clear hn6)
            | (with_reducible refine Mem.wpList_store ?_ 86 (.tmp 9) (.tmp 68) ?_ wr.heap.size #[.string (Mem.str xbody), .int .i64 tries, .int .i64 sent] ?_ ?_ 86 _ N6.out.row ?_ ?_ ?_ ?_
               · rfl
               · rfl
               · rfl
               · rfl
               · exact Ply.size_body
               · rfl
               · exact Ply.bone3 _ _ _
               intro w7 hp7
               have hq7 := HQ.out.below (N6.out.below.trans (hp7.below (Nat.le_refl _)))
               have b1 : w7.cell? ⟨wr.heap.size, 1, none⟩ = some (.int .i64 tries) := (cell_of_row _ _ 1 _ _ _ hp7.row).trans rfl
               have k33 : w7.cell? ⟨g, 3, none⟩ = some (.int .i64 pp.length) := (cell_of_row _ _ 3 _ _ _ hq7.row).trans rfl
               have ff := fun i => frozen_of_row _ g i _ _ hq7.row
               have Q7 := Lib.hid hq7
               clear hp7 hq7))
          have q2 := Q7.out.pop
          have hgo4 := HGO.out
          rw [if_neg HTR.out] at hgo4
          refine ⟨⟨pp ++ [⟨xseq, tries, sent, xbody⟩], l, (m, d, sm), HXL.out, hgo4, q2, HOK.out.pop⟩, ?_⟩
          rw [q2.acc, hacc.out, List.length_append]
          have h1 := HLT.out
          show ack.toNat - (pp.length + 1) < _
          exact Nat.sub_lt_sub_left h1 (Nat.lt_succ_self _)
    · have d5 : decide ((pp.length : Int) < ack) = false := decide_eq_false hlt
      have hRl : R = (l, (m, d, sm)) := by
        rw [← hgo]
        cases l with
        | nil => rfl
        | cons x l =>
          have hsq : x.seq = pp.length + 1 := hok.seqs 0 x rfl
          unfold Lnk.ackGo
          rw [if_neg (by omega)]
      have hea : Lnk.acked hd ack e = Lnk.less e l (m, d, sm) := by unfold Lnk.acked Lnk.less; rw [HR.out, hRl]
      rw [← hea] at hq hok
      have HQ := Lib.hid hq
      have HOK := Lib.hid hok
      obtain ⟨ea, hea2⟩ : ∃ ea, Lnk.acked hd ack e = ea := ⟨_, rfl⟩
      rw [hea2] at HQ HOK
      have hvi : ∃ B m d, vi = .slice B m d := by obtain ⟨B, d, e1, _, _⟩ := HL.out.came.form; exact ⟨_, _, _, e1⟩
      have HVI := Lib.hid hvi
      have HEA := Lib.hid hea2
      clear hq hok hgo hx hgiven hRl hea hea2 hvi
      have y0 : wr.cell? ⟨gf, 0, none⟩ = some (.int .i64 2) := (cell_of_row _ _ 0 _ _ _ HQ.out.fr).trans rfl
      go_wp2_with (first
        | (with_reducible refine wpList_load_row (o := ⟨some 89, _, _, _, _, _⟩) ?_ 52 (.tmp 2) ?_ g ?_ 52 (Ply.rcells ea pp.length (.slice A T c) vi) (0, 0) _ ?_ Try.underlying52 ?_ ?_ ?_
           · rfl
           · rfl
           · rfl
           · exact HQ.out.row
           · rfl
           · exact Ply.size_end)
        | (with_reducible refine Mem.wpList_store ?_ 52 (.tmp 4) (.tmp 89) ?_ g2 (Ply.rcells ea pp.length (.slice A T c) vi) ?_ ?_ 52 _ HQ.out.res ?_ ?_ ?_ ?_
           · rfl
           · rfl
           · rfl
           · rfl
           · exact Ply.size_end
           · rfl
           · exact Ply.rcells_one2 _ _ HVI.out
           intro w16 hp16
           have P16 := Lib.hid hp16
           clear hp16))
      refine bodyPost_ret (Ply.results_ctt rfl _ _ g2 (.slice none 0 0) (.int .i64 0) _ _ _ _ rfl rfl rfl P16.out.row Try.underlying52 rfl Ply.size_end) rfl ⟨_, rfl, ?_⟩
      rw [HEA.out]
      exact HQ.out.done P16.out HOK.out HL.out.small
set_option maxRecDepth 100000 in
set_option maxHeartbeats 1000000 in
theorem rtake_one {hd : Nat → Nat → Bool → Nat → Nat × Nat × Bool} (hears : Ply.RHears hd) (e : Lnk.St) (v : Value) (N : Nat) (s : List UInt8) (hs : s.length < 2 ^ 61) (site ack : Int) (sq : Nat) (body : List UInt8) (hsq : 1 ≤ sq ∧ sq ≤ e.got + 8) (hbody : body.length ≤ 1048576) (hE : ∀ k, e.got + 9 ≤ k → e.early k = none) (hN5 : N < 100000) (hk : Frm.get s = (⟨1, site, sq, ack, body⟩, 0)) (hc : site = e.site) (hc2 : ¬ (e.top : Int) < ack) (hnow : e.now < 1099511627776) (hsent : ∀ x ∈ e.out, x.sent < 1099511627776) (hg5 : e.given < 100000) (hgot : e.got < 1099511627776) {S : Nat → Prop} (w : World) (hS : ∀ b, S b → b < w.heap.size) (h : Ply.RAt w e v N S) :
    Calls Try.prog 23 #[v, .string (Mem.str s)] w fun r w' => ∃ v' o, r = .returned (.tuple #[v', o, .int .i64 (Lnk.takeF hd e ⟨1, site, sq, ack, body⟩).2.2]) ∧ Ply.RAt w' (Lnk.takeF hd e ⟨1, site, sq, ack, body⟩).1 v' (N + 1) S ∧ Lnk.Txt w' w.heap.size o (Lnk.takeF hd e ⟨1, site, sq, ack, body⟩).2.1 ∧ Below w.heap.size w w' := by
  have hget := frame_refget s hs
  rw [hk] at hget
  obtain ⟨pre, inn, va, vi, rfl, h⟩ := h
  have HL := Lib.hid h
  have HSS := Lib.hid hS
  clear hS
  obtain ⟨A, c, eva, -, -⟩ := h.all.form
  obtain ⟨T, hT⟩ : ∃ T, pre.length + e.out.length = T := ⟨_, rfl⟩
  rw [hT] at eva
  subst eva
  have HT := Lib.hid hT
  have HT5 := Lib.hid (show T < 100000 by have := h.ok.given; omega)
  have HACK := Lib.hid (show ack ≤ (e.given : Int) by have := h.ok.top; omega)
  have HNOW := Lib.hid hnow
  have HSENT := Lib.hid hsent
  have HGOT := Lib.hid hgot
  have HG5 := Lib.hid hg5
  obtain ⟨R, hR⟩ : ∃ R, Lnk.ackGo hd e.now ack e.out (e.mean, e.dev, e.any) = R := ⟨_, rfl⟩
  have HR := Lib.hid hR
  have d0 : (site != (e.site : Int)) = false := by rw [hc]; exact bne_self_eq_false _
  have d1 : decide ((e.top : Int) < ack) = false := decide_eq_false hc2
  obtain ⟨Bi, di, evi, -, -⟩ := h.came.form
  obtain ⟨L, hLL⟩ : ∃ L, inn.length = L := ⟨_, rfl⟩
  rw [hLL] at evi
  subst evi
  have HLL := Lib.hid hLL
  have HL5 := Lib.hid (show L < 100000 by have := h.small; omega)
  have HSQ := Lib.hid hsq
  have HBODY := Lib.hid hbody
  have HE := Lib.hid hE
  have HN5 := Lib.hid hN5
  have d2 : decide ((e.got : Int) + 8 < (sq : Int)) = false := decide_eq_false (by omega)
  have i2 : ¬ (e.got : Int) + 8 < (sq : Int) := by omega
  have hw8 : wrap64 ((e.got : Int) + 8) = (e.got : Int) + 8 := by unfold wrap64; omega
  clear hLL hsq hbody hE hN5
  clear h hgot hs hk hc hnow hsent hg5 hT hR
  go_enter Try.func23, Try.ntmps23
  go_upto_region 1 with (first
    | (with_reducible refine Mem.wpList_box (o := ⟨some 2, _, _, _, _, _⟩) ?_ 52 (.tmp 0) ?_ (.agg (Ply.rcells e pre.length (.slice A T c) (Value.slice Bi L di))) ?_ ?_
       · rfl
       · rfl
       · rfl
       intro w1 hn1
       have N1 := Lib.hid hn1
       clear hn1)
    | (with_reducible refine Mem.wpList_alloc (o := ⟨some 4, _, _, _, _, _⟩) ?_ 52 ?_ _ Ply.zero_end ?_
       · rfl
       · rfl
       intro w2 hn2
       have R2 := Lib.hid ((hn2.old (show w.heap.size < w1.heap.size by rw [N1.out.size]; omega)).trans N1.out.row)
       have Q2 := Lib.hid hn2.row
       have B2 := Lib.hid (Mem.then_ N1.out.below hn2.below)
       have S2 := Lib.hid (show w2.heap.size = w.heap.size + 2 by rw [hn2.size, N1.out.size])
       have S1 := Lib.hid N1.out.size
       clear hn2))
  go_wp2_with (first
    | (go_at_call 38
       refine (hget _).mono ?_
       rintro r w3 ⟨rfl, hb3⟩
       have R3 := Lib.hid ((hb3.block _ (show w.heap.size < w2.heap.size by rw [S2.out]; omega)).trans R2.out)
       have Q3 := Lib.hid ((hb3.block _ (show w1.heap.size < w2.heap.size by rw [S2.out, S1.out]; omega)).trans Q2.out)
       have B3 := Lib.hid (B2.out.trans (hb3.mono (by rw [S2.out]; omega)))
       have S3 := Lib.hid (show w.heap.size + 2 ≤ w3.heap.size by rw [← S2.out]; exact hb3.size)
       clear hb3)
    | (with_reducible refine Mem.wpList_alloc (o := ⟨some 7, _, _, _, _, _⟩) ?_ 54 ?_ _ Ply.zero_refframe ?_
       · rfl
       · rfl
       intro w4 hn4
       have N4 := Lib.hid hn4
       clear hn4)
    | (with_reducible refine Mem.wpList_store ?_ 54 (.tmp 7) (.tmp 17) ?_ w3.heap.size #[.int .i64 1, .int .i64 site, .int .i64 sq, .int .i64 ack, .string (Mem.str body)] ?_ ?_ 54 _ N4.out.row ?_ ?_ ?_ ?_
       · rfl
       · rfl
       · rfl
       · rfl
       · exact Ply.size_refframe
       · rfl
       · exact Ply.one_refframe _ _ _ _ _
       intro w5 hp5
       have QQ := Lib.hid (Ply.qs_start HL.out HSS.out R3.out Q3.out B3.out S3.out S1.out N4.out hp5)
       have z0 : w5.cell? ⟨w.heap.size, 0, none⟩ = some (.int .i64 e.site) := (cell_of_row _ _ 0 _ _ _ QQ.out.row).trans rfl
       have z4 : w5.cell? ⟨w.heap.size, 4, none⟩ = some (.int .i64 e.top) := (cell_of_row _ _ 4 _ _ _ QQ.out.row).trans rfl
       have z5 : w5.cell? ⟨w.heap.size, 5, none⟩ = some (.int .i64 e.got) := (cell_of_row _ _ 5 _ _ _ QQ.out.row).trans rfl
       have y0 : w5.cell? ⟨w3.heap.size, 0, none⟩ = some (.int .i64 1) := (cell_of_row _ _ 0 _ _ _ QQ.out.fr).trans rfl
       have y1 : w5.cell? ⟨w3.heap.size, 1, none⟩ = some (.int .i64 site) := (cell_of_row _ _ 1 _ _ _ QQ.out.fr).trans rfl
       have y2 : w5.cell? ⟨w3.heap.size, 2, none⟩ = some (.int .i64 sq) := (cell_of_row _ _ 2 _ _ _ QQ.out.fr).trans rfl
       have y3 : w5.cell? ⟨w3.heap.size, 3, none⟩ = some (.int .i64 ack) := (cell_of_row _ _ 3 _ _ _ QQ.out.fr).trans rfl
       clear hp5 N4 R3 Q3 S3 B3))
  clear z0 z4 z5 y0 y1 y2 y3 d0 d1 d2 i2 hw8
  obtain ⟨g, hg⟩ : ∃ g, w.heap.size = g := ⟨_, rfl⟩
  obtain ⟨g2, hg2⟩ : ∃ g2, w1.heap.size = g2 := ⟨_, rfl⟩
  obtain ⟨gf, hgf⟩ : ∃ gf, w3.heap.size = gf := ⟨_, rfl⟩
  rw [hg, hg2, hgf] at QQ
  rw [hg, hg2, hgf]
  have HG := Lib.hid hg
  clear hg hg2 hgf S1 S2 Q2 R2 B2 N1
  go_loopw [9] (fun _ wr => ∃ (pp l : List Lnk.Wt) (q : Nat × Nat × Bool), (∀ x ∈ l, x.sent < 1099511627776) ∧ Lnk.ackGo hd e.now ack l q = R ∧
    Ply.QS S w wr g g2 gf 1 site sq ack body (Lnk.less e l q) pp inn (.slice A T c) (Value.slice Bi L di) ∧ Ply.Ok (Lnk.less e l q) pp inn) (fun _ wr => ack.toNat - Ply.accOf wr g)
  case atStart => exact ⟨pre, e.out, (e.mean, e.dev, e.any), HSENT.out, HR.out, QQ.out, HL.out.ok⟩
  case round =>
    obtain ⟨pp, l, ⟨m, d, sm⟩, hx, hgo, hq, hok⟩ := hrel
    have k3 : wr.cell? ⟨g, 3, none⟩ = some (.int .i64 pp.length) := (cell_of_row _ _ 3 _ _ _ hq.row).trans rfl
    have y3 : wr.cell? ⟨gf, 3, none⟩ = some (.int .i64 ack) := (cell_of_row _ _ 3 _ _ _ hq.fr).trans rfl
    have hgiven : e.given = pp.length + l.length := hok.given
    by_cases hlt : (pp.length : Int) < ack
    · cases l with
      | nil =>
        exfalso
        have := HACK.out
        simp only [List.length_nil] at hgiven
        omega
      | cons x l =>
        have hsq : x.seq = pp.length + 1 := hok.seqs 0 x rfl
        obtain ⟨xseq, tries, sent, xbody⟩ := x
        simp only at hsq
        have hxs : sent < 1099511627776 := hx ⟨xseq, tries, sent, xbody⟩ (by simp)
        have hxl : ∀ y ∈ l, y.sent < 1099511627776 := fun y hy => hx y (by simp [hy])
        have hlen : pp.length + (Lnk.less e (⟨xseq, tries, sent, xbody⟩ :: l) (m, d, sm)).out.length = T := by
          show pp.length + (_ :: l).length = T
          have h1 := HL.out.ok.given
          have h2 := HT.out
          omega
        have hall := hq.all
        rw [hlen] at hall
        have hxj : (pp ++ (Lnk.less e (⟨xseq, tries, sent, xbody⟩ :: l) (m, d, sm)).out)[pp.length]? = some ⟨xseq, tries, sent, xbody⟩ := by
          have := Ply.pre_at (pre := pp) (k := 0) (x := ⟨xseq, tries, sent, xbody⟩) (l := ⟨xseq, tries, sent, xbody⟩ :: l) rfl
          exact this
        obtain ⟨pA, off, rfl⟩ : ∃ pA off, A = some ⟨pA, off, none⟩ := by
          rcases hall.2 with ⟨e1, _⟩ | ⟨pA, off, _, _, e1, _⟩
          · injection e1 with _ e2
            simp only [List.length_cons] at hgiven
            have h1 := HL.out.ok.given
            have h2 := HT.out
            omega
          · injection e1 with e2
            exact ⟨pA, off, e2⟩
        have hrng := Ply.body_range hall hxj
        simp only at hrng
        have kA : wr.cell? ⟨g, 2, none⟩ = some (.slice (some ⟨pA, off, none⟩) T c) := (cell_of_row _ _ 2 _ _ _ hq.row).trans rfl
        have hpT : (pp.length : Int) < (T : Int) := by
          simp only [List.length_cons] at hgiven
          have h1 := HL.out.ok.given
          have h2 := HT.out
          omega
        have hle : ((⟨xseq, tries, sent, xbody⟩ : Lnk.Wt).seq : Int) ≤ ack := by simp only; omega
        have hgo2 : Lnk.ackGo hd e.now ack l (if tries = 1 then hd m d sm (floatOfInt .f64 ((e.now : Int) - sent)) else (m, d, sm)) = R := by rw [← hgo]; conv => rhs; unfold Lnk.ackGo; rw [if_pos hle]
        have HPL := Lib.hid (show wrap64 ((pp.length : Int) + 1) = (pp.length : Int) + 1 by have := HT5.out; unfold wrap64; omega)
        have HWN := Lib.hid (show wrap64 ((e.now : Int) - (sent : Int)) = (e.now : Int) - sent by have := HNOW.out; unfold wrap64; omega)
        have HLT := Lib.hid (show pp.length < ack.toNat by omega)
        have d5 : decide ((pp.length : Int) < ack) = true := decide_eq_true hlt
        have HQ := Lib.hid hq
        have HOK := Lib.hid hok
        have HGO := Lib.hid hgo2
        have HXL := Lib.hid hxl
        have hacc := Lib.hid hq.acc
        clear hgo hgo2 hx hxl hall hxj hlen hsq hgiven hxs hle hq hok
        by_cases htr : tries = 1
        · have t1 : ((tries : Int) == 1) = true := by rw [htr]; rfl
          have HTR := Lib.hid htr
          clear htr
          have hst := Pac.run_store_float
          have hwn := HWN.out
          have hpl := HPL.out
          go_wp2_with (first
            | (with_reducible refine wpList_load_mid (op := ⟨some 68, _, _, _, _, _⟩) ?_ 86 (.tmp 67) ?_ pA (off + pp.length * 3) ?_ [.string (Mem.str xbody), .int .i64 tries, .int .i64 sent] _ hrng Try.underlying86 ?_ ?_ ?_
               · rfl
               · rfl
               · rfl
               · rfl
               · exact Ply.size_body)
            | (with_reducible refine Mem.wpList_alloc (o := ⟨some 9, _, _, _, _, _⟩) ?_ 86 ?_ _ Ply.zero_body ?_
               · rfl
               · rfl
               intro w6 hn6
               have N6 := Lib.hid hn6
               clear hn6)
            | (with_reducible refine Mem.wpList_store ?_ 86 (.tmp 9) (.tmp 68) ?_ wr.heap.size #[.string (Mem.str xbody), .int .i64 tries, .int .i64 sent] ?_ ?_ 86 _ N6.out.row ?_ ?_ ?_ ?_
               · rfl
               · rfl
               · rfl
               · rfl
               · exact Ply.size_body
               · rfl
               · exact Ply.bone3 _ _ _
               intro w7 hp7
               have hq7 := HQ.out.below (N6.out.below.trans (hp7.below (Nat.le_refl _)))
               have b1 : w7.cell? ⟨wr.heap.size, 1, none⟩ = some (.int .i64 tries) := (cell_of_row _ _ 1 _ _ _ hp7.row).trans rfl
               have b2 : w7.cell? ⟨wr.heap.size, 2, none⟩ = some (.int .i64 sent) := (cell_of_row _ _ 2 _ _ _ hp7.row).trans rfl
               have m1 : w7.cell? ⟨g, 1, none⟩ = some (.int .i64 e.now) := (cell_of_row _ _ 1 _ _ _ hq7.row).trans rfl
               have m7 : w7.cell? ⟨g, 7, none⟩ = some (.float .f64 m) := (cell_of_row _ _ 7 _ _ _ hq7.row).trans rfl
               have m8 : w7.cell? ⟨g, 8, none⟩ = some (.float .f64 d) := (cell_of_row _ _ 8 _ _ _ hq7.row).trans rfl
               have m9 : w7.cell? ⟨g, 9, none⟩ = some (.bool sm) := (cell_of_row _ _ 9 _ _ _ hq7.row).trans rfl
               have Q7 := Lib.hid hq7
               clear hp7 hq7)
            | (go_at_call 39
               refine (hears m d sm (floatOfInt .f64 ((e.now : Int) - sent)) _).mono ?_
               obtain ⟨⟨X, Y, Z⟩, hXYZ⟩ : ∃ q, hd m d sm (floatOfInt .f64 ((e.now : Int) - sent)) = q := ⟨_, rfl⟩
               rw [hXYZ]
               rintro r w8 ⟨rfl, hb8⟩
               have hq8 := Q7.out.below hb8
               have k7 : w8.cell? ⟨g, 7, none⟩ = some (.float .f64 m) := (cell_of_row _ _ 7 _ _ _ hq8.row).trans rfl
               have k8 : w8.cell? ⟨g, 8, none⟩ = some (.float .f64 d) := (cell_of_row _ _ 8 _ _ _ hq8.row).trans rfl
               have k9 : w8.cell? ⟨g, 9, none⟩ = some (.bool sm) := (cell_of_row _ _ 9 _ _ _ hq8.row).trans rfl
               have k33 : w8.cell? ⟨g, 3, none⟩ = some (.int .i64 pp.length) := (cell_of_row _ _ 3 _ _ _ hq8.row).trans rfl
               have ff := fun i => frozen_of_row _ g i _ _ hq8.row
               have HXYZ := Lib.hid hXYZ
               have Q8 := Lib.hid hq8
               clear hXYZ hb8 hq8 m1 m7 m8 m9 b1 b2))
          have q1 := ((Q8.out.put (e' := Lnk.less e (⟨xseq, tries, sent, xbody⟩ :: l) (X, d, sm)) 7 (.float .f64 X) rfl rfl).put (e' := Lnk.less e (⟨xseq, tries, sent, xbody⟩ :: l) (X, Y, sm)) 8 (.float .f64 Y) rfl rfl).put (e' := Lnk.less e (⟨xseq, tries, sent, xbody⟩ :: l) (X, Y, Z)) 9 (.bool Z) rfl rfl
          have q2 := q1.pop
          have hgo4 := HGO.out
          rw [if_pos HTR.out, HXYZ.out] at hgo4
          refine ⟨⟨pp ++ [⟨xseq, tries, sent, xbody⟩], l, (X, Y, Z), HXL.out, hgo4, q2, HOK.out.pop⟩, ?_⟩
          rw [q2.acc, hacc.out, List.length_append]
          have h1 := HLT.out
          show ack.toNat - (pp.length + 1) < _
          exact Nat.sub_lt_sub_left h1 (Nat.lt_succ_self _)
        · have t1 : ((tries : Int) == 1) = false := by simp; omega
          have HTR := Lib.hid htr
          clear htr
          have hpl := HPL.out
          go_wp2_with (first
            | (with_reducible refine wpList_load_mid (op := ⟨some 68, _, _, _, _, _⟩) ?_ 86 (.tmp 67) ?_ pA (off + pp.length * 3) ?_ [.string (Mem.str xbody), .int .i64 tries, .int .i64 sent] _ hrng Try.underlying86 ?_ ?_ ?_
               · rfl
               · rfl
               · rfl
               · rfl
               · exact Ply.size_body)
            | (with_reducible refine Mem.wpList_alloc (o := ⟨some 9, _, _, _, _, _⟩) ?_ 86 ?_ _ Ply.zero_body ?_
               · rfl
               · rfl
               intro w6 hn6
               have N6 := Lib.hid hn6
               clear hn6)
            | (with_reducible refine Mem.wpList_store ?_ 86 (.tmp 9) (.tmp 68) ?_ wr.heap.size #[.string (Mem.str xbody), .int .i64 tries, .int .i64 sent] ?_ ?_ 86 _ N6.out.row ?_ ?_ ?_ ?_
               · rfl
               · rfl
               · rfl
               · rfl
               · exact Ply.size_body
               · rfl
               · exact Ply.bone3 _ _ _
               intro w7 hp7
               have hq7 := HQ.out.below (N6.out.below.trans (hp7.below (Nat.le_refl _)))
               have b1 : w7.cell? ⟨wr.heap.size, 1, none⟩ = some (.int .i64 tries) := (cell_of_row _ _ 1 _ _ _ hp7.row).trans rfl
               have k33 : w7.cell? ⟨g, 3, none⟩ = some (.int .i64 pp.length) := (cell_of_row _ _ 3 _ _ _ hq7.row).trans rfl
               have ff := fun i => frozen_of_row _ g i _ _ hq7.row
               have Q7 := Lib.hid hq7
               clear hp7 hq7))
          have q2 := Q7.out.pop
          have hgo4 := HGO.out
          rw [if_neg HTR.out] at hgo4
          refine ⟨⟨pp ++ [⟨xseq, tries, sent, xbody⟩], l, (m, d, sm), HXL.out, hgo4, q2, HOK.out.pop⟩, ?_⟩
          rw [q2.acc, hacc.out, List.length_append]
          have h1 := HLT.out
          show ack.toNat - (pp.length + 1) < _
          exact Nat.sub_lt_sub_left h1 (Nat.lt_succ_self _)
    · have d5 : decide ((pp.length : Int) < ack) = false := decide_eq_false hlt
      have hRl : R = (l, (m, d, sm)) := by
        rw [← hgo]
        cases l with
        | nil => rfl
        | cons x l =>
          have hsq : x.seq = pp.length + 1 := hok.seqs 0 x rfl
          unfold Lnk.ackGo
          rw [if_neg (by omega)]
      have hea : Lnk.acked hd ack e = Lnk.less e l (m, d, sm) := by unfold Lnk.acked Lnk.less; rw [HR.out, hRl]
      rw [← hea] at hq hok
      have HQ := Lib.hid hq
      have HOK := Lib.hid hok
      obtain ⟨ea, hea2⟩ : ∃ ea, Lnk.acked hd ack e = ea := ⟨_, rfl⟩
      rw [hea2] at HQ HOK
      have hvi : ∃ B m d, (Value.slice Bi L di) = .slice B m d := ⟨_, _, _, rfl⟩
      have HVI := Lib.hid hvi
      have HEA := Lib.hid hea2
      clear hq hok hgo hx hgiven hRl hea hea2 hvi
      have y0 : wr.cell? ⟨gf, 0, none⟩ = some (.int .i64 1) := (cell_of_row _ _ 0 _ _ _ HQ.out.fr).trans rfl
      have k10 : wr.cell? ⟨g, 10, none⟩ = some (.bool ea.owed) := (cell_of_row _ _ 10 _ _ _ HQ.out.row).trans rfl
      have f10 := frozen_of_row wr g 10 _ _ HQ.out.row
      have Q10 := Lib.hid (HQ.out.put (e' := { ea with owed := true }) 10 (.bool true) rfl rfl)
      have HOA := Lib.hid (HOK.out.owed (b := true))
      go_wp2
      clear y0 k10 f10 k3 y3 d5
      generalize wr.setCell ⟨g, 10, none⟩ (.bool true) = wo at Q10 ⊢
      obtain ⟨eo, heo⟩ : ∃ eo, { ea with owed := true } = eo := ⟨_, rfl⟩
      rw [heo] at Q10 HOA
      have HEO := Lib.hid (show { Lnk.acked hd ack e with owed := true } = eo by rw [HEA.out]; exact heo)
      clear heo hlt HQ HOK
      go_loopw [10] (fun t10 wr => ∃ i : Nat, i ≤ L ∧ t10 = .int .i64 i ∧ Ply.QS S w wr g g2 gf 1 site sq ack body eo pp inn (.slice A T c) (Value.slice Bi L di) ∧ ∀ x ∈ inn.take i, x.1 ≠ sq) (fun t10 _ => L - (intOf t10).toNat)
      case atStart => exact ⟨0, Nat.zero_le _, rfl, Q10.out, fun x hx => by simp at hx⟩
      case round =>
        clear Q10
        obtain ⟨i, hi, rfl, hq, hno⟩ := hrel
        have k6 : wr.cell? ⟨g, 6, none⟩ = some (.slice Bi L di) := (cell_of_row _ _ 6 _ _ _ hq.row).trans rfl
        by_cases hil : i < L
        · obtain ⟨⟨xk, xb⟩, hx⟩ : ∃ x, inn[i]? = some x := ⟨_, List.getElem?_eq_getElem (by rw [HLL.out]; exact hil)⟩
          have hcame := hq.came
          rw [HLL.out] at hcame
          obtain ⟨pI, offI, rfl⟩ : ∃ pI offI, Bi = some ⟨pI, offI, none⟩ := by
            rcases hcame.2 with ⟨e1, h0⟩ | ⟨pI, offI, _, _, e1, _⟩
            · omega
            · injection e1 with e2
              exact ⟨pI, offI, e2⟩
          have cI : wr.cell? ⟨pI, offI + i * 2, none⟩ = some (.int .i64 xk) := Ply.came_cell hcame hx (j := 0) rfl
          have i6 : (i : Int) < (L : Int) := by omega
          have d6 : decide ((i : Int) < (L : Int)) = true := decide_eq_true i6
          have y2 : wr.cell? ⟨gf, 2, none⟩ = some (.int .i64 sq) := (cell_of_row _ _ 2 _ _ _ hq.fr).trans rfl
          have HQ := Lib.hid hq
          have HNO := Lib.hid hno
          have HX := Lib.hid hx
          have HWI := Lib.hid (show wrap64 ((i : Int) + 1) = (i : Int) + 1 by have := HL5.out; unfold wrap64; omega)
          clear hq hno hx hcame
          go_wp2
          have m6 : ∀ j : Mem.Later wr, j.w.cell? ⟨g, 6, none⟩ = some (.slice (some ⟨pI, offI, none⟩) L di) := fun j => j.cell k6
          have mI : ∀ j : Mem.Later wr, j.w.cell? ⟨pI, offI + i * 2, none⟩ = some (.int .i64 xk) := fun j => j.cell cI
          have m2 : ∀ j : Mem.Later wr, j.w.cell? ⟨gf, 2, none⟩ = some (.int .i64 sq) := fun j => j.cell y2
          clear k6 cI y2 d6
          by_cases hxk : xk = sq
          · have t1 : ((xk : Int) == (sq : Int)) = true := by rw [hxk]; exact beq_self_eq_true _
            have t2 : decide (xk = sq) = true := decide_eq_true hxk
            have HXK := Lib.hid hxk
            clear hxk
            refine Mem.wp_region_later (by kernel_rfl) (by kernel_rfl) ?_
            repeat (go_big_quiet_step (fail))
            refine wpQuiet_nil ?_
            intro w8 hw8
            obtain ⟨i8, hi8⟩ := hw8
            have h8 : Below wr.heap.size wr w8 := hi8 ▸ i8.h
            clear hi8 i8 m6 mI m2
            have Q8 := Lib.hid (HQ.out.below h8)
            clear h8
            go_wp2_with (first
              | (with_reducible refine wpList_load_row (o := ⟨some 107, _, _, _, _, _⟩) ?_ 52 (.tmp 2) ?_ g ?_ 52 (Ply.rcells eo pp.length (.slice A T c) (.slice (some ⟨pI, offI, none⟩) L di)) (0, 0) _ ?_ Try.underlying52 ?_ ?_ ?_
                 · rfl
                 · rfl
                 · rfl
                 · exact Q8.out.row
                 · rfl
                 · exact Ply.size_end)
              | (with_reducible refine Mem.wpList_store ?_ 52 (.tmp 4) (.tmp 107) ?_ g2 (Ply.rcells eo pp.length (.slice A T c) (.slice (some ⟨pI, offI, none⟩) L di)) ?_ ?_ 52 _ Q8.out.res ?_ ?_ ?_ ?_
                 · rfl
                 · rfl
                 · rfl
                 · rfl
                 · exact Ply.size_end
                 · rfl
                 · exact Ply.rcells_one2 _ _ HVI.out
                 intro w16 hp16
                 have P16 := Lib.hid hp16
                 clear hp16))
            refine bodyPost_ret (Ply.results_ctt rfl _ _ g2 (.slice none 0 0) (.int .i64 15) _ _ _ _ rfl rfl rfl P16.out.row Try.underlying52 rfl Ply.size_end) rfl ⟨.agg (Ply.rcells eo pp.length (.slice A T c) (.slice (some ⟨pI, offI, none⟩) L di)), .slice none 0 0, ?_⟩
            have hcm : (e.early (sq : Int).toNat).isSome = true ∨ (sq : Int) ≤ e.got := by
              rw [Int.toNat_natCast]
              have := HL.out.ok.came (show (sq, xb) ∈ inn by have h1 := HX.out; rw [HXK.out] at h1; exact List.mem_of_getElem? h1)
              rcases this with h1 | h1
              · exact .inl h1
              · exact .inr (by omega)
            have ht : Lnk.takeF hd e ⟨1, site, sq, ack, body⟩ = (eo, [], 15) := by
              unfold Lnk.takeF
              simp only
              rw [if_neg (by decide), if_pos hcm, HEO.out]
            rw [ht]
            have hdone := Q8.out.done P16.out HOA.out HL.out.small
            exact ⟨rfl, hdone.1.mono (Nat.le_succ N), Mem.row_nil _ _ _ _, hdone.2⟩
          · have t1 : ((xk : Int) == (sq : Int)) = false := by simp; omega
            have t2 : decide (xk = sq) = false := decide_eq_false hxk
            have HXK := Lib.hid hxk
            clear hxk
            refine Mem.wp_region_later (by kernel_rfl) (by kernel_rfl) ?_
            repeat (go_big_quiet_step (fail))
            refine wpQuiet_nil ?_
            intro w8 hw8
            obtain ⟨i8, hi8⟩ := hw8
            have h8 : Below wr.heap.size wr w8 := hi8 ▸ i8.h
            clear hi8 i8 m6 mI m2
            have Q8 := Lib.hid (HQ.out.below h8)
            clear h8
            go_wp2
            rw [HWI.out]
            refine ⟨⟨i + 1, hil, rfl, Q8.out, fun x hx => ?_⟩, ?_⟩
            · rw [List.take_add_one, HX.out] at hx
              rcases List.mem_append.1 hx with h1 | h1
              · exact HNO.out x h1
              · simp at h1
                rw [h1]
                exact HXK.out
            · have hm1 : ((i : Int) + 1).toNat = i + 1 := rfl
              have hm2 : ((i : Nat) : Int).toNat = i := rfl
              show L - ((i : Int) + 1).toNat < L - ((i : Nat) : Int).toNat
              rw [hm1, hm2]
              omega
        · have hiL : i = L := by omega
          subst hiL
          have hno2 : ∀ x ∈ inn, x.1 ≠ sq := fun x hx => hno x (by rw [← HLL.out, List.take_length]; exact hx)
          have d6 : decide ((i : Int) < (i : Int)) = false := decide_eq_false (by omega)
          have y2 : wr.cell? ⟨gf, 2, none⟩ = some (.int .i64 sq) := (cell_of_row _ _ 2 _ _ _ hq.fr).trans rfl
          have y4 : wr.cell? ⟨gf, 4, none⟩ = some (.string (Mem.str body)) := (cell_of_row _ _ 4 _ _ _ hq.fr).trans rfl
          have HQ := Lib.hid hq
          have HNO := Lib.hid hno2
          clear hq hno hno2
          go_wp2
          obtain ⟨ic, hic, hcz, hcz1, hcz2⟩ := info_parts Ply.info_came
          have HROW := Lib.hid (show Mem.Row wr 0 96 2 (.slice Bi i di) i (Ply.cflat inn) by have h1 := HQ.out.came; rw [HLL.out] at h1; exact h1)
          have hgw : g < wr.heap.size := (Array.getElem?_eq_some_iff.1 HQ.out.row).1
          have f6 := frozen_of_row wr g 6 _ _ HQ.out.row
          have HM1 := Lib.hid (show 0 + i ≤ maxLen ∧ (0 + i) * 24 ≤ 140737488355328 by have := HL5.out; unfold maxLen; omega)
          have HM2 := Lib.hid (show i + 1 ≤ maxLen ∧ (i + 1) * 24 ≤ 140737488355328 by have := HL5.out; unfold maxLen; omega)
          have kB : ∀ o, Below wr.heap.size wr (wr.alloc o).drew := fun o => (Ply.below_new _ _).drew
          have kB2 : ∀ o o', Below wr.heap.size wr ((wr.alloc o).alloc o').drew := fun o o' => (Ply.below_new2 _ _ _).drew
          refine Mem.wp_region_mixS 11 [1, 2, 4, 5, 6, 7, 8] 4 [[0, 3, 9, 10], [0, 9, 3, 10], [9, 0, 3, 10]] (by kernel_rfl) rfl (by kernel_rfl) (fun w' => Below wr.heap.size wr w') (Below.refl _ _).drew ?_
          refine ⟨_, .pointer (some ⟨g, 6, none⟩), rfl, .inl ⟨rfl, fun w' hw' => by go_simp⟩, ?_⟩
          refine ⟨_, .slice Bi i di, rfl, .inl ⟨rfl, fun w' hw' => by have hc := Mem.keep hw' k6; go_simp⟩, ?_⟩
          refine ⟨_, .pointer (some ⟨gf, 2, none⟩), rfl, .inl ⟨rfl, fun w' hw' => by go_simp⟩, ?_⟩
          refine ⟨_, .int .i64 sq, rfl, .inl ⟨rfl, fun w' hw' => by have hc := Mem.keep hw' y2; go_simp⟩, ?_⟩
          refine ⟨_, .pointer (some ⟨gf, 4, none⟩), rfl, .inl ⟨rfl, fun w' hw' => by go_simp⟩, ?_⟩
          refine ⟨_, .string (Mem.str body), rfl, .inl ⟨rfl, fun w' hw' => by have hc := Mem.keep hw' y4; go_simp⟩, ?_⟩
          refine ⟨_, .agg #[.int .i64 sq, .string (Mem.str body)], rfl, .inl ⟨rfl, fun w' hw' => by go_simp⟩, ?_⟩
          try dsimp only [Act.put]
          try simp only [List.setIfInBounds_toArray, List.set_cons_zero, List.set_cons_succ]
          intro j hj
          have hj2 : j = 0 ∨ j = 9 := by simpa [List.filterMap] using hj
          clear hj
          rcases hj2 with rfl | rfl
          · refine ⟨_, rfl, rfl, ?_⟩
            try dsimp only [Act.put]
            try simp only [List.setIfInBounds_toArray, List.set_cons_zero, List.set_cons_succ]
            unfold Oper.wp
            go_simp
            intro j hj
            have hj2 : j = 3 ∨ j = 9 := by simpa [Mem.tailsOf, List.filterMap] using hj
            clear hj
            rcases hj2 with rfl | rfl
            · refine ⟨_, rfl, rfl, ?_⟩
              try dsimp only [Act.put]
              try simp only [List.setIfInBounds_toArray, List.set_cons_zero, List.set_cons_succ]
              refine Mem.wp_append_rows _ (.tmp 108) (.tmp 110) 47 rfl wr.heap.size 96 ic _ 2 24 Try.underlying47 hic hcz hcz1 hcz2 rfl (.slice (some ⟨wr.heap.size, 0, none⟩) 0 0) 0 [] rfl (Ply.row_empty (heap_alloc_new wr _) (Nat.le_refl _)) (.slice Bi i di) i 0 (Ply.cflat inn) rfl (HROW.out.below (kB _)) (Ply.cone _) HM1.out.1 HM1.out.2 (kB _).size ?_
              intro v1 w4 hown1 hgrow1 hat1
              rw [Nat.zero_add, List.nil_append] at hown1
              have b4 : Below wr.heap.size wr w4 := (kB _).trans (Ply.grown_below hgrow1 (fun b hb => by simp [Value.ownBlock] at hb; omega) (kB _).size)
              refine ⟨b4, ?_⟩
              have kB4 : ∀ o, Below wr.heap.size wr (w4.alloc o) := fun o => b4.alloc b4.size o
              intro j hj
              have hj2 : j = 9 := by simpa [Mem.tailsOf, List.filterMap] using hj
              clear hj
              subst hj2
              refine ⟨_, rfl, rfl, ?_⟩
              try dsimp only [Act.put]
              try simp only [List.setIfInBounds_toArray, List.set_cons_zero, List.set_cons_succ]
              unfold Oper.wp
              go_simp
              intro j hj
              have hj2 : j = 10 := by simpa [Mem.tailsOf, List.filterMap] using hj
              clear hj
              subst hj2
              refine ⟨_, rfl, rfl, ?_⟩
              try dsimp only [Act.put]
              try simp only [List.setIfInBounds_toArray, List.set_cons_zero, List.set_cons_succ]
              refine Mem.wp_append_row _ (.tmp 111) (.tmp 117) 47 rfl wr.heap.size 96 ic _ 2 24 Try.underlying47 hic hcz hcz1 hcz2 rfl v1 i (Ply.cflat inn) rfl (hown1.alloc _) ⟨w4.heap.size, 0, none⟩ 1 1 [.int .i64 sq, .string (Mem.str body)] rfl rfl (World.news_of_block (heap_alloc_new w4 _)) (by intro u hu; simp at hu; rcases hu with rfl | rfl <;> rfl) (by omega) HM2.out.1 HM2.out.2 (kB4 _).size ?_
              intro v2 w5 hown2 hgrow2 hat2
              have b5 : Below wr.heap.size wr w5 := (kB4 _).trans (Ply.grown_below hgrow2 (fun b hb => (Mem.Row.block hown1 hb).1) (kB4 _).size)
              refine ⟨b5, ?_⟩
              obtain ⟨A2, c2, rfl, -, -⟩ := hown2.form
              have hadd := HQ.out.add (x := (sq, body)) b5 (by rw [HLL.out]; exact hown2)
              have f5 : w5.frozen? ⟨g, 6, none⟩ = false := (b5.frozen hgw).trans f6
              have k5 := Mem.keep b5 k6
              dsimp only [Act.put, Mem.chains]
              try simp only [List.setIfInBounds_toArray, List.set_cons_zero, List.set_cons_succ]
              clear kB4 k6 y2 y4 f6 kB kB2 hown1 hgrow1 hat1 hown2 hgrow2 hat2 b4 b5
              go_wp2
              refine NoPanic.normal ?_
              clear k5 f5
              obtain ⟨LN, hLN⟩ : ∃ LN, i + 1 = LN := ⟨_, rfl⟩
              rw [hLN] at hadd ⊢
              have HLN0 := Lib.hid hLN
              clear hLN
              generalize w5.setCell ⟨g, 6, none⟩ (.slice A2 LN c2) = wn at hadd ⊢
              have hsqn : ¬ ((e.early (sq : Int).toNat).isSome = true ∨ (sq : Int) ≤ e.got) := by
                rw [Int.toNat_natCast]
                rintro (h1 | h1)
                · rcases Nat.lt_or_ge e.got sq with h2 | h2
                  · obtain ⟨b, hb⟩ := Option.isSome_iff_exists.1 h1
                    exact HNO.out _ ((HL.out.ok.early sq b h2).1 hb) rfl
                  · obtain ⟨b, hb⟩ := HL.out.ok.low sq HSQ.out.1 h2
                    exact HNO.out _ hb rfl
                · obtain ⟨b, hb⟩ := HL.out.ok.low sq HSQ.out.1 (by omega)
                  exact HNO.out _ hb rfl
              obtain ⟨R2, hR2⟩ : ∃ R2, Lnk.toldGo (e.got + 9 - e.got) e.got (Lnk.upd e.early sq (some body)) [] = R2 := ⟨_, rfl⟩
              have heg : eo.got = e.got := by rw [← HEO.out]; rfl
              have hee : eo.early = e.early := by rw [← HEO.out]; rfl
              have her : eo.room = e.room := by rw [← HEO.out]; rfl
              have HTK := Lib.hid (show Lnk.takeF hd e ⟨1, site, sq, ack, body⟩ = ({ eo with got := R2.1, early := R2.2.1, room := e.room + 1 }, R2.2.2, 0) by
                unfold Lnk.takeF
                simp only
                rw [if_neg (by decide), if_neg hsqn, Int.toNat_natCast, ← HEO.out, ← hR2]
                rfl)
              have HIN := Lib.hid (Ply.In2.start (s := body) HL.out.ok HSQ.out.1 HNO.out)
              have HE2 := Lib.hid (show ∀ k, e.got + 9 ≤ k → Lnk.upd e.early sq (some body) k = none from fun k hk => by
                unfold Lnk.upd
                rw [if_neg (by have := HSQ.out; omega)]
                exact HE.out k hk)
              have HADD := Lib.hid (show Ply.QS S w wn g g2 gf 1 site sq ack body { eo with got := e.got } pp (inn ++ [(sq, body)]) (.slice A T c) (.slice A2 LN c2) by
                rw [show { eo with got := e.got } = eo by rw [← heg]]
                exact hadd)
              have HR2 := Lib.hid hR2
              clear hsqn hR2 heg hee her hadd
              go_wp2
              go_loopw [11] (fun t11 wr => ∃ (G : Nat) (E : Nat → Option (List UInt8)) (acc : List (List UInt8)), Lnk.toldGo (e.got + 9 - G) G E acc = R2 ∧ (e.got ≤ G ∧ G ≤ e.got + 9) ∧ (∀ k, e.got + 9 ≤ k → E k = none) ∧ acc.length = G - e.got ∧ Ply.In2 G E (inn ++ [(sq, body)]) ∧
                Ply.QS S w wr g g2 gf 1 site sq ack body { eo with got := G } pp (inn ++ [(sq, body)]) (.slice A T c) (.slice A2 LN c2) ∧ Ply.OutOk wr gf (.slice A T c) (.slice A2 LN c2) t11 acc) (fun _ wr => e.got + 9 - Ply.gotOf wr g)
              case atStart => exact ⟨e.got, _, [], HR2.out, ⟨Nat.le_refl _, by omega⟩, HE2.out, by simp, HIN.out, HADD.out, Mem.row_nil _ _ _ _, fun b h => by cases h⟩
              case round =>
                obtain ⟨G, E, acc, htg, ⟨hG1, hG2⟩, hEn, hal, hin, hq, hout⟩ := hrel
                have HTG := Lib.hid htg
                have HG1 := Lib.hid hG1
                have HG2 := Lib.hid hG2
                have HEN := Lib.hid hEn
                have HAL := Lib.hid hal
                have HI2 := Lib.hid hin
                have HQ2 := Lib.hid hq
                have HOUT := Lib.hid hout
                have HLN := Lib.hid (show (inn ++ [(sq, body)]).length = LN by rw [List.length_append, HLL.out]; exact HLN0.out)
                have hacc9 := Lib.hid hq.gotIs
                clear htg hG1 hG2 hEn hal hin hq hout
                go_wp2
                obtain ⟨wx, rfl⟩ : ∃ wx : World, wx = wr := ⟨_, rfl⟩
                go_loopw [11, 12, 13] (fun t11 t12 t13 ws => ∃ (j : Nat) (fb : Bool) (accx : List (List UInt8)), t12 = .bool fb ∧ t13 = .int .i64 j ∧ j ≤ LN ∧
                  Ply.QS S w ws g g2 gf 1 site sq ack body { eo with got := G } pp (inn ++ [(sq, body)]) (.slice A T c) (.slice A2 LN c2) ∧ Ply.OutOk ws gf (.slice A T c) (.slice A2 LN c2) t11 accx ∧
                  ((fb = true ∧ ∃ j' b, j' < j ∧ (inn ++ [(sq, body)])[j']? = some (G + 1, b) ∧ accx = acc ++ [b]) ∨ (fb = false ∧ accx = acc ∧ ∀ x ∈ (inn ++ [(sq, body)]).take j, x.1 ≠ G + 1))) (fun _ _ t13 _ => LN - (intOf t13).toNat)
                case atStart => exact ⟨0, false, acc, rfl, rfl, Nat.zero_le _, HQ2.out, HOUT.out, .inr ⟨rfl, rfl, fun x hx => by simp at hx⟩⟩
                case round =>
                  obtain ⟨j, fb, accx, rfl, rfl, hj, hq, hout, hor⟩ := hrel
                  obtain ⟨Bo, co, hBo, -, -⟩ := hout.1.form
                  obtain ⟨N0, hN0⟩ : ∃ N, accx.length = N := ⟨_, rfl⟩
                  rw [hN0] at hBo
                  subst hBo
                  have k6 : wr.cell? ⟨g, 6, none⟩ = some (.slice A2 LN c2) := (cell_of_row _ _ 6 _ _ _ hq.row).trans rfl
                  have k5 : wr.cell? ⟨g, 5, none⟩ = some (.int .i64 G) := (cell_of_row _ _ 5 _ _ _ hq.row).trans rfl
                  have HN0 := Lib.hid hN0
                  have HWG := Lib.hid (show wrap64 ((G : Int) + 1) = (G : Int) + 1 by have := HG2.out; have := HGOT.out; unfold wrap64; omega)
                  have HWJ := Lib.hid (show wrap64 ((j : Int) + 1) = (j : Int) + 1 by have := HL5.out; have := HLN0.out; unfold wrap64; omega)
                  have HN9 := Lib.hid (show N0 ≤ 10 by
                    have h1 := HAL.out
                    have h2 := HG2.out
                    rcases hor with ⟨_, _, b, _, _, h3⟩ | ⟨_, h3, _⟩
                    · rw [h3, List.length_append] at hN0
                      simp at hN0
                      omega
                    · rw [h3] at hN0
                      omega)
                  clear hN0
                  by_cases hjl : j < LN
                  · obtain ⟨⟨xk, xb⟩, hx⟩ : ∃ x, (inn ++ [(sq, body)])[j]? = some x := ⟨_, List.getElem?_eq_getElem (by rw [HLN.out]; exact hjl)⟩
                    have hcame := hq.came
                    rw [HLN.out] at hcame
                    obtain ⟨pI, offI, rfl⟩ : ∃ pI offI, A2 = some ⟨pI, offI, none⟩ := by
                      rcases hcame.2 with ⟨e1, h0⟩ | ⟨pI, offI, _, _, e1, _⟩
                      · omega
                      · injection e1 with e2
                        exact ⟨pI, offI, e2⟩
                    have c0 : wr.cell? ⟨pI, offI + j * 2, none⟩ = some (.int .i64 xk) := Ply.came_cell hcame hx (j := 0) rfl
                    have c1 : wr.cell? ⟨pI, offI + j * 2 + 1, none⟩ = some (.string (Mem.str xb)) := Ply.came_cell hcame hx (j := 1) rfl
                    have i7 : (j : Int) < (LN : Int) := by omega
                    have d7 : decide ((j : Int) < (LN : Int)) = true := decide_eq_true i7
                    have HQ3 := Lib.hid hq
                    have HO3 := Lib.hid hout
                    have HOR := Lib.hid hor
                    have HX := Lib.hid hx
                    clear hq hout hor hx hcame
                    go_wp2
                    have m6 : ∀ z : Mem.Later wr, z.w.cell? ⟨g, 6, none⟩ = some (.slice (some ⟨pI, offI, none⟩) LN c2) := fun z => z.cell k6
                    have m5 : ∀ z : Mem.Later wr, z.w.cell? ⟨g, 5, none⟩ = some (.int .i64 G) := fun z => z.cell k5
                    have mI : ∀ z : Mem.Later wr, z.w.cell? ⟨pI, offI + j * 2, none⟩ = some (.int .i64 xk) := fun z => z.cell c0
                    clear d7
                    by_cases hxk : xk = G + 1
                    · have t1 : ((xk : Int) == (G : Int) + 1) = true := by rw [hxk]; exact beq_self_eq_true _
                      have t2 : decide ((xk : Int) = (G : Int) + 1) = true := decide_eq_true (by omega)
                      have HXK := Lib.hid hxk
                      have hwg := HWG.out
                      clear hxk
                      refine Mem.wp_region_later (by kernel_rfl) (by kernel_rfl) ?_
                      repeat (go_big_quiet_step (fail))
                      refine wpQuiet_nil ?_
                      intro w8 hw8
                      obtain ⟨i8, hi8⟩ := hw8
                      have h8 : Below wr.heap.size wr w8 := hi8 ▸ i8.h
                      have k68 := Mem.keep h8 k6
                      have c18 := Mem.keep h8 c1
                      have ka : ∀ o, (w8.alloc o).cell? ⟨g, 6, none⟩ = some (.slice (some ⟨pI, offI, none⟩) LN c2) := fun o => Mem.keep (Ply.below_new _ _) k68
                      clear hi8 i8 m6 m5 mI hwg t1 t2 k6 k5 c0 c1
                      have Q8 := Lib.hid (HQ3.out.below h8)
                      have O8 := Lib.hid (HO3.out.below h8)
                      clear h8
                      have hfb : fb = false ∧ accx = acc := by
                        rcases HOR.out with ⟨_, j', b, h1, h2, _⟩ | ⟨h1, h2, _⟩
                        · exfalso
                          have := Ply.uniq HI2.out.nodup h2 HX.out (by rw [HXK.out])
                          omega
                        · exact ⟨h1, h2⟩
                      obtain ⟨rfl, rfl⟩ := hfb
                      have R8 := Lib.hid (show Mem.Row w8 (gf + 1) 9 1 (.slice Bo N0 co) N0 (Lnk.strs accx) by have h1 := O8.out.1; rw [HN0.out] at h1; exact h1)
                      obtain ⟨is, his, hsz, hsz1, hsz2⟩ := info_parts Lnk.info_str
                      have HMX := Lib.hid (show N0 + 1 ≤ maxLen ∧ (N0 + 1) * 16 ≤ 140737488355328 by have := HN9.out; unfold maxLen; omega)
                      have HZ := Lib.hid (show gf + 1 ≤ w8.heap.size from Q8.out.lt)
                      go_wp2_with (at_builtin
                                   refine Mem.wpList_append_row _ rfl (.tmp 137) (.tmp 144) 32 rfl (gf + 1) 9 is _ 1 16 Try.underlying32 his hsz hsz1 hsz2 rfl (.slice Bo N0 co) N0 (Lnk.strs accx) rfl (R8.out.alloc _) ⟨w8.heap.size, 0, none⟩ 1 1 [.string (Mem.str xb)] rfl rfl (World.news_of_block (heap_alloc_new _ _)) (by intro u hu; simp at hu; subst hu; rfl) (by omega) HMX.out.1 HMX.out.2 (by have := HZ.out; simp; omega) ?_
                                   intro v' w9 hown hgrow hat
                                   have hq8 := Q8.out.below (Ply.below_new w8 (.cells #[.string (Mem.str xb)] 9))
                                   have ho8 := O8.out.below (Ply.below_new w8 (.cells #[.string (Mem.str xb)] 9))
                                   have Q9 := Lib.hid (hq8.grow ho8 hgrow)
                                   have O9 := Lib.hid (Ply.OutOk.grow (acc' := accx ++ [xb]) hq8 ho8 (by rw [List.length_append, HN0.out]; unfold Lnk.strs; rw [List.map_append]; exact hown) hat)
                                   clear hown hgrow hat hq8 ho8)
                      rw [HWJ.out]
                      refine ⟨⟨j + 1, true, accx ++ [xb], rfl, rfl, hjl, Q9.out, O9.out, .inl ⟨rfl, j, xb, Nat.lt_succ_self _, by rw [HX.out, HXK.out], rfl⟩⟩, ?_⟩
                      have hm1 : ((j : Int) + 1).toNat = j + 1 := rfl
                      have hm2 : ((j : Nat) : Int).toNat = j := rfl
                      show LN - ((j : Int) + 1).toNat < LN - ((j : Nat) : Int).toNat
                      rw [hm1, hm2]
                      omega
                    · have t1 : ((xk : Int) == (G : Int) + 1) = false := beq_eq_false_iff_ne.2 (by omega)
                      have t2 : decide ((xk : Int) = (G : Int) + 1) = false := decide_eq_false (by omega)
                      have HXK := Lib.hid hxk
                      have hwg := HWG.out
                      clear hxk
                      refine Mem.wp_region_later (by kernel_rfl) (by kernel_rfl) ?_
                      repeat (go_big_quiet_step (fail))
                      refine wpQuiet_nil ?_
                      intro w8 hw8
                      obtain ⟨i8, hi8⟩ := hw8
                      have h8 : Below wr.heap.size wr w8 := hi8 ▸ i8.h
                      clear hi8 i8 m6 m5 mI hwg t1 t2 k6 k5 c0 c1
                      have Q8 := Lib.hid (HQ3.out.below h8)
                      have O8 := Lib.hid (HO3.out.below h8)
                      clear h8
                      go_wp2
                      rw [HWJ.out]
                      refine ⟨⟨j + 1, fb, accx, rfl, rfl, hjl, Q8.out, O8.out, ?_⟩, ?_⟩
                      · rcases HOR.out with ⟨h1, j', b, h2, h3, h4⟩ | ⟨h1, h2, h3⟩
                        · exact .inl ⟨h1, j', b, by omega, h3, h4⟩
                        · refine .inr ⟨h1, h2, fun x hx => ?_⟩
                          rw [List.take_add_one, HX.out] at hx
                          rcases List.mem_append.1 hx with h4 | h4
                          · exact h3 x h4
                          · simp at h4
                            rw [h4]
                            exact HXK.out
                      · have hm1 : ((j : Int) + 1).toNat = j + 1 := rfl
                        have hm2 : ((j : Nat) : Int).toNat = j := rfl
                        show LN - ((j : Int) + 1).toNat < LN - ((j : Nat) : Int).toNat
                        rw [hm1, hm2]
                        omega
                  · have d7 : decide ((j : Int) < (LN : Int)) = false := decide_eq_false (by omega)
                    have i7 : ¬ (j : Int) < (LN : Int) := by omega
                    have hgf : g < gf := by have := hq.two; omega
                    rcases hor with ⟨rfl, j', b, h1, h2, h3⟩ | ⟨rfl, h2, h3⟩
                    · have hEb : E (G + 1) = some b := (HI2.out.early (G + 1) b (by omega)).2 (List.mem_of_getElem? h2)
                      have hGlt : G + 1 < e.got + 9 := by
                        rcases Nat.lt_or_ge (G + 1) (e.got + 9) with h4 | h4
                        · exact h4
                        · rw [HEN.out _ h4] at hEb
                          cases hEb
                      have htg : Lnk.toldGo (e.got + 9 - (G + 1)) (G + 1) (Lnk.upd E (G + 1) none) (acc ++ [b]) = R2 := by
                        have h4 := HTG.out
                        rw [show e.got + 9 - G = (e.got + 9 - (G + 1)) + 1 by omega, Lnk.toldGo_some hEb] at h4
                        exact h4
                      have f5 := frozen_of_row wr g 5 _ _ hq.row
                      have Q10 := Lib.hid (hq.put (e' := { eo with got := G + 1 }) 5 (.int .i64 ((G : Int) + 1)) rfl rfl)
                      have O10 := Lib.hid (hout.put hgf 5 (.int .i64 ((G : Int) + 1)))
                      have HTG2 := Lib.hid htg
                      have HEB := Lib.hid hEb
                      have HGL := Lib.hid hGlt
                      have H3 := Lib.hid h3
                      have hwg := HWG.out
                      clear hq hout htg hEb hGlt h1 h2 h3 hgf
                      go_wp2
                      try rw [hwg]
                      have hm := Q10.out.gotIs
                      rw [H3.out] at O10
                      refine ⟨⟨G + 1, _, _, HTG2.out, ⟨Nat.le_succ_of_le HG1.out, Nat.le_of_lt HGL.out⟩, fun k hk => ?_, ?_, HI2.out.next HEB.out, Q10.out, O10.out⟩, ?_⟩
                      · unfold Lnk.upd
                        split
                        · rfl
                        · exact HEN.out k hk
                      · have h1 := HAL.out
                        have h2 := HG1.out
                        rw [List.length_append, h1]
                        show G - e.got + 1 = G + 1 - e.got
                        clear hwg
                        omega
                      · rw [hm, hacc9.out]
                        have h2 := HGL.out
                        show e.got + 9 - (G + 1) < e.got + 9 - G
                        clear hwg
                        omega
                    · have hE0 : E (G + 1) = none := by
                        cases hE1 : E (G + 1) with
                        | none => rfl
                        | some b =>
                          exfalso
                          have h4 := (HI2.out.early (G + 1) b (by omega)).1 hE1
                          refine h3 (G + 1, b) ?_ rfl
                          rw [List.take_of_length_le (by rw [HLN.out]; omega)]
                          exact h4
                      have htd : R2 = (G, E, acc) := HTG.out.symm.trans (Lnk.toldGo_none hE0)
                      have HQ3 := Lib.hid (show Ply.QS S w wr g g2 gf 1 site sq ack body { eo with got := G, early := E, room := e.room + 1 } pp (inn ++ [(sq, body)]) (.slice A T c) (.slice A2 LN c2) from hq.same rfl rfl)
                      have HO3 := Lib.hid hout
                      have HE0 := Lib.hid hE0
                      have HTD := Lib.hid htd
                      have H2 := Lib.hid h2
                      clear hq hout hE0 htd h2 h3 k5
                      go_wp2_with (first
                        | (with_reducible refine wpList_load_row (o := ⟨some 148, _, _, _, _, _⟩) ?_ 52 (.tmp 2) ?_ g ?_ 52 (Ply.rcells { eo with got := G, early := E, room := e.room + 1 } pp.length (.slice A T c) (.slice A2 LN c2)) (0, 0) _ ?_ Try.underlying52 ?_ ?_ ?_
                           · rfl
                           · rfl
                           · rfl
                           · exact HQ3.out.row
                           · rfl
                           · exact Ply.size_end)
                        | (with_reducible refine Mem.wpList_store ?_ 52 (.tmp 4) (.tmp 148) ?_ g2 (Ply.rcells { eo with got := G, early := E, room := e.room + 1 } pp.length (.slice A T c) (.slice A2 LN c2)) ?_ ?_ 52 _ HQ3.out.res ?_ ?_ ?_ ?_
                           · rfl
                           · rfl
                           · rfl
                           · rfl
                           · exact Ply.size_end
                           · rfl
                           · exact Ply.rcells_one2 _ _ ⟨_, _, _, rfl⟩
                           intro w16 hp16
                           have P16 := Lib.hid hp16
                           clear hp16))
                      refine bodyPost_ret (Ply.results_ctt rfl _ _ g2 (.slice Bo N0 co) (.int .i64 0) _ _ _ _ rfl rfl rfl P16.out.row Try.underlying52 rfl Ply.size_end) rfl ⟨.agg (Ply.rcells { eo with got := G, early := E, room := e.room + 1 } pp.length (.slice A T c) (.slice A2 LN c2)), .slice Bo N0 co, ?_⟩
                      rw [HTK.out, HTD.out]
                      have hdone := HQ3.out.done (M := N + 1) P16.out (HOA.out.told HI2.out HE0.out) (by rw [List.length_append]; have := HL.out.small; simp; omega)
                      refine ⟨rfl, hdone.1, ?_, hdone.2⟩
                      have h5 := HO3.out.1
                      rw [H2.out] at h5
                      have h6 := HQ3.out.two
                      exact (h5.keep fun k hk ho => P16.out.other k (by have := (Mem.Row.block h5 ho).1; omega)).mono (by omega)
            · refine ⟨_, rfl, rfl, ?_⟩
              try dsimp only [Act.put]
              try simp only [List.setIfInBounds_toArray, List.set_cons_zero, List.set_cons_succ]
              unfold Oper.wp
              go_simp
              intro j hj
              have hj2 : j = 3 := by simpa [Mem.tailsOf, List.filterMap] using hj
              clear hj
              subst hj2
              refine ⟨_, rfl, rfl, ?_⟩
              try dsimp only [Act.put]
              try simp only [List.setIfInBounds_toArray, List.set_cons_zero, List.set_cons_succ]
              refine Mem.wp_append_rows _ (.tmp 108) (.tmp 110) 47 rfl wr.heap.size 96 ic _ 2 24 Try.underlying47 hic hcz hcz1 hcz2 rfl (.slice (some ⟨wr.heap.size, 0, none⟩) 0 0) 0 [] rfl (Ply.row_empty (Ply.first_of2 wr _ _) (Nat.le_refl _)) (.slice Bi i di) i 0 (Ply.cflat inn) rfl (HROW.out.below (kB2 _ _)) (Ply.cone _) HM1.out.1 HM1.out.2 (kB2 _ _).size ?_
              intro v1 w4 hown1 hgrow1 hat1
              rw [Nat.zero_add, List.nil_append] at hown1
              have b4 : Below wr.heap.size wr w4 := (kB2 _ _).trans (Ply.grown_below hgrow1 (fun b hb => by simp [Value.ownBlock] at hb; omega) (kB2 _ _).size)
              refine ⟨b4, ?_⟩
              have hel := (hgrow1.block (wr.heap.size + 1) (by simp) (by simp [Value.ownBlock])).trans (Ply.second_of2 wr (.cells #[] 96) (.cells #[.int .i64 sq, .string (Mem.str body)] 96))
              intro j hj
              have hj2 : j = 10 := by simpa [Mem.tailsOf, List.filterMap] using hj
              clear hj
              subst hj2
              refine ⟨_, rfl, rfl, ?_⟩
              try dsimp only [Act.put]
              try simp only [List.setIfInBounds_toArray, List.set_cons_zero, List.set_cons_succ]
              refine Mem.wp_append_row _ (.tmp 111) (.tmp 117) 47 rfl wr.heap.size 96 ic _ 2 24 Try.underlying47 hic hcz hcz1 hcz2 rfl v1 i (Ply.cflat inn) rfl (hown1) ⟨wr.heap.size + 1, 0, none⟩ 1 1 [.int .i64 sq, .string (Mem.str body)] rfl rfl (World.news_of_block (hel)) (by intro u hu; simp at hu; rcases hu with rfl | rfl <;> rfl) (by omega) HM2.out.1 HM2.out.2 (b4).size ?_
              intro v2 w5 hown2 hgrow2 hat2
              have b5 : Below wr.heap.size wr w5 := (b4).trans (Ply.grown_below hgrow2 (fun b hb => (Mem.Row.block hown1 hb).1) (b4).size)
              refine ⟨b5, ?_⟩
              obtain ⟨A2, c2, rfl, -, -⟩ := hown2.form
              have hadd := HQ.out.add (x := (sq, body)) b5 (by rw [HLL.out]; exact hown2)
              have f5 : w5.frozen? ⟨g, 6, none⟩ = false := (b5.frozen hgw).trans f6
              have k5 := Mem.keep b5 k6
              dsimp only [Act.put, Mem.chains]
              try simp only [List.setIfInBounds_toArray, List.set_cons_zero, List.set_cons_succ]
              clear hel k6 y2 y4 f6 kB kB2 hown1 hgrow1 hat1 hown2 hgrow2 hat2 b4 b5
              go_wp2
              refine NoPanic.normal ?_
              clear k5 f5
              obtain ⟨LN, hLN⟩ : ∃ LN, i + 1 = LN := ⟨_, rfl⟩
              rw [hLN] at hadd ⊢
              have HLN0 := Lib.hid hLN
              clear hLN
              generalize w5.setCell ⟨g, 6, none⟩ (.slice A2 LN c2) = wn at hadd ⊢
              have hsqn : ¬ ((e.early (sq : Int).toNat).isSome = true ∨ (sq : Int) ≤ e.got) := by
                rw [Int.toNat_natCast]
                rintro (h1 | h1)
                · rcases Nat.lt_or_ge e.got sq with h2 | h2
                  · obtain ⟨b, hb⟩ := Option.isSome_iff_exists.1 h1
                    exact HNO.out _ ((HL.out.ok.early sq b h2).1 hb) rfl
                  · obtain ⟨b, hb⟩ := HL.out.ok.low sq HSQ.out.1 h2
                    exact HNO.out _ hb rfl
                · obtain ⟨b, hb⟩ := HL.out.ok.low sq HSQ.out.1 (by omega)
                  exact HNO.out _ hb rfl
              obtain ⟨R2, hR2⟩ : ∃ R2, Lnk.toldGo (e.got + 9 - e.got) e.got (Lnk.upd e.early sq (some body)) [] = R2 := ⟨_, rfl⟩
              have heg : eo.got = e.got := by rw [← HEO.out]; rfl
              have hee : eo.early = e.early := by rw [← HEO.out]; rfl
              have her : eo.room = e.room := by rw [← HEO.out]; rfl
              have HTK := Lib.hid (show Lnk.takeF hd e ⟨1, site, sq, ack, body⟩ = ({ eo with got := R2.1, early := R2.2.1, room := e.room + 1 }, R2.2.2, 0) by
                unfold Lnk.takeF
                simp only
                rw [if_neg (by decide), if_neg hsqn, Int.toNat_natCast, ← HEO.out, ← hR2]
                rfl)
              have HIN := Lib.hid (Ply.In2.start (s := body) HL.out.ok HSQ.out.1 HNO.out)
              have HE2 := Lib.hid (show ∀ k, e.got + 9 ≤ k → Lnk.upd e.early sq (some body) k = none from fun k hk => by
                unfold Lnk.upd
                rw [if_neg (by have := HSQ.out; omega)]
                exact HE.out k hk)
              have HADD := Lib.hid (show Ply.QS S w wn g g2 gf 1 site sq ack body { eo with got := e.got } pp (inn ++ [(sq, body)]) (.slice A T c) (.slice A2 LN c2) by
                rw [show { eo with got := e.got } = eo by rw [← heg]]
                exact hadd)
              have HR2 := Lib.hid hR2
              clear hsqn hR2 heg hee her hadd
              go_wp2
              go_loopw [11] (fun t11 wr => ∃ (G : Nat) (E : Nat → Option (List UInt8)) (acc : List (List UInt8)), Lnk.toldGo (e.got + 9 - G) G E acc = R2 ∧ (e.got ≤ G ∧ G ≤ e.got + 9) ∧ (∀ k, e.got + 9 ≤ k → E k = none) ∧ acc.length = G - e.got ∧ Ply.In2 G E (inn ++ [(sq, body)]) ∧
                Ply.QS S w wr g g2 gf 1 site sq ack body { eo with got := G } pp (inn ++ [(sq, body)]) (.slice A T c) (.slice A2 LN c2) ∧ Ply.OutOk wr gf (.slice A T c) (.slice A2 LN c2) t11 acc) (fun _ wr => e.got + 9 - Ply.gotOf wr g)
              case atStart => exact ⟨e.got, _, [], HR2.out, ⟨Nat.le_refl _, by omega⟩, HE2.out, by simp, HIN.out, HADD.out, Mem.row_nil _ _ _ _, fun b h => by cases h⟩
              case round =>
                obtain ⟨G, E, acc, htg, ⟨hG1, hG2⟩, hEn, hal, hin, hq, hout⟩ := hrel
                have HTG := Lib.hid htg
                have HG1 := Lib.hid hG1
                have HG2 := Lib.hid hG2
                have HEN := Lib.hid hEn
                have HAL := Lib.hid hal
                have HI2 := Lib.hid hin
                have HQ2 := Lib.hid hq
                have HOUT := Lib.hid hout
                have HLN := Lib.hid (show (inn ++ [(sq, body)]).length = LN by rw [List.length_append, HLL.out]; exact HLN0.out)
                have hacc9 := Lib.hid hq.gotIs
                clear htg hG1 hG2 hEn hal hin hq hout
                go_wp2
                obtain ⟨wx, rfl⟩ : ∃ wx : World, wx = wr := ⟨_, rfl⟩
                go_loopw [11, 12, 13] (fun t11 t12 t13 ws => ∃ (j : Nat) (fb : Bool) (accx : List (List UInt8)), t12 = .bool fb ∧ t13 = .int .i64 j ∧ j ≤ LN ∧
                  Ply.QS S w ws g g2 gf 1 site sq ack body { eo with got := G } pp (inn ++ [(sq, body)]) (.slice A T c) (.slice A2 LN c2) ∧ Ply.OutOk ws gf (.slice A T c) (.slice A2 LN c2) t11 accx ∧
                  ((fb = true ∧ ∃ j' b, j' < j ∧ (inn ++ [(sq, body)])[j']? = some (G + 1, b) ∧ accx = acc ++ [b]) ∨ (fb = false ∧ accx = acc ∧ ∀ x ∈ (inn ++ [(sq, body)]).take j, x.1 ≠ G + 1))) (fun _ _ t13 _ => LN - (intOf t13).toNat)
                case atStart => exact ⟨0, false, acc, rfl, rfl, Nat.zero_le _, HQ2.out, HOUT.out, .inr ⟨rfl, rfl, fun x hx => by simp at hx⟩⟩
                case round =>
                  obtain ⟨j, fb, accx, rfl, rfl, hj, hq, hout, hor⟩ := hrel
                  obtain ⟨Bo, co, hBo, -, -⟩ := hout.1.form
                  obtain ⟨N0, hN0⟩ : ∃ N, accx.length = N := ⟨_, rfl⟩
                  rw [hN0] at hBo
                  subst hBo
                  have k6 : wr.cell? ⟨g, 6, none⟩ = some (.slice A2 LN c2) := (cell_of_row _ _ 6 _ _ _ hq.row).trans rfl
                  have k5 : wr.cell? ⟨g, 5, none⟩ = some (.int .i64 G) := (cell_of_row _ _ 5 _ _ _ hq.row).trans rfl
                  have HN0 := Lib.hid hN0
                  have HWG := Lib.hid (show wrap64 ((G : Int) + 1) = (G : Int) + 1 by have := HG2.out; have := HGOT.out; unfold wrap64; omega)
                  have HWJ := Lib.hid (show wrap64 ((j : Int) + 1) = (j : Int) + 1 by have := HL5.out; have := HLN0.out; unfold wrap64; omega)
                  have HN9 := Lib.hid (show N0 ≤ 10 by
                    have h1 := HAL.out
                    have h2 := HG2.out
                    rcases hor with ⟨_, _, b, _, _, h3⟩ | ⟨_, h3, _⟩
                    · rw [h3, List.length_append] at hN0
                      simp at hN0
                      omega
                    · rw [h3] at hN0
                      omega)
                  clear hN0
                  by_cases hjl : j < LN
                  · obtain ⟨⟨xk, xb⟩, hx⟩ : ∃ x, (inn ++ [(sq, body)])[j]? = some x := ⟨_, List.getElem?_eq_getElem (by rw [HLN.out]; exact hjl)⟩
                    have hcame := hq.came
                    rw [HLN.out] at hcame
                    obtain ⟨pI, offI, rfl⟩ : ∃ pI offI, A2 = some ⟨pI, offI, none⟩ := by
                      rcases hcame.2 with ⟨e1, h0⟩ | ⟨pI, offI, _, _, e1, _⟩
                      · omega
                      · injection e1 with e2
                        exact ⟨pI, offI, e2⟩
                    have c0 : wr.cell? ⟨pI, offI + j * 2, none⟩ = some (.int .i64 xk) := Ply.came_cell hcame hx (j := 0) rfl
                    have c1 : wr.cell? ⟨pI, offI + j * 2 + 1, none⟩ = some (.string (Mem.str xb)) := Ply.came_cell hcame hx (j := 1) rfl
                    have i7 : (j : Int) < (LN : Int) := by omega
                    have d7 : decide ((j : Int) < (LN : Int)) = true := decide_eq_true i7
                    have HQ3 := Lib.hid hq
                    have HO3 := Lib.hid hout
                    have HOR := Lib.hid hor
                    have HX := Lib.hid hx
                    clear hq hout hor hx hcame
                    go_wp2
                    have m6 : ∀ z : Mem.Later wr, z.w.cell? ⟨g, 6, none⟩ = some (.slice (some ⟨pI, offI, none⟩) LN c2) := fun z => z.cell k6
                    have m5 : ∀ z : Mem.Later wr, z.w.cell? ⟨g, 5, none⟩ = some (.int .i64 G) := fun z => z.cell k5
                    have mI : ∀ z : Mem.Later wr, z.w.cell? ⟨pI, offI + j * 2, none⟩ = some (.int .i64 xk) := fun z => z.cell c0
                    clear d7
                    by_cases hxk : xk = G + 1
                    · have t1 : ((xk : Int) == (G : Int) + 1) = true := by rw [hxk]; exact beq_self_eq_true _
                      have t2 : decide ((xk : Int) = (G : Int) + 1) = true := decide_eq_true (by omega)
                      have HXK := Lib.hid hxk
                      have hwg := HWG.out
                      clear hxk
                      refine Mem.wp_region_later (by kernel_rfl) (by kernel_rfl) ?_
                      repeat (go_big_quiet_step (fail))
                      refine wpQuiet_nil ?_
                      intro w8 hw8
                      obtain ⟨i8, hi8⟩ := hw8
                      have h8 : Below wr.heap.size wr w8 := hi8 ▸ i8.h
                      have k68 := Mem.keep h8 k6
                      have c18 := Mem.keep h8 c1
                      have ka : ∀ o, (w8.alloc o).cell? ⟨g, 6, none⟩ = some (.slice (some ⟨pI, offI, none⟩) LN c2) := fun o => Mem.keep (Ply.below_new _ _) k68
                      clear hi8 i8 m6 m5 mI hwg t1 t2 k6 k5 c0 c1
                      have Q8 := Lib.hid (HQ3.out.below h8)
                      have O8 := Lib.hid (HO3.out.below h8)
                      clear h8
                      have hfb : fb = false ∧ accx = acc := by
                        rcases HOR.out with ⟨_, j', b, h1, h2, _⟩ | ⟨h1, h2, _⟩
                        · exfalso
                          have := Ply.uniq HI2.out.nodup h2 HX.out (by rw [HXK.out])
                          omega
                        · exact ⟨h1, h2⟩
                      obtain ⟨rfl, rfl⟩ := hfb
                      have R8 := Lib.hid (show Mem.Row w8 (gf + 1) 9 1 (.slice Bo N0 co) N0 (Lnk.strs accx) by have h1 := O8.out.1; rw [HN0.out] at h1; exact h1)
                      obtain ⟨is, his, hsz, hsz1, hsz2⟩ := info_parts Lnk.info_str
                      have HMX := Lib.hid (show N0 + 1 ≤ maxLen ∧ (N0 + 1) * 16 ≤ 140737488355328 by have := HN9.out; unfold maxLen; omega)
                      have HZ := Lib.hid (show gf + 1 ≤ w8.heap.size from Q8.out.lt)
                      go_wp2_with (at_builtin
                                   refine Mem.wpList_append_row _ rfl (.tmp 137) (.tmp 144) 32 rfl (gf + 1) 9 is _ 1 16 Try.underlying32 his hsz hsz1 hsz2 rfl (.slice Bo N0 co) N0 (Lnk.strs accx) rfl (R8.out.alloc _) ⟨w8.heap.size, 0, none⟩ 1 1 [.string (Mem.str xb)] rfl rfl (World.news_of_block (heap_alloc_new _ _)) (by intro u hu; simp at hu; subst hu; rfl) (by omega) HMX.out.1 HMX.out.2 (by have := HZ.out; simp; omega) ?_
                                   intro v' w9 hown hgrow hat
                                   have hq8 := Q8.out.below (Ply.below_new w8 (.cells #[.string (Mem.str xb)] 9))
                                   have ho8 := O8.out.below (Ply.below_new w8 (.cells #[.string (Mem.str xb)] 9))
                                   have Q9 := Lib.hid (hq8.grow ho8 hgrow)
                                   have O9 := Lib.hid (Ply.OutOk.grow (acc' := accx ++ [xb]) hq8 ho8 (by rw [List.length_append, HN0.out]; unfold Lnk.strs; rw [List.map_append]; exact hown) hat)
                                   clear hown hgrow hat hq8 ho8)
                      rw [HWJ.out]
                      refine ⟨⟨j + 1, true, accx ++ [xb], rfl, rfl, hjl, Q9.out, O9.out, .inl ⟨rfl, j, xb, Nat.lt_succ_self _, by rw [HX.out, HXK.out], rfl⟩⟩, ?_⟩
                      have hm1 : ((j : Int) + 1).toNat = j + 1 := rfl
                      have hm2 : ((j : Nat) : Int).toNat = j := rfl
                      show LN - ((j : Int) + 1).toNat < LN - ((j : Nat) : Int).toNat
                      rw [hm1, hm2]
                      omega
                    · have t1 : ((xk : Int) == (G : Int) + 1) = false := beq_eq_false_iff_ne.2 (by omega)
                      have t2 : decide ((xk : Int) = (G : Int) + 1) = false := decide_eq_false (by omega)
                      have HXK := Lib.hid hxk
                      have hwg := HWG.out
                      clear hxk
                      refine Mem.wp_region_later (by kernel_rfl) (by kernel_rfl) ?_
                      repeat (go_big_quiet_step (fail))
                      refine wpQuiet_nil ?_
                      intro w8 hw8
                      obtain ⟨i8, hi8⟩ := hw8
                      have h8 : Below wr.heap.size wr w8 := hi8 ▸ i8.h
                      clear hi8 i8 m6 m5 mI hwg t1 t2 k6 k5 c0 c1
                      have Q8 := Lib.hid (HQ3.out.below h8)
                      have O8 := Lib.hid (HO3.out.below h8)
                      clear h8
                      go_wp2
                      rw [HWJ.out]
                      refine ⟨⟨j + 1, fb, accx, rfl, rfl, hjl, Q8.out, O8.out, ?_⟩, ?_⟩
                      · rcases HOR.out with ⟨h1, j', b, h2, h3, h4⟩ | ⟨h1, h2, h3⟩
                        · exact .inl ⟨h1, j', b, by omega, h3, h4⟩
                        · refine .inr ⟨h1, h2, fun x hx => ?_⟩
                          rw [List.take_add_one, HX.out] at hx
                          rcases List.mem_append.1 hx with h4 | h4
                          · exact h3 x h4
                          · simp at h4
                            rw [h4]
                            exact HXK.out
                      · have hm1 : ((j : Int) + 1).toNat = j + 1 := rfl
                        have hm2 : ((j : Nat) : Int).toNat = j := rfl
                        show LN - ((j : Int) + 1).toNat < LN - ((j : Nat) : Int).toNat
                        rw [hm1, hm2]
                        omega
                  · have d7 : decide ((j : Int) < (LN : Int)) = false := decide_eq_false (by omega)
                    have i7 : ¬ (j : Int) < (LN : Int) := by omega
                    have hgf : g < gf := by have := hq.two; omega
                    rcases hor with ⟨rfl, j', b, h1, h2, h3⟩ | ⟨rfl, h2, h3⟩
                    · have hEb : E (G + 1) = some b := (HI2.out.early (G + 1) b (by omega)).2 (List.mem_of_getElem? h2)
                      have hGlt : G + 1 < e.got + 9 := by
                        rcases Nat.lt_or_ge (G + 1) (e.got + 9) with h4 | h4
                        · exact h4
                        · rw [HEN.out _ h4] at hEb
                          cases hEb
                      have htg : Lnk.toldGo (e.got + 9 - (G + 1)) (G + 1) (Lnk.upd E (G + 1) none) (acc ++ [b]) = R2 := by
                        have h4 := HTG.out
                        rw [show e.got + 9 - G = (e.got + 9 - (G + 1)) + 1 by omega, Lnk.toldGo_some hEb] at h4
                        exact h4
                      have f5 := frozen_of_row wr g 5 _ _ hq.row
                      have Q10 := Lib.hid (hq.put (e' := { eo with got := G + 1 }) 5 (.int .i64 ((G : Int) + 1)) rfl rfl)
                      have O10 := Lib.hid (hout.put hgf 5 (.int .i64 ((G : Int) + 1)))
                      have HTG2 := Lib.hid htg
                      have HEB := Lib.hid hEb
                      have HGL := Lib.hid hGlt
                      have H3 := Lib.hid h3
                      have hwg := HWG.out
                      clear hq hout htg hEb hGlt h1 h2 h3 hgf
                      go_wp2
                      try rw [hwg]
                      have hm := Q10.out.gotIs
                      rw [H3.out] at O10
                      refine ⟨⟨G + 1, _, _, HTG2.out, ⟨Nat.le_succ_of_le HG1.out, Nat.le_of_lt HGL.out⟩, fun k hk => ?_, ?_, HI2.out.next HEB.out, Q10.out, O10.out⟩, ?_⟩
                      · unfold Lnk.upd
                        split
                        · rfl
                        · exact HEN.out k hk
                      · have h1 := HAL.out
                        have h2 := HG1.out
                        rw [List.length_append, h1]
                        show G - e.got + 1 = G + 1 - e.got
                        clear hwg
                        omega
                      · rw [hm, hacc9.out]
                        have h2 := HGL.out
                        show e.got + 9 - (G + 1) < e.got + 9 - G
                        clear hwg
                        omega
                    · have hE0 : E (G + 1) = none := by
                        cases hE1 : E (G + 1) with
                        | none => rfl
                        | some b =>
                          exfalso
                          have h4 := (HI2.out.early (G + 1) b (by omega)).1 hE1
                          refine h3 (G + 1, b) ?_ rfl
                          rw [List.take_of_length_le (by rw [HLN.out]; omega)]
                          exact h4
                      have htd : R2 = (G, E, acc) := HTG.out.symm.trans (Lnk.toldGo_none hE0)
                      have HQ3 := Lib.hid (show Ply.QS S w wr g g2 gf 1 site sq ack body { eo with got := G, early := E, room := e.room + 1 } pp (inn ++ [(sq, body)]) (.slice A T c) (.slice A2 LN c2) from hq.same rfl rfl)
                      have HO3 := Lib.hid hout
                      have HE0 := Lib.hid hE0
                      have HTD := Lib.hid htd
                      have H2 := Lib.hid h2
                      clear hq hout hE0 htd h2 h3 k5
                      go_wp2_with (first
                        | (with_reducible refine wpList_load_row (o := ⟨some 148, _, _, _, _, _⟩) ?_ 52 (.tmp 2) ?_ g ?_ 52 (Ply.rcells { eo with got := G, early := E, room := e.room + 1 } pp.length (.slice A T c) (.slice A2 LN c2)) (0, 0) _ ?_ Try.underlying52 ?_ ?_ ?_
                           · rfl
                           · rfl
                           · rfl
                           · exact HQ3.out.row
                           · rfl
                           · exact Ply.size_end)
                        | (with_reducible refine Mem.wpList_store ?_ 52 (.tmp 4) (.tmp 148) ?_ g2 (Ply.rcells { eo with got := G, early := E, room := e.room + 1 } pp.length (.slice A T c) (.slice A2 LN c2)) ?_ ?_ 52 _ HQ3.out.res ?_ ?_ ?_ ?_
                           · rfl
                           · rfl
                           · rfl
                           · rfl
                           · exact Ply.size_end
                           · rfl
                           · exact Ply.rcells_one2 _ _ ⟨_, _, _, rfl⟩
                           intro w16 hp16
                           have P16 := Lib.hid hp16
                           clear hp16))
                      refine bodyPost_ret (Ply.results_ctt rfl _ _ g2 (.slice Bo N0 co) (.int .i64 0) _ _ _ _ rfl rfl rfl P16.out.row Try.underlying52 rfl Ply.size_end) rfl ⟨.agg (Ply.rcells { eo with got := G, early := E, room := e.room + 1 } pp.length (.slice A T c) (.slice A2 LN c2)), .slice Bo N0 co, ?_⟩
                      rw [HTK.out, HTD.out]
                      have hdone := HQ3.out.done (M := N + 1) P16.out (HOA.out.told HI2.out HE0.out) (by rw [List.length_append]; have := HL.out.small; simp; omega)
                      refine ⟨rfl, hdone.1, ?_, hdone.2⟩
                      have h5 := HO3.out.1
                      rw [H2.out] at h5
                      have h6 := HQ3.out.two
                      exact (h5.keep fun k hk ho => P16.out.other k (by have := (Mem.Row.block h5 ho).1; omega)).mono (by omega)
          · refine ⟨_, rfl, rfl, ?_⟩
            try dsimp only [Act.put]
            try simp only [List.setIfInBounds_toArray, List.set_cons_zero, List.set_cons_succ]
            unfold Oper.wp
            go_simp
            intro j hj
            have hj2 : j = 0 := by simpa [Mem.tailsOf, List.filterMap] using hj
            clear hj
            subst hj2
            refine ⟨_, rfl, rfl, ?_⟩
            try dsimp only [Act.put]
            try simp only [List.setIfInBounds_toArray, List.set_cons_zero, List.set_cons_succ]
            unfold Oper.wp
            go_simp
            intro j hj
            have hj2 : j = 3 := by simpa [Mem.tailsOf, List.filterMap] using hj
            clear hj
            subst hj2
            refine ⟨_, rfl, rfl, ?_⟩
            try dsimp only [Act.put]
            try simp only [List.setIfInBounds_toArray, List.set_cons_zero, List.set_cons_succ]
            refine Mem.wp_append_rows _ (.tmp 108) (.tmp 110) 47 rfl wr.heap.size 96 ic _ 2 24 Try.underlying47 hic hcz hcz1 hcz2 rfl (.slice (some ⟨wr.heap.size + 1, 0, none⟩) 0 0) 0 [] rfl (Ply.row_empty (Ply.second_of2 wr _ _) (Nat.le_succ _)) (.slice Bi i di) i 0 (Ply.cflat inn) rfl (HROW.out.below (kB2 _ _)) (Ply.cone _) HM1.out.1 HM1.out.2 (kB2 _ _).size ?_
            intro v1 w4 hown1 hgrow1 hat1
            rw [Nat.zero_add, List.nil_append] at hown1
            have b4 : Below wr.heap.size wr w4 := (kB2 _ _).trans (Ply.grown_below hgrow1 (fun b hb => by simp [Value.ownBlock] at hb; omega) (kB2 _ _).size)
            refine ⟨b4, ?_⟩
            have hel := (hgrow1.block wr.heap.size (by first | (simp; done) | (simp; omega)) (by first | (simp [Value.ownBlock]; done) | (simp [Value.ownBlock]; omega))).trans (Ply.first_of2 wr (.cells #[.int .i64 sq, .string (Mem.str body)] 96) (.cells #[] 96))
            intro j hj
            have hj2 : j = 10 := by simpa [Mem.tailsOf, List.filterMap] using hj
            clear hj
            subst hj2
            refine ⟨_, rfl, rfl, ?_⟩
            try dsimp only [Act.put]
            try simp only [List.setIfInBounds_toArray, List.set_cons_zero, List.set_cons_succ]
            refine Mem.wp_append_row _ (.tmp 111) (.tmp 117) 47 rfl wr.heap.size 96 ic _ 2 24 Try.underlying47 hic hcz hcz1 hcz2 rfl v1 i (Ply.cflat inn) rfl (hown1) ⟨wr.heap.size, 0, none⟩ 1 1 [.int .i64 sq, .string (Mem.str body)] rfl rfl (World.news_of_block (hel)) (by intro u hu; simp at hu; rcases hu with rfl | rfl <;> rfl) (by omega) HM2.out.1 HM2.out.2 (b4).size ?_
            intro v2 w5 hown2 hgrow2 hat2
            have b5 : Below wr.heap.size wr w5 := (b4).trans (Ply.grown_below hgrow2 (fun b hb => (Mem.Row.block hown1 hb).1) (b4).size)
            refine ⟨b5, ?_⟩
            obtain ⟨A2, c2, rfl, -, -⟩ := hown2.form
            have hadd := HQ.out.add (x := (sq, body)) b5 (by rw [HLL.out]; exact hown2)
            have f5 : w5.frozen? ⟨g, 6, none⟩ = false := (b5.frozen hgw).trans f6
            have k5 := Mem.keep b5 k6
            dsimp only [Act.put, Mem.chains]
            try simp only [List.setIfInBounds_toArray, List.set_cons_zero, List.set_cons_succ]
            clear hel k6 y2 y4 f6 kB kB2 hown1 hgrow1 hat1 hown2 hgrow2 hat2 b4 b5
            go_wp2
            refine NoPanic.normal ?_
            clear k5 f5
            obtain ⟨LN, hLN⟩ : ∃ LN, i + 1 = LN := ⟨_, rfl⟩
            rw [hLN] at hadd ⊢
            have HLN0 := Lib.hid hLN
            clear hLN
            generalize w5.setCell ⟨g, 6, none⟩ (.slice A2 LN c2) = wn at hadd ⊢
            have hsqn : ¬ ((e.early (sq : Int).toNat).isSome = true ∨ (sq : Int) ≤ e.got) := by
              rw [Int.toNat_natCast]
              rintro (h1 | h1)
              · rcases Nat.lt_or_ge e.got sq with h2 | h2
                · obtain ⟨b, hb⟩ := Option.isSome_iff_exists.1 h1
                  exact HNO.out _ ((HL.out.ok.early sq b h2).1 hb) rfl
                · obtain ⟨b, hb⟩ := HL.out.ok.low sq HSQ.out.1 h2
                  exact HNO.out _ hb rfl
              · obtain ⟨b, hb⟩ := HL.out.ok.low sq HSQ.out.1 (by omega)
                exact HNO.out _ hb rfl
            obtain ⟨R2, hR2⟩ : ∃ R2, Lnk.toldGo (e.got + 9 - e.got) e.got (Lnk.upd e.early sq (some body)) [] = R2 := ⟨_, rfl⟩
            have heg : eo.got = e.got := by rw [← HEO.out]; rfl
            have hee : eo.early = e.early := by rw [← HEO.out]; rfl
            have her : eo.room = e.room := by rw [← HEO.out]; rfl
            have HTK := Lib.hid (show Lnk.takeF hd e ⟨1, site, sq, ack, body⟩ = ({ eo with got := R2.1, early := R2.2.1, room := e.room + 1 }, R2.2.2, 0) by
              unfold Lnk.takeF
              simp only
              rw [if_neg (by decide), if_neg hsqn, Int.toNat_natCast, ← HEO.out, ← hR2]
              rfl)
            have HIN := Lib.hid (Ply.In2.start (s := body) HL.out.ok HSQ.out.1 HNO.out)
            have HE2 := Lib.hid (show ∀ k, e.got + 9 ≤ k → Lnk.upd e.early sq (some body) k = none from fun k hk => by
              unfold Lnk.upd
              rw [if_neg (by have := HSQ.out; omega)]
              exact HE.out k hk)
            have HADD := Lib.hid (show Ply.QS S w wn g g2 gf 1 site sq ack body { eo with got := e.got } pp (inn ++ [(sq, body)]) (.slice A T c) (.slice A2 LN c2) by
              rw [show { eo with got := e.got } = eo by rw [← heg]]
              exact hadd)
            have HR2 := Lib.hid hR2
            clear hsqn hR2 heg hee her hadd
            go_wp2
            go_loopw [11] (fun t11 wr => ∃ (G : Nat) (E : Nat → Option (List UInt8)) (acc : List (List UInt8)), Lnk.toldGo (e.got + 9 - G) G E acc = R2 ∧ (e.got ≤ G ∧ G ≤ e.got + 9) ∧ (∀ k, e.got + 9 ≤ k → E k = none) ∧ acc.length = G - e.got ∧ Ply.In2 G E (inn ++ [(sq, body)]) ∧
              Ply.QS S w wr g g2 gf 1 site sq ack body { eo with got := G } pp (inn ++ [(sq, body)]) (.slice A T c) (.slice A2 LN c2) ∧ Ply.OutOk wr gf (.slice A T c) (.slice A2 LN c2) t11 acc) (fun _ wr => e.got + 9 - Ply.gotOf wr g)
            case atStart => exact ⟨e.got, _, [], HR2.out, ⟨Nat.le_refl _, by omega⟩, HE2.out, by simp, HIN.out, HADD.out, Mem.row_nil _ _ _ _, fun b h => by cases h⟩
            case round =>
              obtain ⟨G, E, acc, htg, ⟨hG1, hG2⟩, hEn, hal, hin, hq, hout⟩ := hrel
              have HTG := Lib.hid htg
              have HG1 := Lib.hid hG1
              have HG2 := Lib.hid hG2
              have HEN := Lib.hid hEn
              have HAL := Lib.hid hal
              have HI2 := Lib.hid hin
              have HQ2 := Lib.hid hq
              have HOUT := Lib.hid hout
              have HLN := Lib.hid (show (inn ++ [(sq, body)]).length = LN by rw [List.length_append, HLL.out]; exact HLN0.out)
              have hacc9 := Lib.hid hq.gotIs
              clear htg hG1 hG2 hEn hal hin hq hout
              go_wp2
              obtain ⟨wx, rfl⟩ : ∃ wx : World, wx = wr := ⟨_, rfl⟩
              go_loopw [11, 12, 13] (fun t11 t12 t13 ws => ∃ (j : Nat) (fb : Bool) (accx : List (List UInt8)), t12 = .bool fb ∧ t13 = .int .i64 j ∧ j ≤ LN ∧
                Ply.QS S w ws g g2 gf 1 site sq ack body { eo with got := G } pp (inn ++ [(sq, body)]) (.slice A T c) (.slice A2 LN c2) ∧ Ply.OutOk ws gf (.slice A T c) (.slice A2 LN c2) t11 accx ∧
                ((fb = true ∧ ∃ j' b, j' < j ∧ (inn ++ [(sq, body)])[j']? = some (G + 1, b) ∧ accx = acc ++ [b]) ∨ (fb = false ∧ accx = acc ∧ ∀ x ∈ (inn ++ [(sq, body)]).take j, x.1 ≠ G + 1))) (fun _ _ t13 _ => LN - (intOf t13).toNat)
              case atStart => exact ⟨0, false, acc, rfl, rfl, Nat.zero_le _, HQ2.out, HOUT.out, .inr ⟨rfl, rfl, fun x hx => by simp at hx⟩⟩
              case round =>
                obtain ⟨j, fb, accx, rfl, rfl, hj, hq, hout, hor⟩ := hrel
                obtain ⟨Bo, co, hBo, -, -⟩ := hout.1.form
                obtain ⟨N0, hN0⟩ : ∃ N, accx.length = N := ⟨_, rfl⟩
                rw [hN0] at hBo
                subst hBo
                have k6 : wr.cell? ⟨g, 6, none⟩ = some (.slice A2 LN c2) := (cell_of_row _ _ 6 _ _ _ hq.row).trans rfl
                have k5 : wr.cell? ⟨g, 5, none⟩ = some (.int .i64 G) := (cell_of_row _ _ 5 _ _ _ hq.row).trans rfl
                have HN0 := Lib.hid hN0
                have HWG := Lib.hid (show wrap64 ((G : Int) + 1) = (G : Int) + 1 by have := HG2.out; have := HGOT.out; unfold wrap64; omega)
                have HWJ := Lib.hid (show wrap64 ((j : Int) + 1) = (j : Int) + 1 by have := HL5.out; have := HLN0.out; unfold wrap64; omega)
                have HN9 := Lib.hid (show N0 ≤ 10 by
                  have h1 := HAL.out
                  have h2 := HG2.out
                  rcases hor with ⟨_, _, b, _, _, h3⟩ | ⟨_, h3, _⟩
                  · rw [h3, List.length_append] at hN0
                    simp at hN0
                    omega
                  · rw [h3] at hN0
                    omega)
                clear hN0
                by_cases hjl : j < LN
                · obtain ⟨⟨xk, xb⟩, hx⟩ : ∃ x, (inn ++ [(sq, body)])[j]? = some x := ⟨_, List.getElem?_eq_getElem (by rw [HLN.out]; exact hjl)⟩
                  have hcame := hq.came
                  rw [HLN.out] at hcame
                  obtain ⟨pI, offI, rfl⟩ : ∃ pI offI, A2 = some ⟨pI, offI, none⟩ := by
                    rcases hcame.2 with ⟨e1, h0⟩ | ⟨pI, offI, _, _, e1, _⟩
                    · omega
                    · injection e1 with e2
                      exact ⟨pI, offI, e2⟩
                  have c0 : wr.cell? ⟨pI, offI + j * 2, none⟩ = some (.int .i64 xk) := Ply.came_cell hcame hx (j := 0) rfl
                  have c1 : wr.cell? ⟨pI, offI + j * 2 + 1, none⟩ = some (.string (Mem.str xb)) := Ply.came_cell hcame hx (j := 1) rfl
                  have i7 : (j : Int) < (LN : Int) := by omega
                  have d7 : decide ((j : Int) < (LN : Int)) = true := decide_eq_true i7
                  have HQ3 := Lib.hid hq
                  have HO3 := Lib.hid hout
                  have HOR := Lib.hid hor
                  have HX := Lib.hid hx
                  clear hq hout hor hx hcame
                  go_wp2
                  have m6 : ∀ z : Mem.Later wr, z.w.cell? ⟨g, 6, none⟩ = some (.slice (some ⟨pI, offI, none⟩) LN c2) := fun z => z.cell k6
                  have m5 : ∀ z : Mem.Later wr, z.w.cell? ⟨g, 5, none⟩ = some (.int .i64 G) := fun z => z.cell k5
                  have mI : ∀ z : Mem.Later wr, z.w.cell? ⟨pI, offI + j * 2, none⟩ = some (.int .i64 xk) := fun z => z.cell c0
                  clear d7
                  by_cases hxk : xk = G + 1
                  · have t1 : ((xk : Int) == (G : Int) + 1) = true := by rw [hxk]; exact beq_self_eq_true _
                    have t2 : decide ((xk : Int) = (G : Int) + 1) = true := decide_eq_true (by omega)
                    have HXK := Lib.hid hxk
                    have hwg := HWG.out
                    clear hxk
                    refine Mem.wp_region_later (by kernel_rfl) (by kernel_rfl) ?_
                    repeat (go_big_quiet_step (fail))
                    refine wpQuiet_nil ?_
                    intro w8 hw8
                    obtain ⟨i8, hi8⟩ := hw8
                    have h8 : Below wr.heap.size wr w8 := hi8 ▸ i8.h
                    have k68 := Mem.keep h8 k6
                    have c18 := Mem.keep h8 c1
                    have ka : ∀ o, (w8.alloc o).cell? ⟨g, 6, none⟩ = some (.slice (some ⟨pI, offI, none⟩) LN c2) := fun o => Mem.keep (Ply.below_new _ _) k68
                    clear hi8 i8 m6 m5 mI hwg t1 t2 k6 k5 c0 c1
                    have Q8 := Lib.hid (HQ3.out.below h8)
                    have O8 := Lib.hid (HO3.out.below h8)
                    clear h8
                    have hfb : fb = false ∧ accx = acc := by
                      rcases HOR.out with ⟨_, j', b, h1, h2, _⟩ | ⟨h1, h2, _⟩
                      · exfalso
                        have := Ply.uniq HI2.out.nodup h2 HX.out (by rw [HXK.out])
                        omega
                      · exact ⟨h1, h2⟩
                    obtain ⟨rfl, rfl⟩ := hfb
                    have R8 := Lib.hid (show Mem.Row w8 (gf + 1) 9 1 (.slice Bo N0 co) N0 (Lnk.strs accx) by have h1 := O8.out.1; rw [HN0.out] at h1; exact h1)
                    obtain ⟨is, his, hsz, hsz1, hsz2⟩ := info_parts Lnk.info_str
                    have HMX := Lib.hid (show N0 + 1 ≤ maxLen ∧ (N0 + 1) * 16 ≤ 140737488355328 by have := HN9.out; unfold maxLen; omega)
                    have HZ := Lib.hid (show gf + 1 ≤ w8.heap.size from Q8.out.lt)
                    go_wp2_with (at_builtin
                                 refine Mem.wpList_append_row _ rfl (.tmp 137) (.tmp 144) 32 rfl (gf + 1) 9 is _ 1 16 Try.underlying32 his hsz hsz1 hsz2 rfl (.slice Bo N0 co) N0 (Lnk.strs accx) rfl (R8.out.alloc _) ⟨w8.heap.size, 0, none⟩ 1 1 [.string (Mem.str xb)] rfl rfl (World.news_of_block (heap_alloc_new _ _)) (by intro u hu; simp at hu; subst hu; rfl) (by omega) HMX.out.1 HMX.out.2 (by have := HZ.out; simp; omega) ?_
                                 intro v' w9 hown hgrow hat
                                 have hq8 := Q8.out.below (Ply.below_new w8 (.cells #[.string (Mem.str xb)] 9))
                                 have ho8 := O8.out.below (Ply.below_new w8 (.cells #[.string (Mem.str xb)] 9))
                                 have Q9 := Lib.hid (hq8.grow ho8 hgrow)
                                 have O9 := Lib.hid (Ply.OutOk.grow (acc' := accx ++ [xb]) hq8 ho8 (by rw [List.length_append, HN0.out]; unfold Lnk.strs; rw [List.map_append]; exact hown) hat)
                                 clear hown hgrow hat hq8 ho8)
                    rw [HWJ.out]
                    refine ⟨⟨j + 1, true, accx ++ [xb], rfl, rfl, hjl, Q9.out, O9.out, .inl ⟨rfl, j, xb, Nat.lt_succ_self _, by rw [HX.out, HXK.out], rfl⟩⟩, ?_⟩
                    have hm1 : ((j : Int) + 1).toNat = j + 1 := rfl
                    have hm2 : ((j : Nat) : Int).toNat = j := rfl
                    show LN - ((j : Int) + 1).toNat < LN - ((j : Nat) : Int).toNat
                    rw [hm1, hm2]
                    omega
                  · have t1 : ((xk : Int) == (G : Int) + 1) = false := beq_eq_false_iff_ne.2 (by omega)
                    have t2 : decide ((xk : Int) = (G : Int) + 1) = false := decide_eq_false (by omega)
                    have HXK := Lib.hid hxk
                    have hwg := HWG.out
                    clear hxk
                    refine Mem.wp_region_later (by kernel_rfl) (by kernel_rfl) ?_
                    repeat (go_big_quiet_step (fail))
                    refine wpQuiet_nil ?_
                    intro w8 hw8
                    obtain ⟨i8, hi8⟩ := hw8
                    have h8 : Below wr.heap.size wr w8 := hi8 ▸ i8.h
                    clear hi8 i8 m6 m5 mI hwg t1 t2 k6 k5 c0 c1
                    have Q8 := Lib.hid (HQ3.out.below h8)
                    have O8 := Lib.hid (HO3.out.below h8)
                    clear h8
                    go_wp2
                    rw [HWJ.out]
                    refine ⟨⟨j + 1, fb, accx, rfl, rfl, hjl, Q8.out, O8.out, ?_⟩, ?_⟩
                    · rcases HOR.out with ⟨h1, j', b, h2, h3, h4⟩ | ⟨h1, h2, h3⟩
                      · exact .inl ⟨h1, j', b, by omega, h3, h4⟩
                      · refine .inr ⟨h1, h2, fun x hx => ?_⟩
                        rw [List.take_add_one, HX.out] at hx
                        rcases List.mem_append.1 hx with h4 | h4
                        · exact h3 x h4
                        · simp at h4
                          rw [h4]
                          exact HXK.out
                    · have hm1 : ((j : Int) + 1).toNat = j + 1 := rfl
                      have hm2 : ((j : Nat) : Int).toNat = j := rfl
                      show LN - ((j : Int) + 1).toNat < LN - ((j : Nat) : Int).toNat
                      rw [hm1, hm2]
                      omega
                · have d7 : decide ((j : Int) < (LN : Int)) = false := decide_eq_false (by omega)
                  have i7 : ¬ (j : Int) < (LN : Int) := by omega
                  have hgf : g < gf := by have := hq.two; omega
                  rcases hor with ⟨rfl, j', b, h1, h2, h3⟩ | ⟨rfl, h2, h3⟩
                  · have hEb : E (G + 1) = some b := (HI2.out.early (G + 1) b (by omega)).2 (List.mem_of_getElem? h2)
                    have hGlt : G + 1 < e.got + 9 := by
                      rcases Nat.lt_or_ge (G + 1) (e.got + 9) with h4 | h4
                      · exact h4
                      · rw [HEN.out _ h4] at hEb
                        cases hEb
                    have htg : Lnk.toldGo (e.got + 9 - (G + 1)) (G + 1) (Lnk.upd E (G + 1) none) (acc ++ [b]) = R2 := by
                      have h4 := HTG.out
                      rw [show e.got + 9 - G = (e.got + 9 - (G + 1)) + 1 by omega, Lnk.toldGo_some hEb] at h4
                      exact h4
                    have f5 := frozen_of_row wr g 5 _ _ hq.row
                    have Q10 := Lib.hid (hq.put (e' := { eo with got := G + 1 }) 5 (.int .i64 ((G : Int) + 1)) rfl rfl)
                    have O10 := Lib.hid (hout.put hgf 5 (.int .i64 ((G : Int) + 1)))
                    have HTG2 := Lib.hid htg
                    have HEB := Lib.hid hEb
                    have HGL := Lib.hid hGlt
                    have H3 := Lib.hid h3
                    have hwg := HWG.out
                    clear hq hout htg hEb hGlt h1 h2 h3 hgf
                    go_wp2
                    try rw [hwg]
                    have hm := Q10.out.gotIs
                    rw [H3.out] at O10
                    refine ⟨⟨G + 1, _, _, HTG2.out, ⟨Nat.le_succ_of_le HG1.out, Nat.le_of_lt HGL.out⟩, fun k hk => ?_, ?_, HI2.out.next HEB.out, Q10.out, O10.out⟩, ?_⟩
                    · unfold Lnk.upd
                      split
                      · rfl
                      · exact HEN.out k hk
                    · have h1 := HAL.out
                      have h2 := HG1.out
                      rw [List.length_append, h1]
                      show G - e.got + 1 = G + 1 - e.got
                      clear hwg
                      omega
                    · rw [hm, hacc9.out]
                      have h2 := HGL.out
                      show e.got + 9 - (G + 1) < e.got + 9 - G
                      clear hwg
                      omega
                  · have hE0 : E (G + 1) = none := by
                      cases hE1 : E (G + 1) with
                      | none => rfl
                      | some b =>
                        exfalso
                        have h4 := (HI2.out.early (G + 1) b (by omega)).1 hE1
                        refine h3 (G + 1, b) ?_ rfl
                        rw [List.take_of_length_le (by rw [HLN.out]; omega)]
                        exact h4
                    have htd : R2 = (G, E, acc) := HTG.out.symm.trans (Lnk.toldGo_none hE0)
                    have HQ3 := Lib.hid (show Ply.QS S w wr g g2 gf 1 site sq ack body { eo with got := G, early := E, room := e.room + 1 } pp (inn ++ [(sq, body)]) (.slice A T c) (.slice A2 LN c2) from hq.same rfl rfl)
                    have HO3 := Lib.hid hout
                    have HE0 := Lib.hid hE0
                    have HTD := Lib.hid htd
                    have H2 := Lib.hid h2
                    clear hq hout hE0 htd h2 h3 k5
                    go_wp2_with (first
                      | (with_reducible refine wpList_load_row (o := ⟨some 148, _, _, _, _, _⟩) ?_ 52 (.tmp 2) ?_ g ?_ 52 (Ply.rcells { eo with got := G, early := E, room := e.room + 1 } pp.length (.slice A T c) (.slice A2 LN c2)) (0, 0) _ ?_ Try.underlying52 ?_ ?_ ?_
                         · rfl
                         · rfl
                         · rfl
                         · exact HQ3.out.row
                         · rfl
                         · exact Ply.size_end)
                      | (with_reducible refine Mem.wpList_store ?_ 52 (.tmp 4) (.tmp 148) ?_ g2 (Ply.rcells { eo with got := G, early := E, room := e.room + 1 } pp.length (.slice A T c) (.slice A2 LN c2)) ?_ ?_ 52 _ HQ3.out.res ?_ ?_ ?_ ?_
                         · rfl
                         · rfl
                         · rfl
                         · rfl
                         · exact Ply.size_end
                         · rfl
                         · exact Ply.rcells_one2 _ _ ⟨_, _, _, rfl⟩
                         intro w16 hp16
                         have P16 := Lib.hid hp16
                         clear hp16))
                    refine bodyPost_ret (Ply.results_ctt rfl _ _ g2 (.slice Bo N0 co) (.int .i64 0) _ _ _ _ rfl rfl rfl P16.out.row Try.underlying52 rfl Ply.size_end) rfl ⟨.agg (Ply.rcells { eo with got := G, early := E, room := e.room + 1 } pp.length (.slice A T c) (.slice A2 LN c2)), .slice Bo N0 co, ?_⟩
                    rw [HTK.out, HTD.out]
                    have hdone := HQ3.out.done (M := N + 1) P16.out (HOA.out.told HI2.out HE0.out) (by rw [List.length_append]; have := HL.out.small; simp; omega)
                    refine ⟨rfl, hdone.1, ?_, hdone.2⟩
                    have h5 := HO3.out.1
                    rw [H2.out] at h5
                    have h6 := HQ3.out.two
                    exact (h5.keep fun k hk ho => P16.out.other k (by have := (Mem.Row.block h5 ho).1; omega)).mono (by omega)
end Go.Proofs.Ytgkadhogfejheaa
