/- The walk of an end's Take. -/
import Derived.Test.YtgkadhogfejheaaZLnkG
set_option linter.unusedVariables false
set_option linter.unusedSimpArgs false
/-! The walk of an end's acked. -/
namespace Go.Proofs.Ytgkadhogfejheaa
open Go.RowKit

namespace Mem
theorem Row.tail {w : World} {base size n cap p off : Nat} {e : TypeId} {xs : List Value} (h : Row w base e size (.slice (some ⟨p, off, none⟩) (n + 1) cap) (n + 1) xs) :
    Row w base e size (.slice (some ⟨p, off + size, none⟩) n (cap - 1)) n (xs.drop size) := by
  refine ⟨by rw [List.length_drop, h.1, Nat.add_mul]; omega, ?_⟩
  rcases h.2 with ⟨h0, _⟩ | ⟨b, off', cap', cur, h0, h1, h2, h3, h4, h5, h6⟩
  · cases h0
  · cases h0
    refine .inr ⟨p, off + size, cap - 1, cur, rfl, h1, h2, by omega, by omega, ?_, fun j u hj => ?_⟩
    · have : cap * size = (cap - 1) * size + size := by
        conv => lhs; rw [show cap = cap - 1 + 1 by omega, Nat.add_mul, Nat.one_mul]
      omega
    · rw [List.getElem?_drop] at hj
      have := h6 _ u hj
      rwa [← Nat.add_assoc] at this
theorem Row.tail_if {w : World} {base size n cap p off : Nat} {e : TypeId} {xs : List Value} (h : Row w base e size (.slice (some ⟨p, off, none⟩) (n + 1) cap) (n + 1) xs) :
    Row w base e size (.slice (if cap = 1 then some ⟨p, off, none⟩ else some ⟨p, off + size, none⟩) n (cap - 1)) n (xs.drop size) := by
  split
  · rename_i hc
    subst hc
    rcases h.2 with ⟨h0, _⟩ | ⟨b, off', cap', cur, h0, h1, h2, h3, h4, h5, h6⟩
    · cases h0
    · cases h0
      have hn : n = 0 := by omega
      subst hn
      refine ⟨by rw [List.length_drop, h.1]; simp, .inr ⟨p, off, 0, cur, rfl, h1, h2, Nat.le_refl _, by unfold maxLen; omega, by omega, fun j u hj => ?_⟩⟩
      rw [List.drop_of_length_le (by rw [h.1]; simp)] at hj
      cases hj
  · exact h.tail
end Mem
namespace Lnk
/-- how long a pace waits, and what it hears -/
structure Law (wt : Nat → Nat → Bool → Nat) (hd : Nat → Nat → Bool → Nat → Nat × Nat × Bool) : Prop where
  wait : ∀ m d s, (2 ≤ wt m d s ∧ wt m d s ≤ 64) ∧ WaitIs m d s (wt m d s)
  heard : ∀ m d s t w, Calls Try.prog 56 #[.agg #[.float .f64 m, .float .f64 d, .bool s], .float .f64 t] w fun e w' => e = .returned (.agg #[.float .f64 (hd m d s t).1, .float .f64 (hd m d s t).2.1, .bool (hd m d s t).2.2]) ∧ Below w.heap.size w w'
def ackGo (hd : Nat → Nat → Bool → Nat → Nat × Nat × Bool) (now : Nat) (n : Int) : List Wt → Nat × Nat × Bool → List Wt × (Nat × Nat × Bool)
  | [], p => ([], p)
  | x :: l, p => if (x.seq : Int) ≤ n then ackGo hd now n l (if x.tries = 1 then hd p.1 p.2.1 p.2.2 (floatOfInt .f64 ((now : Int) - x.sent)) else p) else (x :: l, p)
def acked (hd : Nat → Nat → Bool → Nat → Nat × Nat × Bool) (n : Int) (e : St) : St :=
  let r := ackGo hd e.now n e.out (e.mean, e.dev, e.any)
  { e with out := r.1, mean := r.2.1, dev := r.2.2.1, any := r.2.2.2 }
def lenOf (w : World) (g : Nat) : Nat := match w.cell? ⟨g, 2, none⟩ with
  | some (.slice _ n _) => n
  | _ => 0
/-- an end behind a part of the acknowledging -/
def less (e : St) (l : List Wt) (p : Nat × Nat × Bool) : St := { e with out := l, mean := p.1, dev := p.2.1, any := p.2.2 }
theorem zero_wt : (Try.prog.info? 80).bind (·.zero) = some (.agg #[.int .i64 0, .int .i64 0, .int .i64 0, .string ⟨#[]⟩]) := by kernel_rfl
theorem size_wt : (Try.prog.info? 80).map (·.size) = some 4 := by kernel_rfl
theorem one_wt (a b c : Int) (s : ByteArray) : (#[Value.int .i64 a, .int .i64 b, .int .i64 c, .string s]).all (·.oneCell') = true := by simp [Value.oneCell']
def cut (p off n cap : Nat) : Value := .slice (if cap = 1 then some ⟨p, off, none⟩ else some ⟨p, off + 4, none⟩) n (cap - 1)
theorem cut_block (p off n cap : Nat) : (cut p off n cap).ownBlock = some p := by unfold cut; split <;> rfl
theorem Lie.cut {w : World} {g b p off cap : Nat} {F : Nat → Prop} {e : St} {x : Wt} {l : List Wt} {q : Nat × Nat × Bool} (h : Lie w g F (less e (x :: l) q) (.slice (some ⟨p, off, none⟩) (l.length + 1) cap) b) :
    Lie (w.setCell ⟨g, 2, none⟩ (cut p off l.length cap)) g F (less e l q) (cut p off l.length cap) b := by
  have hp := Mem.put_setCell w g 2 (Lnk.cut p off l.length cap) _ _ h.row
  have hpg : p ≠ g := fun e => h.og (by simp [Value.ownBlock, e])
  have h0 : Mem.Row w 0 80 4 (Lnk.cut p off l.length cap) l.length ((flat (x :: l)).drop 4) := Mem.Row.tail_if h.own
  exact
    { row := hp.row
      own := by
        have : (flat (x :: l)).drop 4 = flat l := rfl
        rw [this] at h0
        exact h0.keep fun k _ ho => hp.other k fun e => hpg (by rw [cut_block] at ho; injection ho with ho; omega)
      map := mp_keep h.map (hp.other b (Ne.symm h.gb))
      gb := h.gb
      og := by rw [cut_block]; intro e; injection e with e; exact hpg e
      ob := by rw [cut_block]; exact h.ob
      fg := h.fg
      fb := h.fb
      fo := fun k hk => by rw [cut_block] at hk; exact h.fo k hk
      lt := fun k hk => by rw [hp.size]; exact h.lt k hk }
theorem lenOf_at {w : World} {g b : Nat} {F : Nat → Prop} {e : St} {p off n cap : Nat} (h : Lie w g F e (cut p off n cap) b) : lenOf w g = n := by
  unfold lenOf
  rw [show w.cell? ⟨g, 2, none⟩ = some (cut p off n cap) from (cell_of_row _ _ 2 _ _ _ h.row).trans rfl]
  rfl
end Lnk

set_option maxRecDepth 100000 in
set_option maxHeartbeats 1000000 in
theorem link_acked {wt : Nat → Nat → Bool → Nat} {hd : Nat → Nat → Bool → Nat → Nat × Nat × Bool} (law : Lnk.Law wt hd) (g : Nat) (F : Nat → Prop) (e : Lnk.St) (n : Int) (hnow : e.now < 1099511627776) (hx : ∀ x ∈ e.out, x.sent < 1099511627776) (w : World) (h : Lnk.At w g F e) :
    Calls Try.prog 36 #[.pointer (some ⟨g, 0, none⟩), .int .i64 n] w fun r w' => r = .returned (.tuple #[]) ∧ Lnk.At w' g F (Lnk.acked hd n e) ∧ Mem.But F w w' := by
  obtain ⟨out, b, h⟩ := h
  obtain ⟨R, hR⟩ : ∃ R, Lnk.ackGo hd e.now n e.out (e.mean, e.dev, e.any) = R := ⟨_, rfl⟩
  have hT : Lnk.acked hd n e = Lnk.less e R.1 R.2 := by unfold Lnk.acked Lnk.less; rw [hR]
  rw [hT]
  clear hT
  have H := Lib.hid h
  have HR := Lib.hid hR
  have HX := Lib.hid hx
  clear h hR hx
  go_enter Try.func36, Try.ntmps36
  go_wp2
  go_loopw [4] (fun _ wr => ∃ (l : List Lnk.Wt) (p : Nat × Nat × Bool) (o : Value), (∀ x ∈ l, x.sent < 1099511627776) ∧ Lnk.ackGo hd e.now n l p = R ∧ (∀ k, o.ownBlock = some k → F k ∧ k ≠ g) ∧
    Lnk.Lie wr g F (Lnk.less e l p) o b ∧ Mem.But F w wr) (fun _ wr => Lnk.lenOf wr g)
  case atStart => exact ⟨e.out, (e.mean, e.dev, e.any), out, HX.out, HR.out, fun k hk => ⟨H.out.fo k hk, fun e => H.out.og (e ▸ hk)⟩, H.out, Mem.But.refl _ _⟩
  case round =>
    obtain ⟨l, ⟨m, d, s⟩, o, hx, hgo, hok, hl, hb⟩ := hrel
    obtain ⟨A, cap, rfl, hc1, hc2⟩ := hl.own.form
    have hlen : Lnk.lenOf wr g = l.length := by
      unfold Lnk.lenOf
      rw [show wr.cell? ⟨g, 2, none⟩ = some (.slice A l.length cap) from (cell_of_row _ _ 2 _ _ _ hl.row).trans rfl]
    have c2 : wr.cell? ⟨g, 2, none⟩ = some (.slice A l.length cap) := (cell_of_row _ _ 2 _ _ _ hl.row).trans rfl
    cases l with
    | nil =>
      simp only [Lnk.ackGo] at hgo
      subst hgo
      simp only [List.length_nil] at c2
      have HL := Lib.hid hl
      have HB := Lib.hid hb
      clear hl hb
      go_wp2
      refine bodyPost_end (results_none rfl _ _ _) rfl ?_
      exact ⟨rfl, ⟨_, _, HL.out⟩, HB.out⟩
    | cons x l =>
      obtain ⟨p, off, rfl⟩ : ∃ p off, A = some ⟨p, off, none⟩ := by
        rcases hl.own.2 with ⟨e1, _⟩ | ⟨p, off, _, _, e1, _⟩
        · injection e1 with _ e2
          cases e2
        · injection e1 with e2
          exact ⟨p, off, e2⟩
      have x0 : wr.cell? ⟨p, off, none⟩ = some (.int .i64 x.seq) := by simpa using hl.bodyCell (k := 0) (x := x) rfl (j := 0) rfl
      simp only [List.length_cons] at c2
      have n0 : (0 : Int) < ((l.length + 1 : Nat) : Int) := by omega
      have n1 : 0 < l.length + 1 := by omega
      by_cases hle : (x.seq : Int) ≤ n
      · have x1 : wr.cell? ⟨p, off + 1, none⟩ = some (.int .i64 x.tries) := by simpa using hl.bodyCell (k := 0) (x := x) rfl (j := 1) rfl
        have x2 : wr.cell? ⟨p, off + 2, none⟩ = some (.int .i64 x.sent) := by simpa using hl.bodyCell (k := 0) (x := x) rfl (j := 2) rfl
        have x3 : wr.cell? ⟨p, off + 3, none⟩ = some (.string (Mem.str x.body)) := by simpa using hl.bodyCell (k := 0) (x := x) rfl (j := 3) rfl
        have hgo2 : Lnk.ackGo hd e.now n l (if x.tries = 1 then hd m d s (floatOfInt .f64 ((e.now : Int) - x.sent)) else (m, d, s)) = R := by rw [← hgo]; conv => rhs; unfold Lnk.ackGo; rw [if_pos hle]
        have hxs := hx x (by simp)
        have hxl : ∀ y ∈ l, y.sent < 1099511627776 := fun y hy => hx y (by simp [hy])
        have HGO := Lib.hid hgo2
        have HXL := Lib.hid hxl
        have HL := Lib.hid hl
        have HB := Lib.hid hb
        have HOK := Lib.hid hok
        have HLEN := Lib.hid hlen
        have hlt : wr.heap.size ≤ wr.heap.size := Nat.le_refl _
        clear hgo hgo2 hx hxl hl hb hok hlen
        obtain ⟨seq, tries, sent, body⟩ := x
        simp only at x0 x1 x2 x3 hle hxs
        have htr : tries = 1 ∨ ((tries : Int) == 1) = false ∧ tries ≠ 1 := by
          rcases Nat.decEq tries 1 with h | h
          · exact .inr ⟨by simp; omega, h⟩
          · exact .inl h
        rcases htr with rfl | ⟨ht, ht2⟩
        · have hwn : wrap64 ((e.now : Int) - sent) = (e.now : Int) - sent := by unfold wrap64; omega
          have hgo3 : Lnk.ackGo hd e.now n l (hd m d s (floatOfInt .f64 ((e.now : Int) - sent))) = R := by have := HGO.out; simpa using this
          have HGO3 := Lib.hid hgo3
          clear hgo3 HGO
          go_wp2_with (first
            | (refine Mem.wpList_alloc (o := ⟨some 4, _, _, _, _, _⟩) rfl 80 rfl _ Lnk.zero_wt ?_
               intro w1 hn1
               have Hn1 := Lib.hid hn1
               clear hn1)
            | (refine Mem.wpList_store rfl 80 (.tmp 4) (.tmp 27) rfl wr.heap.size #[.int .i64 seq, .int .i64 ((1 : Nat) : Int), .int .i64 sent, .string (Mem.str body)] rfl rfl 80 _ Hn1.out.row Lnk.size_wt rfl (Lnk.one_wt _ _ _ _) ?_
               intro w2 hp2
               have y1 : w2.cell? ⟨wr.heap.size, 1, none⟩ = some (.int .i64 ((1 : Nat) : Int)) := (cell_of_row _ _ 1 _ _ _ hp2.row).trans rfl
               have L2 := Lib.hid ((HL.out.below Hn1.out.below).keep (Mem.But.of_put (S := (· = wr.heap.size)) hp2 rfl) (fun k hk e => by have := HL.out.lt k hk; have e2 : k = wr.heap.size := e; omega))
               have B2 := Lib.hid ((HB.out.trans (Mem.But.of_new Hn1.out)).later (T := (· = wr.heap.size)) (Mem.But.of_put hp2 rfl) (fun i hi e => by have := HB.out.size; have e2 : i = wr.heap.size := e; omega))
               have HP2 := Lib.hid hp2
               clear hp2))
          have m7 : ∀ i : Mem.Later w2, i.w.cell? ⟨g, 7, none⟩ = some (.float .f64 m) := fun i => i.cell ((cell_of_row _ _ 7 _ _ _ L2.out.row).trans rfl)
          have m8 : ∀ i : Mem.Later w2, i.w.cell? ⟨g, 8, none⟩ = some (.float .f64 d) := fun i => i.cell ((cell_of_row _ _ 8 _ _ _ L2.out.row).trans rfl)
          have m9 : ∀ i : Mem.Later w2, i.w.cell? ⟨g, 9, none⟩ = some (.bool s) := fun i => i.cell ((cell_of_row _ _ 9 _ _ _ L2.out.row).trans rfl)
          have m1 : ∀ i : Mem.Later w2, i.w.cell? ⟨g, 1, none⟩ = some (.int .i64 e.now) := fun i => i.cell ((cell_of_row _ _ 1 _ _ _ L2.out.row).trans rfl)
          have z2 : ∀ i : Mem.Later w2, i.w.cell? ⟨wr.heap.size, 2, none⟩ = some (.int .i64 sent) := fun i => i.cell ((cell_of_row _ _ 2 _ _ _ HP2.out.row).trans rfl)
          have hheard := law.heard m d s (floatOfInt .f64 ((e.now : Int) - sent))
          clear x0 x1 x2 x3 c2 y1
          refine Mem.wp_region_later_tail 16 (by kernel_rfl) (by kernel_rfl) ?_
          simp only [List.take_succ_cons, List.take_zero, List.drop_succ_cons, List.drop_zero]
          repeat (go_big_quiet_step ((go_at_call 56; exact Mem.later_call (hheard _))))
          refine wpQuiet_nil ?_
          intro w3 hw3
          obtain ⟨i3, hi3⟩ := hw3
          have h3 : Below w2.heap.size w2 w3 := hi3 ▸ i3.h
          clear hi3 i3 m7 m8 m9 m1 z2 hheard
          have l3 : Lnk.Lie w3 g F (Lnk.less e (⟨seq, 1, sent, body⟩ :: l) (m, d, s)) (.slice (some ⟨p, off, none⟩) (l.length + 1) cap) b := L2.out.below h3
          have L3 := Lib.hid l3
          have B3 := Lib.hid (B2.out.trans (Mem.But.of_below h3))
          have k7 : w3.cell? ⟨g, 7, none⟩ = some (.float .f64 m) := (cell_of_row _ _ 7 _ _ _ l3.row).trans rfl
          have k8 : w3.cell? ⟨g, 8, none⟩ = some (.float .f64 d) := (cell_of_row _ _ 8 _ _ _ l3.row).trans rfl
          have k9 : w3.cell? ⟨g, 9, none⟩ = some (.bool s) := (cell_of_row _ _ 9 _ _ _ l3.row).trans rfl
          have k2 : w3.cell? ⟨g, 2, none⟩ = some (.slice (some ⟨p, off, none⟩) (l.length + 1) cap) := (cell_of_row _ _ 2 _ _ _ l3.row).trans rfl
          have ff := fun i => frozen_of_row _ g i _ _ l3.row
          obtain ⟨⟨X, Y, Z⟩, hXYZ⟩ : ∃ q, hd m d s (floatOfInt .f64 ((e.now : Int) - sent)) = q := ⟨_, rfl⟩
          have HXYZ := Lib.hid hXYZ
          rw [hXYZ]
          clear h3 l3 hXYZ
          have hst := Pac.run_store_float
          go_wp2
          have t7 := L3.out.put (Lnk.less e (⟨seq, 1, sent, body⟩ :: l) (X, d, s)) (Mem.put_setCell w3 g 7 (.float .f64 X) _ _ L3.out.row) rfl rfl rfl
          have t8 := t7.put (Lnk.less e (⟨seq, 1, sent, body⟩ :: l) (X, Y, s)) (Mem.put_setCell _ g 8 (.float .f64 Y) _ _ t7.row) rfl rfl rfl
          have t9 := t8.put (Lnk.less e (⟨seq, 1, sent, body⟩ :: l) (X, Y, Z)) (Mem.put_setCell _ g 9 (.bool Z) _ _ t8.row) rfl rfl rfl
          have l4 := t9.cut
          have hgo4 := HGO3.out
          rw [HXYZ.out] at hgo4
          have hF := L3.out.fg
          refine ⟨⟨l, (X, Y, Z), Lnk.cut p off l.length cap, HXL.out, hgo4, fun k hk => ?_, l4, B3.out.trans ((Mem.But.of_setCell _ _ hF).trans ((Mem.But.of_setCell _ _ hF).trans ((Mem.But.of_setCell _ _ hF).trans (Mem.But.of_setCell _ _ hF))))⟩, ?_⟩
          · rw [Lnk.cut_block] at hk
            exact HOK.out k hk
          · have h5 := Lnk.lenOf_at l4
            unfold Lnk.cut at h5
            rw [h5, HLEN.out]
            exact Nat.lt_succ_self _
        · have hgo3 : Lnk.ackGo hd e.now n l (m, d, s) = R := by have := HGO.out; rwa [if_neg ht2] at this
          have HGO3 := Lib.hid hgo3
          clear hgo3 HGO
          go_wp2_with (first
            | (refine Mem.wpList_alloc (o := ⟨some 4, _, _, _, _, _⟩) rfl 80 rfl _ Lnk.zero_wt ?_
               intro w1 hn1
               have Hn1 := Lib.hid hn1
               clear hn1)
            | (refine Mem.wpList_store rfl 80 (.tmp 4) (.tmp 27) rfl wr.heap.size #[.int .i64 seq, .int .i64 tries, .int .i64 sent, .string (Mem.str body)] rfl rfl 80 _ Hn1.out.row Lnk.size_wt rfl (Lnk.one_wt _ _ _ _) ?_
               intro w2 hp2
               have y1 : w2.cell? ⟨wr.heap.size, 1, none⟩ = some (.int .i64 tries) := (cell_of_row _ _ 1 _ _ _ hp2.row).trans rfl
               have L2 := Lib.hid ((HL.out.below Hn1.out.below).keep (Mem.But.of_put (S := (· = wr.heap.size)) hp2 rfl) (fun k hk e => by have := HL.out.lt k hk; have e2 : k = wr.heap.size := e; omega))
               have B2 := Lib.hid ((HB.out.trans (Mem.But.of_new Hn1.out)).later (T := (· = wr.heap.size)) (Mem.But.of_put hp2 rfl) (fun i hi e => by have := HB.out.size; have e2 : i = wr.heap.size := e; omega))
               have k2 : w2.cell? ⟨g, 2, none⟩ = some (.slice (some ⟨p, off, none⟩) (l.length + 1) cap) := (cell_of_row _ _ 2 _ _ _ L2.out.row).trans rfl
               have f2 := frozen_of_row _ g 2 _ _ L2.out.row
               clear hp2))
          have l4 := L2.out.cut
          refine ⟨⟨l, (m, d, s), Lnk.cut p off l.length cap, HXL.out, HGO3.out, fun k hk => ?_, l4, B2.out.trans (Mem.But.of_setCell _ _ L2.out.fg)⟩, ?_⟩
          · rw [Lnk.cut_block] at hk
            exact HOK.out k hk
          · have h5 := Lnk.lenOf_at l4
            unfold Lnk.cut at h5
            rw [h5, HLEN.out]
            exact Nat.lt_succ_self _
      · have hle2 : decide ((x.seq : Int) ≤ n) = false := decide_eq_false hle
        have hR : R = (x :: l, m, d, s) := by rw [← hgo]; unfold Lnk.ackGo; rw [if_neg hle]
        subst hR
        have HL := Lib.hid hl
        have HB := Lib.hid hb
        clear hl hb
        go_wp2
        refine bodyPost_end (results_none rfl _ _ _) rfl ?_
        exact ⟨rfl, ⟨_, _, HL.out⟩, HB.out⟩
end Go.Proofs.Ytgkadhogfejheaa

/-! The walk of an end's Take. -/
namespace Go.Proofs.Ytgkadhogfejheaa
open Go.RowKit

namespace Lnk
/-- behind the frame's own errors -/
def takeF (hd : Nat → Nat → Bool → Nat → Nat × Nat × Bool) (e : St) (f : Frm.F) : St × List (List UInt8) × Int :=
  let e1 := acked hd f.ack e
  if f.kind = 2 then (e1, [], 0) else
  let e2 := { e1 with owed := true }
  if (e.early f.seq.toNat).isSome = true ∨ f.seq ≤ e.got then (e2, [], 15) else
  let t := told (e.got + 9) { e2 with early := upd e.early f.seq.toNat (some f.body), room := e.room + 1 }
  (t.1, t.2, 0)
def take (hd : Nat → Nat → Bool → Nat → Nat × Nat × Bool) (e : St) (s : List UInt8) : St × List (List UInt8) × Int :=
  let c := if (Frm.get s).2 = 0 then asked e (Frm.get s).1 else (Frm.get s).2
  if c = 0 then takeF hd e (Frm.get s).1 else ({ e with refused := e.refused + 1 }, [], c)
theorem zero_frame : (Try.prog.info? 84).bind (·.zero) = some (.agg #[.int .i64 0, .int .i64 0, .int .i64 0, .int .i64 0, .string ⟨#[]⟩]) := by kernel_rfl
theorem size_frame : (Try.prog.info? 84).map (·.size) = some 5 := by kernel_rfl
theorem one_frame (a b c d : Int) (s : ByteArray) : (#[Value.int .i64 a, .int .i64 b, .int .i64 c, .int .i64 d, .string s]).all (·.oneCell') = true := by simp [Value.oneCell']
end Lnk

set_option maxRecDepth 100000 in
set_option maxHeartbeats 1000000 in
/-- refused: the frame's error, or the end's -/
theorem take_bad (g : Nat) (F : Nat → Prop) (e : Lnk.St) (s : List UInt8) (hs : s.length < 2 ^ 61) (hgot : e.got < 2199023255552) (hr : e.refused < 2199023255552) (c : Int)
    (hc : (if (Frm.get s).2 = 0 then Lnk.asked e (Frm.get s).1 else (Frm.get s).2) = c) (hc0 : c ≠ 0) (w : World) (h : Lnk.At w g F e) :
    Calls Try.prog 22 #[.pointer (some ⟨g, 0, none⟩), .string (Mem.str s)] w fun r w' => r = .returned (.tuple #[.slice none 0 0, .int .i64 c]) ∧ Lnk.At w' g F { e with refused := e.refused + 1 } ∧ Mem.But F w w' := by
  have hget := frame_get s hs
  obtain ⟨⟨kind, site, seq, ack, body⟩, k, hk⟩ : ∃ f k, Frm.get s = (f, k) := ⟨_, _, rfl⟩
  rw [hk] at hc hget
  simp only at hc hget
  have H := Lib.hid h
  have HC := Lib.hid hc
  have hwr : wrap64 ((e.refused : Int) + 1) = ((e.refused + 1 : Nat) : Int) := by unfold wrap64; omega
  have hcb : (c != 0) = true := by simpa using hc0
  have hcb2 : (c == 0) = false := by simpa using hc0
  clear h hc hk
  by_cases k0 : k = 0
  · subst k0
    have hc2 := HC.out
    rw [if_pos rfl] at hc2
    have HC2 := Lib.hid hc2
    clear hc2
    go_enter Try.func22, Try.ntmps22
    go_wp2_with (first
      | (go_at_call 34
         refine (hget _).mono ?_
         rintro r w1 ⟨rfl, hb1⟩
         have HB1 := Lib.hid hb1
         clear hb1)
      | (refine Mem.wpList_alloc (o := ⟨some 6, _, _, _, _, _⟩) rfl 84 rfl _ Lnk.zero_frame ?_
         intro w2 hn2
         have Hn2 := Lib.hid hn2
         clear hn2)
      | (refine Mem.wpList_store rfl 84 (.tmp 6) (.tmp 15) rfl w1.heap.size #[.int .i64 kind, .int .i64 site, .int .i64 seq, .int .i64 ack, .string (Mem.str body)] rfl rfl 84 _ Hn2.out.row Lnk.size_frame rfl (Lnk.one_frame _ _ _ _ _) ?_
         go_loud (
         intro w3 hp3
         have y := fun i => cell_of_row _ _ i _ _ _ hp3.row
         have hb3 := Lib.hid (Mem.then_ HB1.out (Hn2.out.below.trans (hp3.below (Nat.le_refl _)))))
         clear hp3)
      | (go_at_call 35
         go_loud (
         refine (link_asked g F e ⟨kind, site, seq, ack, body⟩ hgot _ (H.out.below hb3.out)).mono ?_
         rw [HC2.out]
         rintro r w4 ⟨rfl, hb4⟩
         obtain ⟨out, b, l4⟩ := H.out.below (Mem.then_ hb3.out hb4)
         have r11 : w4.cell? ⟨g, 11, none⟩ = some (.int .i64 e.refused) := (cell_of_row _ _ 11 _ _ _ l4.row).trans rfl
         have f11 := frozen_of_row _ g 11 _ _ l4.row
         have L4 := Lib.hid l4
         have HB4 := Lib.hid (Mem.then_ hb3.out hb4)
         clear hb4 l4)))
    exact bodyPost_ret (results_tmp2 rfl _ _ _) rfl ⟨rfl, ⟨out, b, L4.out.put { e with refused := e.refused + 1 } (Mem.put_setCell w4 g 11 (.int .i64 ((e.refused + 1 : Nat) : Int)) _ _ L4.out.row) rfl rfl rfl⟩, (Mem.But.of_below HB4.out).trans (Mem.But.of_setCell _ _ L4.out.fg)⟩
  · have hc2 := HC.out
    rw [if_neg k0] at hc2
    subst hc2
    clear HC
    go_enter Try.func22, Try.ntmps22
    go_wp2_with (first
      | (go_at_call 34
         refine (hget _).mono ?_
         rintro r w1 ⟨rfl, hb1⟩
         have HB1 := Lib.hid hb1
         clear hb1)
      | (refine Mem.wpList_alloc (o := ⟨some 6, _, _, _, _, _⟩) rfl 84 rfl _ Lnk.zero_frame ?_
         intro w2 hn2
         have Hn2 := Lib.hid hn2
         clear hn2)
      | (refine Mem.wpList_store rfl 84 (.tmp 6) (.tmp 15) rfl w1.heap.size #[.int .i64 kind, .int .i64 site, .int .i64 seq, .int .i64 ack, .string (Mem.str body)] rfl rfl 84 _ Hn2.out.row Lnk.size_frame rfl (Lnk.one_frame _ _ _ _ _) ?_
         intro w3 hp3
         have hb3 := Lib.hid (Mem.then_ HB1.out (Hn2.out.below.trans (hp3.below (Nat.le_refl _))))
         obtain ⟨out, b, l4⟩ := H.out.below hb3.out
         have r11 : w3.cell? ⟨g, 11, none⟩ = some (.int .i64 e.refused) := (cell_of_row _ _ 11 _ _ _ l4.row).trans rfl
         have f11 := frozen_of_row _ g 11 _ _ l4.row
         have L4 := Lib.hid l4
         clear hp3 l4))
    exact bodyPost_ret (results_tmp2 rfl _ _ _) rfl ⟨rfl, ⟨out, b, L4.out.put { e with refused := e.refused + 1 } (Mem.put_setCell w3 g 11 (.int .i64 ((e.refused + 1 : Nat) : Int)) _ _ L4.out.row) rfl rfl rfl⟩, (Mem.But.of_below hb3.out).trans (Mem.But.of_setCell _ _ L4.out.fg)⟩

set_option maxRecDepth 100000 in
set_option maxHeartbeats 1000000 in
/-- a frame that only tells -/
theorem take_tell {wt : Nat → Nat → Bool → Nat} {hd : Nat → Nat → Bool → Nat → Nat × Nat × Bool} (law : Lnk.Law wt hd) (g : Nat) (F : Nat → Prop) (e : Lnk.St) (s : List UInt8) (hs : s.length < 2 ^ 61) (hgot : e.got < 2199023255552) (hnow : e.now < 1099511627776) (hx : ∀ x ∈ e.out, x.sent < 1099511627776)
    (site seq ack : Int) (body : List UInt8) (hk : Frm.get s = (⟨2, site, seq, ack, body⟩, 0)) (ha : Lnk.asked e ⟨2, site, seq, ack, body⟩ = 0) (w : World) (h : Lnk.At w g F e) :
    Calls Try.prog 22 #[.pointer (some ⟨g, 0, none⟩), .string (Mem.str s)] w fun r w' => r = .returned (.tuple #[.slice none 0 0, .int .i64 0]) ∧ Lnk.At w' g F (Lnk.acked hd ack e) ∧ Mem.But F w w' := by
  have hget := frame_get s hs
  rw [hk] at hget
  simp only at hget
  have H := Lib.hid h
  have HA := Lib.hid ha
  clear h ha hk
  go_enter Try.func22, Try.ntmps22
  go_wp2_with (first
      | (go_at_call 34
         refine (hget _).mono ?_
         rintro r w1 ⟨rfl, hb1⟩
         have HB1 := Lib.hid hb1
         clear hb1)
      | (refine Mem.wpList_alloc (o := ⟨some 6, _, _, _, _, _⟩) rfl 84 rfl _ Lnk.zero_frame ?_
         intro w2 hn2
         have Hn2 := Lib.hid hn2
         clear hn2)
      | (refine Mem.wpList_store rfl 84 (.tmp 6) (.tmp 15) rfl w1.heap.size #[.int .i64 2, .int .i64 site, .int .i64 seq, .int .i64 ack, .string (Mem.str body)] rfl rfl 84 _ Hn2.out.row Lnk.size_frame rfl (Lnk.one_frame _ _ _ _ _) ?_
         intro w3 hp3
         have y := fun i => cell_of_row _ _ i _ _ _ hp3.row
         have hb3 := Lib.hid (Mem.then_ HB1.out (Hn2.out.below.trans (hp3.below (Nat.le_refl _))))
         have HP3 := Lib.hid hp3
         clear hp3)
      | (go_at_call 35
         go_loud (
         refine (link_asked g F e ⟨2, site, seq, ack, body⟩ hgot _ (H.out.below hb3.out)).mono ?_
         rw [HA.out]
         rintro r w4 ⟨rfl, hb4⟩
         have L4 := Lib.hid (H.out.below (Mem.then_ hb3.out hb4))
         have row4 := (hb4.block w1.heap.size (Array.getElem?_eq_some_iff.1 HP3.out.row).1).trans HP3.out.row
         have y4 := fun i => cell_of_row _ _ i _ _ _ row4
         have HB4 := Lib.hid (Mem.then_ hb3.out hb4)
         have ROW4 := Lib.hid row4
         clear hb4 row4 y))
      | (go_at_call 36
         go_loud (
         refine (link_acked law g F e ack hnow hx _ L4.out).mono ?_
         rintro r w5 ⟨rfl, ⟨out, b, l5⟩, hb5⟩
         have hq : ¬ F w1.heap.size := fun hf => by
           obtain ⟨_, _, h0⟩ := H.out
           have := h0.lt _ hf
           have := HB1.out.size
           omega
         have row5 := (hb5.block w1.heap.size (Array.getElem?_eq_some_iff.1 ROW4.out).1 hq).trans ROW4.out
         have y5 := fun i => cell_of_row _ _ i _ _ _ row5
         have k10 : w5.cell? ⟨g, 10, none⟩ = some (.bool e.owed) := (cell_of_row _ _ 10 _ _ _ l5.row).trans rfl
         have f10 := frozen_of_row _ g 10 _ _ l5.row
         have L5 := Lib.hid l5
         have HB5 := Lib.hid ((Mem.But.of_below HB4.out).trans hb5)
         have ROW5 := Lib.hid row5
         have HQ := Lib.hid hq
         clear l5 hb5 hq row5 y4)))
  exact bodyPost_ret (results_tmp2 rfl _ _ _) rfl ⟨rfl, ⟨out, b, L5.out⟩, HB5.out⟩

set_option maxRecDepth 100000 in
set_option maxHeartbeats 1000000 in
/-- a body that came before -/
theorem take_twice {wt : Nat → Nat → Bool → Nat} {hd : Nat → Nat → Bool → Nat → Nat × Nat × Bool} (law : Lnk.Law wt hd) (g : Nat) (F : Nat → Prop) (e : Lnk.St) (s : List UInt8) (hs : s.length < 2 ^ 61) (hgot : e.got < 2199023255552) (hnow : e.now < 1099511627776) (hx : ∀ x ∈ e.out, x.sent < 1099511627776)
    (site ack : Int) (seq : Nat) (body : List UInt8) (hseq : seq < 2199023255552) (hcame : (e.early seq).isSome = true ∨ seq ≤ e.got) (hk : Frm.get s = (⟨1, site, seq, ack, body⟩, 0)) (ha : Lnk.asked e ⟨1, site, seq, ack, body⟩ = 0) (w : World) (h : Lnk.At w g F e) :
    Calls Try.prog 22 #[.pointer (some ⟨g, 0, none⟩), .string (Mem.str s)] w fun r w' => r = .returned (.tuple #[.slice none 0 0, .int .i64 15]) ∧ Lnk.At w' g F { Lnk.acked hd ack e with owed := true } ∧ Mem.But F w w' := by
  have hget := frame_get s hs
  rw [hk] at hget
  simp only at hget
  have H := Lib.hid h
  have HA := Lib.hid ha
  clear h ha hk
  have hcc := Lib.hid hcame
  clear hcame
  go_enter Try.func22, Try.ntmps22
  go_wp2_with (first
      | (go_at_call 34
         refine (hget _).mono ?_
         rintro r w1 ⟨rfl, hb1⟩
         have HB1 := Lib.hid hb1
         clear hb1)
      | (refine Mem.wpList_alloc (o := ⟨some 6, _, _, _, _, _⟩) rfl 84 rfl _ Lnk.zero_frame ?_
         intro w2 hn2
         have Hn2 := Lib.hid hn2
         clear hn2)
      | (refine Mem.wpList_store rfl 84 (.tmp 6) (.tmp 15) rfl w1.heap.size #[.int .i64 1, .int .i64 site, .int .i64 seq, .int .i64 ack, .string (Mem.str body)] rfl rfl 84 _ Hn2.out.row Lnk.size_frame rfl (Lnk.one_frame _ _ _ _ _) ?_
         intro w3 hp3
         have y := fun i => cell_of_row _ _ i _ _ _ hp3.row
         have hb3 := Lib.hid (Mem.then_ HB1.out (Hn2.out.below.trans (hp3.below (Nat.le_refl _))))
         have HP3 := Lib.hid hp3
         clear hp3)
      | (go_at_call 35
         go_loud (
         refine (link_asked g F e ⟨1, site, seq, ack, body⟩ hgot _ (H.out.below hb3.out)).mono ?_
         rw [HA.out]
         rintro r w4 ⟨rfl, hb4⟩
         have L4 := Lib.hid (H.out.below (Mem.then_ hb3.out hb4))
         have row4 := (hb4.block w1.heap.size (Array.getElem?_eq_some_iff.1 HP3.out.row).1).trans HP3.out.row
         have y4 := fun i => cell_of_row _ _ i _ _ _ row4
         have HB4 := Lib.hid (Mem.then_ hb3.out hb4)
         have ROW4 := Lib.hid row4
         clear hb4 row4 y))
      | (go_at_call 36
         go_loud (
         refine (link_acked law g F e ack hnow hx _ L4.out).mono ?_
         rintro r w5 ⟨rfl, ⟨out, b, l5⟩, hb5⟩
         have hq : ¬ F w1.heap.size := fun hf => by
           obtain ⟨_, _, h0⟩ := H.out
           have := h0.lt _ hf
           have := HB1.out.size
           omega
         have row5 := (hb5.block w1.heap.size (Array.getElem?_eq_some_iff.1 ROW4.out).1 hq).trans ROW4.out
         have y5 := fun i => cell_of_row _ _ i _ _ _ row5
         have k10 : w5.cell? ⟨g, 10, none⟩ = some (.bool e.owed) := (cell_of_row _ _ 10 _ _ _ l5.row).trans rfl
         have f10 := frozen_of_row _ g 10 _ _ l5.row
         have L5 := Lib.hid l5
         have HB5 := Lib.hid ((Mem.But.of_below HB4.out).trans hb5)
         have ROW5 := Lib.hid row5
         have HQ := Lib.hid hq
         clear l5 hb5 hq row5 y4)))
  have l6 : Lnk.Lie (w5.setCell ⟨g, 10, none⟩ (.bool true)) g F { Lnk.acked hd ack e with owed := true } out b := L5.out.put { Lnk.acked hd ack e with owed := true } (Mem.put_setCell w5 g 10 (.bool true) _ _ L5.out.row) rfl rfl rfl
  have b6 := HB5.out.trans (Mem.But.of_setCell (⟨g, 10, none⟩ : Addr) (.bool true) L5.out.fg)
  have hqg : w1.heap.size ≠ g := fun e => HQ.out (e ▸ L5.out.fg)
  have row6 := (heap_setCell_other w5 (⟨g, 10, none⟩ : Addr) _ (.bool true) hqg).trans ROW5.out
  clear k10 f10 y5
  generalize w5.setCell ⟨g, 10, none⟩ (.bool true) = w6 at l6 b6 row6 ⊢
  have m6 : ∀ i : Mem.Later w6, i.w.cell? ⟨g, 6, none⟩ = some (.map (some b)) := fun i => i.cell ((cell_of_row _ _ 6 _ _ _ l6.row).trans rfl)
  have m2 : ∀ i : Mem.Later w6, i.w.cell? ⟨w1.heap.size, 2, none⟩ = some (.int .i64 seq) := fun i => i.cell ((cell_of_row _ _ 2 _ _ _ row6).trans rfl)
  have ml : ∀ i : Mem.Later w6, (Instr.lookup 74 (.map (some b)) (.int .i64 (seq : Int)) true).run Try.prog i.w = .ok (.tuple #[.string (Mem.str ((e.early seq).getD [])), .bool (e.early seq).isSome]) i.w :=
    fun i => Lnk.mp_look (Lnk.mp_keep (E := e.early) l6.map (i.h.block b (Lnk.mp_lt l6.map))) seq (by omega)
  have L6 := Lib.hid l6
  have B6 := Lib.hid b6
  have ROW6 := Lib.hid row6
  clear l6 b6 row6 hqg
  cases hcm : (e.early seq).isSome with
  | true =>
    rw [hcm] at ml
    refine Mem.wp_region_later (by kernel_rfl) (by kernel_rfl) ?_
    repeat (go_big_quiet_step (fail))
    refine wpQuiet_nil ?_
    intro w7 hw7
    obtain ⟨i7, hi7⟩ := hw7
    have h7 : Below w6.heap.size w6 w7 := hi7 ▸ i7.h
    clear hi7 i7 m6 m2 ml
    have L7 := Lib.hid (L6.out.below h7)
    have B7 := Lib.hid (B6.out.trans (Mem.But.of_below h7))
    have row7 := (h7.block w1.heap.size (Array.getElem?_eq_some_iff.1 ROW6.out).1).trans ROW6.out
    have n2 : ∀ i : Mem.Later w7, i.w.cell? ⟨w1.heap.size, 2, none⟩ = some (.int .i64 seq) := fun i => i.cell ((cell_of_row _ _ 2 _ _ _ row7).trans rfl)
    have n5 : ∀ i : Mem.Later w7, i.w.cell? ⟨g, 5, none⟩ = some (.int .i64 e.got) := fun i => i.cell ((cell_of_row _ _ 5 _ _ _ L7.out.row).trans rfl)
    have ROW7 := Lib.hid row7
    clear h7 row7
    go_wp2
    refine Mem.wp_region_later (by kernel_rfl) (by kernel_rfl) ?_
    repeat (go_big_quiet_step (fail))
    refine wpQuiet_nil ?_
    intro w8 hw8
    obtain ⟨i8, hi8⟩ := hw8
    have h8 : Below w7.heap.size w7 w8 := hi8 ▸ i8.h
    clear hi8 i8 n2 n5
    have L8 := Lib.hid (L7.out.below h8)
    have B8 := Lib.hid (B7.out.trans (Mem.But.of_below h8))
    have row8 := (h8.block w1.heap.size (Array.getElem?_eq_some_iff.1 ROW7.out).1).trans ROW7.out
    have ROW8 := Lib.hid row8
    clear h8 row8
    go_wp2
    exact bodyPost_ret (results_tmp2 rfl _ _ _) rfl ⟨rfl, ⟨out, b, L8.out⟩, B8.out⟩
  | false =>
    rw [hcm] at ml
    have hle : seq ≤ e.got := by
      rcases hcc.out with h | h
      · rw [hcm] at h; cases h
      · exact h
    have hle2 : (seq : Int) ≤ e.got := by omega
    refine Mem.wp_region_later (by kernel_rfl) (by kernel_rfl) ?_
    repeat (go_big_quiet_step (fail))
    refine wpQuiet_nil ?_
    intro w7 hw7
    obtain ⟨i7, hi7⟩ := hw7
    have h7 : Below w6.heap.size w6 w7 := hi7 ▸ i7.h
    clear hi7 i7 m6 m2 ml
    have L7 := Lib.hid (L6.out.below h7)
    have B7 := Lib.hid (B6.out.trans (Mem.But.of_below h7))
    have row7 := (h7.block w1.heap.size (Array.getElem?_eq_some_iff.1 ROW6.out).1).trans ROW6.out
    have n2 : ∀ i : Mem.Later w7, i.w.cell? ⟨w1.heap.size, 2, none⟩ = some (.int .i64 seq) := fun i => i.cell ((cell_of_row _ _ 2 _ _ _ row7).trans rfl)
    have n5 : ∀ i : Mem.Later w7, i.w.cell? ⟨g, 5, none⟩ = some (.int .i64 e.got) := fun i => i.cell ((cell_of_row _ _ 5 _ _ _ L7.out.row).trans rfl)
    have ROW7 := Lib.hid row7
    clear h7 row7
    go_wp2
    refine Mem.wp_region_later (by kernel_rfl) (by kernel_rfl) ?_
    repeat (go_big_quiet_step (fail))
    refine wpQuiet_nil ?_
    intro w8 hw8
    obtain ⟨i8, hi8⟩ := hw8
    have h8 : Below w7.heap.size w7 w8 := hi8 ▸ i8.h
    clear hi8 i8 n2 n5
    have L8 := Lib.hid (L7.out.below h8)
    have B8 := Lib.hid (B7.out.trans (Mem.But.of_below h8))
    have row8 := (h8.block w1.heap.size (Array.getElem?_eq_some_iff.1 ROW7.out).1).trans ROW7.out
    have ROW8 := Lib.hid row8
    clear h8 row8
    go_wp2
    exact bodyPost_ret (results_tmp2 rfl _ _ _) rfl ⟨rfl, ⟨out, b, L8.out⟩, B8.out⟩
set_option maxRecDepth 100000 in
set_option maxHeartbeats 1000000 in
/-- a new body -/
theorem take_new {wt : Nat → Nat → Bool → Nat} {hd : Nat → Nat → Bool → Nat → Nat × Nat × Bool} (law : Lnk.Law wt hd) (g : Nat) (F : Nat → Prop) (e : Lnk.St) (s : List UInt8) (hs : s.length < 2 ^ 61) (hgot : e.got < 2199023255552) (hnow : e.now < 1099511627776) (hx : ∀ x ∈ e.out, x.sent < 1099511627776)
    (site ack : Int) (seq : Nat) (body : List UInt8) (hseq : seq < 2199023255552) (hcame : (e.early seq).isSome = false ∧ e.got < seq ∧ seq ≤ e.got + 8) (hbody : body.length ≤ 1048576) (hroom : e.room < 1099511627776) (hE : ∀ k, e.got + 9 ≤ k → e.early k = none) (hk : Frm.get s = (⟨1, site, seq, ack, body⟩, 0)) (ha : Lnk.asked e ⟨1, site, seq, ack, body⟩ = 0) (w : World) (h : Lnk.At w g F e) :
    Calls Try.prog 22 #[.pointer (some ⟨g, 0, none⟩), .string (Mem.str s)] w fun r w' => ∃ v, r = .returned (.tuple #[v, .int .i64 0]) ∧
      Lnk.At w' g F (Lnk.told (e.got + 9) { Lnk.acked hd ack e with owed := true, early := Lnk.upd e.early seq (some body), room := e.room + 1 }).1 ∧
      Mem.Row w' w.heap.size 9 1 v (Lnk.told (e.got + 9) { Lnk.acked hd ack e with owed := true, early := Lnk.upd e.early seq (some body), room := e.room + 1 }).2.length (Lnk.strs (Lnk.told (e.got + 9) { Lnk.acked hd ack e with owed := true, early := Lnk.upd e.early seq (some body), room := e.room + 1 }).2) ∧ Mem.But F w w' := by
  have hget := frame_get s hs
  rw [hk] at hget
  simp only at hget
  have H := Lib.hid h
  have HA := Lib.hid ha
  clear h ha hk
  have hcc := Lib.hid hcame
  have HE := Lib.hid hE
  clear hcame hE
  go_enter Try.func22, Try.ntmps22
  go_wp2_with (first
      | (go_at_call 34
         refine (hget _).mono ?_
         rintro r w1 ⟨rfl, hb1⟩
         have HB1 := Lib.hid hb1
         clear hb1)
      | (refine Mem.wpList_alloc (o := ⟨some 6, _, _, _, _, _⟩) rfl 84 rfl _ Lnk.zero_frame ?_
         intro w2 hn2
         have Hn2 := Lib.hid hn2
         clear hn2)
      | (refine Mem.wpList_store rfl 84 (.tmp 6) (.tmp 15) rfl w1.heap.size #[.int .i64 1, .int .i64 site, .int .i64 seq, .int .i64 ack, .string (Mem.str body)] rfl rfl 84 _ Hn2.out.row Lnk.size_frame rfl (Lnk.one_frame _ _ _ _ _) ?_
         intro w3 hp3
         have y := fun i => cell_of_row _ _ i _ _ _ hp3.row
         have hb3 := Lib.hid (Mem.then_ HB1.out (Hn2.out.below.trans (hp3.below (Nat.le_refl _))))
         have HP3 := Lib.hid hp3
         clear hp3)
      | (go_at_call 35
         go_loud (
         refine (link_asked g F e ⟨1, site, seq, ack, body⟩ hgot _ (H.out.below hb3.out)).mono ?_
         rw [HA.out]
         rintro r w4 ⟨rfl, hb4⟩
         have L4 := Lib.hid (H.out.below (Mem.then_ hb3.out hb4))
         have row4 := (hb4.block w1.heap.size (Array.getElem?_eq_some_iff.1 HP3.out.row).1).trans HP3.out.row
         have y4 := fun i => cell_of_row _ _ i _ _ _ row4
         have HB4 := Lib.hid (Mem.then_ hb3.out hb4)
         have ROW4 := Lib.hid row4
         clear hb4 row4 y))
      | (go_at_call 36
         go_loud (
         refine (link_acked law g F e ack hnow hx _ L4.out).mono ?_
         rintro r w5 ⟨rfl, ⟨out, b, l5⟩, hb5⟩
         have hq : ¬ F w1.heap.size := fun hf => by
           obtain ⟨_, _, h0⟩ := H.out
           have := h0.lt _ hf
           have := HB1.out.size
           omega
         have row5 := (hb5.block w1.heap.size (Array.getElem?_eq_some_iff.1 ROW4.out).1 hq).trans ROW4.out
         have y5 := fun i => cell_of_row _ _ i _ _ _ row5
         have k10 : w5.cell? ⟨g, 10, none⟩ = some (.bool e.owed) := (cell_of_row _ _ 10 _ _ _ l5.row).trans rfl
         have f10 := frozen_of_row _ g 10 _ _ l5.row
         have L5 := Lib.hid l5
         have HB5 := Lib.hid ((Mem.But.of_below HB4.out).trans hb5)
         have ROW5 := Lib.hid row5
         have HQ := Lib.hid hq
         clear l5 hb5 hq row5 y4)))
  have l6 : Lnk.Lie (w5.setCell ⟨g, 10, none⟩ (.bool true)) g F { Lnk.acked hd ack e with owed := true } out b := L5.out.put { Lnk.acked hd ack e with owed := true } (Mem.put_setCell w5 g 10 (.bool true) _ _ L5.out.row) rfl rfl rfl
  have b6 := HB5.out.trans (Mem.But.of_setCell (⟨g, 10, none⟩ : Addr) (.bool true) L5.out.fg)
  have hqg : w1.heap.size ≠ g := fun e => HQ.out (e ▸ L5.out.fg)
  have row6 := (heap_setCell_other w5 (⟨g, 10, none⟩ : Addr) _ (.bool true) hqg).trans ROW5.out
  clear k10 f10 y5
  generalize w5.setCell ⟨g, 10, none⟩ (.bool true) = w6 at l6 b6 row6 ⊢
  have m6 : ∀ i : Mem.Later w6, i.w.cell? ⟨g, 6, none⟩ = some (.map (some b)) := fun i => i.cell ((cell_of_row _ _ 6 _ _ _ l6.row).trans rfl)
  have m2 : ∀ i : Mem.Later w6, i.w.cell? ⟨w1.heap.size, 2, none⟩ = some (.int .i64 seq) := fun i => i.cell ((cell_of_row _ _ 2 _ _ _ row6).trans rfl)
  have ml : ∀ i : Mem.Later w6, (Instr.lookup 74 (.map (some b)) (.int .i64 (seq : Int)) true).run Try.prog i.w = .ok (.tuple #[.string (Mem.str ((e.early seq).getD [])), .bool (e.early seq).isSome]) i.w :=
    fun i => Lnk.mp_look (Lnk.mp_keep (E := e.early) l6.map (i.h.block b (Lnk.mp_lt l6.map))) seq (by omega)
  have L6 := Lib.hid l6
  have B6 := Lib.hid b6
  have ROW6 := Lib.hid row6
  clear l6 b6 row6 hqg
  have hcm := hcc.out.1
  rw [hcm] at ml
  have hle : ¬ (seq : Int) ≤ e.got := by have := hcc.out.2.1; omega
  have hle2 : decide ((seq : Int) ≤ e.got) = false := decide_eq_false hle
  have hle3 : ¬ seq ≤ e.got := by have := hcc.out.2.1; omega
  refine Mem.wp_region_later (by kernel_rfl) (by kernel_rfl) ?_
  repeat (go_big_quiet_step (fail))
  refine wpQuiet_nil ?_
  intro w7 hw7
  obtain ⟨i7, hi7⟩ := hw7
  have h7 : Below w6.heap.size w6 w7 := hi7 ▸ i7.h
  clear hi7 i7 m6 m2 ml
  have L7 := Lib.hid (L6.out.below h7)
  have B7 := Lib.hid (B6.out.trans (Mem.But.of_below h7))
  have row7 := (h7.block w1.heap.size (Array.getElem?_eq_some_iff.1 ROW6.out).1).trans ROW6.out
  have n2 : ∀ i : Mem.Later w7, i.w.cell? ⟨w1.heap.size, 2, none⟩ = some (.int .i64 seq) := fun i => i.cell ((cell_of_row _ _ 2 _ _ _ row7).trans rfl)
  have n5 : ∀ i : Mem.Later w7, i.w.cell? ⟨g, 5, none⟩ = some (.int .i64 e.got) := fun i => i.cell ((cell_of_row _ _ 5 _ _ _ L7.out.row).trans rfl)
  have ROW7 := Lib.hid row7
  clear h7 row7
  go_wp2
  refine Mem.wp_region_later (by kernel_rfl) (by kernel_rfl) ?_
  repeat (go_big_quiet_step (fail))
  refine wpQuiet_nil ?_
  intro w8 hw8
  obtain ⟨i8, hi8⟩ := hw8
  have h8 : Below w7.heap.size w7 w8 := hi8 ▸ i8.h
  clear hi8 i8 n2 n5
  have L8 := Lib.hid (L7.out.below h8)
  have B8 := Lib.hid (B7.out.trans (Mem.But.of_below h8))
  have row8 := (h8.block w1.heap.size (Array.getElem?_eq_some_iff.1 ROW7.out).1).trans ROW7.out
  have ROW8 := Lib.hid row8
  clear h8 row8
  go_wp2
  have m6 : ∀ i : Mem.Later w8, i.w.cell? ⟨g, 6, none⟩ = some (.map (some b)) := fun i => i.cell ((cell_of_row _ _ 6 _ _ _ L8.out.row).trans rfl)
  have m2 : ∀ i : Mem.Later w8, i.w.cell? ⟨w1.heap.size, 2, none⟩ = some (.int .i64 seq) := fun i => i.cell ((cell_of_row _ _ 2 _ _ _ ROW8.out).trans rfl)
  have m4 : ∀ i : Mem.Later w8, i.w.cell? ⟨w1.heap.size, 4, none⟩ = some (.string (Mem.str body)) := fun i => i.cell ((cell_of_row _ _ 4 _ _ _ ROW8.out).trans rfl)
  refine Mem.wp_region_later_tail 8 (by kernel_rfl) (by kernel_rfl) ?_
  simp only [List.take_succ_cons, List.take_zero, List.drop_succ_cons, List.drop_zero]
  repeat (go_big_quiet_step (fail))
  refine wpQuiet_nil ?_
  intro w9 hw9
  obtain ⟨i9, hi9⟩ := hw9
  have h9 : Below w8.heap.size w8 w9 := hi9 ▸ i9.h
  clear hi9 i9 m6 m2 m4
  have L9 := Lib.hid (L8.out.below h9)
  have B9 := Lib.hid (B8.out.trans (Mem.But.of_below h9))
  clear h9
  refine Lnk.wpList_keep rfl _ _ _ rfl b e.room e.early L9.out.map (by unfold maxLen; omega) rfl seq (by omega) rfl body (by unfold maxLen; omega) rfl ?_
  intro w10 hm10 hg10
  have l10 : Lnk.Lie w10 g F { Lnk.acked hd ack e with owed := true, early := Lnk.upd e.early seq (some body), room := e.room + 1 } out b := L9.out.turned hm10 hg10
  have L10 := Lib.hid l10
  have B10 := Lib.hid (B9.out.trans (Lnk.But_grown hg10 L9.out.fb))
  clear hm10 hg10 l10
  have hE2 : ∀ k, e.got + 9 ≤ k → Lnk.upd e.early seq (some body) k = none := fun k hk => by
    unfold Lnk.upd
    rw [if_neg (by have := hcc.out.2.2; omega)]
    exact HE.out k hk
  go_wp2_with (go_at_call 37; go_loud (
    refine (link_told g F { Lnk.acked hd ack e with owed := true, early := Lnk.upd e.early seq (some body), room := e.room + 1 } (e.got + 9) (by omega) hE2 (by show e.got ≤ e.got + 9; omega) _ ⟨out, b, L10.out⟩).mono ?_
    rintro r w11 ⟨v, rfl, hat, hrow, hb11⟩))
  exact bodyPost_ret (results_tmp2 rfl _ _ _) rfl ⟨v, rfl, hat, hrow.mono B10.out.size, B10.out.trans hb11⟩
end Go.Proofs.Ytgkadhogfejheaa
