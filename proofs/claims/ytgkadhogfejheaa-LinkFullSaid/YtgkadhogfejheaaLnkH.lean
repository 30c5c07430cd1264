/- The walk of an end's acked. -/
import Derived.Test.YtgkadhogfejheaaLnkG
namespace Go.Proofs.Ytgkadhogfejheaa
open Go.RowKit

namespace Mem
theorem Row.tail {w : World} {base size n cap p off : Nat} {e : TypeId} {xs : List Value} (h : Row w base e size (.slice (some ⟨p, off, none⟩) (n + 1) cap) (n + 1) xs) :
    Row w base e size (.slice (some ⟨p, off + size, none⟩) n (cap - 1)) n (xs.drop size) := by
  refine ⟨by rw [List.length_drop, h.1, Nat.add_mul]; omega, ?_⟩
  rcases h.2 with ⟨h0, _⟩ | ⟨b, off', cap', cur, h0, h1, h2, h3, h4, h5, h6⟩
  · cases h0
  · cases h0
    refine .inr ⟨p, off + size, cap - 1, cur, rfl, h1, h2, by omega, by omega, ?_, fun j u hj => ?_⟩
    · have : cap * size = (cap - 1) * size + size := by
        conv => lhs; rw [show cap = cap - 1 + 1 by omega, Nat.add_mul, Nat.one_mul]
      omega
    · rw [List.getElem?_drop] at hj
      have := h6 _ u hj
      rwa [← Nat.add_assoc] at this
theorem Row.tail_if {w : World} {base size n cap p off : Nat} {e : TypeId} {xs : List Value} (h : Row w base e size (.slice (some ⟨p, off, none⟩) (n + 1) cap) (n + 1) xs) :
    Row w base e size (.slice (if cap = 1 then some ⟨p, off, none⟩ else some ⟨p, off + size, none⟩) n (cap - 1)) n (xs.drop size) := by
  split
  · rename_i hc
    subst hc
    rcases h.2 with ⟨h0, _⟩ | ⟨b, off', cap', cur, h0, h1, h2, h3, h4, h5, h6⟩
    · cases h0
    · cases h0
      have hn : n = 0 := by omega
      subst hn
      refine ⟨by rw [List.length_drop, h.1]; simp, .inr ⟨p, off, 0, cur, rfl, h1, h2, Nat.le_refl _, by unfold maxLen; omega, by omega, fun j u hj => ?_⟩⟩
      rw [List.drop_of_length_le (by rw [h.1]; simp)] at hj
      cases hj
  · exact h.tail
end Mem
namespace Lnk
/-- how long a pace waits, and what it hears -/
structure Law (wt : Nat → Nat → Bool → Nat) (hd : Nat → Nat → Bool → Nat → Nat × Nat × Bool) : Prop where
  wait : ∀ m d s, (2 ≤ wt m d s ∧ wt m d s ≤ 64) ∧ WaitIs m d s (wt m d s)
  heard : ∀ m d s t w, Calls Try.prog 56 #[.agg #[.float .f64 m, .float .f64 d, .bool s], .float .f64 t] w fun e w' => e = .returned (.agg #[.float .f64 (hd m d s t).1, .float .f64 (hd m d s t).2.1, .bool (hd m d s t).2.2]) ∧ Below w.heap.size w w'
def ackGo (hd : Nat → Nat → Bool → Nat → Nat × Nat × Bool) (now : Nat) (n : Int) : List Wt → Nat × Nat × Bool → List Wt × (Nat × Nat × Bool)
  | [], p => ([], p)
  | x :: l, p => if (x.seq : Int) ≤ n then ackGo hd now n l (if x.tries = 1 then hd p.1 p.2.1 p.2.2 (floatOfInt .f64 ((now : Int) - x.sent)) else p) else (x :: l, p)
def acked (hd : Nat → Nat → Bool → Nat → Nat × Nat × Bool) (n : Int) (e : St) : St :=
  let r := ackGo hd e.now n e.out (e.mean, e.dev, e.any)
  { e with out := r.1, mean := r.2.1, dev := r.2.2.1, any := r.2.2.2 }
def lenOf (w : World) (g : Nat) : Nat := match w.cell? ⟨g, 2, none⟩ with
  | some (.slice _ n _) => n
  | _ => 0
/-- an end behind a part of the acknowledging -/
def less (e : St) (l : List Wt) (p : Nat × Nat × Bool) : St := { e with out := l, mean := p.1, dev := p.2.1, any := p.2.2 }
theorem zero_wt : (Try.prog.info? 80).bind (·.zero) = some (.agg #[.int .i64 0, .int .i64 0, .int .i64 0, .string ⟨#[]⟩]) := by kernel_rfl
theorem size_wt : (Try.prog.info? 80).map (·.size) = some 4 := by kernel_rfl
theorem one_wt (a b c : Int) (s : ByteArray) : (#[Value.int .i64 a, .int .i64 b, .int .i64 c, .string s]).all (·.oneCell') = true := by simp [Value.oneCell']
def cut (p off n cap : Nat) : Value := .slice (if cap = 1 then some ⟨p, off, none⟩ else some ⟨p, off + 4, none⟩) n (cap - 1)
theorem cut_block (p off n cap : Nat) : (cut p off n cap).ownBlock = some p := by unfold cut; split <;> rfl
theorem Lie.cut {w : World} {g b p off cap : Nat} {F : Nat → Prop} {e : St} {x : Wt} {l : List Wt} {q : Nat × Nat × Bool} (h : Lie w g F (less e (x :: l) q) (.slice (some ⟨p, off, none⟩) (l.length + 1) cap) b) :
    Lie (w.setCell ⟨g, 2, none⟩ (cut p off l.length cap)) g F (less e l q) (cut p off l.length cap) b := by
  have hp := Mem.put_setCell w g 2 (Lnk.cut p off l.length cap) _ _ h.row
  have hpg : p ≠ g := fun e => h.og (by simp [Value.ownBlock, e])
  have h0 : Mem.Row w 0 80 4 (Lnk.cut p off l.length cap) l.length ((flat (x :: l)).drop 4) := Mem.Row.tail_if h.own
  exact
    { row := hp.row
      own := by
        have : (flat (x :: l)).drop 4 = flat l := rfl
        rw [this] at h0
        exact h0.keep fun k _ ho => hp.other k fun e => hpg (by rw [cut_block] at ho; injection ho with ho; omega)
      map := mp_keep h.map (hp.other b (Ne.symm h.gb))
      gb := h.gb
      og := by rw [cut_block]; intro e; injection e with e; exact hpg e
      ob := by rw [cut_block]; exact h.ob
      fg := h.fg
      fb := h.fb
      fo := fun k hk => by rw [cut_block] at hk; exact h.fo k hk
      lt := fun k hk => by rw [hp.size]; exact h.lt k hk }
theorem lenOf_at {w : World} {g b : Nat} {F : Nat → Prop} {e : St} {p off n cap : Nat} (h : Lie w g F e (cut p off n cap) b) : lenOf w g = n := by
  unfold lenOf
  rw [show w.cell? ⟨g, 2, none⟩ = some (cut p off n cap) from (cell_of_row _ _ 2 _ _ _ h.row).trans rfl]
  rfl
end Lnk

set_option maxRecDepth 100000 in
set_option maxHeartbeats 1000000 in
theorem link_acked {wt : Nat → Nat → Bool → Nat} {hd : Nat → Nat → Bool → Nat → Nat × Nat × Bool} (law : Lnk.Law wt hd) (g : Nat) (F : Nat → Prop) (e : Lnk.St) (n : Int) (hnow : e.now < 1099511627776) (hx : ∀ x ∈ e.out, x.sent < 1099511627776) (w : World) (h : Lnk.At w g F e) :
    Calls Try.prog 36 #[.pointer (some ⟨g, 0, none⟩), .int .i64 n] w fun r w' => r = .returned (.tuple #[]) ∧ Lnk.At w' g F (Lnk.acked hd n e) ∧ Mem.But F w w' := by
  obtain ⟨out, b, h⟩ := h
  obtain ⟨R, hR⟩ : ∃ R, Lnk.ackGo hd e.now n e.out (e.mean, e.dev, e.any) = R := ⟨_, rfl⟩
  have hT : Lnk.acked hd n e = Lnk.less e R.1 R.2 := by unfold Lnk.acked Lnk.less; rw [hR]
  rw [hT]
  clear hT
  have H := Lib.hid h
  have HR := Lib.hid hR
  have HX := Lib.hid hx
  clear h hR hx
  go_enter Try.func36, Try.ntmps36
  go_wp2
  go_loopw [4] (fun _ wr => ∃ (l : List Lnk.Wt) (p : Nat × Nat × Bool) (o : Value), (∀ x ∈ l, x.sent < 1099511627776) ∧ Lnk.ackGo hd e.now n l p = R ∧ (∀ k, o.ownBlock = some k → F k ∧ k ≠ g) ∧
    Lnk.Lie wr g F (Lnk.less e l p) o b ∧ Mem.But F w wr) (fun _ wr => Lnk.lenOf wr g)
  case atStart => exact ⟨e.out, (e.mean, e.dev, e.any), out, HX.out, HR.out, fun k hk => ⟨H.out.fo k hk, fun e => H.out.og (e ▸ hk)⟩, H.out, Mem.But.refl _ _⟩
  case round =>
    obtain ⟨l, ⟨m, d, s⟩, o, hx, hgo, hok, hl, hb⟩ := hrel
    obtain ⟨A, cap, rfl, hc1, hc2⟩ := hl.own.form
    have hlen : Lnk.lenOf wr g = l.length := by
      unfold Lnk.lenOf
      rw [show wr.cell? ⟨g, 2, none⟩ = some (.slice A l.length cap) from (cell_of_row _ _ 2 _ _ _ hl.row).trans rfl]
    have c2 : wr.cell? ⟨g, 2, none⟩ = some (.slice A l.length cap) := (cell_of_row _ _ 2 _ _ _ hl.row).trans rfl
    cases l with
    | nil =>
      simp only [Lnk.ackGo] at hgo
      subst hgo
      simp only [List.length_nil] at c2
      have HL := Lib.hid hl
      have HB := Lib.hid hb
      clear hl hb
      go_wp2
      refine bodyPost_end (results_none rfl _ _ _) rfl ?_
      exact ⟨rfl, ⟨_, _, HL.out⟩, HB.out⟩
    | cons x l =>
      obtain ⟨p, off, rfl⟩ : ∃ p off, A = some ⟨p, off, none⟩ := by
        rcases hl.own.2 with ⟨e1, _⟩ | ⟨p, off, _, _, e1, _⟩
        · injection e1 with _ e2
          cases e2
        · injection e1 with e2
          exact ⟨p, off, e2⟩
      have x0 : wr.cell? ⟨p, off, none⟩ = some (.int .i64 x.seq) := by simpa using hl.bodyCell (k := 0) (x := x) rfl (j := 0) rfl
      simp only [List.length_cons] at c2
      have n0 : (0 : Int) < ((l.length + 1 : Nat) : Int) := by omega
      have n1 : 0 < l.length + 1 := by omega
      by_cases hle : (x.seq : Int) ≤ n
      · have x1 : wr.cell? ⟨p, off + 1, none⟩ = some (.int .i64 x.tries) := by simpa using hl.bodyCell (k := 0) (x := x) rfl (j := 1) rfl
        have x2 : wr.cell? ⟨p, off + 2, none⟩ = some (.int .i64 x.sent) := by simpa using hl.bodyCell (k := 0) (x := x) rfl (j := 2) rfl
        have x3 : wr.cell? ⟨p, off + 3, none⟩ = some (.string (Mem.str x.body)) := by simpa using hl.bodyCell (k := 0) (x := x) rfl (j := 3) rfl
        have hgo2 : Lnk.ackGo hd e.now n l (if x.tries = 1 then hd m d s (floatOfInt .f64 ((e.now : Int) - x.sent)) else (m, d, s)) = R := by rw [← hgo]; conv => rhs; unfold Lnk.ackGo; rw [if_pos hle]
        have hxs := hx x (by simp)
        have hxl : ∀ y ∈ l, y.sent < 1099511627776 := fun y hy => hx y (by simp [hy])
        have HGO := Lib.hid hgo2
        have HXL := Lib.hid hxl
        have HL := Lib.hid hl
        have HB := Lib.hid hb
        have HOK := Lib.hid hok
        have HLEN := Lib.hid hlen
        have hlt : wr.heap.size ≤ wr.heap.size := Nat.le_refl _
        clear hgo hgo2 hx hxl hl hb hok hlen
        obtain ⟨seq, tries, sent, body⟩ := x
        simp only at x0 x1 x2 x3 hle hxs
        have htr : tries = 1 ∨ ((tries : Int) == 1) = false ∧ tries ≠ 1 := by
          rcases Nat.decEq tries 1 with h | h
          · exact .inr ⟨by simp; omega, h⟩
          · exact .inl h
        rcases htr with rfl | ⟨ht, ht2⟩
        · have hwn : wrap64 ((e.now : Int) - sent) = (e.now : Int) - sent := by unfold wrap64; omega
          have hgo3 : Lnk.ackGo hd e.now n l (hd m d s (floatOfInt .f64 ((e.now : Int) - sent))) = R := by have := HGO.out; simpa using this
          have HGO3 := Lib.hid hgo3
          clear hgo3 HGO
          go_wp2_with (first
            | (refine Mem.wpList_alloc (o := ⟨some 4, _, _, _, _, _⟩) rfl 80 rfl _ Lnk.zero_wt ?_
               intro w1 hn1
               have Hn1 := Lib.hid hn1
               clear hn1)
            | (refine Mem.wpList_store rfl 80 (.tmp 4) (.tmp 27) rfl wr.heap.size #[.int .i64 seq, .int .i64 ((1 : Nat) : Int), .int .i64 sent, .string (Mem.str body)] rfl rfl 80 _ Hn1.out.row Lnk.size_wt rfl (Lnk.one_wt _ _ _ _) ?_
               intro w2 hp2
               have y1 : w2.cell? ⟨wr.heap.size, 1, none⟩ = some (.int .i64 ((1 : Nat) : Int)) := (cell_of_row _ _ 1 _ _ _ hp2.row).trans rfl
               have L2 := Lib.hid ((HL.out.below Hn1.out.below).keep (Mem.But.of_put (S := (· = wr.heap.size)) hp2 rfl) (fun k hk e => by have := HL.out.lt k hk; have e2 : k = wr.heap.size := e; omega))
               have B2 := Lib.hid ((HB.out.trans (Mem.But.of_new Hn1.out)).later (T := (· = wr.heap.size)) (Mem.But.of_put hp2 rfl) (fun i hi e => by have := HB.out.size; have e2 : i = wr.heap.size := e; omega))
               have HP2 := Lib.hid hp2
               clear hp2))
          have m7 : ∀ i : Mem.Later w2, i.w.cell? ⟨g, 7, none⟩ = some (.float .f64 m) := fun i => i.cell ((cell_of_row _ _ 7 _ _ _ L2.out.row).trans rfl)
          have m8 : ∀ i : Mem.Later w2, i.w.cell? ⟨g, 8, none⟩ = some (.float .f64 d) := fun i => i.cell ((cell_of_row _ _ 8 _ _ _ L2.out.row).trans rfl)
          have m9 : ∀ i : Mem.Later w2, i.w.cell? ⟨g, 9, none⟩ = some (.bool s) := fun i => i.cell ((cell_of_row _ _ 9 _ _ _ L2.out.row).trans rfl)
          have m1 : ∀ i : Mem.Later w2, i.w.cell? ⟨g, 1, none⟩ = some (.int .i64 e.now) := fun i => i.cell ((cell_of_row _ _ 1 _ _ _ L2.out.row).trans rfl)
          have z2 : ∀ i : Mem.Later w2, i.w.cell? ⟨wr.heap.size, 2, none⟩ = some (.int .i64 sent) := fun i => i.cell ((cell_of_row _ _ 2 _ _ _ HP2.out.row).trans rfl)
          have hheard := law.heard m d s (floatOfInt .f64 ((e.now : Int) - sent))
          clear x0 x1 x2 x3 c2 y1
          refine Mem.wp_region_later_tail 16 (by kernel_rfl) (by kernel_rfl) ?_
          simp only [List.take_succ_cons, List.take_zero, List.drop_succ_cons, List.drop_zero]
          repeat (go_big_quiet_step ((go_at_call 56; exact Mem.later_call (hheard _))))
          refine wpQuiet_nil ?_
          intro w3 hw3
          obtain ⟨i3, hi3⟩ := hw3
          have h3 : Below w2.heap.size w2 w3 := hi3 ▸ i3.h
          clear hi3 i3 m7 m8 m9 m1 z2 hheard
          have l3 : Lnk.Lie w3 g F (Lnk.less e (⟨seq, 1, sent, body⟩ :: l) (m, d, s)) (.slice (some ⟨p, off, none⟩) (l.length + 1) cap) b := L2.out.below h3
          have L3 := Lib.hid l3
          have B3 := Lib.hid (B2.out.trans (Mem.But.of_below h3))
          have k7 : w3.cell? ⟨g, 7, none⟩ = some (.float .f64 m) := (cell_of_row _ _ 7 _ _ _ l3.row).trans rfl
          have k8 : w3.cell? ⟨g, 8, none⟩ = some (.float .f64 d) := (cell_of_row _ _ 8 _ _ _ l3.row).trans rfl
          have k9 : w3.cell? ⟨g, 9, none⟩ = some (.bool s) := (cell_of_row _ _ 9 _ _ _ l3.row).trans rfl
          have k2 : w3.cell? ⟨g, 2, none⟩ = some (.slice (some ⟨p, off, none⟩) (l.length + 1) cap) := (cell_of_row _ _ 2 _ _ _ l3.row).trans rfl
          have ff := fun i => frozen_of_row _ g i _ _ l3.row
          obtain ⟨⟨X, Y, Z⟩, hXYZ⟩ : ∃ q, hd m d s (floatOfInt .f64 ((e.now : Int) - sent)) = q := ⟨_, rfl⟩
          have HXYZ := Lib.hid hXYZ
          rw [hXYZ]
          clear h3 l3 hXYZ
          have hst := Pac.run_store_float
          go_wp2
          have t7 := L3.out.put (Lnk.less e (⟨seq, 1, sent, body⟩ :: l) (X, d, s)) (Mem.put_setCell w3 g 7 (.float .f64 X) _ _ L3.out.row) rfl rfl rfl
          have t8 := t7.put (Lnk.less e (⟨seq, 1, sent, body⟩ :: l) (X, Y, s)) (Mem.put_setCell _ g 8 (.float .f64 Y) _ _ t7.row) rfl rfl rfl
          have t9 := t8.put (Lnk.less e (⟨seq, 1, sent, body⟩ :: l) (X, Y, Z)) (Mem.put_setCell _ g 9 (.bool Z) _ _ t8.row) rfl rfl rfl
          have l4 := t9.cut
          have hgo4 := HGO3.out
          rw [HXYZ.out] at hgo4
          have hF := L3.out.fg
          refine ⟨⟨l, (X, Y, Z), Lnk.cut p off l.length cap, HXL.out, hgo4, fun k hk => ?_, l4, B3.out.trans ((Mem.But.of_setCell _ _ hF).trans ((Mem.But.of_setCell _ _ hF).trans ((Mem.But.of_setCell _ _ hF).trans (Mem.But.of_setCell _ _ hF))))⟩, ?_⟩
          · rw [Lnk.cut_block] at hk
            exact HOK.out k hk
          · have h5 := Lnk.lenOf_at l4
            unfold Lnk.cut at h5
            rw [h5, HLEN.out]
            exact Nat.lt_succ_self _
        · have hgo3 : Lnk.ackGo hd e.now n l (m, d, s) = R := by have := HGO.out; rwa [if_neg ht2] at this
          have HGO3 := Lib.hid hgo3
          clear hgo3 HGO
          go_wp2_with (first
            | (refine Mem.wpList_alloc (o := ⟨some 4, _, _, _, _, _⟩) rfl 80 rfl _ Lnk.zero_wt ?_
               intro w1 hn1
               have Hn1 := Lib.hid hn1
               clear hn1)
            | (refine Mem.wpList_store rfl 80 (.tmp 4) (.tmp 27) rfl wr.heap.size #[.int .i64 seq, .int .i64 tries, .int .i64 sent, .string (Mem.str body)] rfl rfl 80 _ Hn1.out.row Lnk.size_wt rfl (Lnk.one_wt _ _ _ _) ?_
               intro w2 hp2
               have y1 : w2.cell? ⟨wr.heap.size, 1, none⟩ = some (.int .i64 tries) := (cell_of_row _ _ 1 _ _ _ hp2.row).trans rfl
               have L2 := Lib.hid ((HL.out.below Hn1.out.below).keep (Mem.But.of_put (S := (· = wr.heap.size)) hp2 rfl) (fun k hk e => by have := HL.out.lt k hk; have e2 : k = wr.heap.size := e; omega))
               have B2 := Lib.hid ((HB.out.trans (Mem.But.of_new Hn1.out)).later (T := (· = wr.heap.size)) (Mem.But.of_put hp2 rfl) (fun i hi e => by have := HB.out.size; have e2 : i = wr.heap.size := e; omega))
               have k2 : w2.cell? ⟨g, 2, none⟩ = some (.slice (some ⟨p, off, none⟩) (l.length + 1) cap) := (cell_of_row _ _ 2 _ _ _ L2.out.row).trans rfl
               have f2 := frozen_of_row _ g 2 _ _ L2.out.row
               clear hp2))
          have l4 := L2.out.cut
          refine ⟨⟨l, (m, d, s), Lnk.cut p off l.length cap, HXL.out, HGO3.out, fun k hk => ?_, l4, B2.out.trans (Mem.But.of_setCell _ _ L2.out.fg)⟩, ?_⟩
          · rw [Lnk.cut_block] at hk
            exact HOK.out k hk
          · have h5 := Lnk.lenOf_at l4
            unfold Lnk.cut at h5
            rw [h5, HLEN.out]
            exact Nat.lt_succ_self _
      · have hle2 : decide ((x.seq : Int) ≤ n) = false := decide_eq_false hle
        have hR : R = (x :: l, m, d, s) := by rw [← hgo]; unfold Lnk.ackGo; rw [if_neg hle]
        subst hR
        have HL := Lib.hid hl
        have HB := Lib.hid hb
        clear hl hb
        go_wp2
        refine bodyPost_end (results_none rfl _ _ _) rfl ?_
        exact ⟨rfl, ⟨_, _, HL.out⟩, HB.out⟩
end Go.Proofs.Ytgkadhogfejheaa
