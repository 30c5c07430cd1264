/- The pair's tick and come. -/
import Derived.Test.YtgkadhogfejheaaLnkM
import Derived.Deep.RegionLaw
namespace Go.Proofs.Ytgkadhogfejheaa
open Go.RowKit

namespace Lnk
theorem one_strs (l : List (List UInt8)) : ∀ u ∈ strs l, u.oneCell' = true := by
  intro u hu
  obtain ⟨s, _, rfl⟩ := List.mem_map.1 hu
  rfl
theorem txt_app {w : World} {B : Nat} {v : Value} {l m : List (List UInt8)} (h : Mem.Row w B 9 1 v (l.length + m.length) (strs l ++ strs m)) : Txt w B v (l ++ m) := by
  unfold Txt strs
  rw [List.length_append, List.map_append]
  exact h
/-- a pair's world, but for blocks from B on, stays -/
theorem PLie.size {w : World} {B q : Nat} {g : Nat → Nat} {F : Nat → Nat → Prop} {s : Nat → Value} {e : Nat → St} {c : Nat → List (List UInt8)} (h : PLie w B q g F s e c) : B ≤ w.heap.size := Nat.le_trans h.bq (Nat.le_of_lt h.qlt)
end Lnk

set_option maxRecDepth 100000 in
set_option maxHeartbeats 1000000 in
theorem pair_tick {wt : Nat → Nat → Bool → Nat} {hd : Nat → Nat → Bool → Nat → Nat × Nat × Bool} (law : Lnk.Law wt hd) (B q i : Nat) (hi : i < 2) (e : Nat → Lnk.St) (c : Nat → List (List UInt8)) (N : Nat) (hG : Lnk.Good (e i) N) (hN : N < 549755813888) (hc : (c (1 - i)).length ≤ 1000000) (w : World) (h : Lnk.PAt w B q e c) :
    Calls Try.prog 29 #[.pointer (some ⟨q, 0, none⟩), .int .i64 i] w fun r w' => r = .returned (.tuple #[]) ∧
      Lnk.PAt w' B q (Lnk.sub e i (Lnk.tick (wt (e i).mean (e i).dev (e i).any) (e i)).1) (Lnk.sub c (1 - i) (c (1 - i) ++ (Lnk.tick (wt (e i).mean (e i).dev (e i).any) (e i)).2)) ∧ Below B w w' := by
  obtain ⟨g, F, s, h⟩ := h
  obtain ⟨n, hn⟩ : ∃ n, wt (e i).mean (e i).dev (e i).any = n := ⟨_, rfl⟩
  have hw := law.wait (e i).mean (e i).dev (e i).any
  rw [hn] at hw ⊢
  have hf := hG.fine hN
  have hlen : (Lnk.tick n (e i)).2.length ≤ 9 := by
    unfold Lnk.tick
    simp only
    split
    · simp
    · exact Nat.le_trans (Lnk.sentAt_le (Nat.le_refl 8)) (by omega)
  have HLEN := Lib.hid hlen
  have H := Lib.hid h
  have HW := Lib.hid hw.2
  have HF := Lib.hid hf
  have HC := Lib.hid hc
  obtain ⟨j, hj, hv0⟩ := info_parts Lnk.info_str
  clear hn hw hf hG hc hlen
  have row := h.row
  have fq := fun k => frozen_of_row w q k _ _ row
  have cq := fun k => cell_of_row w q k _ _ _ row
  have hqF := h.qF i hi
  have hqs : q < w.heap.size := h.qlt
  have hi2 : i = 0 ∨ i = 1 := by omega
  clear h row
  rcases hi2 with rfl | rfl
  · have hcO : (c 1).length ≤ 1000000 := HC.out
    have hlO : (Lnk.tick n (e 0)).2.length ≤ 9 := HLEN.out
    have HsF := fun k hk => (H.out.sF 1 (by omega) k hk).2 0 (by omega)
    have HsQ := fun k hk => (H.out.sF 1 (by omega) k hk).1
    have hno : some q ≠ (s 1).ownBlock := fun h => HsQ q h.symm rfl
    have r0 : w.cell? ⟨q, 0, none⟩ = some (Lnk.ptr (g 0)) := cq 0
    have r1 : w.cell? ⟨q, 3, none⟩ = some (s 1) := cq 3
    have f1 := fq 3
    unfold Lnk.ptr at r0
    have wr1 : IntKind.i64.wrap 1 = 1 := by decide
    have wr0 : IntKind.i64.wrap 0 = 0 := by decide
    clear cq fq
    go_enter Try.func29, Try.ntmps29
    go_region_law (first
      | (go_simp
         go_at_call 18
         go_loud (
         refine (tick_ok (g 0) (F 0) (e 0) n HW.out HF.out _ ((H.out.ends 0 (by omega)).below (Below.refl _ _).drew)).mono ?_
         rintro r w1 ⟨v, rfl, ha1, hr1, hb1⟩
         have k1 : w1.cell? ⟨q, 3, none⟩ = some (s 1) := (World.cell?_of_block (hb1.block q hqs hqF)).trans r1
         have f2 : w1.frozen? ⟨q, 3, none⟩ = false := (World.frozen?_of_block (hb1.block q hqs hqF)).trans f1
         have hrow : Mem.Row w1 B 9 1 (s 1) (c 1).length (Lnk.strs (c 1)) := Mem.Row.keep (H.out.rows 1 (by omega)) (fun k hk ho => hb1.block k hk (HsF k ho))
         have hsz1 : w.heap.size ≤ w1.heap.size := hb1.size))
      | (go_loud (
         refine Mem.step_append_rows _ rfl (.tmp 13) (.tmp 20) 32 rfl B 9 j _ 1 16 Try.underlying32 hj hv0.1 hv0.2.1 hv0.2.2 rfl (s 1) (c 1).length (Lnk.strs (c 1)) rfl hrow v _ _ _ rfl hr1 (Lnk.one_strs _) (by unfold maxLen; omega) (by omega) (Nat.le_trans H.out.size hsz1) ?_
         intro v' w2 hown hgrow hat
         obtain ⟨A', cap', hv', _, _⟩ := hown.form
         subst hv'
         have k2 := (hgrow.cell_far ⟨q, 3, none⟩ (by simp; omega) hno).trans k1
         have f3 := (hgrow.frozen_far ⟨q, 3, none⟩ (by simp; omega) hno).trans f2)))
    all_goals
      refine bodyPost_end (results_none rfl _ _ _) rfl ?_
      have p1 := (H.out.below (Below.refl w.heap.size w).drew).turn (i := 0) (by omega) ha1 hb1 (fun k hk => .inl hk)
      have hb2 : Mem.But (fun k => (s 1).ownBlock = some k) w1 w2 := ⟨hgrow.os, hgrow.tape, hgrow.output, hgrow.size, fun k hk hn => hgrow.block k hk fun e => hn e.symm⟩
      have p2 := p1.text (j := 1) (by omega) hb2 (Lnk.txt_app hown) (fun k hk => by
        rcases hat with h | h
        · exact .inl (h ▸ hk)
        · rw [h] at hk
          injection hk with hk
          exact .inr (by omega))
      refine ⟨rfl, ⟨_, _, _, p2⟩, ?_⟩
      have hB := H.out.size
      have b1 : Below B w w1 := ((Below.refl B w).drew).trans (hb1.below hB (H.out.bF 0 (by omega)))
      have b2 : Below B w1 w2 := hb2.below (Nat.le_trans hB hsz1) (fun k hk => (Mem.Row.block (H.out.rows 1 (by omega)) hk).1)
      exact b1.trans (b2.trans ((Below.refl B w2).setCell H.out.bq _))
  · have hcO : (c 0).length ≤ 1000000 := HC.out
    have hlO : (Lnk.tick n (e 1)).2.length ≤ 9 := HLEN.out
    have HsF := fun k hk => (H.out.sF 0 (by omega) k hk).2 1 (by omega)
    have HsQ := fun k hk => (H.out.sF 0 (by omega) k hk).1
    have hno : some q ≠ (s 0).ownBlock := fun h => HsQ q h.symm rfl
    have r0 : w.cell? ⟨q, 1, none⟩ = some (Lnk.ptr (g 1)) := cq 1
    have r1 : w.cell? ⟨q, 2, none⟩ = some (s 0) := cq 2
    have f1 := fq 2
    unfold Lnk.ptr at r0
    have wr1 : IntKind.i64.wrap 1 = 1 := by decide
    have wr0 : IntKind.i64.wrap 0 = 0 := by decide
    clear cq fq
    go_enter Try.func29, Try.ntmps29
    go_region_law (first
      | (go_simp
         go_at_call 18
         go_loud (
         refine (tick_ok (g 1) (F 1) (e 1) n HW.out HF.out _ ((H.out.ends 1 (by omega)).below (Below.refl _ _).drew)).mono ?_
         rintro r w1 ⟨v, rfl, ha1, hr1, hb1⟩
         have k1 : w1.cell? ⟨q, 2, none⟩ = some (s 0) := (World.cell?_of_block (hb1.block q hqs hqF)).trans r1
         have f2 : w1.frozen? ⟨q, 2, none⟩ = false := (World.frozen?_of_block (hb1.block q hqs hqF)).trans f1
         have hrow : Mem.Row w1 B 9 1 (s 0) (c 0).length (Lnk.strs (c 0)) := Mem.Row.keep (H.out.rows 0 (by omega)) (fun k hk ho => hb1.block k hk (HsF k ho))
         have hsz1 : w.heap.size ≤ w1.heap.size := hb1.size))
      | (go_loud (
         refine Mem.step_append_rows _ rfl (.tmp 13) (.tmp 20) 32 rfl B 9 j _ 1 16 Try.underlying32 hj hv0.1 hv0.2.1 hv0.2.2 rfl (s 0) (c 0).length (Lnk.strs (c 0)) rfl hrow v _ _ _ rfl hr1 (Lnk.one_strs _) (by unfold maxLen; omega) (by omega) (Nat.le_trans H.out.size hsz1) ?_
         intro v' w2 hown hgrow hat
         obtain ⟨A', cap', hv', _, _⟩ := hown.form
         subst hv'
         have k2 := (hgrow.cell_far ⟨q, 2, none⟩ (by simp; omega) hno).trans k1
         have f3 := (hgrow.frozen_far ⟨q, 2, none⟩ (by simp; omega) hno).trans f2)))
    all_goals
      refine bodyPost_end (results_none rfl _ _ _) rfl ?_
      have p1 := (H.out.below (Below.refl w.heap.size w).drew).turn (i := 1) (by omega) ha1 hb1 (fun k hk => .inl hk)
      have hb2 : Mem.But (fun k => (s 0).ownBlock = some k) w1 w2 := ⟨hgrow.os, hgrow.tape, hgrow.output, hgrow.size, fun k hk hn => hgrow.block k hk fun e => hn e.symm⟩
      have p2 := p1.text (j := 0) (by omega) hb2 (Lnk.txt_app hown) (fun k hk => by
        rcases hat with h | h
        · exact .inl (h ▸ hk)
        · rw [h] at hk
          injection hk with hk
          exact .inr (by omega))
      refine ⟨rfl, ⟨_, _, _, p2⟩, ?_⟩
      have hB := H.out.size
      have b1 : Below B w w1 := ((Below.refl B w).drew).trans (hb1.below hB (H.out.bF 1 (by omega)))
      have b2 : Below B w1 w2 := hb2.below (Nat.le_trans hB hsz1) (fun k hk => (Mem.Row.block (H.out.rows 0 (by omega)) hk).1)
      exact b1.trans (b2.trans ((Below.refl B w2).setCell H.out.bq _))
-- END tick

namespace Lnk
theorem toldGo_len : ∀ (f g : Nat) (E : Nat → Option (List UInt8)) (acc : List (List UInt8)), (toldGo f g E acc).2.2.length ≤ acc.length + f
  | 0, g, E, acc => Nat.le_refl _
  | f + 1, g, E, acc => by
    unfold toldGo
    cases hE : E (g + 1) with
    | none => simp only; omega
    | some s =>
      have := toldGo_len f (g + 1) (upd E (g + 1) none) (acc ++ [s])
      simp only [List.length_append, List.length_cons, List.length_nil] at this ⊢
      omega
theorem take_len (hd : Nat → Nat → Bool → Nat → Nat × Nat × Bool) (e : St) (s : List UInt8) : (take hd e s).2.1.length ≤ 9 := by
  unfold take
  simp only
  by_cases hc : (if (Frm.get s).2 = 0 then asked e (Frm.get s).1 else (Frm.get s).2) = 0
  · rw [if_pos hc]
    unfold takeF
    simp only
    split
    · simp
    · split
      · simp
      · have := toldGo_len (e.got + 9 - e.got) e.got (upd e.early (Frm.get s).1.seq.toNat (some (Frm.get s).1.body)) []
        simp only [List.length_nil] at this
        show (toldGo (e.got + 9 - e.got) e.got (upd e.early (Frm.get s).1.seq.toNat (some (Frm.get s).1.body)) []).2.2.length ≤ 9
        omega
  · rw [if_neg hc]
    simp
end Lnk

set_option maxRecDepth 100000 in
set_option maxHeartbeats 1000000 in
theorem pair_come {wt : Nat → Nat → Bool → Nat} {hd : Nat → Nat → Bool → Nat → Nat × Nat × Bool} (law : Lnk.Law wt hd) (B q i : Nat) (hi : i < 2) (e : Nat → Lnk.St) (c : Nat → List (List UInt8)) (N : Nat) (hG : Lnk.Good (e i) N) (hN : N < 549755813888) (hc : (c (4 + i)).length ≤ 1000000) (x : List UInt8) (hx : x.length < 2 ^ 61) (w : World) (h : Lnk.PAt w B q e c) :
    Calls Try.prog 30 #[.pointer (some ⟨q, 0, none⟩), .int .i64 i, .string (Mem.str x)] w fun r w' => r = .returned (.tuple #[]) ∧
      Lnk.PAt w' B q (Lnk.sub e i (Lnk.take hd (e i) x).1) (Lnk.sub c (4 + i) (c (4 + i) ++ (Lnk.take hd (e i) x).2.1)) ∧ Below B w w' := by
  obtain ⟨g, F, s, h⟩ := h
  have htake := fun w1 ha => link_take law (g i) (F i) (e i) N hG hN x hx w1 ha
  have hlen := Lnk.take_len hd (e i) x
  obtain ⟨T, hT⟩ : ∃ T, Lnk.take hd (e i) x = T := ⟨_, rfl⟩
  rw [hT] at htake hlen ⊢
  have HLEN := Lib.hid hlen
  have H := Lib.hid h
  have HC := Lib.hid hc
  obtain ⟨j, hj, hv0⟩ := info_parts Lnk.info_str
  clear hG hc hlen hT
  have row := h.row
  have cq := fun k => cell_of_row w q k _ _ _ row
  have hqF := h.qF i hi
  have hqs : q < w.heap.size := h.qlt
  have hi2 : i = 0 ∨ i = 1 := by omega
  clear h row
  rcases hi2 with rfl | rfl
-- BEGIN come
  · have hcO : (c 4).length ≤ 1000000 := HC.out
    have hlO : T.2.1.length ≤ 9 := HLEN.out
    have HsF := fun k hk => (H.out.sF 4 (by omega) k hk).2 0 (by omega)
    have HsQ := fun k hk => (H.out.sF 4 (by omega) k hk).1
    have hno : some q ≠ (s 4).ownBlock := fun h => HsQ q h.symm rfl
    have r0 : w.cell? ⟨q, 0, none⟩ = some (Lnk.ptr (g 0)) := cq 0
    unfold Lnk.ptr at r0
    have r1 : w.cell? ⟨q, 6, none⟩ = some (s 4) := cq 6
    clear cq
    have htk := htake w (H.out.ends 0 (by omega))
    go_enter Try.func30, Try.ntmps30
    go_wp2_with (go_at_call 22; refine htk.mono ?_; rintro r w1 ⟨v, rfl, ha1, hr1, hb1⟩)
    have p1 := H.out.turn (i := 0) (by omega) ha1 hb1 (fun k hk => .inl hk)
    have row1 := p1.row
    have k1 : w1.cell? ⟨q, 6, none⟩ = some (s 4) := cell_of_row w1 q 6 _ _ _ row1
    have f1 := frozen_of_row w1 q 6 _ _ row1
    have hrow : Mem.Row w1 B 9 1 (s 4) (c 4).length (Lnk.strs (c 4)) := p1.rows 4 (by omega)
    have hsz1 : w.heap.size ≤ w1.heap.size := hb1.size
    have P1 := Lib.hid p1
    have HB1 := Lib.hid hb1
    have HA1 := Lib.hid ha1
    clear p1 row1 htk htake r0 r1 hb1 ha1
    go_region_law (go_loud (
         refine Mem.step_append_rows _ rfl (.tmp 26) (.tmp 27) 32 rfl B 9 j _ 1 16 Try.underlying32 hj hv0.1 hv0.2.1 hv0.2.2 rfl (s 4) (c 4).length (Lnk.strs (c 4)) rfl (Mem.Row.drew hrow) v _ _ _ rfl (Mem.Row.drew hr1) (Lnk.one_strs _) (by unfold maxLen; omega) (by omega) (Nat.le_trans H.out.size hsz1) ?_
         intro v' w2 hown hgrow hat
         obtain ⟨A', cap', hv', _, _⟩ := hown.form
         subst hv'
         have k2 := (hgrow.cell_far ⟨q, 6, none⟩ (by simp; omega) hno).trans k1
         have f3 := (hgrow.frozen_far ⟨q, 6, none⟩ (by simp; omega) hno).trans f1))
    refine bodyPost_end (results_none rfl _ _ _) rfl ?_
    have hb2 : Mem.But (fun k => (s 4).ownBlock = some k) w1 w2 := ⟨hgrow.os, hgrow.tape, hgrow.output, hgrow.size, fun k hk hn => hgrow.block k hk fun e => hn e.symm⟩
    have p2 := P1.out.text (j := 4) (by omega) hb2 (Lnk.txt_app hown) (fun k hk => by
      rcases hat with h | h
      · exact .inl (h ▸ hk)
      · rw [h] at hk
        injection hk with hk
        exact .inr (Nat.le_of_eq hk))
    refine ⟨rfl, ⟨_, _, _, p2⟩, ?_⟩
    have hB := H.out.size
    have b1 : Below B w w1 := HB1.out.below hB (H.out.bF 0 (by omega))
    have b2 : Below B w1 w2 := hb2.below (Nat.le_trans hB hsz1) (fun k hk => (Mem.Row.block (H.out.rows 4 (by omega)) hk).1)
    exact b1.trans (b2.trans ((Below.refl B w2).setCell H.out.bq _))
  · have hcO : (c 5).length ≤ 1000000 := HC.out
    have hlO : T.2.1.length ≤ 9 := HLEN.out
    have HsF := fun k hk => (H.out.sF 5 (by omega) k hk).2 1 (by omega)
    have HsQ := fun k hk => (H.out.sF 5 (by omega) k hk).1
    have hno : some q ≠ (s 5).ownBlock := fun h => HsQ q h.symm rfl
    have r0 : w.cell? ⟨q, 1, none⟩ = some (Lnk.ptr (g 1)) := cq 1
    unfold Lnk.ptr at r0
    have r1 : w.cell? ⟨q, 7, none⟩ = some (s 5) := cq 7
    clear cq
    have htk := htake w (H.out.ends 1 (by omega))
    go_enter Try.func30, Try.ntmps30
    go_wp2_with (go_at_call 22; refine htk.mono ?_; rintro r w1 ⟨v, rfl, ha1, hr1, hb1⟩)
    have p1 := H.out.turn (i := 1) (by omega) ha1 hb1 (fun k hk => .inl hk)
    have row1 := p1.row
    have k1 : w1.cell? ⟨q, 7, none⟩ = some (s 5) := cell_of_row w1 q 7 _ _ _ row1
    have f1 := frozen_of_row w1 q 7 _ _ row1
    have hrow : Mem.Row w1 B 9 1 (s 5) (c 5).length (Lnk.strs (c 5)) := p1.rows 5 (by omega)
    have hsz1 : w.heap.size ≤ w1.heap.size := hb1.size
    have P1 := Lib.hid p1
    have HB1 := Lib.hid hb1
    have HA1 := Lib.hid ha1
    clear p1 row1 htk htake r0 r1 hb1 ha1
    go_region_law (go_loud (
         refine Mem.step_append_rows _ rfl (.tmp 26) (.tmp 27) 32 rfl B 9 j _ 1 16 Try.underlying32 hj hv0.1 hv0.2.1 hv0.2.2 rfl (s 5) (c 5).length (Lnk.strs (c 5)) rfl (Mem.Row.drew hrow) v _ _ _ rfl (Mem.Row.drew hr1) (Lnk.one_strs _) (by unfold maxLen; omega) (by omega) (Nat.le_trans H.out.size hsz1) ?_
         intro v' w2 hown hgrow hat
         obtain ⟨A', cap', hv', _, _⟩ := hown.form
         subst hv'
         have k2 := (hgrow.cell_far ⟨q, 7, none⟩ (by simp; omega) hno).trans k1
         have f3 := (hgrow.frozen_far ⟨q, 7, none⟩ (by simp; omega) hno).trans f1))
    refine bodyPost_end (results_none rfl _ _ _) rfl ?_
    have hb2 : Mem.But (fun k => (s 5).ownBlock = some k) w1 w2 := ⟨hgrow.os, hgrow.tape, hgrow.output, hgrow.size, fun k hk hn => hgrow.block k hk fun e => hn e.symm⟩
    have p2 := P1.out.text (j := 5) (by omega) hb2 (Lnk.txt_app hown) (fun k hk => by
      rcases hat with h | h
      · exact .inl (h ▸ hk)
      · rw [h] at hk
        injection hk with hk
        exact .inr (Nat.le_of_eq hk))
    refine ⟨rfl, ⟨_, _, _, p2⟩, ?_⟩
    have hB := H.out.size
    have b1 : Below B w w1 := HB1.out.below hB (H.out.bF 1 (by omega))
    have b2 : Below B w1 w2 := hb2.below (Nat.le_trans hB hsz1) (fun k hk => (Mem.Row.block (H.out.rows 5 (by omega)) hk).1)
    exact b1.trans (b2.trans ((Below.refl B w2).setCell H.out.bq _))
-- END come
end Go.Proofs.Ytgkadhogfejheaa
