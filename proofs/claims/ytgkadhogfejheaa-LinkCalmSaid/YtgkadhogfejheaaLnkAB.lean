/- The walk of the pair's Calm. -/
import Derived.Test.YtgkadhogfejheaaLnkN
import Derived.Test.YtgkadhogfejheaaLnkZ
import Derived.Test.YtgkadhogfejheaaLnkU
/-! A frame comes to an end of the pair: a row of texts apart from the pair stays. -/
namespace Go.Proofs.Ytgkadhogfejheaa
open Go.RowKit

namespace Lnk
/-- a row that is none of the pair's -/
def Far (q : Nat) (F : Nat → Nat → Prop) (s : Nat → Value) (v : Value) : Prop := ∀ k, v.ownBlock = some k → k ≠ q ∧ (∀ i, i < 2 → ¬ F i k) ∧ ∀ j, j < 6 → (s j).ownBlock ≠ some k
def PAtX (w : World) (B q : Nat) (e : Nat → St) (c : Nat → List (List UInt8)) (v : Value) (l : List (List UInt8)) : Prop := ∃ g F s, PLie w B q g F s e c ∧ Txt w B v l ∧ Far q F s v
end Lnk

set_option maxRecDepth 100000 in
set_option maxHeartbeats 1000000 in
theorem pair_comex {wt : Nat → Nat → Bool → Nat} {hd : Nat → Nat → Bool → Nat → Nat × Nat × Bool} (law : Lnk.Law wt hd) (B q i : Nat) (hi : i < 2) (e : Nat → Lnk.St) (c : Nat → List (List UInt8)) (N : Nat) (hG : Lnk.Good (e i) N) (hN : N < 549755813888) (hc : (c (4 + i)).length ≤ 1000000) (x : List UInt8) (hx : x.length < 2 ^ 61) (w : World) (u : Value) (m : List (List UInt8)) (h : Lnk.PAtX w B q e c u m) :
    Calls Try.prog 30 #[.pointer (some ⟨q, 0, none⟩), .int .i64 i, .string (Mem.str x)] w fun r w' => r = .returned (.tuple #[]) ∧
      Lnk.PAtX w' B q (Lnk.sub e i (Lnk.take hd (e i) x).1) (Lnk.sub c (4 + i) (c (4 + i) ++ (Lnk.take hd (e i) x).2.1)) u m ∧ Below B w w' := by
  obtain ⟨g, F, s, h, hX, hfar⟩ := h
  have HX := Lib.hid hX
  have HFAR := Lib.hid hfar
  clear hX hfar
  have htake := fun w1 ha => link_take law (g i) (F i) (e i) N hG hN x hx w1 ha
  have hlen := Lnk.take_len hd (e i) x
  obtain ⟨T, hT⟩ : ∃ T, Lnk.take hd (e i) x = T := ⟨_, rfl⟩
  rw [hT] at htake hlen ⊢
  have HLEN := Lib.hid hlen
  have H := Lib.hid h
  have HC := Lib.hid hc
  obtain ⟨j, hj, hv0⟩ := info_parts Lnk.info_str
  clear hG hc hlen hT
  have row := h.row
  have cq := fun k => cell_of_row w q k _ _ _ row
  have hqF := h.qF i hi
  have hqs : q < w.heap.size := h.qlt
  have hi2 : i = 0 ∨ i = 1 := by omega
  clear h row
  rcases hi2 with rfl | rfl
  · have hcO : (c 4).length ≤ 1000000 := HC.out
    have hlO : T.2.1.length ≤ 9 := HLEN.out
    have HsF := fun k hk => (H.out.sF 4 (by omega) k hk).2 0 (by omega)
    have HsQ := fun k hk => (H.out.sF 4 (by omega) k hk).1
    have hno : some q ≠ (s 4).ownBlock := fun h => HsQ q h.symm rfl
    have r0 : w.cell? ⟨q, 0, none⟩ = some (Lnk.ptr (g 0)) := cq 0
    unfold Lnk.ptr at r0
    have r1 : w.cell? ⟨q, 6, none⟩ = some (s 4) := cq 6
    clear cq
    have htk := htake w (H.out.ends 0 (by omega))
    go_enter Try.func30, Try.ntmps30
    go_wp2_with (go_at_call 22; refine htk.mono ?_; rintro r w1 ⟨v, rfl, ha1, hr1, hb1⟩)
    have p1 := H.out.turn (i := 0) (by omega) ha1 hb1 (fun k hk => .inl hk)
    have row1 := p1.row
    have k1 : w1.cell? ⟨q, 6, none⟩ = some (s 4) := cell_of_row w1 q 6 _ _ _ row1
    have f1 := frozen_of_row w1 q 6 _ _ row1
    have hrow : Mem.Row w1 B 9 1 (s 4) (c 4).length (Lnk.strs (c 4)) := p1.rows 4 (by omega)
    have hsz1 : w.heap.size ≤ w1.heap.size := hb1.size
    have P1 := Lib.hid p1
    have HB1 := Lib.hid hb1
    have HA1 := Lib.hid ha1
    clear p1 row1 htk htake r0 r1 hb1 ha1
    go_region_law (go_loud (
         refine Mem.step_append_rows _ rfl (.tmp 26) (.tmp 27) 32 rfl B 9 j _ 1 16 Try.underlying32 hj hv0.1 hv0.2.1 hv0.2.2 rfl (s 4) (c 4).length (Lnk.strs (c 4)) rfl (Mem.Row.drew hrow) v _ _ _ rfl (Mem.Row.drew hr1) (Lnk.one_strs _) (by unfold maxLen; omega) (by omega) (Nat.le_trans H.out.size hsz1) ?_
         intro v' w2 hown hgrow hat
         obtain ⟨A', cap', hv', _, _⟩ := hown.form
         subst hv'
         have k2 := (hgrow.cell_far ⟨q, 6, none⟩ (by simp; omega) hno).trans k1
         have f3 := (hgrow.frozen_far ⟨q, 6, none⟩ (by simp; omega) hno).trans f1))
    refine bodyPost_end (results_none rfl _ _ _) rfl ?_
    have hb2 : Mem.But (fun k => (s 4).ownBlock = some k) w1 w2 := ⟨hgrow.os, hgrow.tape, hgrow.output, hgrow.size, fun k hk hn => hgrow.block k hk fun e => hn e.symm⟩
    have p2 := P1.out.text (j := 4) (by omega) hb2 (Lnk.txt_app hown) (fun k hk => by
      rcases hat with h | h
      · exact .inl (h ▸ hk)
      · rw [h] at hk
        injection hk with hk
        exact .inr (Nat.le_of_eq hk))
    have x1 : Lnk.Txt w1 B u m := Mem.Row.keep HX.out fun k hk ho => HB1.out.block k hk ((HFAR.out k ho).2.1 0 (by omega))
    have x2 : Lnk.Txt w2 B u m := Mem.Row.keep x1 fun k hk ho => hb2.block k hk ((HFAR.out k ho).2.2 4 (by omega))
    have x3 : ∀ z, Lnk.Txt (w2.setCell ⟨q, 2 + 4, none⟩ z) B u m := fun z => Mem.Row.keep x2 fun k hk ho => heap_setCell_other _ _ _ _ fun e2 => (HFAR.out k ho).1 e2
    refine ⟨rfl, ⟨_, _, _, p2, x3 _, fun k ho => ⟨(HFAR.out k ho).1, fun a ha => by rw [Lnk.sub_self]; exact (HFAR.out k ho).2.1 a ha, fun a ha h2 => ?_⟩⟩, ?_⟩
    · unfold Lnk.sub at h2
      split at h2
      · rcases hat with h | h
        · exact (HFAR.out k ho).2.2 4 (by omega) (h ▸ h2)
        · rw [h] at h2
          injection h2 with h2
          have h3 : w1.heap.size = k := h2
          have := (Mem.Row.block HX.out ho).2
          omega
      · exact (HFAR.out k ho).2.2 a ha h2
    have hB := H.out.size
    have b1 : Below B w w1 := HB1.out.below hB (H.out.bF 0 (by omega))
    have b2 : Below B w1 w2 := hb2.below (Nat.le_trans hB hsz1) (fun k hk => (Mem.Row.block (H.out.rows 4 (by omega)) hk).1)
    exact b1.trans (b2.trans ((Below.refl B w2).setCell H.out.bq _))
  · have hcO : (c 5).length ≤ 1000000 := HC.out
    have hlO : T.2.1.length ≤ 9 := HLEN.out
    have HsF := fun k hk => (H.out.sF 5 (by omega) k hk).2 1 (by omega)
    have HsQ := fun k hk => (H.out.sF 5 (by omega) k hk).1
    have hno : some q ≠ (s 5).ownBlock := fun h => HsQ q h.symm rfl
    have r0 : w.cell? ⟨q, 1, none⟩ = some (Lnk.ptr (g 1)) := cq 1
    unfold Lnk.ptr at r0
    have r1 : w.cell? ⟨q, 7, none⟩ = some (s 5) := cq 7
    clear cq
    have htk := htake w (H.out.ends 1 (by omega))
    go_enter Try.func30, Try.ntmps30
    go_wp2_with (go_at_call 22; refine htk.mono ?_; rintro r w1 ⟨v, rfl, ha1, hr1, hb1⟩)
    have p1 := H.out.turn (i := 1) (by omega) ha1 hb1 (fun k hk => .inl hk)
    have row1 := p1.row
    have k1 : w1.cell? ⟨q, 7, none⟩ = some (s 5) := cell_of_row w1 q 7 _ _ _ row1
    have f1 := frozen_of_row w1 q 7 _ _ row1
    have hrow : Mem.Row w1 B 9 1 (s 5) (c 5).length (Lnk.strs (c 5)) := p1.rows 5 (by omega)
    have hsz1 : w.heap.size ≤ w1.heap.size := hb1.size
    have P1 := Lib.hid p1
    have HB1 := Lib.hid hb1
    have HA1 := Lib.hid ha1
    clear p1 row1 htk htake r0 r1 hb1 ha1
    go_region_law (go_loud (
         refine Mem.step_append_rows _ rfl (.tmp 26) (.tmp 27) 32 rfl B 9 j _ 1 16 Try.underlying32 hj hv0.1 hv0.2.1 hv0.2.2 rfl (s 5) (c 5).length (Lnk.strs (c 5)) rfl (Mem.Row.drew hrow) v _ _ _ rfl (Mem.Row.drew hr1) (Lnk.one_strs _) (by unfold maxLen; omega) (by omega) (Nat.le_trans H.out.size hsz1) ?_
         intro v' w2 hown hgrow hat
         obtain ⟨A', cap', hv', _, _⟩ := hown.form
         subst hv'
         have k2 := (hgrow.cell_far ⟨q, 7, none⟩ (by simp; omega) hno).trans k1
         have f3 := (hgrow.frozen_far ⟨q, 7, none⟩ (by simp; omega) hno).trans f1))
    refine bodyPost_end (results_none rfl _ _ _) rfl ?_
    have hb2 : Mem.But (fun k => (s 5).ownBlock = some k) w1 w2 := ⟨hgrow.os, hgrow.tape, hgrow.output, hgrow.size, fun k hk hn => hgrow.block k hk fun e => hn e.symm⟩
    have p2 := P1.out.text (j := 5) (by omega) hb2 (Lnk.txt_app hown) (fun k hk => by
      rcases hat with h | h
      · exact .inl (h ▸ hk)
      · rw [h] at hk
        injection hk with hk
        exact .inr (Nat.le_of_eq hk))
    have x1 : Lnk.Txt w1 B u m := Mem.Row.keep HX.out fun k hk ho => HB1.out.block k hk ((HFAR.out k ho).2.1 1 (by omega))
    have x2 : Lnk.Txt w2 B u m := Mem.Row.keep x1 fun k hk ho => hb2.block k hk ((HFAR.out k ho).2.2 5 (by omega))
    have x3 : ∀ z, Lnk.Txt (w2.setCell ⟨q, 2 + 5, none⟩ z) B u m := fun z => Mem.Row.keep x2 fun k hk ho => heap_setCell_other _ _ _ _ fun e2 => (HFAR.out k ho).1 e2
    refine ⟨rfl, ⟨_, _, _, p2, x3 _, fun k ho => ⟨(HFAR.out k ho).1, fun a ha => by rw [Lnk.sub_self]; exact (HFAR.out k ho).2.1 a ha, fun a ha h2 => ?_⟩⟩, ?_⟩
    · unfold Lnk.sub at h2
      split at h2
      · rcases hat with h | h
        · exact (HFAR.out k ho).2.2 5 (by omega) (h ▸ h2)
        · rw [h] at h2
          injection h2 with h2
          have h3 : w1.heap.size = k := h2
          have := (Mem.Row.block HX.out ho).2
          omega
      · exact (HFAR.out k ho).2.2 a ha h2
    have hB := H.out.size
    have b1 : Below B w w1 := HB1.out.below hB (H.out.bF 1 (by omega))
    have b2 : Below B w1 w2 := hb2.below (Nat.le_trans hB hsz1) (fun k hk => (Mem.Row.block (H.out.rows 5 (by omega)) hk).1)
    exact b1.trans (b2.trans ((Below.refl B w2).setCell H.out.bq _))
end Go.Proofs.Ytgkadhogfejheaa

/-! The walk of the pair's Calm. -/
namespace Go.Proofs.Ytgkadhogfejheaa
open Go.RowKit

namespace Lnk
section
variable {wt : Nat → Nat → Bool → Nat} {hd : Nat → Nat → Bool → Nat → Nat × Nat × Bool}
/-- a pair behind a part of a calm tick -/
def part (wt : Nat → Nat → Bool → Nat) (hd : Nat → Nat → Bool → Nat → Nat × Nat × Bool) (Q : Ps) : Nat → Ps
  | 0 => tickB wt Q
  | 1 => comeB hd 0 (tickB wt Q)
  | _ => calmP wt hd Q
theorem part_next (Q : Ps) {j : Nat} (hj : j < 2) : part wt hd Q (j + 1) = comeB hd j (part wt hd Q j) := by
  match j, hj with
  | 0, _ => rfl
  | 1, _ => rfl
theorem part_inv {Q : Ps} {N : Nat} (h : Runs Q) (hI : Inv Q N) (hN : N ≤ 63000) (hL : ∀ i, i < 2 → (Q.2 i).length ≤ 2160) {j : Nat} (hj : j < 2) : Inv (part wt hd Q j) 110000 ∧ Runs (part wt hd Q j) ∧ ((part wt hd Q j).2 j).length ≤ 2169 := by
  obtain ⟨a1, b1⟩ := ticks_inv (wt := wt) h hI (by omega)
  have l0 := ticks_len (wt := wt) (show 0 < 2 by omega) (hL 0 (by omega))
  have l1 := ticks_len (wt := wt) (show 1 < 2 by omega) (hL 1 (by omega))
  match j, hj with
  | 0, _ => exact ⟨a1.mono (by omega), b1, l0⟩
  | 1, _ =>
    obtain ⟨a2, b2⟩ := comes_inv (hd := hd) b1 a1 (show 0 < 2 by omega) _ fun x hx => hx
    refine ⟨a2.mono (by omega), b2, ?_⟩
    show ((comeB hd 0 (tickB wt Q)).2 1).length ≤ _
    rw [comeB_texts (by omega) (by omega)]
    exact l1
theorem comes_seq {R : Ps} {N : Nat} (h : Runs R) (hI : Inv R N) {i : Nat} (hi : i < 2) : ∃ S : Nat → Ps, S 0 = (R.1, sub R.2 i []) ∧ (∀ k x, (R.2 i)[k]? = some x → S (k + 1) = comeP hd i x (S k) ∧ x.length < 2 ^ 61) ∧
    S (R.2 i).length = comeB hd i R ∧ ∀ k, Inv (S k) (N + 9 * (R.2 i).length) := by
  refine ⟨fun k => comeAll hd i ((R.2 i).take k) (R.1, sub R.2 i []), rfl, fun k x hx => ⟨?_, (h.ok hI hi (List.mem_of_getElem? hx)).1.1⟩, ?_, fun k => ?_⟩
  · simp only
    rw [List.take_add_one, hx]
    unfold comeAll
    rw [List.foldl_append]
    rfl
  · simp only
    rw [List.take_length]
    rfl
  · exact (comes_inv h hI hi ((R.2 i).take k) fun x hx => List.mem_of_mem_take hx).1.mono (by rw [List.length_take]; omega)
end
end Lnk

set_option maxRecDepth 100000 in
set_option maxHeartbeats 1000000 in
theorem pair_calm {wt : Nat → Nat → Bool → Nat} {hd : Nat → Nat → Bool → Nat → Nat × Nat × Bool} (law : Lnk.Law wt hd) (B q : Nat) (P : Lnk.Ps) (hI : Lnk.Inv P 2160) (hR : Lnk.Runs P) (T : Nat) (hT : T = 120) (w : World) (h : Lnk.PAt w B q P.1 P.2) :
    Calls Try.prog 13 #[.pointer (some ⟨q, 0, none⟩), .int .i64 120] w fun r w' => r = .returned (.tuple #[]) ∧ Lnk.PAt w' B q (Lnk.calmN wt hd T P).1 (Lnk.calmN wt hd T P).2 ∧ Below B w w' := by
  have hall := fun t ht => Lnk.ci_all (hd := hd) hI hR (fun m d s => (law.wait m d s).1) t ht
  have LAW := Lib.hid law
  have HALL := Lib.hid hall
  have H := Lib.hid h
  clear hall law hI hR h
  go_enter Try.func13, Try.ntmps13
  go_wp2
  go_loopw [4] (fun v wr => ∃ t : Nat, t ≤ 120 ∧ v = .int .i64 t ∧ Lnk.PAt wr B q (Lnk.calmN wt hd t P).1 (Lnk.calmN wt hd t P).2 ∧ Below B w wr) (fun v _ => 120 - (intOf v).toNat)
  case atStart => exact ⟨0, by omega, rfl, H.out, Below.refl _ _⟩
  case round =>
    obtain ⟨t, ht, rfl, hp, hb⟩ := hrel
    by_cases hlt : t < 120
    · have hci := HALL.out t (by omega)
      have hnext : Lnk.calmN wt hd (t + 1) P = Lnk.calmP wt hd (Lnk.calmN wt hd t P) := rfl
      have hN := Lnk.ci_bound ht
      obtain ⟨Q, hQ⟩ : ∃ Q, Lnk.calmN wt hd t P = Q := ⟨_, rfl⟩
      rw [hQ] at hp hci hnext
      have hI := hci.inv
      have hpart := fun (j : Nat) (hj : j < 2) => Lnk.part_inv (wt := wt) (hd := hd) hci.runs hci.inv hN (fun i hi => by have := hci.way i hi; split at this <;> omega) hj
      have hd1 : decide ((t : Int) < 120) = true := decide_eq_true (by omega)
      have hlt1 : (t : Int) < 120 := by omega
      have ht0 : Calls Try.prog 29 #[.pointer (some ⟨q, 0, none⟩), .int .i64 0] wr fun r w' => r = .returned (.tuple #[]) ∧ Lnk.PAt w' B q (Lnk.tickP wt 0 Q).1 (Lnk.tickP wt 0 Q).2 ∧ Below B wr w' :=
        pair_tick LAW.out B q 0 (by omega) Q.1 Q.2 _ (hI.good 0 (by omega)) (by omega) (Nat.le_trans (hI.size 1 (by omega)) (by omega)) wr hp
      have ht1 := fun w1 ha => pair_tick LAW.out B q 1 (by omega) (Lnk.tickP wt 0 Q).1 (Lnk.tickP wt 0 Q).2 _ (hI.good 1 (by omega)) (by omega) (Nat.le_trans (hI.size 0 (by omega)) (by omega)) w1 ha
      have HPART := Lib.hid hpart
      have HNEXT := Lib.hid hnext
      have HB := Lib.hid hb
      clear hpart hnext hb hci hI hN hQ hp
      go_wp2_with (first
        | (go_at_call_of 29 (Value.int IntKind.i64 0)
           refine ht0.mono ?_
           rintro r w2 ⟨rfl, ha2, hb2⟩
           have H2 := Lib.hid ha2
           have HB2 := Lib.hid hb2
           clear ha2 hb2)
        | (go_at_call_of 29 (Value.int IntKind.i64 1)
           refine (ht1 _ H2.out).mono ?_
           rintro r w3 ⟨rfl, ha3, hb3⟩
           have H3 := Lib.hid ha3
           have HB3 := Lib.hid hb3
           clear ha3 hb3))
      clear ht0 ht1
      obtain ⟨wo, rfl⟩ : ∃ wo : World, wo = wr := ⟨_, rfl⟩
      go_loopw [5] (fun v wr => ∃ j : Nat, j ≤ 2 ∧ v = .int .i64 j ∧ Lnk.PAt wr B q (Lnk.part wt hd Q j).1 (Lnk.part wt hd Q j).2 ∧ Below B w wr) (fun v _ => 2 - (intOf v).toNat)
      case atStart => exact ⟨0, by omega, rfl, H3.out, HB.out.trans (HB2.out.trans HB3.out)⟩
      case round =>
        obtain ⟨j, hj, rfl, hp, hb⟩ := hrel
        by_cases hlt2 : j < 2
        · obtain ⟨hI, hR, hL⟩ := HPART.out j hlt2
          have hnx := Lnk.part_next (wt := wt) (hd := hd) Q hlt2
          obtain ⟨R, hR0⟩ : ∃ R, Lnk.part wt hd Q j = R := ⟨_, rfl⟩
          rw [hR0] at hI hR hL hnx hp
          obtain ⟨S, hS0, hSn, hSL, hSI⟩ := Lnk.comes_seq (hd := hd) hR hI hlt2
          rw [← hnx] at hSL
          obtain ⟨g, F, s, hl⟩ := hp
          have hrow := hl.rows j (by omega)
          obtain ⟨A, cap, es, hc1, hc2⟩ := hrow.form
          have hsame := hl.sF j (by omega)
          have hfar := fun a ha hn => hl.ss j a (by omega) ha hn
          have hpx : Lnk.PAtX (wr.setCell ⟨q, 2 + j, none⟩ (.slice none 0 0)) B q (S 0).1 (S 0).2 (s j) (R.2 j) := by
            rw [hS0]
            refine ⟨g, F, _, hl.text (j := j) (v := .slice none 0 0) (l := []) (by omega) (Mem.But.refl _ _) (Mem.row_nil _ _ _ _) (fun k hk => by cases hk), Mem.Row.keep hrow fun k hk ho => heap_setCell_other _ _ _ _ fun e2 => (hsame k ho).1 e2, fun k ho => ⟨(hsame k ho).1, (hsame k ho).2, fun a ha h2 => ?_⟩⟩
            unfold Lnk.sub at h2
            split at h2
            · cases h2
            · rename_i hne
              exact hfar a ha (Ne.symm hne) k ho h2
          have c8 : wr.cell? ⟨q, 2 + j, none⟩ = some (.slice A (R.2 j).length cap) := by
            rw [← es]
            refine (cell_of_row _ _ (2 + j) _ _ _ hl.row).trans ?_
            match j, hlt2 with
            | 0, _ => rfl
            | 1, _ => rfl
          have f8 : wr.frozen? ⟨q, 2 + j, none⟩ = false := frozen_of_row _ _ _ _ _ hl.row
          have hbs : Below B w (wr.setCell ⟨q, 2 + j, none⟩ (.slice none 0 0)) := hb.setCell hl.bq _
          rw [es] at hpx
          have hjd : decide ((j : Int) < 2) = true := decide_eq_true (by omega)
          have hj2 : (j : Int) < 2 := by omega
          obtain ⟨L, hLn⟩ : ∃ L, (R.2 j).length = L := ⟨_, rfl⟩
          rw [hLn] at c8 hpx hSL hSI hL
          have HPX := Lib.hid hpx
          have HBS := Lib.hid hbs
          have HLN := Lib.hid hLn
          have HSN := Lib.hid hSn
          have HSL := Lib.hid hSL
          have HSI := Lib.hid hSI
          have HL := Lib.hid hL
          clear hI hR hL hnx hR0 hS0 hl hrow es hc1 hc2 hsame hfar hpx hbs hb hLn hSn hSL hSI
          go_wp2
          obtain ⟨wq, rfl⟩ : ∃ wq : World, wq = wr := ⟨_, rfl⟩
          go_loopw [7] (fun v wr => ∃ k : Nat, k ≤ L ∧ v = .int .i64 k ∧ Lnk.PAtX wr B q (S k).1 (S k).2 (.slice A L cap) (R.2 j) ∧ Below B w wr) (fun v _ => L - (intOf v).toNat)
          case atStart => exact ⟨0, by omega, rfl, HPX.out, HBS.out⟩
          case round =>
            obtain ⟨k, hk, rfl, hpx, hb⟩ := hrel
            by_cases hlt3 : k < L
            · obtain ⟨x, hx⟩ : ∃ x, (R.2 j)[k]? = some x := ⟨_, List.getElem?_eq_getElem (by rw [HLN.out]; exact hlt3)⟩
              obtain ⟨hnx, hx61⟩ := HSN.out k x hx
              have hI := HSI.out k
              have hL := HL.out
              have htx : Lnk.Txt wr B (.slice A L cap) (R.2 j) := by obtain ⟨_, _, _, _, h, _⟩ := hpx; exact h
              obtain ⟨p, off, cp, hv, c0⟩ := htx.at hx
              injection hv with e1 e2 e3
              subst e1
              have hcome : Calls Try.prog 30 #[.pointer (some ⟨q, 0, none⟩), .int .i64 j, .string (Mem.str x)] wr fun r w' => r = .returned (.tuple #[]) ∧ Lnk.PAtX w' B q (S (k + 1)).1 (S (k + 1)).2 (.slice (some ⟨p, off, none⟩) L cap) (R.2 j) ∧ Below B wr w' := by
                rw [hnx]
                exact pair_comex LAW.out B q j hlt2 (S k).1 (S k).2 _ (hI.good j hlt2) (by omega) (Nat.le_trans (hI.size (4 + j) (by omega)) (by omega)) x hx61 wr _ _ hpx
              have hk2 : (k : Int) < (L : Int) := by omega
              have hk3 : decide ((k : Int) < (L : Int)) = true := decide_eq_true hk2
              have hwk : wrap64 ((k : Int) + 1) = ((k + 1 : Nat) : Int) := by unfold wrap64; omega
              have HB8 := Lib.hid hb
              have HC0 := Lib.hid c0
              clear hnx hx61 hI htx hpx hb e2 e3 hx hL
              go_wp2_with (go_at_call 30; go_loud (refine hcome.mono ?_; rintro r w5 ⟨rfl, h5, hb5⟩; have H5 := Lib.hid h5; have HB5 := Lib.hid hb5; clear h5 hb5))
              clear hcome c0
              rw [hwk]
              have hm : ((k + 1 : Nat) : Int).toNat = k + 1 := rfl
              refine ⟨⟨k + 1, hlt3, rfl, H5.out, HB8.out.trans HB5.out⟩, ?_⟩
              show L - ((k + 1 : Nat) : Int).toNat < L - ((k : Nat) : Int).toNat
              rw [hm]
              exact Nat.sub_lt_sub_left hlt3 (Nat.lt_succ_self k)
            · have hkn : k = L := by omega
              subst hkn
              have HP7 := Lib.hid (show Lnk.PAt wr B q (Lnk.part wt hd Q (j + 1)).1 (Lnk.part wt hd Q (j + 1)).2 by rw [← HSL.out]; obtain ⟨_, _, _, h, _, _⟩ := hpx; exact ⟨_, _, _, h⟩)
              have HB8 := Lib.hid hb
              clear hpx hb
              go_wp2
              refine ⟨⟨j + 1, hlt2, by go_num, HP7.out, HB8.out⟩, by simp [intOf]; omega⟩
        · have hkn : j = 2 := by omega
          subst hkn
          have HP := Lib.hid hp
          have HB9 := Lib.hid hb
          clear hp hb
          go_wp2
          refine ⟨⟨t + 1, hlt, by go_num, by rw [HNEXT.out]; exact HP.out, HB9.out⟩, by simp [intOf]; omega⟩
    · have hkn : t = T := by omega
      subst hkn
      have hd1 : decide ((t : Int) < 120) = false := decide_eq_false (by omega)
      have HP := Lib.hid hp
      have HB := Lib.hid hb
      clear hp hb
      go_wp2
      refine bodyPost_end (results_none rfl _ _ _) rfl ?_
      exact ⟨rfl, HP.out, HB.out⟩
end Go.Proofs.Ytgkadhogfejheaa
