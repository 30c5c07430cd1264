/- The walks of an end's asked, told and acked. -/
import Derived.Test.YtgkadhogfejheaaZLnkF
import Derived.Test.YtgkadhogfejheaaZFrmI
set_option linter.unusedVariables false
set_option linter.unusedSimpArgs false
namespace Go.Proofs.Ytgkadhogfejheaa
open Go.RowKit

namespace Lnk
def asked (e : St) (f : Frm.F) : Int := if f.site ≠ e.site then 12 else if (e.top : Int) < f.ack ∨ (f.kind = 1 ∧ (e.got : Int) + 8 < f.seq) then 17 else 0
end Lnk
set_option maxRecDepth 100000 in
set_option maxHeartbeats 1000000 in
theorem link_asked (g : Nat) (F : Nat → Prop) (e : Lnk.St) (f : Frm.F) (hgot : e.got < 2199023255552) (w : World) (h : Lnk.At w g F e) :
    Calls Try.prog 35 #[.pointer (some ⟨g, 0, none⟩), Frm.val f] w fun r w' => r = .returned (.int .i64 (Lnk.asked e f)) ∧ Below w.heap.size w w' := by
  obtain ⟨kind, site, seq, ack, body⟩ := f
  obtain ⟨out, b, h⟩ := h
  have c0 : w.cell? ⟨g, 0, none⟩ = some (.int .i64 e.site) := (cell_of_row _ _ 0 _ _ _ h.row).trans rfl
  have c4 : w.cell? ⟨g, 4, none⟩ = some (.int .i64 e.top) := (cell_of_row _ _ 4 _ _ _ h.row).trans rfl
  have c5 : w.cell? ⟨g, 5, none⟩ = some (.int .i64 e.got) := (cell_of_row _ _ 5 _ _ _ h.row).trans rfl
  have w8 : wrap64 ((e.got : Int) + 8) = (e.got : Int) + 8 := by unfold wrap64; omega
  unfold Lnk.asked
  simp only
  clear h hgot
  obtain ⟨G, hG⟩ : ∃ G : Int, G = e.got := ⟨_, rfl⟩
  obtain ⟨T, hT⟩ : ∃ T : Int, T = e.top := ⟨_, rfl⟩
  obtain ⟨S, hS⟩ : ∃ S : Int, S = e.site := ⟨_, rfl⟩
  rw [← hG] at c5 w8 ⊢
  rw [← hT] at c4 ⊢
  rw [← hS] at c0 ⊢
  clear hG hT hS
  go_enter Try.func35, Try.ntmps35
  go_wp2_with (refine Mem.wpList_box (o := ⟨some 3, _, _, _, _, _⟩) rfl 84 _ rfl (Frm.val ⟨kind, site, seq, ack, body⟩) rfl ?_
               intro w1 hn1
               have f0 := hn1.cell1 0 (v := .int .i64 kind) rfl
               have f1 := hn1.cell1 1 (v := .int .i64 site) rfl
               have f2 := hn1.cell1 2 (v := .int .i64 seq) rfl
               have f3 := hn1.cell1 3 (v := .int .i64 ack) rfl
               have d0 := Mem.keep hn1.below c0
               have d4 := Mem.keep hn1.below c4
               have d5 := Mem.keep hn1.below c5
               have HB := Lib.hid hn1.below
               clear hn1 c0 c4 c5)
  have j1 : ∀ i : Mem.Later w1, i.w.cell? ⟨w.heap.size, 1, none⟩ = some (.int .i64 site) := fun i => i.cell f1
  have j2 : ∀ i : Mem.Later w1, i.w.cell? ⟨g, 0, none⟩ = some (.int .i64 S) := fun i => i.cell d0
  have Hn := Lib.hid (show Below w.heap.size w w1 from HB.out)
  clear HB
  by_cases hs : site = S
  · subst hs
    refine Mem.wp_region_later (by kernel_rfl) (by kernel_rfl) ?_
    repeat (go_big_quiet_step (fail))
    refine wpQuiet_nil ?_
    intro w2 hw2
    obtain ⟨i2, hi2⟩ := hw2
    have h2 : Below w1.heap.size w1 w2 := hi2 ▸ i2.h
    clear hi2 i2 j1 j2
    have e0 := Mem.keep h2 f0
    have e2 := Mem.keep h2 f2
    have e3 := Mem.keep h2 f3
    have k4 := Mem.keep h2 d4
    have k5 := Mem.keep h2 d5
    have x0 : ∀ i : Mem.Later w2, i.w.cell? ⟨w.heap.size, 0, none⟩ = some (.int .i64 kind) := fun i => i.cell e0
    have x2 : ∀ i : Mem.Later w2, i.w.cell? ⟨w.heap.size, 2, none⟩ = some (.int .i64 seq) := fun i => i.cell e2
    have x3 : ∀ i : Mem.Later w2, i.w.cell? ⟨w.heap.size, 3, none⟩ = some (.int .i64 ack) := fun i => i.cell e3
    have x4 : ∀ i : Mem.Later w2, i.w.cell? ⟨g, 4, none⟩ = some (.int .i64 T) := fun i => i.cell k4
    have x5 : ∀ i : Mem.Later w2, i.w.cell? ⟨g, 5, none⟩ = some (.int .i64 G) := fun i => i.cell k5
    have H2 := Lib.hid (Mem.then_ Hn.out h2)
    clear h2 e0 e2 e3 k4 k5 f0 f1 f2 f3 d0 d4 d5
    by_cases ha : T < ack
    · go_wp2
      refine Mem.wp_region_later (by kernel_rfl) (by kernel_rfl) ?_
      repeat (go_big_quiet_step (fail))
      refine wpQuiet_nil ?_
      intro w3 hw3
      obtain ⟨i3, hi3⟩ := hw3
      have h3 : Below w2.heap.size w2 w3 := hi3 ▸ i3.h
      clear hi3 i3 x0 x2 x3 x4 x5
      go_wp2
      go_ret
      exact ⟨by simp, Mem.then_ H2.out h3⟩
    · have da : decide (T < ack) = false := decide_eq_false ha
      by_cases hk : kind = 1
      · subst hk
        by_cases hq : G + 8 < seq
        all_goals
          go_wp2
          refine Mem.wp_region_later (by kernel_rfl) (by kernel_rfl) ?_
          repeat (go_big_quiet_step (fail))
          refine wpQuiet_nil ?_
          intro w3 hw3
          obtain ⟨i3, hi3⟩ := hw3
          have h3 : Below w2.heap.size w2 w3 := hi3 ▸ i3.h
          clear hi3 i3 x0 x2 x3 x4 x5
          go_wp2
          go_ret
          exact ⟨by simp, Mem.then_ H2.out h3⟩
      · have hk2 : (kind == 1) = false := by simpa using hk
        go_wp2
        refine Mem.wp_region_later (by kernel_rfl) (by kernel_rfl) ?_
        repeat (go_big_quiet_step (fail))
        refine wpQuiet_nil ?_
        intro w3 hw3
        obtain ⟨i3, hi3⟩ := hw3
        have h3 : Below w2.heap.size w2 w3 := hi3 ▸ i3.h
        clear hi3 i3 x0 x2 x3 x4 x5
        go_wp2
        go_ret
        exact ⟨by simp, Mem.then_ H2.out h3⟩
  · have hs2 : (site == S) = false := by simpa using hs
    refine Mem.wp_region_later (by kernel_rfl) (by kernel_rfl) ?_
    repeat (go_big_quiet_step (fail))
    refine wpQuiet_nil ?_
    intro w2 hw2
    obtain ⟨i2, hi2⟩ := hw2
    have h2 : Below w1.heap.size w1 w2 := hi2 ▸ i2.h
    clear hi2 i2 j1 j2 f0 f1 f2 f3 d0 d4 d5
    go_wp2
    go_ret
    exact ⟨by simp, Mem.then_ Hn.out h2⟩

namespace Lnk
section
variable {w : World} {ops : Array Oper} {rest : List Oper} {o : Oper} {a : Act} {Q : Exit → Act → World → Prop}
theorem wpList_drop (hg : o.guard = none) (m x : Operand) (hop : o.op = Op.call { callee := Callee.builtin Builtin.delete, args := #[m, x], argTypes := #[74, 3] }) (b n : Nat) (E : Nat → Option (List UInt8)) (h : Mp w b n E)
    (hm : a.eval m = .map (some b)) (k : Nat) (hk : k < 4611686018427387904) (hx : a.eval x = .int .i64 (k : Int))
    (hK : ∀ w', Mp w' b n (upd E k none) → w.grownBy w' (some b) → wpList Try.prog ops Q rest (a.put o.dst (.tuple #[])) w') : wpList Try.prog ops Q (o :: rest) a w := by
  refine wpList_plain hg fun K' hK' => ?_
  obtain ⟨w', hrun, r1, r2⟩ := mp_drop h k hk o.type
  unfold Oper.wp
  simp [execOp, hop, resolve, invoke, builtin, hm, hx, hrun, Result.andThen]
  exact hK' _ _ (hK w' r1 r2.grown)
theorem wpList_keep (hg : o.guard = none) (m x v : Operand) (hop : o.op = Op.mapUpdate 74 m x v) (b n : Nat) (E : Nat → Option (List UInt8)) (h : Mp w b n E) (hn : n < maxLen)
    (hm : a.eval m = .map (some b)) (k : Nat) (hk : k < 4611686018427387904) (hx : a.eval x = .int .i64 (k : Int)) (s : List UInt8) (hs : s.length ≤ maxLen) (hv : a.eval v = .string (Mem.str s))
    (hK : ∀ w', Mp w' b (n + 1) (upd E k (some s)) → w.grownBy w' (some b) → wpList Try.prog ops Q rest (a.put o.dst undef) w') : wpList Try.prog ops Q (o :: rest) a w := by
  refine wpList_plain hg fun K' hK' => ?_
  obtain ⟨w', hrun, r1, r2⟩ := mp_store h k hk s hs hn
  unfold Oper.wp
  simp [execOp, hop, hm, hx, hv, hrun, Result.andThen]
  exact hK' _ _ (hK w' r1 r2.grown)
end
theorem Lie.turned {w w1 : World} {g b n : Nat} {F : Nat → Prop} {e : St} {out : Value} {E : Nat → Option (List UInt8)} (h : Lie w g F e out b) (hm : Mp w1 b n E) (hg : w.grownBy w1 (some b)) : Lie w1 g F { e with early := E, room := n } out b where
  row := (hg.block g (h.lt g h.fg) (fun e => h.gb (by injection e))).trans h.row
  own := h.own.keep fun k hk ho => hg.block k hk (fun e => h.ob (e ▸ ho))
  map := hm
  gb := h.gb
  og := h.og
  ob := h.ob
  fg := h.fg
  fb := h.fb
  fo := h.fo
  lt := fun k hk => Nat.lt_of_lt_of_le (h.lt k hk) hg.size
theorem But_grown {w w1 : World} {b : Nat} {F : Nat → Prop} (hg : w.grownBy w1 (some b)) (hF : F b) : Mem.But F w w1 := ⟨hg.os, hg.tape, hg.output, hg.size, fun k hk hn => hg.block k hk (fun e => hn (by injection e with e; exact e ▸ hF))⟩

/-- what is told: the bodies that follow without a gap -/
def toldGo : Nat → Nat → (Nat → Option (List UInt8)) → List (List UInt8) → Nat × (Nat → Option (List UInt8)) × List (List UInt8)
  | 0, g, E, acc => (g, E, acc)
  | f + 1, g, E, acc => match E (g + 1) with
    | none => (g, E, acc)
    | some s => toldGo f (g + 1) (upd E (g + 1) none) (acc ++ [s])
theorem toldGo_none {f g : Nat} {E : Nat → Option (List UInt8)} {acc : List (List UInt8)} (h : E (g + 1) = none) : toldGo f g E acc = (g, E, acc) := by
  cases f with
  | zero => rfl
  | succ f => unfold toldGo; rw [h]
theorem toldGo_some {f g : Nat} {E : Nat → Option (List UInt8)} {acc : List (List UInt8)} {s : List UInt8} (h : E (g + 1) = some s) : toldGo (f + 1) g E acc = toldGo f (g + 1) (upd E (g + 1) none) (acc ++ [s]) := by
  conv => lhs; unfold toldGo
  rw [h]
def gotOf (w : World) (g : Nat) : Nat := match w.cell? ⟨g, 5, none⟩ with
  | some (.int _ n) => n.toNat
  | _ => 0
def told (K : Nat) (e : St) : St × List (List UInt8) := let r := toldGo (K - e.got) e.got e.early []; ({ e with got := r.1, early := r.2.1 }, r.2.2)
end Lnk

set_option maxRecDepth 100000 in
set_option maxHeartbeats 1000000 in
theorem link_told (g : Nat) (F : Nat → Prop) (e : Lnk.St) (K : Nat) (hK : K < 4398046511104) (hE : ∀ k, K ≤ k → e.early k = none) (hgK : e.got ≤ K) (w : World) (h : Lnk.At w g F e) :
    Calls Try.prog 37 #[.pointer (some ⟨g, 0, none⟩)] w fun r w' => ∃ v, r = .returned v ∧ Lnk.At w' g F (Lnk.told K e).1 ∧
      Mem.Row w' w.heap.size 9 1 v (Lnk.told K e).2.length (Lnk.strs (Lnk.told K e).2) ∧ Mem.But F w w' := by
  obtain ⟨out, b, h⟩ := h
  obtain ⟨R, hR⟩ : ∃ R, Lnk.toldGo (K - e.got) e.got e.early [] = R := ⟨_, rfl⟩
  have hT : Lnk.told K e = ({ e with got := R.1, early := R.2.1 }, R.2.2) := by unfold Lnk.told; rw [hR]
  rw [hT]
  clear hT
  have H := Lib.hid h
  have HR := Lib.hid hR
  have HE := Lib.hid hE
  have HG := Lib.hid hgK
  clear h hR hE hgK
  go_enter Try.func37, Try.ntmps37
  go_wp2
  go_loopw [3] (fun v wr => ∃ (G : Nat) (E : Nat → Option (List UInt8)) (acc : List (List UInt8)), G ≤ K ∧ (∀ k, K ≤ k → E k = none) ∧ Lnk.toldGo (K - G) G E acc = R ∧ acc.length = G - e.got ∧ e.got ≤ G ∧
    Lnk.Lie wr g F { e with got := G, early := E } out b ∧ Mem.Row wr w.heap.size 9 1 v acc.length (Lnk.strs acc) ∧ Mem.But F w wr) (fun _ wr => K - Lnk.gotOf wr g)
  case atStart => exact ⟨e.got, e.early, [], HG.out, HE.out, HR.out, by simp, Nat.le_refl _, H.out, Mem.row_nil _ _ _ _, Mem.But.refl _ _⟩
  case round =>
    obtain ⟨G, E, acc, hGK, hE, hgo, hlen, hge, hl, hr, hb⟩ := hrel
    obtain ⟨B, c, rfl, hc1, hc2⟩ := hr.form
    have hgot : Lnk.gotOf wr g = G := by
      unfold Lnk.gotOf
      rw [show wr.cell? ⟨g, 5, none⟩ = some (.int .i64 (G : Int)) from (cell_of_row _ _ 5 _ _ _ hl.row).trans rfl]
      simp
    have hw : wrap64 ((G : Int) + 1) = (G : Int) + 1 := by unfold wrap64; omega
    have m6 : ∀ i : Mem.Later wr, i.w.cell? ⟨g, 6, none⟩ = some (.map (some b)) := fun i => i.cell ((cell_of_row _ _ 6 _ _ _ hl.row).trans rfl)
    have m5 : ∀ i : Mem.Later wr, i.w.cell? ⟨g, 5, none⟩ = some (.int .i64 G) := fun i => i.cell ((cell_of_row _ _ 5 _ _ _ hl.row).trans rfl)
    have ml : ∀ i : Mem.Later wr, (Instr.lookup 74 (.map (some b)) (.int .i64 ((G : Int) + 1)) true).run Try.prog i.w = .ok (.tuple #[.string (Mem.str ((E (G + 1)).getD [])), .bool (E (G + 1)).isSome]) i.w :=
      fun i => Lnk.mp_look (Lnk.mp_keep hl.map (i.h.block b (Lnk.mp_lt hl.map))) (G + 1) (by omega)
    have HL := Lib.hid hl
    have HRR := Lib.hid hr
    have HB := Lib.hid hb
    have HLEN := Lib.hid hlen
    clear hl hr hb hlen
    cases hEG : E (G + 1) with
    | none =>
      rw [hEG] at ml
      simp only [Option.getD_none, Option.isSome_none] at ml
      go_wp2
      refine Mem.wp_region_later (by kernel_rfl) (by kernel_rfl) ?_
      repeat (go_big_quiet_step (fail))
      refine wpQuiet_nil ?_
      intro w2 hw2
      obtain ⟨i2, hi2⟩ := hw2
      have h2 : Below wr.heap.size wr w2 := hi2 ▸ i2.h
      clear hi2 i2 m6 m5 ml
      go_wp2
      go_ret
      rw [Lnk.toldGo_none hEG] at hgo
      subst hgo
      exact ⟨_, rfl, ⟨_, _, HL.out.below h2⟩, HRR.out.below h2, HB.out.trans (Mem.But.of_below h2)⟩
    | some s =>
      rw [hEG] at ml
      simp only [Option.getD_some, Option.isSome_some] at ml
      have hlt : G + 1 < K := by
        rcases Nat.lt_or_ge (G + 1) K with h | h
        · exact h
        · rw [hE _ h] at hEG
          cases hEG
      rw [show K - G = K - (G + 1) + 1 by omega, Lnk.toldGo_some hEG] at hgo
      have HGO := Lib.hid hgo
      have HEE := Lib.hid hE
      clear hgo hE
      go_wp2
      refine Mem.wp_region_later (by kernel_rfl) (by kernel_rfl) ?_
      repeat (go_big_quiet_step (fail))
      refine wpQuiet_nil ?_
      intro w2 hw2
      obtain ⟨i2, hi2⟩ := hw2
      have h2 : Below wr.heap.size wr w2 := hi2 ▸ i2.h
      have k5 := m5 ⟨w2, h2⟩
      simp only at k5
      clear hi2 i2 m6 m5 ml
      have L2 := Lib.hid (HL.out.below h2)
      have R2 := Lib.hid (HRR.out.below h2)
      have B2 := Lib.hid (HB.out.trans (Mem.But.of_below h2))
      have f5 := frozen_of_row _ g 5 _ _ L2.out.row
      clear h2
      go_wp2
      have l3 : Lnk.Lie (w2.setCell ⟨g, 5, none⟩ (.int .i64 ((G : Int) + 1))) g F { e with got := G + 1, early := E } out b := L2.out.put { e with got := G + 1, early := E } (Mem.put_setCell w2 g 5 (.int .i64 ((G : Int) + 1)) _ _ L2.out.row) rfl rfl rfl
      have b3 := B2.out.trans (Mem.But.of_setCell (⟨g, 5, none⟩ : Addr) (.int .i64 ((G : Int) + 1)) L2.out.fg)
      have r3 : Mem.Row (w2.setCell ⟨g, 5, none⟩ (.int .i64 ((G : Int) + 1))) w.heap.size 9 1 (.slice B acc.length c) acc.length (Lnk.strs acc) :=
        R2.out.keep fun i hi ho => heap_setCell_other _ _ _ _ (fun e => by have := (R2.out.block ho).1; have := H.out.lt g H.out.fg; simp at e; omega)
      clear k5 f5
      generalize w2.setCell ⟨g, 5, none⟩ (.int .i64 ((G : Int) + 1)) = w3 at l3 b3 r3 ⊢
      have m6 : ∀ i : Mem.Later w3, i.w.cell? ⟨g, 6, none⟩ = some (.map (some b)) := fun i => i.cell ((cell_of_row _ _ 6 _ _ _ l3.row).trans rfl)
      have m5 : ∀ i : Mem.Later w3, i.w.cell? ⟨g, 5, none⟩ = some (.int .i64 ((G : Int) + 1)) := fun i => i.cell ((cell_of_row _ _ 5 _ _ _ l3.row).trans rfl)
      have L3 := Lib.hid l3
      have B3 := Lib.hid b3
      have R3 := Lib.hid r3
      clear l3 b3 r3
      refine Mem.wp_region_later_tail 8 (by kernel_rfl) (by kernel_rfl) ?_
      simp only [List.take_succ_cons, List.take_zero, List.drop_succ_cons, List.drop_zero]
      repeat (go_big_quiet_step (fail))
      refine wpQuiet_nil ?_
      intro w4 hw4
      obtain ⟨i4, hi4⟩ := hw4
      have h4 : Below w3.heap.size w3 w4 := hi4 ▸ i4.h
      clear hi4 i4 m6 m5
      have L4 := Lib.hid (L3.out.below h4)
      have R4 := Lib.hid (R3.out.below h4)
      have B4 := Lib.hid (B3.out.trans (Mem.But.of_below h4))
      clear h4
      refine Lnk.wpList_drop rfl _ _ rfl b e.room E L4.out.map rfl (G + 1) (by omega) rfl ?_
      intro w5 hm5 hg5
      have l5 : Lnk.Lie w5 g F { e with got := G + 1, early := Lnk.upd E (G + 1) none } out b := L4.out.turned hm5 hg5
      have L5 := Lib.hid l5
      have B5 := Lib.hid (B4.out.trans (Lnk.But_grown hg5 L4.out.fb))
      have R5 := Lib.hid (R4.out.keep (w1 := w5) fun i hi ho => hg5.block i hi (fun e => by have := (R4.out.block ho).1; have := H.out.lt b H.out.fb; injection e with e; omega))
      clear hm5 hg5 l5
      obtain ⟨i, hi, hz, hz1, hz2⟩ := info_parts Lnk.info_str
      have hsz5 : w.heap.size ≤ w5.heap.size := B5.out.size
      have hal : Below w5.heap.size w5 (w5.alloc (.cells #[.string (Mem.str s)] 9)) := (Below.refl _ _).alloc (Nat.le_refl _) _
      go_wp2_with (at_builtin; go_loud (
        refine Mem.wpList_append_row _ rfl (.tmp 37) (.tmp 39) 32 rfl w.heap.size 9 i _ 1 16 Try.underlying32 hi hz hz1 hz2 rfl (.slice B acc.length c) acc.length _ rfl (R5.out.alloc _) ⟨w5.heap.size, 0, none⟩ 1 1 [.string (Mem.str s)] rfl rfl (World.news_of_block (heap_alloc_new _ _)) (by intro u hu; simp at hu; subst hu; rfl) (by omega) (by have := HLEN.out; unfold maxLen; omega) (by have := HLEN.out; omega) (by simp; omega) ?_
        intro v' w8 hown hgrow hat))
      have hfr : ∀ k', F k' → (Value.slice B acc.length c).ownBlock ≠ some k' := fun k' hk' ho => by
        have := (R5.out.block ho).1
        have := H.out.lt k' hk'
        omega
      have l8 := (L5.out.below hal).grown hgrow hfr
      have hg8 : Lnk.gotOf w8 g = G + 1 := by
        unfold Lnk.gotOf
        rw [show w8.cell? ⟨g, 5, none⟩ = some (.int .i64 ((G + 1 : Nat) : Int)) from (cell_of_row _ _ 5 _ _ _ l8.row).trans rfl]
        simp
      refine ⟨⟨G + 1, Lnk.upd E (G + 1) none, acc ++ [s], by omega, fun k hk => ?_, HGO.out, ?_, by omega, l8, ?_, ?_⟩, by rw [hg8, hgot]; omega⟩
      · unfold Lnk.upd
        split
        · rfl
        · exact HEE.out k hk
      · have := HLEN.out
        simp; omega
      · rw [List.length_append]
        unfold Lnk.strs
        rw [List.map_append]
        exact hown
      · refine (B5.out.trans (Mem.But.of_below hal)).later (T := fun k' => (Value.slice B acc.length c).ownBlock = some k') ⟨hgrow.os, hgrow.tape, hgrow.output, hgrow.size, fun k' hk' hF => hgrow.block k' hk' fun e => hF e.symm⟩ fun i hi ho => ?_
        have := (R5.out.block ho).1
        omega
end Go.Proofs.Ytgkadhogfejheaa
