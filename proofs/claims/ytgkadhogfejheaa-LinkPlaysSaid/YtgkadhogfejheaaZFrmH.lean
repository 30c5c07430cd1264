/- The walks of package frame: getting. -/
import Derived.Test.YtgkadhogfejheaaZFrmPure
set_option linter.unusedVariables false
set_option linter.unusedSimpArgs false
namespace Go.Proofs.Ytgkadhogfejheaa
open Go.RowKit

namespace Frm
/-- the fields, in their order -/
def Tab (w : World) (b : Nat) : Prop := w.heap[b]? = some (.cells #[.int .i64 0, .func (.func 66) #[] #[], .int .i64 1, .func (.func 68) #[] #[],
  .int .i64 0, .func (.func 69) #[] #[], .int .i64 1, .func (.func 70) #[] #[]] 117 (0, 0))
theorem zero_field : (Try.prog.info? 117).bind (·.zero) = some (.agg #[.int .i64 0, .nilFunc]) := by kernel_rfl
theorem size_field : (Try.prog.info? 117).map (·.size) = some 2 := by kernel_rfl
structure Mid (w wr : World) (g r T : Nat) (k : Int) (l : List UInt8) (n : Nat) : Prop where
  rr : Rr wr r g (stage k l n).1
  rd : Num.Rd wr g (stage k l n).2.1 (stage k l n).2.2
  tab : Tab wr T
  res : wr.heap[w.heap.size]? = some (.cells #[.int .i64 0, .int .i64 0, .int .i64 0, .int .i64 0, .string ⟨#[]⟩] 84 (0, 0))
  bel : Below w.heap.size w wr
  ord : w.heap.size < g ∧ g < r ∧ r < T
theorem Tab.cell {w : World} {T : Nat} (h : Tab w T) (i : Nat) {v : Value} (hv : (#[Value.int .i64 0, .func (.func 66) #[] #[], .int .i64 1, .func (.func 68) #[] #[],
  .int .i64 0, .func (.func 69) #[] #[], .int .i64 1, .func (.func 70) #[] #[]] : Array Value)[i]? = some v) : w.cell? ⟨T, i, none⟩ = some v :=
  (cell_of_row w T i _ _ _ h).trans hv
theorem Tab.lt {w : World} {T : Nat} (h : Tab w T) : T < w.heap.size := (Array.getElem?_eq_some_iff.1 h).1
theorem one_field (x : Int) (f : FuncId) : (#[Value.int .i64 x, .func (.func f) #[] #[]]).all (·.oneCell') = true := by simp [Value.oneCell']
theorem Mid.step {w wr w6 w7 : World} {g r T : Nat} {k : Int} {l : List UInt8} {n : Nat} {cs cs' : Array Value} {t t' : TypeId} (h : Mid w wr g r T k l n) (hn : Mem.New wr w6 cs t) (hp : Mem.Put w6 w7 wr.heap.size cs' t') :
    Rr w7 r g (stage k l n).1 ∧ Num.Rd w7 g (stage k l n).2.1 (stage k l n).2.2 ∧ Mem.But (fun _ => False) wr w7 := by
  have hb : Mem.But (fun _ => False) wr w7 := (Mem.But.of_new hn).later (Mem.But.of_put hp (S := (· = wr.heap.size)) rfl) (by intro i hi (e : i = wr.heap.size); omega)
  have hr := h.rr.lt
  have hg : g < wr.heap.size := by have := h.ord; have := h.tab.lt; omega
  exact ⟨(hb.block r hr (fun x => x)).trans h.rr, (hb.block g hg (fun x => x)).trans h.rd, hb⟩
theorem stage_one (k : Int) (l : List UInt8) {x : Nat} {t : List UInt8} {c : Int} (h : Num.step 16 (stage k l 0).2.1 (stage k l 0).2.2 = (x, t, c)) : stage k l 1 = ({ (stage k l 0).1 with site := x }, t, c) := by
  show f1 (stage k l 0) = _; unfold f1; rw [h]
theorem stage_two (k : Int) (l : List UInt8) (hk : k = 1) {x : Nat} {t : List UInt8} {c : Int} (h : Num.step 1099511627776 (stage k l 1).2.1 (stage k l 1).2.2 = (x, t, c)) : stage k l 2 = ({ (stage k l 1).1 with seq := x }, t, c) := by
  show st2 k l = _; unfold st2; rw [if_pos hk]; show f2 (stage k l 1) = _; unfold f2; rw [h]
theorem stage_two_no (k : Int) (l : List UInt8) (hk : ¬ k = 1) : stage k l 2 = stage k l 1 := by
  show st2 k l = _; unfold st2; rw [if_neg hk]; rfl
theorem stage_three (k : Int) (l : List UInt8) {x : Nat} {t : List UInt8} {c : Int} (h : Num.step 1099511627776 (stage k l 2).2.1 (stage k l 2).2.2 = (x, t, c)) : stage k l 3 = ({ (stage k l 2).1 with ack := x }, t, c) := by
  show f3 (stage k l 2) = _; unfold f3; rw [h]
theorem stage_four (k : Int) (l : List UInt8) (hk : k = 1) {x : List UInt8} {t : List UInt8} {c : Int} (h : Num.text 1048576 (stage k l 3).2.1 (stage k l 3).2.2 = (x, t, c)) : stage k l 4 = ({ (stage k l 3).1 with body := x }, t, c) := by
  show st4 k l = _; unfold st4; rw [if_pos hk]; show f4 (stage k l 3) = _; unfold f4; rw [h]
theorem stage_four_no (k : Int) (l : List UInt8) (hk : ¬ k = 1) : stage k l 4 = stage k l 3 := by
  show st4 k l = _; unfold st4; rw [if_neg hk]; rfl
/-- a block more, or one of those written -/
theorem Mid.but {w wr w' : World} {g r T : Nat} {k : Int} {l : List UInt8} {n m : Nat} (h : Mid w wr g r T k l n) (hb : Mem.But (fun i => i = g ∨ i = r) wr w')
    (hr : Rr w' r g (stage k l m).1) (hd : Num.Rd w' g (stage k l m).2.1 (stage k l m).2.2) : Mid w w' g r T k l m := by
  obtain ⟨o1, o2, o3⟩ := h.ord
  have hT := h.tab.lt
  refine ⟨hr, hd, (hb.block T hT (by omega)).trans h.tab, (hb.block _ (by omega) (by omega)).trans h.res, h.bel.trans (hb.below h.bel.size (by intro i hi; omega)), h.ord⟩
end Frm

namespace Frm
/-- a result that is a row of cells, and one in a slot -/
theorem results_row_tmp {P : Program} {fn : Func} {p q : Tmp} {ty : TypeId} (h : fn.results = #[.cell p ty, .tmp q]) (tmps : Array Value) (w : World) (g : Nat) (v : Value) (t : TypeId) (cs : Array Value) (fr : Nat × Nat) (d : TypeDesc)
    (hp : tmps.getD p undef = .pointer (some ⟨g, 0, none⟩)) (hq : tmps.getD q undef = v) (hg : w.heap[g]? = some (.cells cs t fr))
    (hu : P.underlying ty = some d) (hd : (match d with | .struct _ | .array _ _ => true | _ => false) = true) (hi : (P.info? ty).map (·.size) = some cs.size) :
    (results fn tmps).run P w = .ok (.tuple #[.agg cs, v]) w := by
  have hp' : tmps[p]?.getD undef = .pointer (some ⟨g, 0, none⟩) := by simpa using hp
  have hq' : tmps[q]?.getD undef = v := by simpa using hq
  simp [results, h, hp', hq', asAddr, run_loadVar_row w g t ty cs fr d hg hu hd hi]
theorem get_eq (k : UInt8) (hk : k = 1 ∨ k = 2) (l s : List UInt8) (hs : 70 :: 83 :: k :: l = s) : get s =
    if (stage k.toNat l 4).2.2 ≠ 0 then (zero, (stage k.toNat l 4).2.2) else
    if (stage k.toNat l 4).2.1.length < 4 then (zero, 8) else
    if 4 < (stage k.toNat l 4).2.1.length then (zero, 11) else
    if Crc.four (Crc.sum (s.take (s.length - 4))) ≠ s.drop (s.length - 4) then (zero, 10) else
    if okB (stage k.toNat l 4).1 = false then (zero, 9) else ((stage k.toNat l 4).1, 0) := by
  subst hs
  rw [get_cons, if_neg (by simp [hk])]
  rfl
theorem str_ne (a b : List UInt8) (h : a ≠ b) : ((Mem.str a).data.toList == (Mem.str b).data.toList) = false := by
  rw [Mem.str_toList, Mem.str_toList]; exact beq_eq_false_iff_ne.2 h
end Frm

theorem frame_fields (w : World) :
    Calls Try.prog 53 #[] w fun e w' => e = .returned (.slice (some ⟨w.heap.size, 0, none⟩) 4 4) ∧ Frm.Tab w' w.heap.size ∧ Below w.heap.size w w' := by
  go_enter Try.func53, Try.ntmps53
  go_wp2_with (fail)
  go_ret
  exact ⟨rfl, heap_alloc_new _ _, (Below.refl _ _).alloc (Nat.le_refl _) _⟩

set_option maxRecDepth 100000 in
set_option maxHeartbeats 8000000 in
theorem frame_get_main (k : UInt8) (hk : k = 1 ∨ k = 2) (l : List UInt8) (hl : l.length < 2 ^ 61) (w : World) :
    Calls Try.prog 34 #[.string (Mem.str (70 :: 83 :: k :: l))] w fun e w' => e = .returned (.tuple #[Frm.val (Frm.get (70 :: 83 :: k :: l)).1, .int .i64 (Frm.get (70 :: 83 :: k :: l)).2]) ∧ Below w.heap.size w w' := by
  obtain ⟨s, hs⟩ : ∃ s, 70 :: 83 :: k :: l = s := ⟨_, rfl⟩
  have hlen : s.length = l.length + 3 := by rw [← hs]; simp
  have hsz : (Mem.str s).size = s.length := Mem.str_size s
  have hd3 : decide ((s.length : Int) < 3) = false := by rw [decide_eq_false_iff_not]; omega
  have hi3 : ¬ (s.length : Int) < 3 := by omega
  have hget : ∀ h, (Mem.str s)[2]'h = k := by intro h; subst hs; rfl
  have hex1 : (Mem.str s).extract 0 2 = ⟨#[70, 83]⟩ := by rw [Num.str_extract, ← hs]; rfl
  have hex2 : (Mem.str s).extract 3 s.length = Mem.str l := by rw [Num.str_drop, ← hs]; rfl
  have hb2 : (2 : Int) ≤ s.length := by omega
  have hb3 : (3 : Int) ≤ s.length := by omega
  have hb4 : (2 : Int) < s.length := by omega
  have hki : 1 ≤ (k.toNat : Int) ∧ (k.toNat : Int) ≤ 2 := by rcases hk with rfl | rfl <;> decide
  have hkd : decide (1 ≤ (k.toNat : Int) ∧ (k.toNat : Int) ≤ 2) = true := decide_eq_true hki
  have hwk : IntKind.i64.wrap (k.toNat : Int) = k.toNat := by rw [IntKind.wrap_i64]; omega
  have Hl := Lib.hid hl
  have Hs := Lib.hid hs
  have Hk := Lib.hid hk
  have Hlen := Lib.hid hlen
  rw [hs]
  clear hl hs hk hlen
  go_enter Try.func34, Try.ntmps34
  go_wp2_with (first
    | (refine Mem.wpList_alloc (o := ⟨some 2, _, _, _, _, _⟩) rfl 84 rfl _ Frm.zero_frame ?_
       intro w1 hn1
       have Hn1 := Lib.hid hn1
       clear hn1)
    | (go_at_call 51
       refine (frame_within _ _ _ _).mono ?_
       rw [hkd]
       rintro e w2 ⟨rfl, rfl⟩)
    | (go_at_call 52
       refine (nums_Read _ _).mono ?_
       rintro e w3 ⟨rfl, hrd3, hb3'⟩
       rw [Mem.str_toList] at hrd3
       have Hrd3 := Lib.hid hrd3
       have Hb3 := Lib.hid hb3'
       clear hrd3 hb3')
    | (refine Mem.wpList_box (o := ⟨some 32, _, _, _, _, _⟩) rfl 112 _ rfl (.agg #[.pointer (some ⟨w1.heap.size, 0, none⟩), .int .i64 k.toNat, .int .i64 0, .int .i64 0, .int .i64 0, .string (Mem.str [])]) rfl ?_
       intro w4 hn4
       have Hn4 := Lib.hid hn4
       clear hn4)
    | (go_at_call 53
       refine (frame_fields _).mono ?_
       rintro e w5 ⟨rfl, htab, hb5⟩
       have Htab := Lib.hid htab
       have Hb5 := Lib.hid hb5
       clear htab hb5))
  have hs1 := Hn1.out.size
  have hs4 := Hn4.out.size
  have hg3 : w1.heap.size < w3.heap.size := (Array.getElem?_eq_some_iff.1 Hrd3.out).1
  have hrd5 : Num.Rd w5 w1.heap.size l 0 := by
    have h4 : w4.heap[w1.heap.size]? = w3.heap[w1.heap.size]? := Hn4.out.old hg3
    exact ((Hb5.out.block _ (by omega)).trans h4).trans Hrd3.out
  have hrr5 : Frm.Rr w5 w3.heap.size w1.heap.size (Frm.st0 k.toNat l).1 := (Hb5.out.block _ (by omega)).trans Hn4.out.row
  have hbel5 : Below w.heap.size w w5 := Mem.then_ (Mem.then_ (Mem.then_ Hn1.out.below Hb3.out) Hn4.out.below) Hb5.out
  have hres5 : w5.heap[w.heap.size]? = some (.cells #[.int .i64 0, .int .i64 0, .int .i64 0, .int .i64 0, .string ⟨#[]⟩] 84 (0, 0)) := by
    have h3 : w3.heap[w.heap.size]? = w1.heap[w.heap.size]? := Hb3.out.block _ (by omega)
    have h4 : w4.heap[w.heap.size]? = w3.heap[w.heap.size]? := Hn4.out.old (by omega)
    exact (((Hb5.out.block _ (by omega)).trans h4).trans h3).trans Hn1.out.row
  obtain ⟨g, hg⟩ : ∃ g, w1.heap.size = g := ⟨_, rfl⟩
  obtain ⟨r, hr⟩ : ∃ r, w3.heap.size = r := ⟨_, rfl⟩
  obtain ⟨T, hT⟩ : ∃ T, w4.heap.size = T := ⟨_, rfl⟩
  have HTab := Htab.out
  rw [hg, hr] at hrr5
  rw [hg] at hrd5
  rw [hT] at HTab
  rw [hg, hr, hT]
  have Hord := Lib.hid (show w.heap.size < g ∧ g < r ∧ r < T by omega)
  clear hs1 hs4 hg3 Hn1 Hrd3 Hb3 Hn4 Htab Hb5 hg hr hT
  have hmid0 : Frm.Mid w w5 g r T k.toNat l 0 := ⟨hrr5, hrd5, HTab, hres5, hbel5, Hord.out⟩
  have Hmid0 := Lib.hid hmid0
  clear hrr5 hrd5 HTab hres5 hbel5 hmid0
  go_loopw [35] (fun i wr => ∃ n : Nat, n ≤ 4 ∧ i = .int .i64 n ∧ Frm.Mid w wr g r T k.toNat l n) (fun i _ => 4 - (intOf i).toNat)
  case atStart => exact ⟨0, by omega, rfl, Hmid0.out⟩
  case round =>
    obtain ⟨n, hn, rfl, hmid⟩ := hrel
    have hcase : n = 0 ∨ n = 1 ∨ n = 2 ∨ n = 3 ∨ n = 4 := by omega
    rcases hcase with rfl | rfl | rfl | rfl | rfl
    · have t0 : wr.cell? ⟨T, 0, none⟩ = some (.int .i64 0) := hmid.tab.cell 0 rfl
      have t1 : wr.cell? ⟨T, 1, none⟩ = some (.func (.func 66) #[] #[]) := hmid.tab.cell 1 rfl
      have Hmid := Lib.hid hmid
      clear hmid
      go_wp2_with (first
        | (refine Mem.wpList_alloc (o := ⟨some 7, _, _, _, _, _⟩) rfl 117 rfl _ Frm.zero_field ?_
           intro w6 hn6
           have Hn6 := Lib.hid hn6
           clear hn6)
        | (refine Mem.wpList_store rfl 117 (.tmp 7) (.tmp 38) rfl _ #[.int .i64 0, .func (.func 66) #[] #[]] rfl rfl _ _ Hn6.out.row Frm.size_field rfl (Frm.one_field _ _) ?_
           intro w7 hp7
           have Hp7 := Lib.hid hp7
           have e0 : w7.cell? ⟨wr.heap.size, 0, none⟩ = some (.int .i64 0) := by rw [cell_of_row _ _ 0 _ _ _ hp7.row]; rfl
           have e1 : w7.cell? ⟨wr.heap.size, 1, none⟩ = some (.func (.func 66) #[] #[]) := by rw [cell_of_row _ _ 1 _ _ _ hp7.row]; rfl
           clear hp7))
      obtain ⟨hrr7, hrd7, hbut7⟩ := Hmid.out.step Hn6.out Hp7.out
      have hne : r ≠ g := by have := Hmid.out.ord; omega
      have hll : (Frm.stage (k.toNat : Int) l 0).2.1.length < 2 ^ 62 := by
        have h1 : (Frm.stage (k.toNat : Int) l 0).2.1.length ≤ l.length := Nat.le_refl _
        have := Hl.out; omega
      refine (frame_field1 r g hne _ _ _ w7 hll hrr7 hrd7).mono ?_
      rintro e w8 ⟨x, t, c', hst, rfl, hrr8, hrd8, hbut8⟩
      have est := Frm.stage_one (k.toNat : Int) l hst
      have hb8 : Mem.But (fun i => i = g ∨ i = r) wr w8 := (hbut7.mono fun _ _ h => h.elim).trans hbut8
      have Hm8 := Lib.hid (Hmid.out.but (m := 1) hb8 (by rw [est]; exact hrr8) (by rw [est]; exact hrd8))
      clear hrr7 hrd7 hbut7 hll hst hrr8 hrd8 hbut8 est hb8 hne
      go_wp2
      exact ⟨⟨1, by omega, rfl, Hm8.out⟩, by simp [intOf]⟩
    · have t0 : wr.cell? ⟨T, 2, none⟩ = some (.int .i64 1) := hmid.tab.cell 2 rfl
      have t1 : wr.cell? ⟨T, 3, none⟩ = some (.func (.func 68) #[] #[]) := hmid.tab.cell 3 rfl
      have Hmid := Lib.hid hmid
      clear hmid
      have ec : ((1 : Nat) : Int) = 1 := rfl
      rw [ec]
      clear ec
      by_cases hk1 : (k.toNat : Int) = 1
      · have hkb : ((1 : Int) == (k.toNat : Int)) = true := by rw [hk1]; rfl
        have hkd1 : decide ((1 : Int) = (k.toNat : Int)) = true := by rw [hk1]; rfl
        have Hk1 := Lib.hid hk1
        clear hk1
        go_wp2_with (first
          | (refine Mem.wpList_alloc (o := ⟨some 7, _, _, _, _, _⟩) rfl 117 rfl _ Frm.zero_field ?_
             intro w6 hn6
             have Hn6 := Lib.hid hn6
             clear hn6)
          | (refine Mem.wpList_store rfl 117 (.tmp 7) (.tmp 38) rfl _ #[.int .i64 1, .func (.func 68) #[] #[]] rfl rfl _ _ Hn6.out.row Frm.size_field rfl (Frm.one_field _ _) ?_
             intro w7 hp7
             have Hp7 := Lib.hid hp7
             have e0 : w7.cell? ⟨wr.heap.size, 0, none⟩ = some (.int .i64 1) := by rw [cell_of_row _ _ 0 _ _ _ hp7.row]; rfl
             have e1 : w7.cell? ⟨wr.heap.size, 1, none⟩ = some (.func (.func 68) #[] #[]) := by rw [cell_of_row _ _ 1 _ _ _ hp7.row]; rfl
             clear hp7))
        have hk1 := Hk1.out
        obtain ⟨hrr7, hrd7, hbut7⟩ := Hmid.out.step Hn6.out Hp7.out
        have hne : r ≠ g := by have := Hmid.out.ord; omega
        have hll : (Frm.stage (k.toNat : Int) l 1).2.1.length < 2 ^ 62 := by
          have h1 : (Frm.stage (k.toNat : Int) l 1).2.1.length ≤ l.length := Frm.st1_len _ _
          have := Hl.out; omega
        refine (frame_field2 r g hne _ _ _ w7 hll hrr7 hrd7).mono ?_
        rintro e w8 ⟨x, t, c', hst, rfl, hrr8, hrd8, hbut8⟩
        have est := Frm.stage_two (k.toNat : Int) l hk1 hst
        have hb8 : Mem.But (fun i => i = g ∨ i = r) wr w8 := (hbut7.mono fun _ _ h => h.elim).trans hbut8
        have Hm8 := Lib.hid (Hmid.out.but (m := 2) hb8 (by rw [est]; exact hrr8) (by rw [est]; exact hrd8))
        clear hrr7 hrd7 hbut7 hll hst hrr8 hrd8 hbut8 est hb8 hne hk1
        go_wp2
        exact ⟨⟨2, by omega, rfl, Hm8.out⟩, by simp [intOf]⟩
      · have hkb : ((1 : Int) == (k.toNat : Int)) = false := beq_eq_false_iff_ne.2 (Ne.symm hk1)
        have hkd1 : decide ((1 : Int) = (k.toNat : Int)) = false := decide_eq_false_iff_not.2 (Ne.symm hk1)
        have hki1 : ¬ (1 : Int) = (k.toNat : Int) := Ne.symm hk1
        go_wp2_with (first
          | (refine Mem.wpList_alloc (o := ⟨some 7, _, _, _, _, _⟩) rfl 117 rfl _ Frm.zero_field ?_
             intro w6 hn6
             have Hn6 := Lib.hid hn6
             clear hn6)
          | (refine Mem.wpList_store rfl 117 (.tmp 7) (.tmp 38) rfl _ #[.int .i64 1, .func (.func 68) #[] #[]] rfl rfl _ _ Hn6.out.row Frm.size_field rfl (Frm.one_field _ _) ?_
             intro w7 hp7
             have Hp7 := Lib.hid hp7
             have e0 : w7.cell? ⟨wr.heap.size, 0, none⟩ = some (.int .i64 1) := by rw [cell_of_row _ _ 0 _ _ _ hp7.row]; rfl
             have e1 : w7.cell? ⟨wr.heap.size, 1, none⟩ = some (.func (.func 68) #[] #[]) := by rw [cell_of_row _ _ 1 _ _ _ hp7.row]; rfl
             clear hp7))
        obtain ⟨hrr7, hrd7, hbut7⟩ := Hmid.out.step Hn6.out Hp7.out
        have est := Frm.stage_two_no (k.toNat : Int) l hk1
        refine ⟨⟨2, by omega, rfl, ?_⟩, by simp [intOf]⟩
        exact Hmid.out.but (m := 2) (hbut7.mono fun _ _ h => h.elim) (by rw [est]; exact hrr7) (by rw [est]; exact hrd7)
    · have t0 : wr.cell? ⟨T, 4, none⟩ = some (.int .i64 0) := hmid.tab.cell 4 rfl
      have t1 : wr.cell? ⟨T, 5, none⟩ = some (.func (.func 69) #[] #[]) := hmid.tab.cell 5 rfl
      have Hmid := Lib.hid hmid
      clear hmid
      have ec : ((2 : Nat) : Int) = 2 := rfl
      rw [ec]
      clear ec
      go_wp2_with (first
        | (refine Mem.wpList_alloc (o := ⟨some 7, _, _, _, _, _⟩) rfl 117 rfl _ Frm.zero_field ?_
           intro w6 hn6
           have Hn6 := Lib.hid hn6
           clear hn6)
        | (refine Mem.wpList_store rfl 117 (.tmp 7) (.tmp 38) rfl _ #[.int .i64 0, .func (.func 69) #[] #[]] rfl rfl _ _ Hn6.out.row Frm.size_field rfl (Frm.one_field _ _) ?_
           intro w7 hp7
           have Hp7 := Lib.hid hp7
           have e0 : w7.cell? ⟨wr.heap.size, 0, none⟩ = some (.int .i64 0) := by rw [cell_of_row _ _ 0 _ _ _ hp7.row]; rfl
           have e1 : w7.cell? ⟨wr.heap.size, 1, none⟩ = some (.func (.func 69) #[] #[]) := by rw [cell_of_row _ _ 1 _ _ _ hp7.row]; rfl
           clear hp7))
      obtain ⟨hrr7, hrd7, hbut7⟩ := Hmid.out.step Hn6.out Hp7.out
      have hne : r ≠ g := by have := Hmid.out.ord; omega
      have hll : (Frm.stage (k.toNat : Int) l 2).2.1.length < 2 ^ 62 := by
        have h1 : (Frm.stage (k.toNat : Int) l 2).2.1.length ≤ l.length := Frm.st2_len _ _
        have := Hl.out; omega
      refine (frame_field3 r g hne _ _ _ w7 hll hrr7 hrd7).mono ?_
      rintro e w8 ⟨x, t, c', hst, rfl, hrr8, hrd8, hbut8⟩
      have est := Frm.stage_three (k.toNat : Int) l hst
      have hb8 : Mem.But (fun i => i = g ∨ i = r) wr w8 := (hbut7.mono fun _ _ h => h.elim).trans hbut8
      have Hm8 := Lib.hid (Hmid.out.but (m := 3) hb8 (by rw [est]; exact hrr8) (by rw [est]; exact hrd8))
      clear hrr7 hrd7 hbut7 hll hst hrr8 hrd8 hbut8 est hb8 hne
      go_wp2
      exact ⟨⟨3, by omega, rfl, Hm8.out⟩, by simp [intOf]⟩
    · have t0 : wr.cell? ⟨T, 6, none⟩ = some (.int .i64 1) := hmid.tab.cell 6 rfl
      have t1 : wr.cell? ⟨T, 7, none⟩ = some (.func (.func 70) #[] #[]) := hmid.tab.cell 7 rfl
      have Hmid := Lib.hid hmid
      clear hmid
      have ec : ((3 : Nat) : Int) = 3 := rfl
      rw [ec]
      clear ec
      by_cases hk1 : (k.toNat : Int) = 1
      · have hkb : ((1 : Int) == (k.toNat : Int)) = true := by rw [hk1]; rfl
        have hkd1 : decide ((1 : Int) = (k.toNat : Int)) = true := by rw [hk1]; rfl
        have Hk1 := Lib.hid hk1
        clear hk1
        go_wp2_with (first
          | (refine Mem.wpList_alloc (o := ⟨some 7, _, _, _, _, _⟩) rfl 117 rfl _ Frm.zero_field ?_
             intro w6 hn6
             have Hn6 := Lib.hid hn6
             clear hn6)
          | (refine Mem.wpList_store rfl 117 (.tmp 7) (.tmp 38) rfl _ #[.int .i64 1, .func (.func 70) #[] #[]] rfl rfl _ _ Hn6.out.row Frm.size_field rfl (Frm.one_field _ _) ?_
             intro w7 hp7
             have Hp7 := Lib.hid hp7
             have e0 : w7.cell? ⟨wr.heap.size, 0, none⟩ = some (.int .i64 1) := by rw [cell_of_row _ _ 0 _ _ _ hp7.row]; rfl
             have e1 : w7.cell? ⟨wr.heap.size, 1, none⟩ = some (.func (.func 70) #[] #[]) := by rw [cell_of_row _ _ 1 _ _ _ hp7.row]; rfl
             clear hp7))
        have hk1 := Hk1.out
        obtain ⟨hrr7, hrd7, hbut7⟩ := Hmid.out.step Hn6.out Hp7.out
        have hne : r ≠ g := by have := Hmid.out.ord; omega
        have hll : (Frm.stage (k.toNat : Int) l 3).2.1.length < 2 ^ 62 := by
          have h1 : (Frm.stage (k.toNat : Int) l 3).2.1.length ≤ l.length := Frm.st3_len _ _
          have := Hl.out; omega
        refine (frame_field4 r g hne _ _ _ w7 hll hrr7 hrd7).mono ?_
        rintro e w8 ⟨x, t, c', hst, rfl, hrr8, hrd8, hbut8⟩
        have est := Frm.stage_four (k.toNat : Int) l hk1 hst
        have hb8 : Mem.But (fun i => i = g ∨ i = r) wr w8 := (hbut7.mono fun _ _ h => h.elim).trans hbut8
        have Hm8 := Lib.hid (Hmid.out.but (m := 4) hb8 (by rw [est]; exact hrr8) (by rw [est]; exact hrd8))
        clear hrr7 hrd7 hbut7 hll hst hrr8 hrd8 hbut8 est hb8 hne hk1
        go_wp2
        exact ⟨⟨4, by omega, rfl, Hm8.out⟩, by simp [intOf]⟩
      · have hkb : ((1 : Int) == (k.toNat : Int)) = false := beq_eq_false_iff_ne.2 (Ne.symm hk1)
        have hkd1 : decide ((1 : Int) = (k.toNat : Int)) = false := decide_eq_false_iff_not.2 (Ne.symm hk1)
        have hki1 : ¬ (1 : Int) = (k.toNat : Int) := Ne.symm hk1
        go_wp2_with (first
          | (refine Mem.wpList_alloc (o := ⟨some 7, _, _, _, _, _⟩) rfl 117 rfl _ Frm.zero_field ?_
             intro w6 hn6
             have Hn6 := Lib.hid hn6
             clear hn6)
          | (refine Mem.wpList_store rfl 117 (.tmp 7) (.tmp 38) rfl _ #[.int .i64 1, .func (.func 70) #[] #[]] rfl rfl _ _ Hn6.out.row Frm.size_field rfl (Frm.one_field _ _) ?_
             intro w7 hp7
             have Hp7 := Lib.hid hp7
             have e0 : w7.cell? ⟨wr.heap.size, 0, none⟩ = some (.int .i64 1) := by rw [cell_of_row _ _ 0 _ _ _ hp7.row]; rfl
             have e1 : w7.cell? ⟨wr.heap.size, 1, none⟩ = some (.func (.func 70) #[] #[]) := by rw [cell_of_row _ _ 1 _ _ _ hp7.row]; rfl
             clear hp7))
        obtain ⟨hrr7, hrd7, hbut7⟩ := Hmid.out.step Hn6.out Hp7.out
        have est := Frm.stage_four_no (k.toNat : Int) l hk1
        refine ⟨⟨4, by omega, rfl, ?_⟩, by simp [intOf]⟩
        exact Hmid.out.but (m := 4) (hbut7.mono fun _ _ h => h.elim) (by rw [est]; exact hrr7) (by rw [est]; exact hrd7)
    · have r0 := hmid.rr.cell 0 (v := .pointer (some ⟨g, 0, none⟩)) rfl
      clear hget hex1 hex2
      have Hmid := Lib.hid hmid
      have Hget := Lib.hid (Frm.get_eq k Hk.out l s Hs.out)
      clear hmid
      obtain ⟨f, hf⟩ : ∃ f, (Frm.stage (k.toNat : Int) l 4).1 = f := ⟨_, rfl⟩
      obtain ⟨t, ht⟩ : ∃ t, (Frm.stage (k.toNat : Int) l 4).2.1 = t := ⟨_, rfl⟩
      obtain ⟨c, hc⟩ : ∃ c, (Frm.stage (k.toNat : Int) l 4).2.2 = c := ⟨_, rfl⟩
      have HE := Lib.hid (And.intro hf (And.intro ht hc))
      have hget2 := Hget.out
      rw [hf, ht, hc] at hget2
      have Hget2 := Lib.hid hget2
      have Hrd := Lib.hid (show Num.Rd wr g t c by have := Hmid.out.rd; rw [ht, hc] at this; exact this)
      have Hrr := Lib.hid (show Frm.Rr wr r g f by have := Hmid.out.rr; rw [hf] at this; exact this)
      have Hres := Lib.hid Hmid.out.res
      have Hbel := Lib.hid Hmid.out.bel
      clear hget2 Hget hf ht hc
      by_cases hc0 : c = 0
      · subst hc0
        have hm1 : (t.length : Int) < 2305843009213693952 := by
          have h1 := Frm.st4_len (k.toNat : Int) l
          have h2 : (Frm.stage (k.toNat : Int) l 4).2.1 = t := HE.out.2.1
          have h3 : (Frm.st4 (k.toNat : Int) l).2.1 = t := h2
          rw [h3] at h1
          have := Hl.out
          omega
        by_cases ht4 : t.length < 4
        · have hd1 : decide ((t.length : Int) < 4) = true := by rw [decide_eq_true_iff]; omega
          have hi1 : (t.length : Int) < 4 := by omega
          have Hgv := Lib.hid (show Frm.get s = (Frm.zero, 8) by rw [Hget2.out, if_neg (by simp), if_pos ht4])
          clear ht4
          go_wp2_with (first
            | (go_at_call 54
               refine (nums_Fault g t 0 wr Hrd.out).mono ?_
               rintro e w9 ⟨rfl, rfl⟩)
            | (go_at_call 55
               refine (nums_Left g t 0 wr Hrd.out).mono ?_
               rintro e w9 ⟨rfl, rfl⟩)
            | (refine Mem.wpList_store rfl 84 (.tmp 2) (.tmp 68) rfl _ #[.int .i64 0, .int .i64 0, .int .i64 0, .int .i64 0, .string ⟨#[]⟩] rfl rfl _ _ Hres.out Frm.size_frame rfl (Frm.one_cells _ _ _ _ _) ?_
               intro w9 hp9
               have Hp9 := Lib.hid hp9
               clear hp9))
          refine bodyPost_ret (Frm.results_row_tmp rfl _ _ w.heap.size (.int .i64 8) _ _ _ _ rfl rfl Hp9.out.row Try.underlying84 rfl Frm.size_frame) rfl ⟨?_, Hbel.out.trans (Hp9.out.below (Nat.le_refl _))⟩
          rw [Hgv.out]; rfl
        · have hd1 : decide ((t.length : Int) < 4) = false := by rw [decide_eq_false_iff_not]; omega
          have hi1 : ¬ (t.length : Int) < 4 := by omega
          by_cases ht5 : 4 < t.length
          · have hd2 : decide ((4 : Int) < t.length) = true := by rw [decide_eq_true_iff]; omega
            have hi2 : (4 : Int) < t.length := by omega
            have Hgv := Lib.hid (show Frm.get s = (Frm.zero, 11) by rw [Hget2.out, if_neg (by simp), if_neg ht4, if_pos ht5])
            clear ht4 ht5
            go_wp2_with (first
              | (go_at_call 54
                 refine (nums_Fault g t 0 wr Hrd.out).mono ?_
                 rintro e w9 ⟨rfl, rfl⟩)
              | (go_at_call 55
                 refine (nums_Left g t 0 wr Hrd.out).mono ?_
                 rintro e w9 ⟨rfl, rfl⟩)
              | (refine Mem.wpList_store rfl 84 (.tmp 2) (.tmp 75) rfl _ #[.int .i64 0, .int .i64 0, .int .i64 0, .int .i64 0, .string ⟨#[]⟩] rfl rfl _ _ Hres.out Frm.size_frame rfl (Frm.one_cells _ _ _ _ _) ?_
                 intro w9 hp9
                 have Hp9 := Lib.hid hp9
                 clear hp9))
            refine bodyPost_ret (Frm.results_row_tmp rfl _ _ w.heap.size (.int .i64 11) _ _ _ _ rfl rfl Hp9.out.row Try.underlying84 rfl Frm.size_frame) rfl ⟨?_, Hbel.out.trans (Hp9.out.below (Nat.le_refl _))⟩
            rw [Hgv.out]; rfl
          · have hd2 : decide ((4 : Int) < t.length) = false := by rw [decide_eq_false_iff_not]; omega
            have hi2 : ¬ (4 : Int) < t.length := by omega
            have ht44 : t.length = 4 := by omega
            have hs4 : 4 ≤ s.length := by
              have h1 := Frm.st4_len (k.toNat : Int) l
              have h2 : (Frm.stage (k.toNat : Int) l 4).2.1 = t := HE.out.2.1
              have h3 : (Frm.st4 (k.toNat : Int) l).2.1 = t := h2
              rw [h3] at h1
              have := Hlen.out
              omega
            have hsm : (s.length : Int) < 4611686018427387904 := by
              have := Hlen.out
              have := Hl.out
              omega
            have Hg3 := Lib.hid (show Frm.get s = if Crc.four (Crc.sum (s.take (s.length - 4))) ≠ s.drop (s.length - 4) then (Frm.zero, 10) else if Frm.okB f = false then (Frm.zero, 9) else (f, 0) by
              rw [Hget2.out, if_neg (by simp), if_neg ht4, if_neg ht5])
            obtain ⟨n, hn4⟩ : ∃ n, s.length - 4 = n := ⟨_, rfl⟩
            have hx1 : (Mem.str s).extract 0 n = Mem.str (s.take n) := by rw [Num.str_extract]; simp
            have hx2 : (Mem.str s).extract n s.length = Mem.str (s.drop n) := by rw [Num.str_drop]
            have hni : (s.length : Int) - 4 = n := by omega
            have hnl : (n : Int) ≤ s.length := by omega
            obtain ⟨A, hA⟩ : ∃ A, s.take n = A := ⟨_, rfl⟩
            obtain ⟨D, hD⟩ : ∃ D, s.drop n = D := ⟨_, rfl⟩
            rw [hA] at hx1
            rw [hD] at hx2
            have hg3 := Hg3.out
            rw [hn4, hA, hD] at hg3
            have Hg4 := Lib.hid hg3
            have hAl : (Mem.str A).size ≤ maxLen := by rw [Mem.str_size, ← hA, List.length_take]; unfold maxLen; omega
            have HAl := Lib.hid hAl
            clear ht4 ht5 ht44 hs4 Hg3 hg3 hn4 hA hD hAl
            go_wp2_with (first
              | (go_at_call 54
                 refine (nums_Fault g t 0 wr Hrd.out).mono ?_
                 rintro e w9 ⟨rfl, rfl⟩)
              | (go_at_call 55
                 refine (nums_Left g t 0 wr Hrd.out).mono ?_
                 rintro e w9 ⟨rfl, rfl⟩))
            have hS : ∀ i : Mem.Later wr, Calls Try.prog 49 #[.string (Mem.str A)] i.w fun e w'' => e = .returned (.int .u32 (Crc.sum A).toNat) ∧ ∃ j : Mem.Later wr, w'' = j.w := by
              intro i
              have := Mem.later_call (crc_sum (Mem.str A) i.w HAl.out)
              rw [Mem.str_toList] at this
              exact this
            refine Mem.wp_region_later (by kernel_rfl) (by kernel_rfl) ?_
            repeat (go_big_quiet_step (first | (go_at_call 49; with_reducible exact hS _) | (go_at_call 48; exact Mem.later_call (crc_put _ _))))
            refine wpQuiet_nil ?_
            rintro w12 ⟨⟨wq, hq⟩, rfl⟩
            have Hq := Lib.hid hq
            have Hres12 := Lib.hid ((hq.block w.heap.size (by have := Hord.out; have := Hrr.out.lt; omega)).trans Hres.out)
            have hrr12 : Frm.Rr w12 r g f := (hq.block r Hrr.out.lt).trans Hrr.out
            have q1 := hrr12.cell 1 (v := .int .i64 f.kind) rfl
            have q2 := hrr12.cell 2 (v := .int .i64 f.site) rfl
            have q3 := hrr12.cell 3 (v := .int .i64 f.seq) rfl
            have q4 := hrr12.cell 4 (v := .int .i64 f.ack) rfl
            have q5 := hrr12.cell 5 (v := .string (Mem.str f.body)) rfl
            clear hq hrr12 hS hm1 hsm hn
            obtain ⟨X, hX⟩ : ∃ X, Crc.four (Crc.sum A) = X := ⟨_, rfl⟩
            have hg5 := Hg4.out
            rw [hX] at hg5
            rw [hX]
            have Hg5 := Lib.hid hg5
            clear hg5 hX
            by_cases hXD : X = D
            · have hxd : ((Mem.str X).toList == (Mem.str D).toList) = true := by rw [hXD]; exact beq_self_eq_true _
              have hg6 := Hg5.out
              rw [if_neg (by simp [hXD])] at hg6
              have Hg6 := Lib.hid hg6
              clear hg6 hXD
              rw [hxd]
              clear hxd
              go_wp2_with (fail)
              refine (frame_may f _).mono ?_
              obtain ⟨bk, hbk⟩ : ∃ bk, Frm.okB f = bk := ⟨_, rfl⟩
              have hg7 := Hg6.out
              rw [hbk] at hg7
              rw [hbk]
              rintro e w13 ⟨rfl, hb13⟩
              have p1 := Mem.keep hb13 q1
              have p2 := Mem.keep hb13 q2
              have p3 := Mem.keep hb13 q3
              have p4 := Mem.keep hb13 q4
              have p5 := Mem.keep hb13 q5
              have Hres13 := Lib.hid ((hb13.block w.heap.size (by have := (Array.getElem?_eq_some_iff.1 Hres12.out).1; omega)).trans Hres12.out)
              have Hb13 := Lib.hid hb13
              have Hg7 := Lib.hid hg7
              clear hg7 hb13 q1 q2 q3 q4 q5 hbk
              cases bk with
              | true =>
                have Hg8 := Lib.hid (show Frm.get s = (f, 0) by rw [Hg7.out, if_neg (by simp)])
                go_wp2_with (
                  refine Mem.wpList_store rfl 84 (.tmp 2) (.tmp 99) rfl _ #[.int .i64 f.kind, .int .i64 f.site, .int .i64 f.seq, .int .i64 f.ack, .string (Mem.str f.body)] rfl rfl _ _ Hres13.out Frm.size_frame rfl (Frm.one_cells _ _ _ _ _) ?_
                  intro w9 hp9
                  have Hp9 := Lib.hid hp9
                  clear hp9)
                refine bodyPost_ret (Frm.results_row_tmp rfl _ _ w.heap.size (.int .i64 0) _ _ _ _ rfl rfl Hp9.out.row Try.underlying84 rfl Frm.size_frame) rfl ⟨?_, (((Hbel.out.trans (Hq.out.mono Hbel.out.size)).trans (Hb13.out.mono (Nat.le_trans Hbel.out.size Hq.out.size))).trans (Hp9.out.below (Nat.le_refl _)))⟩
                rw [Hg8.out]; rfl
              | false =>
                have Hg8 := Lib.hid (show Frm.get s = (Frm.zero, 9) by rw [Hg7.out, if_pos rfl])
                go_wp2_with (
                  refine Mem.wpList_store rfl 84 (.tmp 2) (.tmp 95) rfl _ #[.int .i64 0, .int .i64 0, .int .i64 0, .int .i64 0, .string ⟨#[]⟩] rfl rfl _ _ Hres13.out Frm.size_frame rfl (Frm.one_cells _ _ _ _ _) ?_
                  intro w9 hp9
                  have Hp9 := Lib.hid hp9
                  clear hp9)
                refine bodyPost_ret (Frm.results_row_tmp rfl _ _ w.heap.size (.int .i64 9) _ _ _ _ rfl rfl Hp9.out.row Try.underlying84 rfl Frm.size_frame) rfl ⟨?_, (((Hbel.out.trans (Hq.out.mono Hbel.out.size)).trans (Hb13.out.mono (Nat.le_trans Hbel.out.size Hq.out.size))).trans (Hp9.out.below (Nat.le_refl _)))⟩
                rw [Hg8.out]; rfl
            · have hxd : ((Mem.str X).toList == (Mem.str D).toList) = false := beq_eq_false_iff_ne.2 fun e => hXD (by rw [ByteArray.toList_eq, ByteArray.toList_eq, Mem.str_toList, Mem.str_toList] at e; exact e)
              have Hg6 := Lib.hid (show Frm.get s = (Frm.zero, 10) by rw [Hg5.out, if_pos hXD])
              clear hXD
              rw [hxd]
              clear hxd
              go_wp2_with (
                refine Mem.wpList_store rfl 84 (.tmp 2) (.tmp 88) rfl _ #[.int .i64 0, .int .i64 0, .int .i64 0, .int .i64 0, .string ⟨#[]⟩] rfl rfl _ _ Hres12.out Frm.size_frame rfl (Frm.one_cells _ _ _ _ _) ?_
                intro w9 hp9
                have Hp9 := Lib.hid hp9
                clear hp9)
              refine bodyPost_ret (Frm.results_row_tmp rfl _ _ w.heap.size (.int .i64 10) _ _ _ _ rfl rfl Hp9.out.row Try.underlying84 rfl Frm.size_frame) rfl ⟨?_, ((Hbel.out.trans (Hq.out.mono Hbel.out.size)).trans (Hp9.out.below (Nat.le_refl _)))⟩
              rw [Hg6.out]; rfl
      · have hcb : (c == 0) = false := beq_eq_false_iff_ne.2 hc0
        have hcd : decide (c = 0) = false := decide_eq_false hc0
        have hgv : Frm.get s = (Frm.zero, c) := by rw [Hget2.out, if_pos hc0]
        have Hgv := Lib.hid hgv
        have Hc0 := Lib.hid hc0
        clear hgv hc0
        go_wp2_with (first
          | (go_at_call 54
             refine (nums_Fault g t c wr Hrd.out).mono ?_
             rintro e w9 ⟨rfl, rfl⟩)
          | (refine Mem.wpList_store rfl 84 (.tmp 2) (.tmp 60) rfl _ #[.int .i64 0, .int .i64 0, .int .i64 0, .int .i64 0, .string ⟨#[]⟩] rfl rfl _ _ Hres.out Frm.size_frame rfl (Frm.one_cells _ _ _ _ _) ?_
             intro w9 hp9
             have Hp9 := Lib.hid hp9
             clear hp9))
        refine bodyPost_ret (Frm.results_row_tmp rfl _ _ w.heap.size (.int .i64 c) _ _ _ _ rfl rfl Hp9.out.row Try.underlying84 rfl Frm.size_frame) rfl ⟨?_, Hbel.out.trans (Hp9.out.below (Nat.le_refl _))⟩
        rw [Hgv.out]; rfl
end Go.Proofs.Ytgkadhogfejheaa
