/- The walks of spans.Any, spans.Both, spans.Less. -/
import Derived.Test.YtihdcglkmilckaaWlkD
namespace Go.Proofs.Ytihdcglkmilckaa
open Go.RowKit Go.Shelf

namespace Wlk
open Spn PSpansOpen Go.Proofs.YtihdcglkmilckaaW.PrintWords
theorem lies_of {w : World} {A : Option Addr} {l : List Span} (h : Kd.C k42 w A l.length l) (hm : may l = true) (hl : l.length ≤ 10000) : Lies w w.heap.size A l := by
  refine ⟨fun s hs => ?_, hl, fun hn => ?_⟩
  · have := may_mem (last := -1) hm hs
    unfold fin at this
    exact ⟨by omega, by omega, by omega⟩
  · obtain ⟨b, off, h1, h2⟩ := at_of h (List.length_pos_iff.2 hn)
    obtain ⟨s, hs⟩ := at_lt l 0 (List.length_pos_iff.2 hn)
    exact ⟨b, off, h1, block_lt_of_cell (h2 0 s hs).1, h2⟩
/-- the answer: the list, and whether it is one -/
def res (what : Bool → Bool → Bool) (la lb : List Span) : List Span := if may la && may lb then walked what la lb else []
def err (la lb : List Span) : Int := if may la && may lb then 0 else 1
end Wlk

set_option maxRecDepth 100000 in
set_option maxHeartbeats 1000000 in
theorem spans_walk_not (f : Nat) (la lb : List Spn.Span) (Aa Ab : Option Addr) (ca cb : Nat) (w : World) (x y : Bool)
    (hma : ∀ w', Below w.heap.size w w' → Calls Try.prog 27 #[.slice Aa la.length ca] w' fun e w'' => e = .returned (.bool x) ∧ Below w'.heap.size w' w'')
    (hmb : ∀ w', Below w.heap.size w w' → Calls Try.prog 27 #[.slice Ab lb.length cb] w' fun e w'' => e = .returned (.bool y) ∧ Below w'.heap.size w' w'')
    (hxy : (x && y) = false) :
    Calls Try.prog 35 #[.slice Aa la.length ca, .slice Ab lb.length cb, .func (.func f) #[] #[]] w fun e w' => e = .returned (.tuple #[.slice none 0 0, .int .i64 1]) ∧ Below w.heap.size w w' := by
  refine (callsIn_wide (n := 6)).1 ?_
  refine callsIn_of_wp_marks Try.func35 rfl trivial ?_ rfl
  simp only [Try.ntmps35, List.size_toArray, List.length_cons, List.length_nil, Nat.reduceAdd, Nat.reduceSub, Array.replicate_succ, Array.replicate_zero, List.push_toArray, List.append_toArray, List.nil_append, List.cons_append]
  have Hma := Lib.hid hma
  have Hmb := Lib.hid hmb
  clear hma hmb
  gi_wp2
  have hb0 : Below w.heap.size w (w.alloc (.cells #[.func (.func f) #[] #[]] 52)) := (Below.refl _ _).alloc (Nat.le_refl _) _
  generalize w.alloc (.cells #[.func (.func f) #[] #[]] 52) = w0 at hb0 ⊢
  refine ⟨trivial, ?_⟩
  refine (callsIn_wide.2 (Hma.out w0 hb0)).mono ?_
  rintro e w1 ⟨rfl, hb1⟩
  cases x with
  | false =>
    gi_wp2
    refine ⟨trivial, ?_⟩
    gi_wp2
    refine ⟨_, results_tmp2 rfl _ _ _, rfl, Mem.then_ hb0 hb1⟩
  | true =>
    obtain rfl : y = false := by simpa using hxy
    gi_wp2
    refine ⟨trivial, ?_⟩
    refine (callsIn_wide.2 (Hmb.out w1 (Mem.then_ hb0 hb1))).mono ?_
    rintro e w2 ⟨rfl, hb2⟩
    gi_wp2
    refine ⟨_, results_tmp2 rfl _ _ _, rfl, Mem.then_ (Mem.then_ hb0 hb1) hb2⟩

open Go.Proofs.YtihdcglkmilckaaW.PrintWords PSpansOpen in
theorem spans_walk_all (f : Nat) (what : Bool → Bool → Bool) (hf : Wlk.Does f what) (he : ∀ args w, (callFunc f args).run Try.prog w = .ok (.enter f args) w) (la lb : List Spn.Span) (Aa Ab : Option Addr) (ca cb : Nat) (w : World)
    (hCa : Kd.C k42 w Aa la.length la) (hca : la.length ≤ ca) (hCb : Kd.C k42 w Ab lb.length lb) (hcb : lb.length ≤ cb) (hok : 2 * la.length + 2 * lb.length ≤ 9999) :
    Calls Try.prog 35 #[.slice Aa la.length ca, .slice Ab lb.length cb, .func (.func f) #[] #[]] w fun e w' => ∃ v, e = .returned (.tuple #[v, .int .i64 (Wlk.err la lb)]) ∧ Spn.Own w' w.heap.size v (Wlk.res what la lb) ∧ Below w.heap.size w w' := by
  have qa := Spn.spans_may la (by omega) (la.length + 1) (by omega)
  have qb := Spn.spans_may lb (by omega) (lb.length + 1) (by omega)
  have Ma := fun w1 (h1 : Below w.heap.size w w1) => spans_May.calls _ Aa ca la _ w1 (Kd.C_below hCa h1) hca qa
  have Mb := fun w1 (h1 : Below w.heap.size w w1) => spans_May.calls _ Ab cb lb _ w1 (Kd.C_below hCb h1) hcb qb
  unfold Wlk.err Wlk.res
  cases hm : (Spn.may la && Spn.may lb) with
  | false =>
    refine (spans_walk_not f la lb Aa Ab ca cb w _ _ Ma Mb hm).mono ?_
    rintro e w' ⟨rfl, hb⟩
    exact ⟨_, rfl, Spn.own_nil _ _, hb⟩
  | true =>
    rw [Bool.and_eq_true] at hm
    rw [hm.1] at Ma
    rw [hm.2] at Mb
    refine (spans_walk f what hf he la lb Aa Ab ca cb w Ma Mb (Wlk.lies_of hCa hm.1 (by omega)) (Wlk.lies_of hCb hm.2 (by omega)) hok).mono ?_
    rintro e w' ⟨v, rfl, ho, hb⟩
    exact ⟨v, rfl, ho, hb⟩

/-- what Any, Both and Less hand back -/
def Wlk.Gives (what : Bool → Bool → Bool) (la lb : List Spn.Span) (w : World) (e : Ending) (w' : World) : Prop := ∃ v, e = .returned (.tuple #[v, .int .i64 (Wlk.err la lb)]) ∧ Spn.Own w' w.heap.size v (Wlk.res what la lb) ∧ Below w.heap.size w w'

open Go.Proofs.YtihdcglkmilckaaW.PrintWords PSpansOpen in
set_option maxRecDepth 100000 in
set_option maxHeartbeats 1000000 in
theorem spans_Any (la lb : List Spn.Span) (Aa Ab : Option Addr) (ca cb : Nat) (w : World) (hCa : Kd.C k42 w Aa la.length la) (hca : la.length ≤ ca) (hCb : Kd.C k42 w Ab lb.length lb) (hcb : lb.length ≤ cb) (hok : 2 * la.length + 2 * lb.length ≤ 9999) :
    Calls Try.prog 21 #[.slice Aa la.length ca, .slice Ab lb.length cb] w (Wlk.Gives (fun x y => x || y) la lb w) := by
  have HW := Lib.hid (spans_walk_all 36 _ does_any (enters_of Try.func36 (by kernel_rfl) rfl) la lb Aa Ab ca cb w hCa hca hCb hcb hok)
  clear hCa hca hCb hcb hok
  go_enter Try.func21, Try.ntmps21
  go_wp2_with (
    go_at_call 35
    with_reducible refine HW.out.mono ?_
    rintro e w1 ⟨v, rfl, ho, hb⟩)
  go_ret2
  exact ⟨v, rfl, ho, hb⟩

open Go.Proofs.YtihdcglkmilckaaW.PrintWords PSpansOpen in
set_option maxRecDepth 100000 in
set_option maxHeartbeats 1000000 in
theorem spans_Both (la lb : List Spn.Span) (Aa Ab : Option Addr) (ca cb : Nat) (w : World) (hCa : Kd.C k42 w Aa la.length la) (hca : la.length ≤ ca) (hCb : Kd.C k42 w Ab lb.length lb) (hcb : lb.length ≤ cb) (hok : 2 * la.length + 2 * lb.length ≤ 9999) :
    Calls Try.prog 22 #[.slice Aa la.length ca, .slice Ab lb.length cb] w (Wlk.Gives (fun x y => x && y) la lb w) := by
  have HW := Lib.hid (spans_walk_all 37 _ does_both (enters_of Try.func37 (by kernel_rfl) rfl) la lb Aa Ab ca cb w hCa hca hCb hcb hok)
  clear hCa hca hCb hcb hok
  go_enter Try.func22, Try.ntmps22
  go_wp2_with (
    go_at_call 35
    with_reducible refine HW.out.mono ?_
    rintro e w1 ⟨v, rfl, ho, hb⟩)
  go_ret2
  exact ⟨v, rfl, ho, hb⟩

open Go.Proofs.YtihdcglkmilckaaW.PrintWords PSpansOpen in
set_option maxRecDepth 100000 in
set_option maxHeartbeats 1000000 in
theorem spans_Less (la lb : List Spn.Span) (Aa Ab : Option Addr) (ca cb : Nat) (w : World) (hCa : Kd.C k42 w Aa la.length la) (hca : la.length ≤ ca) (hCb : Kd.C k42 w Ab lb.length lb) (hcb : lb.length ≤ cb) (hok : 2 * la.length + 2 * lb.length ≤ 9999) :
    Calls Try.prog 23 #[.slice Aa la.length ca, .slice Ab lb.length cb] w (Wlk.Gives (fun x y => x && !y) la lb w) := by
  have HW := Lib.hid (spans_walk_all 38 _ does_less (enters_of Try.func38 (by kernel_rfl) rfl) la lb Aa Ab ca cb w hCa hca hCb hcb hok)
  clear hCa hca hCb hcb hok
  go_enter Try.func23, Try.ntmps23
  go_wp2_with (
    go_at_call 35
    with_reducible refine HW.out.mono ?_
    rintro e w1 ⟨v, rfl, ho, hb⟩)
  go_ret2
  exact ⟨v, rfl, ho, hb⟩
end Go.Proofs.Ytihdcglkmilckaa
