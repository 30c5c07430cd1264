/- Vectors: the plain law of raising. -/
import Derived.Test.YtdnpiginkndpcaaDoorVecM
namespace Go.Proofs.YtdnpiginkndpcaaDoor
open Go.RowKit
open PVectAsks

namespace Vec
open Go.Proofs.YtdnpiginkndpcaaDoorW.PrintWords
theorem cntAt_eq (l : List Int) (i : Nat) : cntAt l i = l.getD i 0 := by
  unfold cntAt cnt
  by_cases h : i < l.length
  · rw [if_pos (by omega), show ((i : Int) + 1 - 1).toNat = i by omega]
  · rw [if_neg (by omega), List.getD_eq_getElem?_getD, List.getElem?_eq_none (by omega)]; rfl
theorem cnt_at (l : List Int) (k : Nat) : cnt l ((k + 1 : Nat) : Int) = l.getD k 0 := by
  rw [← cntAt_eq]; unfold cntAt; congr 1
theorem cnt_at' (l : List Int) (k : Nat) : cnt l ((k : Int) + 1) = l.getD k 0 := cntAt_eq l k
def fullL (l : List Int) : List Int := (List.range 16).map (cntAt l)
theorem getD_append_zeros (l : List Int) (k i : Nat) : (l ++ List.replicate k 0).getD i 0 = l.getD i 0 := by
  rw [List.getD_eq_getElem?_getD, List.getD_eq_getElem?_getD]
  by_cases h : i < l.length
  · rw [List.getElem?_append_left h]
  · rw [List.getElem?_append_right (by omega), List.getElem?_replicate, List.getElem?_eq_none (l := l) (by omega)]
    split <;> rfl
theorem eq_of_getD {a b : List Int} (h : a.length = b.length) (hd : ∀ i, i < a.length → a.getD i 0 = b.getD i 0) : a = b := by
  apply List.ext_getElem h
  intro i h1 h2
  have := hd i h1
  rw [List.getD_eq_getElem?_getD, List.getD_eq_getElem?_getD, List.getElem?_eq_getElem h1, List.getElem?_eq_getElem h2] at this
  exact this
theorem getD_map_range (f : Nat → Int) (n i : Nat) (h : i < n) : ((List.range n).map f).getD i 0 = f i := by
  rw [List.getD_eq_getElem?_getD, List.getElem?_map, List.getElem?_range h]; rfl
theorem full_eq (l : List Int) (h : l.length ≤ 16) : fullL l = l ++ List.replicate (16 - l.length) 0 := by
  apply eq_of_getD
  · unfold fullL; simp; omega
  · intro i hi
    have hi' : i < 16 := by simpa [fullL] using hi
    rw [getD_append_zeros]
    unfold fullL
    rw [getD_map_range _ _ _ hi', cntAt_eq]
def raised (l : List Int) (S : Nat) (q : Int) : List Int := (room l S).set (S - 1) q
theorem raised_length (l : List Int) (S : Nat) (q : Int) : (raised l S q).length = max l.length S := by unfold raised room; simp; omega
theorem raised_full (l : List Int) (S : Nat) (q : Int) (h : l.length ≤ 16) (h1 : 1 ≤ S) (h2 : S ≤ 16) : (fullL l).set (S - 1) q = raised l S q ++ List.replicate (16 - max l.length S) 0 := by
  rw [full_eq l h]
  unfold raised
  have : l ++ List.replicate (16 - l.length) (0 : Int) = room l S ++ List.replicate (16 - max l.length S) 0 := by
    unfold room
    rw [List.append_assoc, List.replicate_append_replicate]
    congr 2
    omega
  rw [this, List.set_append_left]
  unfold room
  simp
  omega
theorem raised_getD (l : List Int) (S : Nat) (q : Int) (h1 : 1 ≤ S) (i : Nat) : (raised l S q).getD i 0 = if i = S - 1 then q else l.getD i 0 := by
  unfold raised
  have hr : (room l S).getD i 0 = l.getD i 0 := getD_append_zeros _ _ _
  by_cases h : i = S - 1
  · rw [if_pos h, h, List.getD_eq_getElem?_getD, List.getElem?_set_self (by unfold room; simp; omega)]; rfl
  · rw [if_neg h, List.getD_eq_getElem?_getD, List.getElem?_set_ne (by omega), ← List.getD_eq_getElem?_getD, hr]
theorem may_all {l : List Int} (h : may l = true) : l.all ok = true := by
  unfold may at h
  simp only [Bool.and_eq_true] at h
  exact h.1.2
theorem may_tl {l : List Int} (h : may l = true) (h0 : l.length ≠ 0) : 0 < tl l := by
  unfold may at h
  simp only [Bool.and_eq_true, Bool.or_eq_true, decide_eq_true_eq] at h
  rcases h.2 with e | e
  · cases l with
    | nil => simp at h0
    | cons x l => cases e
  · exact e
theorem may_mk {l : List Int} (h1 : l.length ≤ 16) (h2 : ∀ i, i < l.length → 0 ≤ l.getD i 0 ∧ l.getD i 0 ≤ 1099511627776) (h3 : l.length = 0 ∨ 0 < tl l) : may l = true := by
  unfold may
  simp only [Bool.and_eq_true, Bool.or_eq_true, decide_eq_true_eq]
  refine ⟨⟨h1, List.all_eq_true.2 fun x hx => ?_⟩, ?_⟩
  · obtain ⟨i, hi⟩ := List.getElem?_of_mem hx
    have := h2 i (List.getElem?_eq_some_iff.1 hi).1
    rw [getD_of hi] at this
    exact decide_eq_true this
  · rcases h3 with e | e
    · left; rw [List.isEmpty_iff]; exact List.eq_nil_of_length_eq_zero e
    · exact .inr e
theorem may_getD {l : List Int} (h : may l = true) (i : Nat) : 0 ≤ l.getD i 0 ∧ l.getD i 0 ≤ 1099511627776 := by
  rw [← cntAt_eq]; exact cnt_bd h _
/-- l may be raised at S, where its count is n -/
structure Up (l : List Int) (S : Nat) (n : Int) : Prop where
  hm : may l = true
  h1 : 1 ≤ S
  h2 : S ≤ 16
  hn : cnt l S = n
  hn2 : n ≠ 1099511627776
section
variable {l : List Int} {S : Nat} {n : Int}
theorem raised_last (u : Up l S n) : 0 < (raised l S (n + 1)).getD ((raised l S (n + 1)).length - 1) 0 := by
  have hm := u.hm; have h1 := u.h1; have h2 := u.h2; have hn := u.hn; have hn2 := u.hn2
  have hl := may_len hm
  have hb := cnt_bd hm S
  rw [hn] at hb
  rw [raised_getD _ _ _ h1, raised_length]
  split
  · omega
  · have := may_tl hm (by omega)
    unfold tl at this
    rw [show max l.length S = l.length by omega]
    exact this
theorem raised_may (u : Up l S n) : may (raised l S (n + 1)) = true := by
  have hm := u.hm; have h1 := u.h1; have h2 := u.h2; have hn := u.hn; have hn2 := u.hn2
  have hl := may_len hm
  have hb := cnt_bd hm S
  rw [hn] at hb
  refine may_mk (by rw [raised_length]; omega) (fun i _ => ?_) (.inr (raised_last u))
  rw [raised_getD _ _ _ h1]
  split
  · omega
  · exact may_getD hm i
theorem raised_tr (u : Up l S n) {m : Nat} (h : Tr ((fullL l).set (S - 1) (n + 1)) m) : ((fullL l).set (S - 1) (n + 1)).take m = raised l S (n + 1) := by
  have hm := u.hm; have h1 := u.h1; have h2 := u.h2; have hn := u.hn; have hn2 := u.hn2
  have hl := may_len hm
  rw [raised_full l S _ hl h1 h2] at h ⊢
  have hw : Tr (raised l S (n + 1)) (raised l S (n + 1)).length := Tr.whole (.inr (by have := raised_last u; omega))
  rw [h.same hw, List.take_length]
theorem raised_cnt (u : Up l S n) (k : Nat) : cnt (raised l S (n + 1)) ((k : Int) + 1) = if k + 1 = S then n + 1 else cnt l ((k : Int) + 1) := by
  have hm := u.hm; have h1 := u.h1; have h2 := u.h2; have hn := u.hn; have hn2 := u.hn2
  rw [cnt_at', cnt_at', raised_getD _ _ _ h1]
  by_cases h : k + 1 = S
  · rw [if_pos h, if_pos (by omega)]
  · rw [if_neg h, if_neg (by omega)]
theorem raised_cntS (u : Up l S n) : cnt (raised l S (n + 1)) S = n + 1 := by
  have hm := u.hm; have h1 := u.h1; have h2 := u.h2; have hn := u.hn; have hn2 := u.hn2
  have := raised_cnt u (S - 1)
  rw [if_pos (by omega), show ((S - 1 : Nat) : Int) + 1 = S by omega] at this
  exact this
theorem raised_order (u : Up l S n) : order (raised l S (n + 1)) l = 1 := by
  have hm := u.hm; have h1 := u.h1; have h2 := u.h2; have hn := u.hn; have hn2 := u.hn2
  have hr := raised_may u
  have hc : covers (raised l S (n + 1)) l = true := by
    unfold covers
    rw [List.all_eq_true]
    intro i hi
    rw [decide_eq_true_eq]
    have := raised_cnt u i
    have e : ((i + 1 : Nat) : Int) = (i : Int) + 1 := by omega
    rw [e, this]
    split
    · rename_i h
      have : (i : Int) + 1 = S := by omega
      rw [this, hn]; omega
    · exact Int.le_refl _
  have hd : covers l (raised l S (n + 1)) = false := by
    unfold covers
    rw [List.all_eq_false]
    refine ⟨S - 1, by simp; omega, ?_⟩
    rw [decide_eq_true_eq, show ((S - 1 + 1 : Nat) : Int) = S by omega, raised_cntS u, hn]
    omega
  unfold order
  rw [hr, hm, hc, hd]
  rfl
theorem raised_has (u : Up l S n) (hnm : mayName S (n + 1) = true) : has (raised l S (n + 1)) S (n + 1) = true := by
  have hm := u.hm; have h1 := u.h1; have h2 := u.h2; have hn := u.hn; have hn2 := u.hn2
  unfold has
  rw [raised_may u, hnm, raised_cntS u]
  simp
theorem not_has (u : Up l S n) : has l S (n + 1) = false := by
  have hm := u.hm; have h1 := u.h1; have h2 := u.h2; have hn := u.hn; have hn2 := u.hn2
  unfold has
  rw [hn, decide_eq_false (by omega), Bool.and_false]
end
/-- from w on, the function answers a list of the call's own, and 0 -/
def SaysRow (f : FuncId) (args : Array Value) (w : World) (n : Nat) (l : List Int) : Prop := ∀ w1, Below w.heap.size w w1 → Calls Tryd.prog f args w1 fun e w' => ∃ A c, e = .returned (.tuple #[.slice A n c, .int .i64 0]) ∧ Arg w' A n c l ∧ Below w1.heap.size w1 w'
theorem SaysRow.go {f : FuncId} {args : Array Value} {w w1 : World} {n : Nat} {l : List Int} (h : SaysRow f args w n l) (hb : Below w.heap.size w w1) : Calls Tryd.prog f args w1 fun e w' => ∃ A c, e = .returned (.tuple #[.slice A n c, .int .i64 0]) ∧ Arg w' A n c l ∧ Below w1.heap.size w1 w' := h w1 hb
theorem same_true {w : World} {A B : Option Addr} {n m c d : Nat} {l : List Int} (h : Arg w A n c l) (hn : n ≤ 1000) (g : Arg w B m d l) : Says 13 #[.slice A n c, .slice B m d] w (.bool true) := by
  have := same_says h hn g
  rw [decide_eq_true rfl] at this
  exact this
theorem Arg.empty (w : World) : Arg w none 0 0 [] := ⟨rfl, Nat.le_refl _, Kd.C_nil _ _⟩
theorem countV_may {l : List Int} (h : may l = true) (s : Int) : countV l s = cnt l s := by unfold countV; rw [h]; rfl
end Vec
end Go.Proofs.YtdnpiginkndpcaaDoor
