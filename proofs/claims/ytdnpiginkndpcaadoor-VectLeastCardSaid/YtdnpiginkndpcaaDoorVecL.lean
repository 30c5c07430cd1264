/- The walk of the reference's Made. -/
import Derived.Test.YtdnpiginkndpcaaDoorVecJ
import Derived.Outline
namespace Go.Proofs.YtdnpiginkndpcaaDoor
open Go.RowKit
open PVectAsks

namespace Vec
open Go.Proofs.YtdnpiginkndpcaaDoorW.PrintWords
/-- n: where the noughts at a list's end begin -/
structure Tr (l : List Int) (n : Nat) : Prop where
  le : n ≤ l.length
  zero : ∀ i, n ≤ i → i < l.length → l.getD i 0 = 0
  last : n = 0 ∨ l.getD (n - 1) 0 ≠ 0
theorem Tr.one {l : List Int} {n m : Nat} (h : Tr l n) (k : Tr l m) : n = m := by
  rcases Nat.lt_trichotomy n m with c | c | c
  · rcases k.last with e | e
    · omega
    · exact absurd (h.zero (m - 1) (by omega) (by have := k.le; omega)) e
  · exact c
  · rcases h.last with e | e
    · omega
    · exact absurd (k.zero (n - 1) (by omega) (by have := h.le; omega)) e
theorem Tr.more {x : List Int} {m : Nat} (h : Tr x m) (k : Nat) : Tr (x ++ List.replicate k 0) m := by
  refine ⟨by have := h.le; simp; omega, fun i hi hl => ?_, ?_⟩
  · rw [List.getD_eq_getElem?_getD]
    by_cases c : i < x.length
    · rw [List.getElem?_append_left c, ← List.getD_eq_getElem?_getD]; exact h.zero i hi c
    · rw [List.getElem?_append_right (by omega), List.getElem?_replicate]
      split <;> rfl
  · rcases h.last with e | e
    · exact .inl e
    · right
      by_cases c : m = 0
      · subst c
        intro hz
        apply e
        cases x with
        | nil => rfl
        | cons y x => exact hz
      · rw [List.getD_eq_getElem?_getD, List.getElem?_append_left (by have := h.le; omega), ← List.getD_eq_getElem?_getD]; exact e
/-- what is cut of both is the same -/
theorem Tr.same {x : List Int} {k n m : Nat} (h : Tr (x ++ List.replicate k 0) n) (g : Tr x m) : (x ++ List.replicate k 0).take n = x.take m := by
  have := h.one (g.more k)
  subst this
  rw [List.take_append_of_le_length g.le]
theorem Tr.whole {x : List Int} (h : x.length = 0 ∨ x.getD (x.length - 1) 0 ≠ 0) : Tr x x.length := ⟨Nat.le_refl _, fun i h1 h2 => by omega, h⟩
theorem getD_of {l : List Int} {i : Nat} {x : Int} (h : l[i]? = some x) : l.getD i 0 = x := by rw [List.getD_eq_getElem?_getD, h]; rfl
theorem cell_ints {w : World} {b : Nat} {l : List Int} {T : TypeId} (hr : w.heap[b]? = some (.cells (ints l).toArray T (0, 0))) {i : Nat} (hi : i < l.length) : w.cell? ⟨b, i, none⟩ = some (.int .i64 (l.getD i 0)) := by
  refine (cell_of_row _ _ i _ _ _ hr).trans ?_
  obtain ⟨x, hx⟩ : ∃ x, l[i]? = some x := ⟨_, List.getElem?_eq_getElem hi⟩
  unfold ints
  rw [List.getElem?_toArray, List.getElem?_map, hx, getD_of hx]
  rfl
section
variable {ops : Array Oper} {rest : List Oper} {o : Oper} {a : Act} {w : World} {Q : Exit → Act → World → Prop}
/-- append(s, x) of one number to a row that the call owns -/
theorem wpList_append_int (hgd : o.guard = none) (s x : Operand) (ho : o.op = .call { callee := .builtin .append, args := #[s, x], argTypes := #[22, 22] }) (B : Nat) (v : Value) (l : List Int) (hs : a.eval s = v)
    (hown : Own w B v l) (hB : B ≤ w.heap.size) (hlen : l.length < 1000) (ad : Addr) (ca : Nat) (z : Int) (hx : a.eval x = .slice (some ad) 1 ca) (hc : w.cell? ad = some (.int .i64 z))
    (h : ∀ v' w', Own w' B v' (l ++ [z]) → Below B w w' → wpList Tryd.prog ops Q rest (a.put o.dst v') w') : wpList Tryd.prog ops Q (o :: rest) a w := by
  obtain ⟨i, hi2, hz, hs1, hb1⟩ := info_parts info_int
  refine wpList_append_own _ hgd s x 22 ho B 3 i (.int .i64 0) 1 8 Tryd.underlying22 hi2 hz hs1 hb1 rfl (by decide) v l.length (ints l) hs hown ad 1 ca [.int .i64 z] hx rfl ?_ ?_ (by unfold maxLen; omega) (by omega) hB ?_
  · intro j u hj
    match j, hj with
    | 0, hj => simp at hj; subst hj; have : ad.add 0 = ad := by unfold Addr.add; split <;> simp_all
               rw [this]; exact hc
    | j + 1, hj => simp at hj
  · intro u hu; simp at hu; subst hu; rfl
  · intro v' w' ho' hg _
    refine h v' w' ?_ ((Below.refl _ _).grown hg hB fun k hk => (hown.lt k hk).1)
    unfold Own ints
    rw [List.length_append, List.map_append]
    exact ho'
end
theorem Own.later {w w1 : World} {base : Nat} {v : Value} {l : List Int} (h : Own w base v l) (hb : Below w.heap.size w w1) : Own w1 base v l := own_move h fun k hk => hb.block k (h.lt k hk).2
structure MR (l : List Int) (w1 : World) (n : Nat) (wr : World) : Prop where
  hn : n ≤ 16
  hz : ∀ i, n ≤ i → i < 16 → l.getD i 0 = 0
  hw : wr = w1
structure MS (l : List Int) (w w1 : World) (n k : Nat) (v : Value) (wr : World) : Prop where
  hk : k ≤ n
  own : Own wr w1.heap.size v (l.take k)
  below : Below w1.heap.size w1 wr
theorem take_snoc_getD {l : List Int} {k : Nat} (h : k < l.length) : l.take (k + 1) = l.take k ++ [l.getD k 0] := by
  rw [List.take_succ_eq_append_getElem h]
  rw [List.getD_eq_getElem?_getD, List.getElem?_eq_getElem h]; rfl
end Vec

set_option maxRecDepth 100000 in
set_option maxHeartbeats 2000000 in
theorem ref_made (l : List Int) (hl : l.length = 16) (w : World) :
    Calls Tryd.prog 36 #[.agg (Vec.ints l).toArray] w fun e w' => ∃ n v, e = .returned v ∧ Vec.Tr l n ∧ Vec.Own w' w.heap.size v (l.take n) ∧ Below w.heap.size w w' := by
  have HL := Lib.hid hl
  obtain ⟨cs, hcs⟩ : ∃ cs, (Vec.ints l).toArray = cs := ⟨_, rfl⟩
  rw [hcs]
  have Hcs := Lib.hid hcs
  clear hl hcs
  go_enter Tryd.func36, Tryd.ntmps36
  go_wp2_with (
    with_reducible refine Mem.wpList_box (o := ⟨some 1, _, _, _, _, _⟩) ?_ 53 (.tmp 0) ?_ (.agg cs) ?_ ?_
    · rfl
    · rfl
    · rfl
    intro w1 hn1
    have Hn1 := Lib.hid hn1
    clear hn1)
  have hrow : w1.heap[w.heap.size]? = some (.cells (Vec.ints l).toArray 53 (0, 0)) := by rw [Hcs.out]; exact Hn1.out.row
  have HRow := Lib.hid hrow
  clear hrow
  go_loopw [3] (fun t3 wr => ∃ n : Nat, t3 = .int .i64 n ∧ Vec.MR l w1 n wr) (fun t3 _ => (intOf t3).toNat)
  case atStart => exact ⟨16, rfl, Nat.le_refl _, fun i h1 h2 => by omega, rfl⟩
  case round =>
    obtain ⟨n, rfl, hn, hz, rfl⟩ := hrel
    have HZ := Lib.hid hz
    clear hz
    have hend : ∀ _ : n = 0 ∨ l.getD (n - 1) 0 ≠ 0, Vec.Tr l n := fun h => ⟨by rw [HL.out]; exact hn, fun i h1 h2 => HZ.out i h1 (by rw [HL.out] at h2; exact h2), h⟩
    have HE := Lib.hid hend
    clear hend
    by_cases hc : n ≠ 0 ∧ l.getD (n - 1) 0 = 0
    · obtain ⟨hn0, hx⟩ := hc
      obtain ⟨k, hk⟩ : ∃ k : Nat, (n : Int) - 1 = k := ⟨n - 1, by omega⟩
      have hnk : n - 1 = k := by omega
      rw [hnk] at hx
      have c0 := Vec.cell_ints HRow.out (i := k) (by rw [HL.out]; omega)
      rw [hx] at c0
      have d1 : (0 : Int) < (n : Int) := by omega
      have d2 : (0 : Int) ≤ (k : Int) := by omega
      have d3 : (k : Int) < 16 := by omega
      have Hx := Lib.hid hx
      have Hnk := Lib.hid hnk
      clear hx hnk hn0
      go_wp2
      refine ⟨⟨k, rfl, ⟨by omega, fun i h1 h2 => ?_, rfl⟩⟩, by simp only [intOf]; omega⟩
      by_cases e : i = k
      · rw [e]; exact Hx.out
      · exact HZ.out i (by have := Hnk.out; omega) h2
    · have htr : Vec.Tr l n := HE.out (by
        by_cases e : n = 0
        · exact .inl e
        · exact .inr fun h => hc ⟨e, h⟩)
      have Htr := Lib.hid htr
      have hways : n = 0 ∨ (n ≠ 0 ∧ l.getD (n - 1) 0 ≠ 0) := by
        by_cases e : n = 0
        · exact .inl e
        · exact .inr ⟨e, fun h => hc ⟨e, h⟩⟩
      clear hc htr HE HZ
      rcases hways with hn0 | ⟨hn0, hx⟩
      · have d1 : decide (0 < n) = false := decide_eq_false (by omega)
        clear hn0
        go_wp2
        have Hn' := Lib.hid hn
        obtain ⟨wo, rfl⟩ : ∃ wo : World, wo = wr := ⟨_, rfl⟩
        go_loopw [4, 5] (fun t4 t5 wr => ∃ (k : Nat) (v : Value), v = t4 ∧ t5 = .int .i64 k ∧ Vec.MS l w wo n k v wr) (fun _ t5 _ => n - (intOf t5).toNat)
        case atStart => exact ⟨0, _, rfl, rfl, ⟨Nat.zero_le _, Vec.own_nil _ _, Below.refl _ _⟩⟩
        case round =>
          obtain ⟨j, v, rfl, rfl, R⟩ := hrel
          have HR := Lib.hid R
          have hjn := R.hk
          clear R
          by_cases hlt : j < n
          · have e1 : decide ((j : Int) < (n : Int)) = true := decide_eq_true (by omega)
            have e2 : (0 : Int) ≤ (j : Int) := by omega
            have e3 : (j : Int) < 16 := by have := Hn'.out; omega
            have f0 := Mem.keep HR.out.below (Vec.cell_ints HRow.out (i := j) (by rw [HL.out]; have := Hn'.out; omega))
            obtain ⟨y, hy⟩ : ∃ y, l.getD j 0 = y := ⟨_, rfl⟩
            rw [hy] at f0
            have Hy := Lib.hid hy
            clear hy
            go_wp2_with (
              with_reducible refine Vec.wpList_append_int (o := ⟨some 27, _, _, _, _, _⟩) ?_ (.tmp 22) (.tmp 26) ?_ wo.heap.size v (l.take j) ?_ (Vec.Own.later HR.out.own (Vec.below_alloc _ _)) ?_ ?_ ⟨wr.heap.size, 0, none⟩ 1 y ?_ ?_ ?_
              · rfl
              · rfl
              · rfl
              · have := HR.out.below.size; simp; omega
              · rw [List.length_take]; have := Hn'.out; omega
              · rfl
              · go_simp
              intro v' w3 ho3 hb3
              have Ho3 := Lib.hid ho3
              have Hb3 := Lib.hid hb3
              clear ho3 hb3)
            refine ⟨⟨j + 1, v', rfl, by push_cast; rfl, ⟨hlt, ?_, HR.out.below.trans (((Vec.below_alloc _ _).mono HR.out.below.size).trans Hb3.out)⟩⟩, by simp only [intOf]; omega⟩
            rw [Vec.take_snoc_getD (by rw [HL.out]; have := Hn'.out; omega), Hy.out]
            exact Ho3.out
          · have hjn : j = n := by omega
            subst hjn
            have e1 : decide ((j : Int) < (j : Int)) = false := decide_eq_false (by omega)
            go_wp2
            go_ret
            exact ⟨j, v, rfl, Htr.out, Go.Proofs.YtdnpiginkndpcaaDoorW.PrintWords.own_weaken HR.out.own Hn1.out.below.size, Mem.then_ Hn1.out.below HR.out.below⟩
      · obtain ⟨k, hk⟩ : ∃ k : Nat, (n : Int) - 1 = k := ⟨n - 1, by omega⟩
        have hnk : n - 1 = k := by omega
        rw [hnk] at hx
        have c0 := Vec.cell_ints HRow.out (i := k) (by rw [HL.out]; omega)
        obtain ⟨x, hxx⟩ : ∃ x, l.getD k 0 = x := ⟨_, rfl⟩
        rw [hxx] at hx c0
        have d0 : (x == 0) = false := beq_eq_false_iff_ne.2 hx
        have d1 : (0 : Int) < (n : Int) := by omega
        have d2 : (0 : Int) ≤ (k : Int) := by omega
        have d3 : (k : Int) < 16 := by omega
        clear hx hxx hn0 hnk
        go_wp2
        clear d0 d2 d3 hk c0
        have Hn' := Lib.hid hn
        obtain ⟨wo, rfl⟩ : ∃ wo : World, wo = wr := ⟨_, rfl⟩
        go_loopw [4, 5] (fun t4 t5 wr => ∃ (k : Nat) (v : Value), v = t4 ∧ t5 = .int .i64 k ∧ Vec.MS l w wo n k v wr) (fun _ t5 _ => n - (intOf t5).toNat)
        case atStart => exact ⟨0, _, rfl, rfl, ⟨Nat.zero_le _, Vec.own_nil _ _, Below.refl _ _⟩⟩
        case round =>
          obtain ⟨j, v, rfl, rfl, R⟩ := hrel
          have HR := Lib.hid R
          have hjn := R.hk
          clear R
          by_cases hlt : j < n
          · have e1 : decide ((j : Int) < (n : Int)) = true := decide_eq_true (by omega)
            have e2 : (0 : Int) ≤ (j : Int) := by omega
            have e3 : (j : Int) < 16 := by have := Hn'.out; omega
            have f0 := Mem.keep HR.out.below (Vec.cell_ints HRow.out (i := j) (by rw [HL.out]; have := Hn'.out; omega))
            obtain ⟨y, hy⟩ : ∃ y, l.getD j 0 = y := ⟨_, rfl⟩
            rw [hy] at f0
            have Hy := Lib.hid hy
            clear hy
            go_wp2_with (
              with_reducible refine Vec.wpList_append_int (o := ⟨some 27, _, _, _, _, _⟩) ?_ (.tmp 22) (.tmp 26) ?_ wo.heap.size v (l.take j) ?_ (Vec.Own.later HR.out.own (Vec.below_alloc _ _)) ?_ ?_ ⟨wr.heap.size, 0, none⟩ 1 y ?_ ?_ ?_
              · rfl
              · rfl
              · rfl
              · have := HR.out.below.size; simp; omega
              · rw [List.length_take]; have := Hn'.out; omega
              · rfl
              · go_simp
              intro v' w3 ho3 hb3
              have Ho3 := Lib.hid ho3
              have Hb3 := Lib.hid hb3
              clear ho3 hb3)
            refine ⟨⟨j + 1, v', rfl, by push_cast; rfl, ⟨hlt, ?_, HR.out.below.trans (((Vec.below_alloc _ _).mono HR.out.below.size).trans Hb3.out)⟩⟩, by simp only [intOf]; omega⟩
            rw [Vec.take_snoc_getD (by rw [HL.out]; have := Hn'.out; omega), Hy.out]
            exact Ho3.out
          · have hjn : j = n := by omega
            subst hjn
            have e1 : decide ((j : Int) < (j : Int)) = false := decide_eq_false (by omega)
            go_wp2
            go_ret
            exact ⟨j, v, rfl, Htr.out, Go.Proofs.YtdnpiginkndpcaaDoorW.PrintWords.own_weaken HR.out.own Hn1.out.below.size, Mem.then_ Hn1.out.below HR.out.below⟩
end Go.Proofs.YtdnpiginkndpcaaDoor
