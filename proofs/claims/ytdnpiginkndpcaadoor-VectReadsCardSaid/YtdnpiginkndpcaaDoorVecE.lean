/- The walk of vect.Raise. -/
import Derived.Test.YtdnpiginkndpcaaDoorVecD
namespace Go.Proofs.YtdnpiginkndpcaaDoor
open Go.RowKit
open PVectAsks

namespace Vec
open Go.Proofs.YtdnpiginkndpcaaDoorW.PrintWords
def ints (l : List Int) : List Value := l.map (Value.int .i64)
def Own (w : World) (base : Nat) (v : Value) (l : List Int) : Prop := w.ownsRow base 3 1 v l.length (ints l)
theorem own_nil (w : World) (base : Nat) : Own w base (.slice none 0 0) [] := ⟨rfl, .inl ⟨rfl, rfl⟩⟩
theorem info_int : (Tryd.prog.info? 3).map (fun i => (i.zero, i.size, i.bytes)) = some (some (.int .i64 0), 1, 8) := by kernel_rfl
theorem size_int : (Tryd.prog.info? 3).map (·.size) = some 1 := by kernel_rfl
def most : Int := 1099511627776
def raiseE (v : List Int) (s q : Int) : Int := if (may v && mayName s q) then (if cnt v s = most then 7 else if q ≠ cnt v s + 1 then 17 else 0) else 1
/-- the list, as long as the site wants it -/
def room (v : List Int) (s : Nat) : List Int := v ++ List.replicate (s - v.length) 0
def raiseL (v : List Int) (s q : Int) : List Int := if raiseE v s q = 0 then (room v s.toNat).set (s - 1).toNat q else []
theorem made_ints (n : Nat) : madeCells (Value.int .i64 0).cells (n * 1) = (ints (List.replicate n 0)).toArray := by
  apply Array.ext
  · simp [madeCells, ints]
  · intro i h1 h2
    simp [madeCells, ints, Value.cells, Nat.mod_one]
theorem room_length (v : List Int) (s N : Nat) (h : (v.length < s ∧ N = s) ∨ (¬ v.length < s ∧ N = v.length)) : (room v s).length = N := by unfold room; simp; omega
theorem room_at (v : List Int) (s : Nat) (h : 1 ≤ s) : (room v s)[s - 1]? = some (cnt v s) := by
  unfold room cnt
  by_cases hs : s ≤ v.length
  · rw [List.getElem?_append_left (by omega), if_pos ⟨by omega, by omega⟩]
    obtain ⟨x, hx⟩ : ∃ x, v[s - 1]? = some x := ⟨_, List.getElem?_eq_getElem (by omega)⟩
    rw [List.getD_eq_getElem?_getD, show ((s : Int) - 1).toNat = s - 1 by omega, hx]
    rfl
  · rw [List.getElem?_append_right (by omega), if_neg (by omega), List.getElem?_replicate, if_pos (by omega)]
theorem room_splice (v : List Int) (s N : Nat) (h : (v.length < s ∧ N = s) ∨ (¬ v.length < s ∧ N = v.length)) : splice (ints (List.replicate N 0)) 0 (ints v) = ints (room v s) := by
  unfold splice room ints
  simp only [List.take_zero, List.nil_append, List.length_map, Nat.zero_add, List.map_append, List.map_replicate, List.drop_replicate]
  congr 2
  omega
theorem reads_ints {w : World} {A : Option Addr} {n : Nat} {l : List Int} (h : Kd.C (Kd.int .i64) w A n l) (hn : 0 < n) : ∃ ad, A = some ad ∧ ∀ j u, (ints l)[j]? = some u → w.cell? (ad.add j) = some u := by
  obtain ⟨ad, rfl, hc⟩ := h.2.2 hn
  refine ⟨ad, rfl, fun j u hu => ?_⟩
  unfold ints at hu
  rw [List.getElem?_map] at hu
  obtain ⟨p, hp, rfl⟩ := Option.map_eq_some_iff.1 hu
  obtain ⟨c, h1, h2, h3⟩ := hc j p hp
  have h2' : c = [.int .i64 p] := h2
  subst h2'
  have := h3 0 _ rfl
  simpa [Kd.int, Kd.scalar] using this
theorem cnt_bd {l : List Int} (h : may l = true) (s : Int) : 0 ≤ cnt l s ∧ cnt l s ≤ 1099511627776 := by
  unfold may at h
  simp only [Bool.and_eq_true] at h
  unfold cnt
  split
  · rename_i hs
    obtain ⟨x, hx⟩ : ∃ x, l[(s - 1).toNat]? = some x := ⟨_, List.getElem?_eq_getElem (by omega)⟩
    rw [List.getD_eq_getElem?_getD, hx]
    exact of_decide_eq_true (List.all_eq_true.1 h.1.2 x (List.mem_of_getElem? hx))
  · omega
theorem own_of_row {w : World} {b base N : Nat} {l : List Int} (hl : l.length = N) (hN : N ≤ 1000) (hb : base ≤ b) (hr : w.heap[b]? = some (.cells (ints l).toArray 3 (0, 0))) : Own w base (.slice (some ⟨b, 0, none⟩) N N) l := by
  subst hl
  refine ⟨by simp [ints], .inr ⟨b, l.length, _, rfl, hb, hr, Nat.le_refl _, by unfold maxLen; omega, by simp [ints], ?_⟩⟩
  unfold ints
  rw [Nat.mul_one]
  exact List.take_of_length_le (by simp)
theorem set_ints {l : List Int} {k : Nat} (h : k < l.length) (x : Int) : (List.take k (ints l) ++ [Value.int .i64 x] ++ List.drop (k + 1) (ints l)) = ints (l.set k x) := by
  unfold ints
  rw [List.map_set, List.set_eq_take_append_cons_drop, if_pos (by simpa using h)]
  simp
end Vec

set_option maxRecDepth 100000 in
set_option maxHeartbeats 2000000 in
theorem vect_raise_no (la : List Int) (La : Nat) (hLa : la.length = La) (Aa : Option Addr) (ca : Nat) (s q : Int) (w : World)
    (hCa : Go.Proofs.YtdnpiginkndpcaaDoorW.PrintWords.Kd.C (Go.Proofs.YtdnpiginkndpcaaDoorW.PrintWords.Kd.int .i64) w Aa la.length la) (hca : la.length ≤ ca) (hla : La ≤ 1000) (E : Int) (hE : Vec.raiseE la s q = E) (hE0 : E ≠ 0) :
    Calls Tryd.prog 23 #[.slice Aa La ca, .agg #[.int .i64 s, .int .i64 q]] w fun e w' => e = .returned (.tuple #[.slice none 0 0, .int .i64 E]) ∧ Below w.heap.size w w' := by
  have hMa := fun w1 h1 => vect_May.calls _ Aa ca la _ w1 h1 hca (Vec.may_eval la (by omega) (la.length + 1) (by omega))
  have hNm := fun w1 => vect_MayName.calls s q _ w1 (Vec.mayName_eval s q)
  have hCt := fun w1 h1 => vect_count.calls Aa ca la s _ w1 h1 hca (Vec.count_eval la s (by omega))
  rw [hLa] at hMa hCa hCt
  have HMa := Lib.hid hMa
  have HCa := Lib.hid hCa
  have HNm := Lib.hid hNm
  have HCt := Lib.hid hCt
  unfold Vec.raiseE at hE
  obtain ⟨x, hx⟩ : ∃ x, Vec.may la = x := ⟨_, rfl⟩
  obtain ⟨y, hy⟩ : ∃ x, Vec.mayName s q = x := ⟨_, rfl⟩
  obtain ⟨n, hn⟩ : ∃ x, Vec.cnt la s = x := ⟨_, rfl⟩
  rw [hx, hy, hn] at hE
  rw [hx] at HMa
  rw [hy] at HNm
  rw [hn] at HCt
  have hways : (x = false ∧ E = 1) ∨ (x = true ∧ y = false ∧ E = 1) ∨ (x = true ∧ y = true ∧ n = 1099511627776 ∧ E = 7) ∨ (x = true ∧ y = true ∧ n ≠ 1099511627776 ∧ q ≠ n + 1 ∧ E = 17) := by
    unfold Vec.most at hE
    cases x with
    | false => left; simp at hE; exact ⟨rfl, hE.symm⟩
    | true =>
      cases y with
      | false => right; left; simp at hE; exact ⟨rfl, rfl, hE.symm⟩
      | true =>
        right; right
        simp only [Bool.and_self, if_true] at hE
        by_cases h1 : n = 1099511627776
        · rw [if_pos h1] at hE; exact .inl ⟨rfl, rfl, h1, hE.symm⟩
        · rw [if_neg h1] at hE
          by_cases h2 : q ≠ n + 1
          · rw [if_pos h2] at hE; exact .inr ⟨rfl, rfl, h1, h2, hE.symm⟩
          · rw [if_neg h2] at hE; exact absurd hE.symm hE0
  have hnb : x = true → y = true → 0 ≤ n ∧ n ≤ 1099511627776 := by
    intro h1 _
    rw [← hn]
    exact Vec.cnt_bd (by rw [hx, h1]) s
  clear hMa hNm hCt hCa hca hE hx hy hn hE0 hLa
  rcases hways with ⟨rfl, rfl⟩ | ⟨rfl, rfl, rfl⟩ | ⟨rfl, rfl, rfl, rfl⟩ | ⟨rfl, rfl, h1, h2, rfl⟩
  case' inr.inr.inr =>
    have d1 : (n == 1099511627776) = false := beq_eq_false_iff_ne.2 h1
    have d2 : (q != n + 1) = true := bne_iff_ne.2 h2
    have ⟨hb0, hb1⟩ := hnb rfl rfl
  all_goals
    clear hnb
    go_enter Tryd.func23, Tryd.ntmps23
    go_upto_region 1 with
    (with_reducible refine Mem.wpList_box (o := ⟨some 3, _, _, _, _, _⟩) ?_ 33 (.tmp 1) ?_ (.agg #[.int .i64 s, .int .i64 q]) ?_ ?_
     · rfl
     · rfl
     · rfl
     intro w1 hn1
     have c0 := hn1.cell1 0 (v := .int .i64 s) rfl
     have c1 := hn1.cell1 1 (v := .int .i64 q) rfl
     have Hn1 := Lib.hid hn1
     clear hn1)
    go_wp2_with (first
      | (go_at_call 16
         with_reducible refine (HMa.out _ (Go.Proofs.YtdnpiginkndpcaaDoorW.PrintWords.Kd.C_below HCa.out Hn1.out.below)).mono ?_
         rintro e w2 ⟨rfl, hd2⟩
         have hb2 := Vec.drawn_below hd2
         have c02 := Mem.keep hb2 c0
         have c12 := Mem.keep hb2 c1
         have HB := Lib.hid (Mem.then_ Hn1.out.below hb2)
         clear hd2 hb2 c0 c1)
      | (go_at_call 30
         with_reducible refine (HNm.out _).mono ?_
         rintro e w3 ⟨rfl, hb3⟩
         have c03 := Mem.keep hb3 c02
         have c13 := Mem.keep hb3 c12
         have HBn := Lib.hid (Mem.then_ HB.out hb3)
         clear hb3 c02 c12 HB
         have HB := HBn
         clear HBn)
      | (go_at_call 40
         with_reducible refine (HCt.out _ (Go.Proofs.YtdnpiginkndpcaaDoorW.PrintWords.Kd.C_below HCa.out HB.out)).mono ?_
         rintro e w4 ⟨rfl, hd4⟩
         have hb4 := Vec.drawn_below hd4
         have c14 := Mem.keep hb4 c13
         have HBn := Lib.hid (Mem.then_ HB.out hb4)
         clear hd4 hb4 c03 c13 HB
         have HB := HBn
         clear HBn))
    go_ret2
    exact ⟨rfl, HB.out⟩

set_option maxRecDepth 100000 in
set_option maxHeartbeats 4000000 in
theorem vect_raise_yes (la : List Int) (La : Nat) (hLa : la.length = La) (Aa : Option Addr) (ca : Nat) (S N : Nat) (n : Int) (w : World)
    (hCa : Go.Proofs.YtdnpiginkndpcaaDoorW.PrintWords.Kd.C (Go.Proofs.YtdnpiginkndpcaaDoorW.PrintWords.Kd.int .i64) w Aa la.length la) (hca : la.length ≤ ca) (hla : La ≤ 16) (hS1 : 1 ≤ S) (hS2 : S ≤ 16) (hm : Vec.may la = true) (hnm : Vec.mayName S (n + 1) = true) (hn : Vec.cnt la S = n) (hn2 : n ≠ 1099511627776) (hN : (La < S ∧ N = S) ∨ (¬ La < S ∧ N = La)) :
    Calls Tryd.prog 23 #[.slice Aa La ca, .agg #[.int .i64 S, .int .i64 (n + 1)]] w fun e w' => ∃ v, e = .returned (.tuple #[v, .int .i64 0]) ∧ Vec.Own w' w.heap.size v ((Vec.room la S).set (S - 1) (n + 1)) ∧ Below w.heap.size w w' := by
  have hMa := fun w1 h1 => vect_May.calls _ Aa ca la _ w1 h1 hca (Vec.may_eval la (by omega) (la.length + 1) (by omega))
  have hNm := fun w1 => vect_MayName.calls S (n + 1) _ w1 (Vec.mayName_eval S (n + 1))
  have hCt := fun w1 h1 => vect_count.calls Aa ca la S _ w1 h1 hca (Vec.count_eval la S (by omega))
  rw [hLa, hm] at hMa
  rw [hLa, hn] at hCt
  rw [hLa] at hCa
  rw [hnm] at hNm
  obtain ⟨hb0, hb1⟩ := Vec.cnt_bd hm S
  rw [hn] at hb0 hb1
  have HMa := Lib.hid hMa
  have HCa := Lib.hid hCa
  have HNm := Lib.hid hNm
  have HCt := Lib.hid hCt
  have HLa := Lib.hid hLa
  have Hn := Lib.hid hn
  have d1 : (n == 1099511627776) = false := beq_eq_false_iff_ne.2 hn2
  clear hMa hNm hCt hCa hca hm hnm hn hLa hn2
  rcases hN with ⟨hlt, rfl⟩ | ⟨hlt, rfl⟩
  · have hlt' : (La : Int) < (N : Int) := by omega
    go_enter Tryd.func23, Tryd.ntmps23
    go_upto_region 1 with
    (with_reducible refine Mem.wpList_box (o := ⟨some 3, _, _, _, _, _⟩) ?_ 33 (.tmp 1) ?_ (.agg #[.int .i64 N, .int .i64 (n + 1)]) ?_ ?_
     · rfl
     · rfl
     · rfl
     intro w1 hn1
     have c0 := hn1.cell1 0 (v := .int .i64 N) rfl
     have c1 := hn1.cell1 1 (v := .int .i64 (n + 1)) rfl
     have Hn1 := Lib.hid hn1
     clear hn1)
    go_upto_region 8 with (first
      | (go_at_call 16
         with_reducible refine (HMa.out _ (Go.Proofs.YtdnpiginkndpcaaDoorW.PrintWords.Kd.C_below HCa.out Hn1.out.below)).mono ?_
         rintro e w2 ⟨rfl, hd2⟩
         have hb2 := Vec.drawn_below hd2
         have c02 := Mem.keep hb2 c0
         have c12 := Mem.keep hb2 c1
         have HB := Lib.hid (Mem.then_ Hn1.out.below hb2)
         clear hd2 hb2 c0 c1)
      | (go_at_call 30
         with_reducible refine (HNm.out _).mono ?_
         rintro e w3 ⟨rfl, hb3⟩
         have c03 := Mem.keep hb3 c02
         have c13 := Mem.keep hb3 c12
         have HBn := Lib.hid (Mem.then_ HB.out hb3)
         clear hb3 c02 c12 HB
         have HB := HBn
         clear HBn)
      | (go_at_call 40
         with_reducible refine (HCt.out _ (Go.Proofs.YtdnpiginkndpcaaDoorW.PrintWords.Kd.C_below HCa.out HB.out)).mono ?_
         rintro e w4 ⟨rfl, hd4⟩
         have hb4 := Vec.drawn_below hd4
         have c04 := Mem.keep hb4 c03
         have c14 := Mem.keep hb4 c13
         have HBn := Lib.hid (Mem.then_ HB.out hb4)
         clear hd4 hb4 c03 c13 HB
         have HB := HBn
         clear HBn))
    go_upto_region 9 with (
      with_reducible refine Mem.wpList_make (o := ⟨some 32, _, _, _, _, _⟩) ?_ (.tmp 31) (.tmp 31) 22 3 ?_ Tryd.underlying22 (.int .i64 0) 1 8 Vec.info_int .i64 .i64 N N ?_ ?_ ?_ ?_ ?_ ?_ ?_
      · rfl
      · rfl
      · rfl
      · rfl
      · omega
      · omega
      · omega
      · omega
      intro w5 hn5
      have c05 := Mem.keep hn5.below c04
      have Hn5 := Lib.hid hn5
      clear hn5 c14)
    have hrow := Hn5.out.row
    rw [show ((N : Int).toNat * 1) = N * 1 by omega, Vec.made_ints] at hrow
    have HRow := Lib.hid hrow
    clear hrow
    go_upto_region 10 with (
      with_reducible refine wpList_copy_splice (o := ⟨some 35, _, _, _, _, _⟩) ?_ (.tmp 33) (.tmp 34) 22 22 ?_ 3 Tryd.underlying22 Vec.size_int (some ⟨w4.heap.size, 0, none⟩) Aa N N La ca ?_ ?_ w4.heap.size 0 (Vec.ints (List.replicate N 0)) 3 HRow.out (Vec.ints la) ?_ ?_ ?_ ?_ w4.heap.size w4 Hn5.out.below (Nat.le_refl _) ?_
      · rfl
      · rfl
      · rfl
      · rfl
      · rw [Vec.ints, List.length_map, HLa.out]; exact (Nat.min_eq_left (by omega)).symm
      · intro hp
        rw [Vec.ints, List.length_map, HLa.out] at hp
        exact ⟨rfl, Vec.reads_ints (Go.Proofs.YtdnpiginkndpcaaDoorW.PrintWords.Kd.C_below HCa.out (HB.out.trans (Hn5.out.below.mono HB.out.size))) hp⟩
      · rw [Vec.ints, Vec.ints, List.length_map, List.length_map, List.length_replicate, HLa.out]; omega
      · intro v hv; unfold Vec.ints at hv; rw [List.mem_map] at hv; obtain ⟨x, _, rfl⟩ := hv; rfl
      intro w6 hr6 hb6
      have c06 := (hb6.cell (p := ⟨w.heap.size, 0, none⟩) (block_lt_of_cell c04)).trans c04
      have Hr6 := hr6
      have Hb6 := Lib.hid hb6
      clear hr6 hb6)
    have hcase : (la.length < N ∧ N = N) ∨ (¬ la.length < N ∧ N = la.length) := by have := HLa.out; omega
    have hrow6 : w6.heap[w4.heap.size]? = some (.cells (Vec.ints (Vec.room la N)).toArray 3 (0, 0)) := by
      have := Hr6.out
      rw [Vec.room_splice la N N hcase] at this
      exact this
    obtain ⟨k, hk⟩ : ∃ k : Nat, (N : Int) - 1 = k := ⟨N - 1, by omega⟩
    have hkN : N - 1 = k := by omega
    have d2 : (k : Int) < (N : Int) := by omega
    have d3 : (0 : Int) ≤ (k : Int) := by omega
    have e6 : w6.cell? ⟨w4.heap.size, k, none⟩ = some (.int .i64 n) := by
      refine (cell_of_row _ _ k _ _ _ hrow6).trans ?_
      have := Vec.room_at la N hS1
      rw [Hn.out, hkN] at this
      unfold Vec.ints
      rw [List.getElem?_toArray, List.getElem?_map, this]
      rfl
    have hlenR := Vec.room_length la N N hcase
    have HRow6 := Lib.hid hrow6
    have HlenR := Lib.hid hlenR
    have HkN := Lib.hid hkN
    clear hrow6 hlenR hcase hkN c04 c05
    go_wp2_with (
      with_reducible refine Mem.wpList_store_cell (o := ⟨none, .store 3 (.tmp 43) (.tmp 42), _, _, _, _⟩) ?_ 3 (.tmp 43) (.tmp 42) ?_ w4.heap.size k ?_ (.int .i64 (n + 1)) ?_ ?_ ?_ 3 (Vec.ints (Vec.room la N)).toArray HRow6.out ?_ _ rfl ?_
      · rfl
      · rfl
      · rfl
      · rfl
      · rfl
      · kernel_rfl
      · rw [List.size_toArray, Vec.ints, List.length_map, HlenR.out]; omega
      intro w7 hp7
      have Hp7 := Lib.hid hp7
      clear hp7)
    go_ret2
    refine ⟨.slice (some ⟨w4.heap.size, 0, none⟩) N N, rfl, Vec.own_of_row ?_ ?_ HB.out.size ?_, ?_⟩
    · rw [List.length_set]; exact HlenR.out
    · omega
    · have := Hp7.out.row
      rw [HkN.out]
      rw [Vec.set_ints (by rw [HlenR.out]; omega)] at this
      exact this
    · exact (HB.out.trans (Hb6.out.mono HB.out.size)).trans (Hp7.out.below HB.out.size)
  · have hlt' : ¬ (N : Int) < (S : Int) := by omega
    go_enter Tryd.func23, Tryd.ntmps23
    go_upto_region 1 with
    (with_reducible refine Mem.wpList_box (o := ⟨some 3, _, _, _, _, _⟩) ?_ 33 (.tmp 1) ?_ (.agg #[.int .i64 S, .int .i64 (n + 1)]) ?_ ?_
     · rfl
     · rfl
     · rfl
     intro w1 hn1
     have c0 := hn1.cell1 0 (v := .int .i64 S) rfl
     have c1 := hn1.cell1 1 (v := .int .i64 (n + 1)) rfl
     have Hn1 := Lib.hid hn1
     clear hn1)
    go_upto_region 8 with (first
      | (go_at_call 16
         with_reducible refine (HMa.out _ (Go.Proofs.YtdnpiginkndpcaaDoorW.PrintWords.Kd.C_below HCa.out Hn1.out.below)).mono ?_
         rintro e w2 ⟨rfl, hd2⟩
         have hb2 := Vec.drawn_below hd2
         have c02 := Mem.keep hb2 c0
         have c12 := Mem.keep hb2 c1
         have HB := Lib.hid (Mem.then_ Hn1.out.below hb2)
         clear hd2 hb2 c0 c1)
      | (go_at_call 30
         with_reducible refine (HNm.out _).mono ?_
         rintro e w3 ⟨rfl, hb3⟩
         have c03 := Mem.keep hb3 c02
         have c13 := Mem.keep hb3 c12
         have HBn := Lib.hid (Mem.then_ HB.out hb3)
         clear hb3 c02 c12 HB
         have HB := HBn
         clear HBn)
      | (go_at_call 40
         with_reducible refine (HCt.out _ (Go.Proofs.YtdnpiginkndpcaaDoorW.PrintWords.Kd.C_below HCa.out HB.out)).mono ?_
         rintro e w4 ⟨rfl, hd4⟩
         have hb4 := Vec.drawn_below hd4
         have c04 := Mem.keep hb4 c03
         have c14 := Mem.keep hb4 c13
         have HBn := Lib.hid (Mem.then_ HB.out hb4)
         clear hd4 hb4 c03 c13 HB
         have HB := HBn
         clear HBn))
    go_upto_region 9 with (
      with_reducible refine Mem.wpList_make (o := ⟨some 32, _, _, _, _, _⟩) ?_ (.tmp 31) (.tmp 31) 22 3 ?_ Tryd.underlying22 (.int .i64 0) 1 8 Vec.info_int .i64 .i64 N N ?_ ?_ ?_ ?_ ?_ ?_ ?_
      · rfl
      · rfl
      · rfl
      · rfl
      · omega
      · omega
      · omega
      · omega
      intro w5 hn5
      have c05 := Mem.keep hn5.below c04
      have Hn5 := Lib.hid hn5
      clear hn5 c14)
    have hrow := Hn5.out.row
    rw [show ((N : Int).toNat * 1) = N * 1 by omega, Vec.made_ints] at hrow
    have HRow := Lib.hid hrow
    clear hrow
    go_upto_region 10 with (
      with_reducible refine wpList_copy_splice (o := ⟨some 35, _, _, _, _, _⟩) ?_ (.tmp 33) (.tmp 34) 22 22 ?_ 3 Tryd.underlying22 Vec.size_int (some ⟨w4.heap.size, 0, none⟩) Aa N N N ca ?_ ?_ w4.heap.size 0 (Vec.ints (List.replicate N 0)) 3 HRow.out (Vec.ints la) ?_ ?_ ?_ ?_ w4.heap.size w4 Hn5.out.below (Nat.le_refl _) ?_
      · rfl
      · rfl
      · rfl
      · rfl
      · rw [Vec.ints, List.length_map, HLa.out]; exact (Nat.min_eq_left (by omega)).symm
      · intro hp
        rw [Vec.ints, List.length_map, HLa.out] at hp
        exact ⟨rfl, Vec.reads_ints (Go.Proofs.YtdnpiginkndpcaaDoorW.PrintWords.Kd.C_below HCa.out (HB.out.trans (Hn5.out.below.mono HB.out.size))) hp⟩
      · rw [Vec.ints, Vec.ints, List.length_map, List.length_map, List.length_replicate, HLa.out]; omega
      · intro v hv; unfold Vec.ints at hv; rw [List.mem_map] at hv; obtain ⟨x, _, rfl⟩ := hv; rfl
      intro w6 hr6 hb6
      have c06 := (hb6.cell (p := ⟨w.heap.size, 0, none⟩) (block_lt_of_cell c04)).trans c04
      have Hr6 := hr6
      have Hb6 := Lib.hid hb6
      clear hr6 hb6)
    have hcase : (la.length < S ∧ N = S) ∨ (¬ la.length < S ∧ N = la.length) := by have := HLa.out; omega
    have hrow6 : w6.heap[w4.heap.size]? = some (.cells (Vec.ints (Vec.room la S)).toArray 3 (0, 0)) := by
      have := Hr6.out
      rw [Vec.room_splice la S N hcase] at this
      exact this
    obtain ⟨k, hk⟩ : ∃ k : Nat, (S : Int) - 1 = k := ⟨S - 1, by omega⟩
    have hkN : S - 1 = k := by omega
    have d2 : (k : Int) < (N : Int) := by omega
    have d3 : (0 : Int) ≤ (k : Int) := by omega
    have e6 : w6.cell? ⟨w4.heap.size, k, none⟩ = some (.int .i64 n) := by
      refine (cell_of_row _ _ k _ _ _ hrow6).trans ?_
      have := Vec.room_at la S hS1
      rw [Hn.out, hkN] at this
      unfold Vec.ints
      rw [List.getElem?_toArray, List.getElem?_map, this]
      rfl
    have hlenR := Vec.room_length la S N hcase
    have HRow6 := Lib.hid hrow6
    have HlenR := Lib.hid hlenR
    have HkN := Lib.hid hkN
    clear hrow6 hlenR hcase hkN c04 c05
    go_wp2_with (
      with_reducible refine Mem.wpList_store_cell (o := ⟨none, .store 3 (.tmp 43) (.tmp 42), _, _, _, _⟩) ?_ 3 (.tmp 43) (.tmp 42) ?_ w4.heap.size k ?_ (.int .i64 (n + 1)) ?_ ?_ ?_ 3 (Vec.ints (Vec.room la S)).toArray HRow6.out ?_ _ rfl ?_
      · rfl
      · rfl
      · rfl
      · rfl
      · rfl
      · kernel_rfl
      · rw [List.size_toArray, Vec.ints, List.length_map, HlenR.out]; omega
      intro w7 hp7
      have Hp7 := Lib.hid hp7
      clear hp7)
    go_ret2
    refine ⟨.slice (some ⟨w4.heap.size, 0, none⟩) N N, rfl, Vec.own_of_row ?_ ?_ HB.out.size ?_, ?_⟩
    · rw [List.length_set]; exact HlenR.out
    · omega
    · have := Hp7.out.row
      rw [HkN.out]
      rw [Vec.set_ints (by rw [HlenR.out]; omega)] at this
      exact this
    · exact (HB.out.trans (Hb6.out.mono HB.out.size)).trans (Hp7.out.below HB.out.size)
end Go.Proofs.YtdnpiginkndpcaaDoor
