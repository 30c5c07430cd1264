/- A row that lists variables and wants the world's shape: the wrap, both handed to the walk. No program in sight. -/
import Derived.Test.YtdnpiginkndpcaaDoorVecJ
import Derived.Test.YtdnpiginkndpcaaDoorShelf
import Derived.Test.YtdnpiginkndpcaaDoorPDecx1
import Derived.Lib.AppendIntMem
import Derived.Test.YtdnpiginkndpcaaDoorPnumberx1
import Derived.Laws.Rows
import Derived.Test.YtdnpiginkndpcaaDoorPNameLessx1
import Derived.Test.YtdnpiginkndpcaaDoorPLessx1
import Derived.Laws.StructEq
import Derived.Test.YtdnpiginkndpcaaDoorRows
import Derived.SizedLaws
import Derived.Stop.Joined
/-! The plain law of names; the walk of VectNames. -/
namespace Go.Proofs.YtdnpiginkndpcaaDoor
open Go.RowKit
open PVectAsks

namespace Vec
open Go.Proofs.YtdnpiginkndpcaaDoorW.PrintWords
def dec (n : Int) : List UInt8 := Lib.decDigits n.toNat
/-- a name's text -/
def textL (s q : Int) : List UInt8 := if mayName s q then dec s ++ [46] ++ dec q else []
def Tab (w : World) : Prop := Lib.TabIs Tryd.prog w "internal/strconv.uint64pow10" .u64 Lib.pow10Tab
theorem Tab.later {w w1 : World} (h : Tab w) (hb : Below w.heap.size w w1) : Tab w1 := Lib.tabBelow_of_tabIs h w1 hb
theorem itoa_says {w : World} (h : Tab w) (n : Int) (h0 : 0 ≤ n) (h1 : n ≤ 1099511627776) : Says 45 #[.int .i64 n] w (.string (Mem.str (dec n))) := fun w1 hb => by
  refine (Tryd.strconv_Itoa n (by omega) (by omega) w1 (h.later hb)).mono ?_
  rintro e w2 ⟨rfl, k, os, rfl⟩
  refine ⟨?_, Lib.below_grow _ _ (Nat.le_refl _) _ _⟩
  unfold Lib.itoa
  rw [if_neg (by omega)]
  rfl
theorem dec_len (n : Int) (h0 : 0 ≤ n) (h1 : n ≤ 1099511627776) : 1 ≤ (dec n).length ∧ (dec n).length ≤ 13 := by
  unfold dec
  rw [Lib.decDigits_length]
  refine ⟨Lib.nDigits_pos _, ?_⟩
  rcases Nat.lt_or_ge 13 (Lib.nDigits n.toNat) with h | h
  · exfalso
    obtain ⟨d, hd⟩ : ∃ d, Lib.nDigits n.toNat = d + 14 := ⟨Lib.nDigits n.toNat - 14, by omega⟩
    have key : ∀ d u, Lib.nDigits u = d + 2 → 10 ^ (d + 1) ≤ u := by
      intro d
      induction d with
      | zero =>
        intro u hu
        by_cases c : u < 10
        · rw [Lib.nDigits_small c] at hu; omega
        · omega
      | succ d ih =>
        intro u hu
        by_cases c : u < 10
        · rw [Lib.nDigits_small c] at hu; omega
        · rw [Lib.nDigits_big c] at hu
          have := ih (u / 10) (by omega)
          rw [Nat.pow_succ]
          omega
    have k1 := key (d + 12) n.toNat (by omega)
    have k2 : 10 ^ 13 ≤ 10 ^ (d + 12 + 1) := Nat.pow_le_pow_right (by omega) (by omega)
    have k3 : (10 : Nat) ^ 13 = 10000000000000 := by decide
    omega
  · exact h
theorem str_size' (l : List UInt8) : (Mem.str l).size = l.length := Mem.str_size l
theorem str_app (a b : List UInt8) : Mem.str a ++ Mem.str b = Mem.str (a ++ b) := by apply ByteArray.ext; simp [Mem.str]
end Vec

set_option maxRecDepth 100000 in
set_option maxHeartbeats 4000000 in
theorem nametext_says (s q : Int) (w : World) (ht : Vec.Tab w) : Vec.Says 29 #[.agg #[.int .i64 s, .int .i64 q]] w (.string (Mem.str (Vec.textL s q))) := by
  intro w0 hb0
  have HNm := Lib.hid (fun w1 => vect_MayName.calls s q _ w1 (Vec.mayName_eval s q))
  have HT := Lib.hid (ht.later hb0)
  unfold Vec.textL
  obtain ⟨y, hy⟩ : ∃ x, Vec.mayName s q = x := ⟨_, rfl⟩
  rw [hy] at HNm ⊢
  clear ht hb0
  cases y with
  | false =>
    clear hy HT
    go_enter Tryd.func29, Tryd.ntmps29
    go_wp2_with (first
      | (with_reducible refine Mem.wpList_box (o := ⟨some 1, _, _, _, _, _⟩) ?_ 33 (.tmp 0) ?_ (.agg #[.int .i64 s, .int .i64 q]) ?_ ?_
         · rfl
         · rfl
         · rfl
         intro w1 hn1
         have f0 := hn1.cell1 0 (v := .int .i64 s) rfl
         have f1 := hn1.cell1 1 (v := .int .i64 q) rfl
         have Hn1 := Lib.hid hn1
         clear hn1)
      | (go_at_call 30
         with_reducible refine (HNm.out _).mono ?_
         rintro e w2 ⟨rfl, hb2⟩
         have HB := Lib.hid (Mem.then_ Hn1.out.below hb2)
         clear hb2))
    go_ret
    exact ⟨rfl, HB.out⟩
  | true =>
    obtain ⟨b1, b2, b3, b4⟩ := of_decide_eq_true (show decide (1 ≤ s ∧ s ≤ 16 ∧ 1 ≤ q ∧ q ≤ 1099511627776) = true from hy)
    have l1 := Vec.dec_len s (by omega) (by omega)
    have l2 := Vec.dec_len q (by omega) (by omega)
    have HI1 := Lib.hid (Vec.itoa_says HT.out s (by omega) (by omega))
    have HI2 := Lib.hid (Vec.itoa_says HT.out q (by omega) (by omega))
    obtain ⟨a, ha⟩ : ∃ a, Mem.str (Vec.dec s) = a := ⟨_, rfl⟩
    obtain ⟨b, hb⟩ : ∃ b, Mem.str (Vec.dec q) = b := ⟨_, rfl⟩
    have sa : a.size ≤ 13 := by rw [← ha, Mem.str_size]; exact l1.2
    have sb : b.size ≤ 13 := by rw [← hb, Mem.str_size]; exact l2.2
    rw [ha] at HI1
    rw [hb] at HI2
    have hres : Mem.str (if true = true then Vec.dec s ++ [46] ++ Vec.dec q else []) = a ++ (⟨#[46]⟩ : ByteArray) ++ b := by
      rw [if_pos rfl, ← Vec.str_app, ← Vec.str_app, ha, hb]; rfl
    rw [hres]
    have sab : a.size + 1 + b.size ≤ 9223372036854775807 := by omega
    have sab0 : a.size + 1 ≤ 9223372036854775807 := by omega
    clear hy ha hb hres l1 l2 b1 b2 b3 b4
    go_enter Tryd.func29, Tryd.ntmps29
    go_upto_region 3 with (first
      | (with_reducible refine Mem.wpList_box (o := ⟨some 1, _, _, _, _, _⟩) ?_ 33 (.tmp 0) ?_ (.agg #[.int .i64 s, .int .i64 q]) ?_ ?_
         · rfl
         · rfl
         · rfl
         intro w1 hn1
         have f0 := hn1.cell1 0 (v := .int .i64 s) rfl
         have f1 := hn1.cell1 1 (v := .int .i64 q) rfl
         have Hn1 := Lib.hid hn1
         clear hn1)
      | (go_at_call 30
         with_reducible refine (HNm.out _).mono ?_
         rintro e w2 ⟨rfl, hb2⟩
         have g0 := Mem.keep hb2 f0
         have g1 := Mem.keep hb2 f1
         have HB := Lib.hid (Mem.then_ Hn1.out.below hb2)
         clear hb2 f0 f1))
    have j0 : ∀ i : Mem.Later w2, i.w.cell? ⟨w0.heap.size, 0, none⟩ = some (.int .i64 s) := fun i => i.cell g0
    have j1 : ∀ i : Mem.Later w2, i.w.cell? ⟨w0.heap.size, 1, none⟩ = some (.int .i64 q) := fun i => i.cell g1
    refine Mem.wp_region_later (by kernel_rfl) (by kernel_rfl) ?_
    repeat (go_big_quiet_step (first
      | (go_at_call 45; with_reducible refine Mem.later_call (HI1.out.go (Mem.then_ HB.out (Mem.Later.h _))))
      | (go_at_call 45; with_reducible refine Mem.later_call (HI2.out.go (Mem.then_ HB.out (Mem.Later.h _))))))
    refine wpQuiet_nil ?_
    rintro wq ⟨⟨_, hq⟩, rfl⟩
    clear j0 j1
    go_wp2
    go_ret
    exact ⟨rfl, Mem.then_ HB.out hq⟩

namespace Vec
open Go.Proofs.YtdnpiginkndpcaaDoorW.PrintWords
theorem dec_step (u : Nat) (h : ¬ u < 10) : Lib.decDigits u = Lib.decDigits (u / 10) ++ [UInt8.ofNat (48 + u % 10)] := by rw [Lib.decDigits, dif_neg h]
theorem digit_str (u : Nat) (hu : u ≤ 1099511627776) : strOfNums [(wrap64 (48 + (Int.tmod (u : Int) 10))) % 256] = Mem.str [UInt8.ofNat (48 + u % 10)] := by
  have e1 : Int.tmod (u : Int) 10 = ((u % 10 : Nat) : Int) := by rw [Int.tmod_eq_emod_of_nonneg (by omega)]; omega
  have h10 : u % 10 < 10 := Nat.mod_lt _ (by omega)
  have e2 : (wrap64 (48 + (Int.tmod (u : Int) 10))) % 256 = ((UInt8.ofNat (48 + u % 10)).toNat : Int) := by
    rw [e1, wrap_id (by omega) (by omega), UInt8.toNat_ofNat']
    omega
  rw [e2]
  exact Mem.strOfNums_of [UInt8.ofNat (48 + u % 10)]
theorem dec_l0 : ∀ (k u : Nat) (x : List UInt8), u ≤ 1099511627776 → u < k → 0 < u → x.length + k ≤ 9223372036854775000 → PDec.foolscapref06_Dec.l0 (k + 1) (u : Int) (Mem.str x) = some (Mem.str (Lib.decDigits u ++ x)) := by
  intro k
  induction k with
  | zero => intro u x h1 h2 h3; omega
  | succ k ih =>
    intro u x h1 h2 h3 h4
    unfold PDec.foolscapref06_Dec.l0
    rw [if_pos (by omega)]
    simp only [Option.bind_some]
    rw [digit_str u h1]
    have hsz : (Mem.str [UInt8.ofNat (48 + u % 10)]).size = 1 := by rw [Mem.str_size]; rfl
    have hsx : (Mem.str x).size = x.length := Mem.str_size x
    rw [if_pos (by omega), str_app]
    have e1 : wrap64 (Int.tdiv (u : Int) 10) = ((u / 10 : Nat) : Int) := by
      rw [Int.tdiv_eq_ediv_of_nonneg (by omega), wrap_id (by omega) (by omega)]; omega
    rw [e1]
    by_cases hu : u < 10
    · have e0 : u / 10 = 0 := by omega
      rw [e0]
      unfold PDec.foolscapref06_Dec.l0
      rw [if_neg (by omega), if_neg (by
        intro h
        have := congrArg List.length h
        have h5 : (Mem.str ([UInt8.ofNat (48 + u % 10)] ++ x)).toList = [UInt8.ofNat (48 + u % 10)] ++ x := by rw [ByteArray.toList_eq]; exact Mem.str_toList _
        rw [h5] at this
        simp at this)]
      rw [Lib.decDigits_one hu, Nat.mod_eq_of_lt hu]
    · rw [ih (u / 10) _ (by omega) (by omega) (by omega) (by simp; omega), dec_step u hu, List.append_assoc]
theorem dec_eval (n : Int) (h0 : 1 ≤ n) (h1 : n ≤ 1099511627776) : PDec.foolscapref06_Dec.f (n.toNat + 2) n = some (Mem.str (dec n)) := by
  obtain ⟨u, rfl⟩ : ∃ u : Nat, n = u := ⟨n.toNat, by omega⟩
  have := dec_l0 (u + 1) u [] (by omega) (by omega) (by omega) (by simp; omega)
  rw [List.append_nil] at this
  exact this
theorem dec_says (w : World) (n : Int) (h0 : 1 ≤ n) (h1 : n ≤ 1099511627776) : Says 46 #[.int .i64 n] w (.string (Mem.str (dec n))) := fun w1 _ => PDec.foolscapref06_Dec.calls _ n _ w1 (dec_eval n h0 h1)
end Vec
set_option maxRecDepth 100000 in
set_option maxHeartbeats 4000000 in
theorem reftext_says (s q : Int) (w : World) : Vec.Says 33 #[.agg #[.int .i64 s, .int .i64 q]] w (.string (Mem.str (Vec.textL s q))) := by
  intro w0 hb0
  have HNm := Lib.hid (fun w1 => foolscapref06_MayName.calls s q _ w1 (Vec.ref_name_eval s q))
  unfold Vec.textL
  obtain ⟨y, hy⟩ : ∃ x, Vec.mayName s q = x := ⟨_, rfl⟩
  rw [hy] at HNm ⊢
  clear hb0
  cases y with
  | false =>
    clear hy
    go_enter Tryd.func33, Tryd.ntmps33
    go_wp2_with (first
      | (with_reducible refine Mem.wpList_box (o := ⟨some 1, _, _, _, _, _⟩) ?_ 33 (.tmp 0) ?_ (.agg #[.int .i64 s, .int .i64 q]) ?_ ?_
         · rfl
         · rfl
         · rfl
         intro w1 hn1
         have f0 := hn1.cell1 0 (v := .int .i64 s) rfl
         have f1 := hn1.cell1 1 (v := .int .i64 q) rfl
         have Hn1 := Lib.hid hn1
         clear hn1)
      | (go_at_call 22
         with_reducible refine (HNm.out _).mono ?_
         rintro e w2 ⟨rfl, hb2⟩
         have HB := Lib.hid (Mem.then_ Hn1.out.below hb2)
         clear hb2))
    go_ret
    exact ⟨rfl, HB.out⟩
  | true =>
    obtain ⟨b1, b2, b3, b4⟩ := of_decide_eq_true (show decide (1 ≤ s ∧ s ≤ 16 ∧ 1 ≤ q ∧ q ≤ 1099511627776) = true from hy)
    have l1 := Vec.dec_len s (by omega) (by omega)
    have l2 := Vec.dec_len q (by omega) (by omega)
    have HI1 := Lib.hid (Vec.dec_says w0 s (by omega) (by omega))
    have HI2 := Lib.hid (Vec.dec_says w0 q (by omega) (by omega))
    obtain ⟨a, ha⟩ : ∃ a, Mem.str (Vec.dec s) = a := ⟨_, rfl⟩
    obtain ⟨b, hb⟩ : ∃ b, Mem.str (Vec.dec q) = b := ⟨_, rfl⟩
    have sa : a.size ≤ 13 := by rw [← ha, Mem.str_size]; exact l1.2
    have sb : b.size ≤ 13 := by rw [← hb, Mem.str_size]; exact l2.2
    rw [ha] at HI1
    rw [hb] at HI2
    have hres : Mem.str (if true = true then Vec.dec s ++ [46] ++ Vec.dec q else []) = a ++ (⟨#[46]⟩ : ByteArray) ++ b := by
      rw [if_pos rfl, ← Vec.str_app, ← Vec.str_app, ha, hb]; rfl
    rw [hres]
    have sab : a.size + 1 + b.size ≤ 9223372036854775807 := by omega
    have sab0 : a.size + 1 ≤ 9223372036854775807 := by omega
    clear hy ha hb hres l1 l2 b1 b2 b3 b4
    go_enter Tryd.func33, Tryd.ntmps33
    go_upto_region 3 with (first
      | (with_reducible refine Mem.wpList_box (o := ⟨some 1, _, _, _, _, _⟩) ?_ 33 (.tmp 0) ?_ (.agg #[.int .i64 s, .int .i64 q]) ?_ ?_
         · rfl
         · rfl
         · rfl
         intro w1 hn1
         have f0 := hn1.cell1 0 (v := .int .i64 s) rfl
         have f1 := hn1.cell1 1 (v := .int .i64 q) rfl
         have Hn1 := Lib.hid hn1
         clear hn1)
      | (go_at_call 22
         with_reducible refine (HNm.out _).mono ?_
         rintro e w2 ⟨rfl, hb2⟩
         have g0 := Mem.keep hb2 f0
         have g1 := Mem.keep hb2 f1
         have HB := Lib.hid (Mem.then_ Hn1.out.below hb2)
         clear hb2 f0 f1))
    have j0 : ∀ i : Mem.Later w2, i.w.cell? ⟨w0.heap.size, 0, none⟩ = some (.int .i64 s) := fun i => i.cell g0
    have j1 : ∀ i : Mem.Later w2, i.w.cell? ⟨w0.heap.size, 1, none⟩ = some (.int .i64 q) := fun i => i.cell g1
    refine Mem.wp_region_later (by kernel_rfl) (by kernel_rfl) ?_
    repeat (go_big_quiet_step (first
      | (go_at_call 46; with_reducible refine Mem.later_call (HI1.out.go (Mem.then_ HB.out (Mem.Later.h _))))
      | (go_at_call 46; with_reducible refine Mem.later_call (HI2.out.go (Mem.then_ HB.out (Mem.Later.h _))))))
    refine wpQuiet_nil ?_
    rintro wq ⟨⟨_, hq⟩, rfl⟩
    clear j0 j1
    go_wp2
    go_ret
    exact ⟨rfl, Mem.then_ HB.out hq⟩

end Go.Proofs.YtdnpiginkndpcaaDoor

/-! Reading a number and a name: the plain law, and the walk of ReadName. -/
namespace Go.Proofs.YtdnpiginkndpcaaDoor
open Go.RowKit
open PVectAsks

namespace Vec
open Go.Proofs.YtdnpiginkndpcaaDoorW.PrintWords
def isDig (c : UInt8) : Bool := decide (48 ≤ c.toNat ∧ c.toNat ≤ 57)
def stepD (n : Int) (c : UInt8) : Int := 10 * n + ((c.toNat : Int) - 48)
def numE (l : List UInt8) : Int × Bool := if l = [] ∨ 13 < l.length ∨ l.head? = some 48 then (0, false) else if l.all isDig then (l.foldl stepD 0, true) else (0, false)
theorem bt_str {l : List UInt8} {i : Nat} {c : UInt8} (h : l[i]? = some c) : bt (Mem.str l) (i : Int) = c.toNat := by
  obtain ⟨h1, h2⟩ := List.getElem?_eq_some_iff.1 h
  unfold bt
  rw [dif_pos (by rw [Mem.str_size]; omega)]
  have e : ((i : Int)).toNat = i := by omega
  have : ∀ k (hk : k < (Mem.str l).size), k = i → ((Mem.str l)[k]'hk) = c := by
    intro k hk e; subst e
    rw [← h2]; rfl
  rw [this _ _ e]
theorem num_l0 (l : List UInt8) (hl : l.length ≤ 13) : ∀ (d k i : Nat) (acc : Int), l.length = i + d → d < k → 0 ≤ acc → acc < (10 ^ i : Nat) → Pnumber.vect_number.l0 k (Mem.str l) acc ((l.length : Nat) : Int) (i : Int) = some (if (l.drop i).all isDig then ((l.drop i).foldl stepD acc, true) else (0, false)) := by
  intro d
  induction d with
  | zero =>
    intro k i acc h hk h0 h1
    obtain ⟨k, rfl⟩ : ∃ m, k = m + 1 := ⟨k - 1, by omega⟩
    unfold Pnumber.vect_number.l0
    rw [if_neg (by omega), List.drop_eq_nil_of_le (by omega)]
    rfl
  | succ d ih =>
    intro k i acc h hk h0 h1
    obtain ⟨k, rfl⟩ : ∃ m, k = m + 1 := ⟨k - 1, by omega⟩
    obtain ⟨c, hc⟩ : ∃ c, l[i]? = some c := ⟨_, List.getElem?_eq_getElem (by omega)⟩
    have hd : l.drop i = c :: l.drop (i + 1) := by
      obtain ⟨g1, g2⟩ := List.getElem?_eq_some_iff.1 hc
      rw [← g2]; exact List.drop_eq_getElem_cons g1
    have hcr : (c.toNat : Int) ≤ 255 := by have := c.toNat_lt; omega
    have hp : (10 ^ i : Nat) ≤ 10 ^ 13 := Nat.pow_le_pow_right (by omega) (by omega)
    have hp13 : (10 : Nat) ^ 13 = 10000000000000 := by decide
    have hps : (10 ^ (i + 1) : Nat) = 10 * 10 ^ i := by rw [Nat.pow_succ]; omega
    unfold Pnumber.vect_number.l0
    rw [if_pos (by omega), if_pos (by omega), if_pos (by rw [Mem.str_size]; omega), bt_str hc, hd, List.all_cons]
    have hw : Pnumber.vect_within.f (wrap64 (c.toNat : Int)) 48 57 = some (isDig c) := by
      rw [wrap_id (by omega) (by omega)]
      unfold Pnumber.vect_within.f isDig
      by_cases h48 : (c.toNat : Int) ≥ 48
      · rw [if_pos h48]
        congr 1
        rw [Bool.eq_iff_iff, decide_eq_true_eq, decide_eq_true_eq]
        omega
      · rw [if_neg h48, decide_eq_false (by omega)]
    rw [hw]
    simp only [Option.bind_some]
    cases hdg : isDig c with
    | false => rw [if_neg (by simp), Bool.false_and]; rfl
    | true =>
      have hdg' := of_decide_eq_true (show decide (48 ≤ c.toNat ∧ c.toNat ≤ 57) = true from hdg)
      rw [if_pos rfl, Bool.true_and, List.foldl_cons]
      have e1 : wrap64 ((wrap64 (10 * acc)) + (((c.toNat : Int) - 48) % 256)) = stepD acc c := by
        unfold stepD
        rw [wrap_id (x := 10 * acc) (by omega) (by omega), Int.emod_eq_of_lt (by omega) (by omega), wrap_id (by omega) (by omega)]
      have e2 : wrap64 ((i : Int) + 1) = ((i + 1 : Nat) : Int) := by rw [wrap_id (by omega) (by omega)]; omega
      rw [e1, e2]
      exact ih k (i + 1) _ (by omega) (by omega) (by unfold stepD; omega) (by unfold stepD; rw [hps]; omega)
theorem number_eval (l : List UInt8) (hl : l.length ≤ 100000) : Pnumber.vect_number.f 20 (Mem.str l) = some (numE l) := by
  unfold Pnumber.vect_number.f numE
  have hsz := Mem.str_size l
  have htl : (Mem.str l).toList = l := by rw [ByteArray.toList_eq]; exact Mem.str_toList _
  by_cases h1 : l = []
  · rw [htl, if_pos h1, if_pos (.inl h1)]
    unfold Pnumber.vect_number.j0
    rfl
  · rw [htl, if_neg h1]
    by_cases h2 : ((Mem.str l).size : Int) > 13
    · rw [if_pos h2, if_pos (.inr (.inl (by omega)))]
      unfold Pnumber.vect_number.j0
      rfl
    · obtain ⟨c, l', rfl⟩ : ∃ c l', l = c :: l' := by
        cases l with
        | nil => exact absurd rfl h1
        | cons c l' => exact ⟨c, l', rfl⟩
      rw [if_neg h2, if_pos (by rw [hsz]; simp; try omega)]
      have hb : bt (Mem.str (c :: l')) 0 = c.toNat := bt_str (i := 0) rfl
      rw [hb]
      by_cases h3 : c = 48
      · subst h3
        rw [if_pos (.inr (.inr rfl))]
        unfold Pnumber.vect_number.j0
        rfl
      · have h3' : ((c.toNat : Int) == 48) = false := by
          rw [beq_eq_false_iff_ne]
          intro e
          apply h3
          apply UInt8.toNat_inj.1
          show c.toNat = 48
          omega
        have hj : ∀ x : ByteArray, Pnumber.vect_number.j0 20 x false = Pnumber.vect_number.l0 19 x 0 (x.size : Int) 0 := fun x => by simp [Pnumber.vect_number.j0]
        rw [h3', hj, hsz, if_neg (by
          rintro (e | e | e)
          · exact h1 e
          · omega
          · exact h3 (by simpa using e))]
        have := num_l0 (c :: l') (by omega) (c :: l').length 19 0 0 (by omega) (by omega) (by omega) (by simp)
        rw [List.drop_zero] at this
        exact this
theorem number_says (w : World) (l : List UInt8) (hl : l.length ≤ 100000) : Says 44 #[.string (Mem.str l)] w (.tuple #[.int .i64 (numE l).1, .bool (numE l).2]) := fun w1 _ =>
  (Pnumber.vect_number.calls 20 (Mem.str l) _ _ w1 (number_eval l hl)).mono fun _ _ h2 => ⟨h2.1, drawn_below h2.2⟩
/-! ### a cut at the first point -/
theorem index_dot (a b : List UInt8) (h : (46 : UInt8) ∉ a) : Lib.index (a ++ 46 :: b) [46] = a.length := by
  induction a with
  | nil => simp [Lib.index]
  | cons c a ih =>
    rw [List.mem_cons, not_or] at h
    rw [List.cons_append]
    unfold Lib.index
    rw [if_neg (by simp; exact h.1), ih h.2, if_neg (by simp; try omega)]
    simp
theorem index_no (a : List UInt8) (h : (46 : UInt8) ∉ a) : Lib.index a [46] = -1 := by
  induction a with
  | nil => simp [Lib.index]
  | cons c a ih =>
    rw [List.mem_cons, not_or] at h
    unfold Lib.index
    rw [if_neg (by simp; exact h.1), ih h.2]
    rfl
theorem cut_dot (a b : List UInt8) (h : (46 : UInt8) ∉ a) : Lib.cut (a ++ 46 :: b) [46] = (a, b, true) := by
  unfold Lib.cut
  rw [index_dot a b h, if_pos (by omega), show ((a.length : Int)).toNat = a.length by omega, List.take_left]
  congr 2
  rw [show a ++ 46 :: b = (a ++ [46]) ++ b by simp]
  exact List.drop_left' (by simp)
theorem cut_no (a : List UInt8) (h : (46 : UInt8) ∉ a) : Lib.cut a [46] = (a, [], false) := by
  unfold Lib.cut
  rw [index_no a h, if_neg (by omega)]
theorem dot_cases (l : List UInt8) : (46 : UInt8) ∉ l ∨ ∃ a b, l = a ++ 46 :: b ∧ (46 : UInt8) ∉ a := by
  induction l with
  | nil => left; simp
  | cons c l ih =>
    by_cases hc : c = 46
    · right; exact ⟨[], l, by rw [hc]; rfl, by simp⟩
    · rcases ih with h | ⟨a, b, rfl, h⟩
      · left; simp [h]; exact fun e => hc e.symm
      · right; exact ⟨c :: a, b, rfl, by simp [h]; exact fun e => hc e.symm⟩
theorem cut_len (l : List UInt8) : (Lib.cut l [46]).1.length ≤ l.length ∧ (Lib.cut l [46]).2.1.length ≤ l.length := by
  unfold Lib.cut
  split <;> simp <;> omega
/-- ReadName's answer -/
def readE (l : List UInt8) : Int × Int × Int :=
  let a := numE (Lib.cut l [46]).1
  let b := numE (Lib.cut l [46]).2.1
  if (Lib.cut l [46]).2.2 && a.2 && b.2 && mayName a.1 b.1 then (a.1, b.1, 0) else (0, 0, 9)
def MaxLen (w : World) : Prop := ∃ m, w.cell? ⟨0, 0, none⟩ = some (.int .i64 m)
theorem MaxLen.later {w w1 : World} (h : MaxLen w) (hb : Below w.heap.size w w1) : MaxLen w1 := by obtain ⟨m, hm⟩ := h; exact ⟨m, Mem.keep hb hm⟩
theorem cut_says {w : World} (h : MaxLen w) (l : List UInt8) (hl : l.length ≤ 100000) : Says 43 #[.string (Mem.str l), .string ⟨#[46]⟩] w (.tuple #[.string (Mem.str (Lib.cut l [46]).1), .string (Mem.str (Lib.cut l [46]).2.1), .bool (Lib.cut l [46]).2.2]) := fun w1 hb => by
  obtain ⟨m, hm⟩ := h.later hb
  have := Tryd.strings_Cut (Mem.str l) ⟨#[46]⟩ m w1 (by rw [Mem.str_size]; omega) hm
  rw [Mem.str_toList] at this
  refine this.mono ?_
  rintro e w2 ⟨rfl, n, rfl⟩
  exact ⟨rfl, Mem.below_drewN (Below.refl _ _) _⟩
theorem results_row_tmp {P : Program} {fn : Func} {p q : Tmp} {ty : TypeId} (h : fn.results = #[.cell p ty, .tmp q]) (tmps : Array Value) (w : World) (g : Nat) (v : Value) (t : TypeId) (cs : Array Value) (fr : Nat × Nat) (d : TypeDesc)
    (hp : tmps.getD p undef = .pointer (some ⟨g, 0, none⟩)) (hq : tmps.getD q undef = v) (hg : w.heap[g]? = some (.cells cs t fr))
    (hu : P.underlying ty = some d) (hd : (match d with | .struct _ | .array _ _ => true | _ => false) = true) (hi : (P.info? ty).map (·.size) = some cs.size) :
    (results fn tmps).run P w = .ok (.tuple #[.agg cs, v]) w := by
  have hp' : tmps[p]?.getD undef = .pointer (some ⟨g, 0, none⟩) := by simpa using hp
  have hq' : tmps[q]?.getD undef = v := by simpa using hq
  simp [results, h, hp', hq', asAddr, run_loadVar_row w g t ty cs fr d hg hu hd hi]
theorem zero_name : (Tryd.prog.info? 33).bind (·.zero) = some (.agg #[.int .i64 0, .int .i64 0]) := by kernel_rfl
theorem size_name : (Tryd.prog.info? 33).map (·.size) = some 2 := by kernel_rfl
end Vec

set_option maxRecDepth 100000 in
set_option maxHeartbeats 4000000 in
theorem readname_says (l : List UInt8) (hl : l.length ≤ 100000) (w : World) (hm : Vec.MaxLen w) : Vec.Says 27 #[.string (Mem.str l)] w (.tuple #[.agg #[.int .i64 (Vec.readE l).1, .int .i64 (Vec.readE l).2.1], .int .i64 (Vec.readE l).2.2]) := by
  intro w0 hb0
  have HC := Lib.hid (Vec.cut_says (hm.later hb0) l hl)
  have hcl := Vec.cut_len l
  have HA := Lib.hid (Vec.number_says w0 (Lib.cut l [46]).1 (by omega))
  have HB1 := Lib.hid (Vec.number_says w0 (Lib.cut l [46]).2.1 (by omega))
  obtain ⟨r, hr⟩ : ∃ r, Vec.readE l = r := ⟨_, rfl⟩
  rw [hr]
  unfold Vec.readE at hr
  dsimp only at hr
  obtain ⟨c, hc⟩ : ∃ c, Lib.cut l [46] = c := ⟨_, rfl⟩
  rw [hc] at HC HA HB1 hr
  obtain ⟨x, y, f⟩ := c
  dsimp only at HC HA HB1 hr
  obtain ⟨p, hp⟩ : ∃ p, Vec.numE x = p := ⟨_, rfl⟩
  obtain ⟨q, hq⟩ : ∃ q, Vec.numE y = q := ⟨_, rfl⟩
  rw [hp] at HA hr
  rw [hq] at HB1 hr
  obtain ⟨a, ok1⟩ := p
  obtain ⟨b, ok2⟩ := q
  dsimp only at HA HB1 hr
  have HNm := Lib.hid (fun w1 => vect_MayName.calls a b _ w1 (Vec.mayName_eval a b))
  obtain ⟨y2, hy2⟩ : ∃ z, Vec.mayName a b = z := ⟨_, rfl⟩
  rw [hy2] at HNm hr
  obtain ⟨s, hs⟩ : ∃ s, Mem.str l = s := ⟨_, rfl⟩
  rw [hs] at HC ⊢
  obtain ⟨sx, hsx⟩ : ∃ s, Mem.str x = s := ⟨_, rfl⟩
  rw [hsx] at HC HA
  obtain ⟨sy, hsy⟩ : ∃ s, Mem.str y = s := ⟨_, rfl⟩
  rw [hsy] at HC HB1
  clear hm hb0 hcl hc hp hq hy2 hs hsx hsy hl
  cases f <;> cases ok1 <;> cases ok2 <;> cases y2
  all_goals
    simp at hr
    subst hr
    go_enter Tryd.func27, Tryd.ntmps27
    go_wp2_with (first
      | (with_reducible refine Mem.wpList_alloc (o := ⟨some 2, _, _, _, _, _⟩) ?_ 33 ?_ _ Vec.zero_name ?_
         · rfl
         · rfl
         intro w1 hn1
         have Hn1 := Lib.hid hn1
         have HB := Lib.hid hn1.below
         clear hn1)
      | (go_at_call 43
         with_reducible refine (HC.out.go HB.out).mono ?_
         rintro e w2 ⟨rfl, hb2⟩
         have HBn := Lib.hid (Mem.then_ HB.out hb2)
         have HR2 := Lib.hid ((hb2.block _ (by rw [Hn1.out.size]; omega)).trans Hn1.out.row)
         clear hb2 HB
         have HB := HBn
         clear HBn)
      | (go_at_call 44
         with_reducible refine (HA.out.go HB.out).mono ?_
         rintro e w3 ⟨rfl, hb3⟩
         have HBn := Lib.hid (Mem.then_ HB.out hb3)
         have HR3 := Lib.hid ((hb3.block _ ((Array.getElem?_eq_some_iff.1 HR2.out).1)).trans HR2.out)
         clear hb3 HB
         have HB := HBn
         clear HBn)
      | (go_at_call 44
         with_reducible refine (HB1.out.go HB.out).mono ?_
         rintro e w4 ⟨rfl, hb4⟩
         have HBn := Lib.hid (Mem.then_ HB.out (Mem.then_ hb4 (Vec.below_alloc w4 (.cells #[.int .i64 a, .int .i64 b] 33))))
         have HR4 := Lib.hid ((hb4.block _ ((Array.getElem?_eq_some_iff.1 HR3.out).1)).trans HR3.out)
         have HR6 := Lib.hid (((Vec.below_alloc w4 (.cells #[.int .i64 a, .int .i64 b] 33)).block _ ((Array.getElem?_eq_some_iff.1 HR4.out).1)).trans HR4.out)
         have k0 := (Mem.new_alloc w4 #[.int .i64 a, .int .i64 b] 33).cell1 0 (v := .int .i64 a) rfl
         have k1 := (Mem.new_alloc w4 #[.int .i64 a, .int .i64 b] 33).cell1 1 (v := .int .i64 b) rfl
         have Hk0 := Lib.hid k0
         have Hk1 := Lib.hid k1
         have z0 : (w4.alloc (.cells #[.int .i64 a, .int .i64 b] 33)).cell? ⟨w0.heap.size, 0, none⟩ = some (.int .i64 0) := (cell_of_row _ _ 0 _ _ _ HR6.out).trans rfl
         have z1 : (w4.alloc (.cells #[.int .i64 a, .int .i64 b] 33)).cell? ⟨w0.heap.size, 1, none⟩ = some (.int .i64 0) := (cell_of_row _ _ 1 _ _ _ HR6.out).trans rfl
         have z2 := frozen_of_row _ w0.heap.size 0 _ _ HR6.out
         have z3 := frozen_of_row _ w0.heap.size 1 _ _ HR6.out
         clear hb4 HB k0 k1
         have HB := HBn
         clear HBn)
      | (go_at_call 30
         with_reducible refine (HNm.out _).mono ?_
         rintro e w7 ⟨rfl, hb7⟩
         have HBn := Lib.hid (Mem.then_ HB.out hb7)
         have HR7 := Lib.hid ((hb7.block _ ((Array.getElem?_eq_some_iff.1 HR6.out).1)).trans HR6.out)
         have k07 := Mem.keep hb7 Hk0.out
         have k17 := Mem.keep hb7 Hk1.out
         have y0 : w7.cell? ⟨w0.heap.size, 0, none⟩ = some (.int .i64 0) := (cell_of_row _ _ 0 _ _ _ HR7.out).trans rfl
         have y1 : w7.cell? ⟨w0.heap.size, 1, none⟩ = some (.int .i64 0) := (cell_of_row _ _ 1 _ _ _ HR7.out).trans rfl
         have y2 := frozen_of_row _ w0.heap.size 0 _ _ HR7.out
         have y3 := frozen_of_row _ w0.heap.size 1 _ _ HR7.out
         clear hb7 HB HR6 z0 z1 z2 z3
         have HB := HBn
         have HR6 := HR7
         clear HBn HR7))
    first
      | exact bodyPost_ret (Vec.results_row_tmp rfl _ _ w0.heap.size (.int .i64 9) 33 #[.int .i64 0, .int .i64 0] (0, 0) _ rfl rfl (Mem.row_setCell _ _ 1 _ _ _ _ (Mem.row_setCell _ _ 0 _ _ _ _ HR6.out)) Tryd.underlying33 rfl Vec.size_name) rfl ⟨rfl, (HB.out.setCell (Nat.le_refl _) _).setCell (Nat.le_refl _) _⟩
      | exact bodyPost_ret (Vec.results_row_tmp rfl _ _ w0.heap.size (.int .i64 0) 33 #[.int .i64 a, .int .i64 b] (0, 0) _ rfl rfl (Mem.row_setCell _ _ 1 _ _ _ _ (Mem.row_setCell _ _ 0 _ _ _ _ HR6.out)) Tryd.underlying33 rfl Vec.size_name) rfl ⟨rfl, (HB.out.setCell (Nat.le_refl _) _).setCell (Nat.le_refl _) _⟩
end Go.Proofs.YtdnpiginkndpcaaDoor

/-! The plain law of names; the walk of VectNames. -/
namespace Go.Proofs.YtdnpiginkndpcaaDoor
open Go.RowKit
open PVectAsks

namespace Vec
open Go.Proofs.YtdnpiginkndpcaaDoorW.PrintWords
theorem ofNat_toNat (u : Nat) (h : u < 10) : (UInt8.ofNat (48 + u)).toNat = 48 + u := by rw [UInt8.toNat_ofNat']; omega
theorem digit_isDig (u : Nat) (h : u < 10) : isDig (UInt8.ofNat (48 + u)) = true := by unfold isDig; rw [ofNat_toNat u h]; exact decide_eq_true (by omega)
theorem dec_digs : ∀ n u : Nat, u < n → (Lib.decDigits u).all isDig = true ∧ (Lib.decDigits u).foldl stepD 0 = u ∧ (0 < u → (Lib.decDigits u).head? ≠ some 48) ∧ Lib.decDigits u ≠ [] := by
  intro n
  induction n with
  | zero => intro u h; omega
  | succ n ih =>
    intro u hu
    by_cases c : u < 10
    · rw [Lib.decDigits_one c]
      refine ⟨by rw [List.all_cons, digit_isDig u c]; rfl, ?_, fun h0 e => ?_, by simp⟩
      · show stepD 0 _ = _
        unfold stepD
        rw [ofNat_toNat u c]; omega
      · have : UInt8.ofNat (48 + u) = 48 := by simpa using e
        have := congrArg UInt8.toNat this
        rw [ofNat_toNat u c] at this
        have e48 : (48 : UInt8).toNat = 48 := rfl
        omega
    · obtain ⟨h1, h2, h3, h4⟩ := ih (u / 10) (by omega)
      rw [dec_step u c]
      have hm : u % 10 < 10 := Nat.mod_lt _ (by omega)
      refine ⟨by rw [List.all_append, h1, List.all_cons, digit_isDig _ hm]; rfl, ?_, fun _ => ?_, by simp⟩
      · rw [List.foldl_append, h2]
        show stepD _ _ = _
        unfold stepD
        rw [ofNat_toNat _ hm]; omega
      · cases hd : Lib.decDigits (u / 10) with
        | nil => exact absurd hd h4
        | cons x l =>
          have := h3 (by omega)
          rw [hd] at this
          simpa using this
theorem numE_dec (n : Int) (h0 : 1 ≤ n) (h1 : n ≤ 1099511627776) : numE (dec n) = (n, true) := by
  obtain ⟨k1, k2, k3, k4⟩ := dec_digs (n.toNat + 1) n.toNat (by omega)
  have hl := dec_len n (by omega) h1
  unfold numE
  rw [if_neg (by
    rintro (e | e | e)
    · exact k4 e
    · omega
    · exact k3 (by omega) e)]
  unfold dec
  rw [if_pos k1, k2]
  congr 1
  omega
theorem dec_nodot (n : Int) : (46 : UInt8) ∉ dec n := by
  intro h
  have := List.all_eq_true.1 (dec_digs (n.toNat + 1) n.toNat (by omega)).1 46 h
  cases this
theorem readE_text (s q : Int) (h : mayName s q = true) : readE (textL s q) = (s, q, 0) := by
  obtain ⟨b1, b2, b3, b4⟩ := of_decide_eq_true (show decide (1 ≤ s ∧ s ≤ 16 ∧ 1 ≤ q ∧ q ≤ 1099511627776) = true from h)
  unfold readE textL
  rw [if_pos h, List.append_assoc]
  show (let a := numE (Lib.cut (dec s ++ 46 :: dec q) [46]).1; let b := numE (Lib.cut (dec s ++ 46 :: dec q) [46]).2.1; if (Lib.cut (dec s ++ 46 :: dec q) [46]).2.2 && a.2 && b.2 && mayName a.1 b.1 then (a.1, b.1, (0 : Int)) else (0, 0, 9)) = _
  rw [cut_dot _ _ (dec_nodot s)]
  dsimp only
  rw [numE_dec s b1 (by omega), numE_dec q b3 b4]
  dsimp only
  rw [h]
  rfl
theorem readE_nil : readE [] = (0, 0, 9) := by rfl
theorem text_len (s q : Int) : (textL s q).length ≤ 100000 := by
  unfold textL
  split
  · rename_i h
    obtain ⟨b1, b2, b3, b4⟩ := of_decide_eq_true (show decide (1 ≤ s ∧ s ≤ 16 ∧ 1 ≤ q ∧ q ≤ 1099511627776) = true from h)
    have := dec_len s (by omega) (by omega)
    have := dec_len q (by omega) b4
    simp
    omega
  · simp
def lessB (a b c d : Int) : Bool := decide (a < c ∨ a = c ∧ b < d)
theorem less_says (w : World) (a b c d : Int) : Says 31 #[.agg #[.int .i64 a, .int .i64 b], .agg #[.int .i64 c, .int .i64 d]] w (.bool (lessB a b c d)) := fun w1 _ => by
  refine PNameLess.vect_NameLess.calls a b c d _ w1 ?_
  unfold PNameLess.vect_NameLess.f lessB
  by_cases h : a = c
  · rw [if_pos h]
    congr 1
    rw [Bool.eq_iff_iff, decide_eq_true_eq, decide_eq_true_eq]
    omega
  · rw [if_neg h]
    congr 1
    rw [Bool.eq_iff_iff, decide_eq_true_eq, decide_eq_true_eq]
    omega
theorem ref_less_says (w : World) (a b c d : Int) : Says 32 #[.agg #[.int .i64 a, .int .i64 b], .agg #[.int .i64 c, .int .i64 d]] w (.bool (lessB a b c d)) := fun w1 _ => by
  refine PLess.foolscapref06_Less.calls a b c d _ w1 ?_
  unfold PLess.foolscapref06_Less.f lessB
  by_cases h1 : a < c
  · rw [if_pos h1, decide_eq_true (by omega)]
  · by_cases h : a = c
    · rw [if_neg h1, if_pos h]
      congr 1
      rw [Bool.eq_iff_iff, decide_eq_true_eq, decide_eq_true_eq]
      omega
    · rw [if_neg h1, if_neg h, decide_eq_false (by omega)]
theorem may_name_says (w : World) (s q : Int) : Says 30 #[.agg #[.int .i64 s, .int .i64 q]] w (.bool (mayName s q)) := fun w1 _ => vect_MayName.calls s q _ w1 (mayName_eval s q)
theorem eq_names (a b c d : Int) (w : World) : (Op.equalIn 10000 33 (.agg #[.int .i64 a, .int .i64 b]) (.agg #[.int .i64 c, .int .i64 d])).run Tryd.prog w = .ok (a == c && b == d) w := by
  cases h1 : (a == c) <;> cases h2 : (b == d) <;> go_simp
theorem eq_same (a b : Int) (w : World) : (Op.equalIn 10000 33 (.agg #[.int .i64 a, .int .i64 b]) (.agg #[.int .i64 a, .int .i64 b])).run Tryd.prog w = .ok true w := by rw [eq_names]; simp
end Vec

set_option maxRecDepth 100000 in
set_option maxHeartbeats 4000000 in
theorem names_main (s q s2 q2 : Int) (w : World) (ht : Vec.Tab w) (hm : Vec.MaxLen w) :
    Calls Tryd.prog 8 #[.agg #[.int .i64 s, .int .i64 q], .agg #[.int .i64 s2, .int .i64 q2]] w fun e w' => e = .returned (.bool true) ∧ Below w.heap.size w w' := by
  have HL := Lib.hid (Vec.alive_says w)
  have HT := Lib.hid (nametext_says s q w ht)
  have HR := Lib.hid (reftext_says s q w)
  have HM := Lib.hid (Vec.may_name_says w s q)
  have HRM := Lib.hid (Vec.ref_name_says w s q)
  have HLe := Lib.hid (Vec.less_says w s q s2 q2)
  have HRL := Lib.hid (Vec.ref_less_says w s q s2 q2)
  have HN := Lib.hid (readname_says (Vec.textL s q) (Vec.text_len s q) w hm)
  obtain ⟨u, hu⟩ : ∃ u, Vec.lessB s q s2 q2 = u := ⟨_, rfl⟩
  rw [hu] at HLe HRL
  have hcase : (Vec.mayName s q = true ∧ Vec.readE (Vec.textL s q) = (s, q, 0)) ∨ (Vec.mayName s q = false ∧ Vec.readE (Vec.textL s q) = (0, 0, 9)) := by
    cases h : Vec.mayName s q with
    | true => exact .inl ⟨rfl, Vec.readE_text s q h⟩
    | false =>
      refine .inr ⟨rfl, ?_⟩
      have : Vec.textL s q = [] := by unfold Vec.textL; rw [h]; rfl
      rw [this]; exact Vec.readE_nil
  obtain ⟨tt, htt⟩ : ∃ tt, Mem.str (Vec.textL s q) = tt := ⟨_, rfl⟩
  rw [htt] at HT HR HN
  have q1 := Vec.eq_same s q
  have q0 := Vec.eq_same 0 0
  clear ht hm hu htt
  rcases hcase with ⟨hy, hr⟩ | ⟨hy, hr⟩
  all_goals
    rw [hy] at HM HRM
    rw [hr] at HN
    dsimp only at HN
    clear hy hr
    cases u
    all_goals
      go_enter Tryd.func8, Tryd.ntmps8
      go_upto_region 4 with (first
        | (with_reducible refine Mem.wpList_box (o := ⟨some 2, _, _, _, _, _⟩) ?_ 33 (.tmp 0) ?_ (.agg #[.int .i64 s, .int .i64 q]) ?_ ?_
           · rfl
           · rfl
           · rfl
           intro w1 hn1
           have f0 := hn1.cell1 0 (v := .int .i64 s) rfl
           have f1 := hn1.cell1 1 (v := .int .i64 q) rfl
           have HB := Lib.hid hn1.below
           have Hs1 := Lib.hid hn1.size
           clear hn1
           with_reducible refine Mem.wpList_box (o := ⟨some 3, _, _, _, _, _⟩) ?_ 33 (.tmp 1) ?_ (.agg #[.int .i64 s2, .int .i64 q2]) ?_ ?_
           · rfl
           · rfl
           · rfl
           intro w2 hn2
           have c0 := Mem.keep hn2.below f0
           have c1 := Mem.keep hn2.below f1
           have c2 := hn2.cell1 0 (v := .int .i64 s2) rfl
           have c3 := hn2.cell1 1 (v := .int .i64 q2) rfl
           have HBn := Lib.hid (Mem.then_ HB.out hn2.below)
           clear hn2 HB f0 f1
           have HB := HBn
           clear HBn)
        | (go_at_call 9
           with_reducible refine (HL.out.go HB.out).mono ?_
           rintro e w3 ⟨rfl, hbx⟩
           have d0 := Mem.keep hbx c0
           have d1 := Mem.keep hbx c1
           have d2 := Mem.keep hbx c2
           have d3 := Mem.keep hbx c3
           have HBn := Lib.hid (Mem.then_ HB.out hbx)
           clear hbx HB c0 c1 c2 c3
           have HB := HBn
           clear HBn)
        | (go_at_call 29
           with_reducible refine (HT.out.go HB.out).mono ?_
           rintro e w4 ⟨rfl, hbx⟩
           have e0 := Mem.keep hbx d0
           have e1 := Mem.keep hbx d1
           have e2 := Mem.keep hbx d2
           have e3 := Mem.keep hbx d3
           have HBn := Lib.hid (Mem.then_ HB.out hbx)
           clear hbx HB d0 d1 d2 d3
           have HB := HBn
           clear HBn))
      have j0 : ∀ i : Mem.Later w4, i.w.cell? ⟨w.heap.size, 0, none⟩ = some (.int .i64 s) := fun i => i.cell e0
      have j1 : ∀ i : Mem.Later w4, i.w.cell? ⟨w.heap.size, 1, none⟩ = some (.int .i64 q) := fun i => i.cell e1
      have j2 : ∀ i : Mem.Later w4, i.w.cell? ⟨w1.heap.size, 0, none⟩ = some (.int .i64 s2) := fun i => i.cell e2
      have j3 : ∀ i : Mem.Later w4, i.w.cell? ⟨w1.heap.size, 1, none⟩ = some (.int .i64 q2) := fun i => i.cell e3
      refine Mem.wp_region_later (by kernel_rfl) (by kernel_rfl) ?_
      repeat (go_big_quiet_step (first
        | (go_at_call 30; with_reducible refine Mem.later_call (HM.out.go (Mem.then_ HB.out (Mem.Later.h _))))
        | (go_at_call 22; with_reducible refine Mem.later_call (HRM.out.go (Mem.then_ HB.out (Mem.Later.h _))))
        | (go_at_call 31; with_reducible refine Mem.later_call (HLe.out.go (Mem.then_ HB.out (Mem.Later.h _))))
        | (go_at_call 32; with_reducible refine Mem.later_call (HRL.out.go (Mem.then_ HB.out (Mem.Later.h _))))
        | (go_at_call 33; with_reducible refine Mem.later_call (HR.out.go (Mem.then_ HB.out (Mem.Later.h _))))))
      refine wpQuiet_nil ?_
      rintro wq ⟨⟨_, hq⟩, rfl⟩
      clear j0 j1 j2 j3
      have g0 := Mem.keep hq e0
      have g1 := Mem.keep hq e1
      have HBq := Lib.hid (Mem.then_ HB.out hq)
      clear hq HB e0 e1 e2 e3
      have HB := HBq
      clear HBq
      go_wp2_with (first
        | (go_at_call 27
           with_reducible refine (HN.out.go HB.out).mono ?_
           rintro e w5 ⟨rfl, hbx⟩
           have h0 : ∀ o, (w5.alloc o).cell? ⟨w.heap.size, 0, none⟩ = some (.int .i64 s) := fun o => Mem.keep (Vec.below_alloc w5 o) (Mem.keep hbx g0)
           have h1 : ∀ o, (w5.alloc o).cell? ⟨w.heap.size, 1, none⟩ = some (.int .i64 q) := fun o => Mem.keep (Vec.below_alloc w5 o) (Mem.keep hbx g1)
           have HBn := Lib.hid (Mem.then_ HB.out hbx)
           clear hbx HB g0 g1
           have HB := HBn
           clear HBn)
        | (go_at_call 22
           with_reducible refine (HRM.out.go (Mem.then_ HB.out (Vec.below_alloc _ _))).mono ?_
           rintro e w6 ⟨rfl, hbx⟩
           have HBn := Lib.hid (Mem.then_ HB.out (Mem.then_ (Vec.below_alloc _ _) hbx))
           have p0 := Mem.keep hbx (h0 _)
           have p1 := Mem.keep hbx (h1 _)
           have p2 := Mem.keep hbx ((Mem.new_alloc w5 _ _).cell1 0 rfl)
           have p3 := Mem.keep hbx ((Mem.new_alloc w5 _ _).cell1 1 rfl)
           clear hbx HB h0 h1
           have HB := HBn
           clear HBn))
      go_ret
      exact ⟨rfl, HB.out⟩
theorem vectNames_walk (a0_0 : Int) (a0_1 : Int) (a1_0 : Int) (a1_1 : Int) (w : World) (_wa0_0 : (Lit.int .i64 a0_0).wf = true) (_wa0_1 : (Lit.int .i64 a0_1).wf = true) (_wa1_0 : (Lit.int .i64 a1_0).wf = true) (_wa1_1 : (Lit.int .i64 a1_1).wf = true) (ht : Vec.Tab w) (hm : Vec.MaxLen w) :
    Calls Tryd.prog 8 #[.agg #[.int .i64 a0_0, .int .i64 a0_1], .agg #[.int .i64 a1_0, .int .i64 a1_1]] w fun e w' => e = .returned (.bool true) ∧ Below w.heap.size w w' := names_main a0_0 a0_1 a1_0 a1_1 w ht hm
end Go.Proofs.YtdnpiginkndpcaaDoor

/-! A row that lists variables and wants the world's shape: the wrap, both handed to the walk. No program in sight. -/
namespace Go.Proofs.YtdnpiginkndpcaaDoor.Mem
variable {H : Type} {enc : TypeId × Value → H}
theorem handed_and_shaped {a : Assume} {C : Checked} {os : Os} {f : FuncId} {fn : Func} {s : ChangeSpec} {conds : List PathCond} {apart fresh handsOn again : Bool} {X : World → Array Value → Prop}
    (hX : ∀ (w w' : World) (args : Array Value), w.heap = w'.heap → X w args → X w' args)
    (own : ownKnob C.prog.godebug = none) (started : os.Started) (noInit : C.prog.inits.idxOf? f = none) (hfn : C.prog.funcs[f]? = some fn)
    (witness : ∃ (w : World) (tape : Tape) (i : Input), w.os = os ∧ (w.forCall tape i).Shaped C.prog ∧ i.vars = [] ∧ Input.okWide C.prog (w.forCall tape i) .any w.heap.size f i ∧
      ((s.pre enc C.prog fn conds apart (w.forCall tape i).memory i.args ∧ X (w.forCall tape i).memory i.args) ∧ sizedMet enc C.prog fn (OpenSpec.ofChange s) apart (w.forCall tape i).memory i.args) ∧ a.holds C.prog (lone (Frame.enter C.prog f i.args .normal) [] (w.forCall tape i)))
    (contract : ∀ (W : World) (base : Nat) (args : Array Value) (ds gs : List (DataW H)) (before : List MemPlace),
      (∀ (j : Nat) t v, fn.params[j]? = some t → args[j]? = some v → Value.okWide C.prog W .any base t v) →
      DataW.Whole enc C.prog fn.params.toList s.vars apart W args.toList ds gs before → X W args → W.ShapedOpen C.prog →
      Calls C.prog f args W fun e W' => ∃ v, e = .returned v ∧ s.post enc C.prog fn apart fresh handsOn again W args v W') :
    ReturnsInHanded a C os f .any (fun w args => (s.pre enc C.prog fn conds apart w args ∧ X w args) ∧ sizedMet enc C.prog fn (OpenSpec.ofChange s) apart w args) (s.post enc C.prog fn apart fresh handsOn again) := by
  refine returnsInHanded_of_calls own started noInit witness ?_
  intro w tape i _ hsh _ hok hpre _
  obtain ⟨_, _, _, fn2, hfn2, _, _, _, _, hval⟩ := hok
  obtain rfl : fn2 = fn := Option.some.inj (hfn2.symm.trans hfn)
  obtain ⟨⟨⟨ds, gs, before, hw, _⟩, hx⟩, _⟩ := hpre
  refine (contract (w.forCall tape i) w.heap.size i.args ds gs before hval (DataW.Whole.of_heap (w' := w.forCall tape i) (by rfl) hw) (hX _ _ _ (by rfl) hx) hsh).mono ?_
  rintro e W' ⟨v, rfl, hp⟩
  exact ChangeSpec.post_blind hp
end Go.Proofs.YtdnpiginkndpcaaDoor.Mem
