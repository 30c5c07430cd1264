/- The walk of VectReads. -/
import Derived.Test.YtdnpiginkndpcaaDoorNamC
import Derived.Test.YtdnpiginkndpcaaDoorTail
/-! The plain law of reading a name. -/
namespace Go.Proofs.YtdnpiginkndpcaaDoor
open Go.RowKit
open PVectAsks

namespace Vec
open Go.Proofs.YtdnpiginkndpcaaDoorW.PrintWords
def raw (l : List UInt8) : Int := l.foldl stepD 0
theorem raw_snoc (l : List UInt8) (c : UInt8) : raw (l ++ [c]) = 10 * raw l + ((c.toNat : Int) - 48) := by unfold raw; rw [List.foldl_append]; rfl
theorem raw_bd : ∀ (n : Nat) (l : List UInt8), l.length = n → -(24 * (10 ^ n : Nat) : Int) + 24 ≤ raw l + 0 ∧ raw l ≤ 24 * (10 ^ n : Nat) - 24 := by
  intro n
  induction n with
  | zero =>
    intro l h
    have : l = [] := List.eq_nil_of_length_eq_zero h
    subst this
    simp [raw]
  | succ n ih =>
    intro l h
    obtain ⟨l', c, rfl⟩ : ∃ l' c, l = l' ++ [c] := ⟨l.dropLast, l.getLast (by intro e; rw [e] at h; simp at h), (List.dropLast_concat_getLast _).symm⟩
    have h1 := ih l' (by simp at h; omega)
    have hc : (c.toNat : Int) ≤ 255 := by have := c.toNat_lt; omega
    rw [raw_snoc, Nat.pow_succ]
    push_cast at h1 ⊢
    omega
/-- the reference's answer, the point found -/
def readR (a b : List UInt8) : Int × Int × Bool := if a.length ≤ 2 ∧ b.length ≤ 13 ∧ textL (raw a) (raw b) = a ++ 46 :: b then (raw a, raw b, true) else (0, 0, false)
theorem num_dec : ∀ (n : Nat) (a : List UInt8), a.length = n → a ≠ [] → a.all isDig = true → a.head? ≠ some 48 → 1 ≤ raw a ∧ Lib.decDigits (raw a).toNat = a := by
  intro n
  induction n with
  | zero => intro a h h0; exact absurd (List.eq_nil_of_length_eq_zero h) h0
  | succ n ih =>
    intro a h h0 h1 h2
    obtain ⟨l', c, rfl⟩ : ∃ l' c, a = l' ++ [c] := ⟨a.dropLast, a.getLast h0, (List.dropLast_concat_getLast _).symm⟩
    rw [List.all_append, Bool.and_eq_true] at h1
    have hc : isDig c = true := by simpa using h1.2
    have hc' := of_decide_eq_true (show decide (48 ≤ c.toNat ∧ c.toNat ≤ 57) = true from hc)
    have hcc : ∀ d : Nat, (c.toNat : Int) - 48 = d → UInt8.ofNat (48 + d) = c := by
      intro d hd
      apply UInt8.toNat_inj.1
      rw [UInt8.toNat_ofNat']
      omega
    rw [raw_snoc]
    by_cases e : l' = []
    · subst e
      have hne : c ≠ 48 := fun e => h2 (by rw [e]; rfl)
      have hne' : c.toNat ≠ 48 := fun e => hne (UInt8.toNat_inj.1 e)
      have e0 : raw ([] : List UInt8) = 0 := rfl
      rw [e0]
      refine ⟨by omega, ?_⟩
      have e1 : (10 * (0 : Int) + ((c.toNat : Int) - 48)).toNat = c.toNat - 48 := by omega
      rw [e1, Lib.decDigits_one (by omega), hcc (c.toNat - 48) (by omega)]
      rfl
    · have h2' : l'.head? ≠ some 48 := by
        cases l' with
        | nil => exact absurd rfl e
        | cons x l' => exact h2
      obtain ⟨k1, k2⟩ := ih l' (by simp at h; omega) e h1.1 h2'
      refine ⟨by omega, ?_⟩
      obtain ⟨u, hu⟩ : ∃ u : Nat, raw l' = u := ⟨(raw l').toNat, by omega⟩
      obtain ⟨d, hd⟩ : ∃ d : Nat, (c.toNat : Int) - 48 = d := ⟨c.toNat - 48, by omega⟩
      have hdd := hd
      rw [hu] at k1 k2 ⊢
      rw [hd]
      have e1 : (10 * (u : Int) + (d : Int)).toNat = 10 * u + d := by omega
      have hd9 : d < 10 := by omega
      rw [e1, dec_step _ (by omega), show (10 * u + d) / 10 = u by omega, show (10 * u + d) % 10 = d by omega, hcc d hdd]
      rw [show ((u : Int)).toNat = u by omega] at k2
      rw [k2]
theorem numE_spec {a : List UInt8} {x : Int} (h : numE a = (x, true)) : x = raw a ∧ a.length ≤ 13 ∧ 1 ≤ raw a ∧ dec (raw a) = a := by
  unfold numE at h
  split at h
  · cases h
  · rename_i h1
    split at h
    · rename_i h2
      have hx : x = raw a := by injection h with h _; exact h.symm
      have g1 : a ≠ [] := fun e => h1 (.inl e)
      have g2 : a.head? ≠ some 48 := fun e => h1 (.inr (.inr e))
      have g3 : a.length ≤ 13 := by
        rcases Nat.lt_or_ge 13 a.length with g | g
        · exact absurd (.inr (.inl g)) h1
        · exact g
      obtain ⟨k1, k2⟩ := num_dec a.length a rfl g1 h2 g2
      exact ⟨hx, g3, k1, k2⟩
    · cases h
theorem dec_short (n : Int) (h0 : 1 ≤ n) (h1 : n ≤ 16) : (dec n).length ≤ 2 := by
  unfold dec
  by_cases c : n.toNat < 10
  · rw [Lib.decDigits_one c]; simp
  · rw [Lib.decDigits_two c (by omega)]; simp
def SameRead (x : Int × Int × Int) (y : Int × Int × Bool) : Prop := (∃ a b, x = (a, b, 0) ∧ y = (a, b, true)) ∨ (x = (0, 0, 9) ∧ y = (0, 0, false))
theorem read_no (l : List UInt8) (h : (46 : UInt8) ∉ l) : readE l = (0, 0, 9) := by
  unfold readE
  rw [cut_no l h]
  rfl
theorem read_same (a b : List UInt8) (h : (46 : UInt8) ∉ a) : SameRead (readE (a ++ 46 :: b)) (readR a b) := by
  by_cases hc : a.length ≤ 2 ∧ b.length ≤ 13 ∧ textL (raw a) (raw b) = a ++ 46 :: b
  · left
    refine ⟨raw a, raw b, ?_, by unfold readR; rw [if_pos hc]⟩
    rw [← hc.2.2]
    apply readE_text
    cases hm : mayName (raw a) (raw b) with
    | true => rfl
    | false =>
      have h3 := hc.2.2
      unfold textL at h3
      rw [hm] at h3
      have := congrArg List.length h3
      simp at this
  · right
    refine ⟨?_, by unfold readR; rw [if_neg hc]⟩
    unfold readE
    rw [cut_dot a b h]
    dsimp only
    cases hx : numE a with
    | mk x ok1 =>
      cases hy : numE b with
      | mk y ok2 =>
        dsimp only
        cases ok1 with
        | false => rfl
        | true =>
          cases ok2 with
          | false => rfl
          | true =>
            cases hm : mayName x y with
            | false => rfl
            | true =>
              obtain ⟨rfl, a2, a3, a4⟩ := numE_spec hx
              obtain ⟨rfl, b2, b3, b4⟩ := numE_spec hy
              obtain ⟨m1, m2, m3, m4⟩ := of_decide_eq_true (show decide (1 ≤ raw a ∧ raw a ≤ 16 ∧ 1 ≤ raw b ∧ raw b ≤ 1099511627776) = true from hm)
              refine absurd ⟨?_, b2, ?_⟩ hc
              · have := dec_short (raw a) m1 m2
                rw [a4] at this
                exact this
              · unfold textL
                rw [hm, if_pos rfl, a4, b4, List.append_assoc]
                rfl
end Vec
end Go.Proofs.YtdnpiginkndpcaaDoor

/-! The walk of the reference's Read. -/
namespace Go.Proofs.YtdnpiginkndpcaaDoor
open Go.RowKit
open PVectAsks

namespace Vec
open Go.Proofs.YtdnpiginkndpcaaDoorW.PrintWords
structure R1 (n i : Nat) (w wr : World) : Prop where
  hi : i ≤ n
  hw : wr = w
structure R2 (n k B : Nat) (x y : Int) (w wr : World) : Prop where
  hk : k ≤ n
  but : Mem.But (· = B) w wr
  row : wr.heap[B]? = some (.cells #[.int .i64 x, .int .i64 y] 33 (0, 0))
structure R3 (n k j z B : Nat) (x y : Int) (w wr : World) : Prop where
  hj : j ≤ n
  hz : z = k + 1 + j
  but : Mem.But (· = B) w wr
  row : wr.heap[B]? = some (.cells #[.int .i64 x, .int .i64 y] 33 (0, 0))
theorem get_str {l : List UInt8} {s : ByteArray} (hs : Mem.str l = s) {i : Nat} {c : UInt8} (h : l[i]? = some c) : ∀ hh, s[i]'hh = c := by
  subst hs
  intro hh
  obtain ⟨h1, h2⟩ := List.getElem?_eq_some_iff.1 h
  rw [← h2]; rfl
theorem raw_take {l : List UInt8} {k : Nat} {c : UInt8} (h : l[k]? = some c) : raw (l.take (k + 1)) = 10 * raw (l.take k) + c.toNat - 48 := by
  obtain ⟨h1, h2⟩ := List.getElem?_eq_some_iff.1 h
  rw [List.take_succ_eq_append_getElem h1, h2, raw_snoc]
  omega
theorem raw_bd' (l : List UInt8) (h : l.length ≤ 13) : -240000000000000 ≤ raw l ∧ raw l ≤ 240000000000000 := by
  have h1 := raw_bd l.length l rfl
  have h2 : 10 ^ l.length ≤ 10 ^ 13 := Nat.pow_le_pow_right (by omega) h
  have h3 : (10 : Nat) ^ 13 = 10000000000000 := by decide
  omega
end Vec

set_option maxRecDepth 100000 in
set_option maxHeartbeats 2000000 in
theorem ref_read_no (l : List UInt8) (hl : l.length ≤ 1000) (h : (46 : UInt8) ∉ l) (w : World) :
    Calls Tryd.prog 28 #[.string (Mem.str l)] w fun e w' => e = .returned (.tuple #[.agg #[.int .i64 0, .int .i64 0], .bool false]) ∧ Below w.heap.size w w' := by
  obtain ⟨s, hs⟩ : ∃ s, Mem.str l = s := ⟨_, rfl⟩
  obtain ⟨n, hn⟩ : ∃ n, l.length = n := ⟨_, rfl⟩
  have hsz : s.size = n := by rw [← hs, Mem.str_size, hn]
  have HS := Lib.hid hs
  have HN := Lib.hid hn
  have Hno := Lib.hid h
  rw [hs]
  have hn1000 : n ≤ 1000 := by omega
  clear hl hs hn h
  go_enter Tryd.func28, Tryd.ntmps28
  go_wp2_with (first
    | (with_reducible refine Mem.wpList_alloc (o := ⟨some 2, _, _, _, _, _⟩) ?_ 33 ?_ _ Vec.zero_name ?_
       · rfl
       · rfl
       intro w1 hn1
       have Hn1 := Lib.hid hn1
       clear hn1)
    | (with_reducible refine Mem.wpList_alloc (o := ⟨some 4, _, _, _, _, _⟩) ?_ 33 ?_ _ Vec.zero_name ?_
       · rfl
       · rfl
       intro w2 hn2
       have Hn2 := Lib.hid hn2
       clear hn2))
  have HR2 := Lib.hid ((Hn2.out.old (by rw [Hn1.out.size]; omega : w.heap.size < w1.heap.size)).trans Hn1.out.row)
  go_loopw [5] (fun t5 wr => ∃ i : Nat, t5 = .int .i64 i ∧ Vec.R1 n i w2 wr) (fun t5 _ => n - (intOf t5).toNat)
  case atStart => exact ⟨0, rfl, ⟨Nat.zero_le _, rfl⟩⟩
  case round =>
    obtain ⟨i, rfl, hi, rfl⟩ := hrel
    by_cases hlt : i < n
    · have d1 : (i : Int) < (n : Int) := by omega
      have d2 : (0 : Int) ≤ (i : Int) := by omega
      obtain ⟨c, hc⟩ : ∃ c, l[i]? = some c := ⟨_, List.getElem?_eq_getElem (by rw [HN.out]; exact hlt)⟩
      have hget := Vec.get_str HS.out hc
      have hne : ((c.toNat : Int) == 46) = false := beq_eq_false_iff_ne.2 fun e => Hno.out (by
        have : c = 46 := UInt8.toNat_inj.1 (by show c.toNat = 46; omega)
        rw [← this]; exact List.mem_of_getElem? hc)
      clear hc
      go_wp2
      exact ⟨⟨i + 1, by push_cast; rfl, ⟨hlt, rfl⟩⟩, by simp only [intOf]; omega⟩
    · have hin : i = n := by omega
      subst hin
      have e1 : decide ((i : Int) < (i : Int)) = false := decide_eq_false (by omega)
      have z0 : wr.cell? ⟨w.heap.size, 0, none⟩ = some (.int .i64 0) := (cell_of_row _ _ 0 _ _ _ HR2.out).trans rfl
      have z1 : wr.cell? ⟨w.heap.size, 1, none⟩ = some (.int .i64 0) := (cell_of_row _ _ 1 _ _ _ HR2.out).trans rfl
      have z2 := frozen_of_row _ w.heap.size 0 _ _ HR2.out
      have z3 := frozen_of_row _ w.heap.size 1 _ _ HR2.out
      go_wp2
      exact bodyPost_ret (Vec.results_row_tmp rfl _ _ w.heap.size (.bool false) 33 #[.int .i64 0, .int .i64 0] (0, 0) _ rfl rfl (Mem.row_setCell _ _ 1 _ _ _ _ (Mem.row_setCell _ _ 0 _ _ _ _ HR2.out)) Tryd.underlying33 rfl Vec.size_name) rfl ⟨rfl, ((Mem.then_ Hn1.out.below Hn2.out.below).setCell (Nat.le_refl _) _).setCell (Nat.le_refl _) _⟩

set_option maxRecDepth 100000 in
set_option maxHeartbeats 4000000 in
theorem ref_read_dot (a b : List UInt8) (hl : a.length + b.length ≤ 1000) (h : (46 : UInt8) ∉ a) (w : World) :
    Calls Tryd.prog 28 #[.string (Mem.str (a ++ 46 :: b))] w fun e w' => e = .returned (.tuple #[.agg #[.int .i64 (Vec.readR a b).1, .int .i64 (Vec.readR a b).2.1], .bool (Vec.readR a b).2.2]) ∧ Below w.heap.size w w' := by
  obtain ⟨l, hll⟩ : ∃ l, a ++ 46 :: b = l := ⟨_, rfl⟩
  rw [hll]
  obtain ⟨s, hs⟩ : ∃ s, Mem.str l = s := ⟨_, rfl⟩
  obtain ⟨n, hn⟩ : ∃ n, a.length = n := ⟨_, rfl⟩
  obtain ⟨m, hm⟩ : ∃ m, b.length = m := ⟨_, rfl⟩
  obtain ⟨t, ht⟩ : ∃ t, n + 1 + m = t := ⟨_, rfl⟩
  have hsz : s.size = t := by rw [← hs, Mem.str_size, ← hll, ← ht]; simp; omega
  have Ht := Lib.hid ht
  have HS := Lib.hid hs
  have HN := Lib.hid hn
  have HM := Lib.hid hm
  have HLl := Lib.hid hll
  have Hno := Lib.hid h
  have hnt : n < t := by omega
  have ht1 : t ≤ 1001 := by omega
  obtain ⟨r, hr⟩ : ∃ r, Vec.readR a b = r := ⟨_, rfl⟩
  have Hr := Lib.hid hr
  rw [hs, hr]
  clear hl hs hn h hll hm hr ht
  go_enter Tryd.func28, Tryd.ntmps28
  go_wp2_with (first
    | (with_reducible refine Mem.wpList_alloc (o := ⟨some 2, _, _, _, _, _⟩) ?_ 33 ?_ _ Vec.zero_name ?_
       · rfl
       · rfl
       intro w1 hn1
       have Hn1 := Lib.hid hn1
       clear hn1)
    | (with_reducible refine Mem.wpList_alloc (o := ⟨some 4, _, _, _, _, _⟩) ?_ 33 ?_ _ Vec.zero_name ?_
       · rfl
       · rfl
       intro w2 hn2
       have Hn2 := Lib.hid hn2
       clear hn2))
  have HR2 := Lib.hid ((Hn2.out.old (by rw [Hn1.out.size]; omega : w.heap.size < w1.heap.size)).trans Hn1.out.row)
  go_loopw [5] (fun t5 wr => ∃ i : Nat, t5 = .int .i64 i ∧ Vec.R1 n i w2 wr) (fun t5 _ => n + 1 - (intOf t5).toNat)
  case atStart => exact ⟨0, rfl, ⟨Nat.zero_le _, rfl⟩⟩
  case round =>
    obtain ⟨i, rfl, hi, rfl⟩ := hrel
    have d1 : (i : Int) < (t : Int) := by omega
    have d2 : (0 : Int) ≤ (i : Int) := by omega
    by_cases hlt : i < n
    · obtain ⟨c, hc⟩ : ∃ c, a[i]? = some c := ⟨_, List.getElem?_eq_getElem (by rw [HN.out]; exact hlt)⟩
      have hget := Vec.get_str HS.out (i := i) (c := c) (by rw [← HLl.out, List.getElem?_append_left (by rw [HN.out]; exact hlt)]; exact hc)
      have hne : ((c.toNat : Int) == 46) = false := beq_eq_false_iff_ne.2 fun e => Hno.out (by
        have : c = 46 := UInt8.toNat_inj.1 (by show c.toNat = 46; omega)
        rw [← this]; exact List.mem_of_getElem? hc)
      clear hc
      go_wp2
      exact ⟨⟨i + 1, by push_cast; rfl, ⟨hlt, rfl⟩⟩, by simp only [intOf]; omega⟩
    · have hin : i = n := by omega
      subst hin
      have hget := Vec.get_str HS.out (i := i) (c := 46) (by rw [← HLl.out, List.getElem?_append_right (by rw [HN.out]; omega), HN.out, Nat.sub_self]; rfl)
      have htm := Ht.out
      obtain ⟨p, hp⟩ : ∃ p : Nat, (t : Int) - (i : Int) = p := ⟨m + 1, by omega⟩
      have hp2 : (p : Int) - 1 = (m : Int) := by omega
      clear htm
      by_cases hbad : 2 < i ∨ 13 < m
      · have z0 : wr.cell? ⟨w.heap.size, 0, none⟩ = some (.int .i64 0) := (cell_of_row _ _ 0 _ _ _ HR2.out).trans rfl
        have z1 : wr.cell? ⟨w.heap.size, 1, none⟩ = some (.int .i64 0) := (cell_of_row _ _ 1 _ _ _ HR2.out).trans rfl
        have z2 := frozen_of_row _ w.heap.size 0 _ _ HR2.out
        have z3 := frozen_of_row _ w.heap.size 1 _ _ HR2.out
        have hr0 : r = (0, 0, false) := by rw [← Hr.out]; unfold Vec.readR; rw [if_neg]; rintro ⟨k1, k2, _⟩; rw [HN.out] at k1; rw [HM.out] at k2; omega
        subst hr0
        have hb2 : (2 < i) ∨ (¬ 2 < i ∧ 13 < m) := by omega
        clear hbad
        rcases hb2 with g1 | ⟨g1, g2⟩
        · have g1' : decide ((2 : Int) < (i : Int)) = true := decide_eq_true (by omega)
          have g1'' : decide (2 < i) = true := decide_eq_true g1
          clear g1
          go_wp2
          exact bodyPost_ret (Vec.results_row_tmp rfl _ _ w.heap.size (.bool false) 33 #[.int .i64 0, .int .i64 0] (0, 0) _ rfl rfl (Mem.row_setCell _ _ 1 _ _ _ _ (Mem.row_setCell _ _ 0 _ _ _ _ HR2.out)) Tryd.underlying33 rfl Vec.size_name) rfl ⟨rfl, ((Mem.then_ Hn1.out.below Hn2.out.below).setCell (Nat.le_refl _) _).setCell (Nat.le_refl _) _⟩
        · have g1' : decide ((2 : Int) < (i : Int)) = false := decide_eq_false (by omega)
          have g1'' : decide (2 < i) = false := decide_eq_false g1
          have q1 : decide ((13 : Int) < (m : Int)) = true := decide_eq_true (by omega)
          have q2 : decide (13 < m) = true := decide_eq_true g2
          clear g1 g2
          go_wp2
          exact bodyPost_ret (Vec.results_row_tmp rfl _ _ w.heap.size (.bool false) 33 #[.int .i64 0, .int .i64 0] (0, 0) _ rfl rfl (Mem.row_setCell _ _ 1 _ _ _ _ (Mem.row_setCell _ _ 0 _ _ _ _ HR2.out)) Tryd.underlying33 rfl Vec.size_name) rfl ⟨rfl, ((Mem.then_ Hn1.out.below Hn2.out.below).setCell (Nat.le_refl _) _).setCell (Nat.le_refl _) _⟩
      · have g1' : decide ((2 : Int) < (i : Int)) = false := decide_eq_false (by omega)
        have g1'' : decide (2 < i) = false := decide_eq_false (by omega)
        have q1 : decide ((13 : Int) < (m : Int)) = false := decide_eq_false (by omega)
        have q2 : decide (13 < m) = false := decide_eq_false (by omega)
        have hi2 : i ≤ 2 := by omega
        have hm13 : m ≤ 13 := by omega
        clear hbad
        obtain ⟨wo, rfl⟩ : ∃ wo : World, wo = wr := ⟨_, rfl⟩
        go_wp2
        go_loopw [6] (fun t6 wr => ∃ k : Nat, t6 = .int .i64 k ∧ Vec.R2 i k w1.heap.size (Vec.raw (a.take k)) 0 wo wr) (fun t6 _ => i - (intOf t6).toNat)
        case atStart => exact ⟨0, rfl, ⟨Nat.zero_le _, Mem.But.refl _ _, Hn2.out.row⟩⟩
        case round =>
          obtain ⟨k, rfl, Rr⟩ := hrel
          have HR3 := Lib.hid Rr
          have hk := Rr.hk
          clear Rr
          by_cases hlt2 : k < i
          · have d3 : (k : Int) < (i : Int) := by omega
            have d4 : (0 : Int) ≤ (k : Int) := by omega
            have d5 : (k : Int) < (t : Int) := by omega
            obtain ⟨c, hc⟩ : ∃ c, a[k]? = some c := ⟨_, List.getElem?_eq_getElem (by rw [HN.out]; exact hlt2)⟩
            have hget := Vec.get_str HS.out (i := k) (c := c) (by rw [← HLl.out, List.getElem?_append_left (by rw [HN.out]; exact hlt2)]; exact hc)
            have hnx := Vec.raw_take hc
            have hbd := Vec.raw_bd' (a.take k) (by rw [List.length_take]; omega)
            have hrw := HR3.out.row
            obtain ⟨x, hx⟩ : ∃ x, Vec.raw (a.take k) = x := ⟨_, rfl⟩
            rw [hx] at hnx hbd hrw
            obtain ⟨hb1, hb2⟩ := hbd
            have hcr : (c.toNat : Int) ≤ 255 := by have := c.toNat_lt; omega
            have HRw := Lib.hid hrw
            have Hnx := Lib.hid hnx
            clear hc hnx hx hrw
            have hcell : wr.cell? ⟨w1.heap.size, 0, none⟩ = some (.int .i64 x) := (cell_of_row _ _ 0 _ _ _ HRw.out).trans rfl
            have j0 : ∀ i : Mem.Later wr, i.w.cell? ⟨w1.heap.size, 0, none⟩ = some (.int .i64 x) := fun i => i.cell hcell
            clear hcell
            go_wp2
            refine Mem.wp_region_later_tail 10 (by kernel_rfl) (by kernel_rfl) ?_
            simp only [List.take_succ_cons, List.take_zero, List.drop_succ_cons, List.drop_zero]
            repeat (go_big_quiet_step (fail))
            refine wpQuiet_nil ?_
            rintro wq ⟨⟨_, hq⟩, rfl⟩
            have hrow := (hq.block _ ((Array.getElem?_eq_some_iff.1 HRw.out).1)).trans HRw.out
            have e0 : wq.cell? ⟨w1.heap.size, 0, none⟩ = some (.int .i64 x) := (cell_of_row _ _ 0 _ _ _ hrow).trans rfl
            have e1 := frozen_of_row _ w1.heap.size 0 _ _ hrow
            have Hrow := Lib.hid hrow
            have Hq := Lib.hid hq
            clear j0 hq hrow hget
            go_wp2
            refine ⟨⟨k + 1, by push_cast; rfl, ⟨hlt2, (HR3.out.but.trans (Mem.But.of_below Hq.out)).trans (Mem.But.of_setCell _ _ rfl), ?_⟩⟩, by simp only [intOf]; omega⟩
            rw [Hnx.out]
            exact Mem.row_setCell _ _ 0 _ _ _ _ Hrow.out
          · have hki : k = i := by omega
            subst hki
            have e9 : decide ((k : Int) < (k : Int)) = false := decide_eq_false (by omega)
            have hta : a.take k = a := List.take_of_length_le (by rw [HN.out]; omega)
            have hrw := HR3.out.row
            rw [hta] at hrw
            have hbA := Vec.raw_bd' a (by rw [HN.out]; omega)
            have HbA := Lib.hid hbA
            obtain ⟨A, hA⟩ : ∃ A, Vec.raw a = A := ⟨_, rfl⟩
            rw [hA] at hrw
            have HA := Lib.hid hA
            have HRA := Lib.hid hrw
            clear hta hrw hbA hA
            obtain ⟨wp, rfl⟩ : ∃ wp : World, wp = wr := ⟨_, rfl⟩
            go_wp2
            go_loopw [7] (fun t7 wr => ∃ j z : Nat, t7 = .int .i64 z ∧ Vec.R3 m k j z w1.heap.size A (Vec.raw (b.take j)) wp wr) (fun t7 _ => t - (intOf t7).toNat)
            case atStart => exact ⟨0, k + 1, by push_cast; rfl, ⟨Nat.zero_le _, rfl, Mem.But.refl _ _, HRA.out⟩⟩
            case round =>
              obtain ⟨j, z, rfl, Rr⟩ := hrel
              have HR4 := Lib.hid Rr
              have hj := Rr.hj
              have htm := Ht.out
              have hz0 := Rr.hz
              have hzt : z ≤ t := by omega
              have hjz : j < m ↔ z < t := by omega
              have Hz := Lib.hid hz0
              clear Rr htm hz0
              by_cases hlt3 : j < m
              · have hz1 : z < t := hjz.1 hlt3
                have d3 : (z : Int) < (t : Int) := by omega
                have d4 : (0 : Int) ≤ (z : Int) := by omega
                obtain ⟨c, hc⟩ : ∃ c, b[j]? = some c := ⟨_, List.getElem?_eq_getElem (by rw [HM.out]; exact hlt3)⟩
                have hget := Vec.get_str HS.out (i := z) (c := c) (by
                  have h1 := Hz.out
                  have h2 := HN.out
                  rw [← HLl.out, List.getElem?_append_right (by omega), show z - a.length = j + 1 by omega]; exact hc)
                have hnx := Vec.raw_take hc
                have hbd := Vec.raw_bd' (b.take j) (by rw [List.length_take]; omega)
                have hrw := HR4.out.row
                obtain ⟨x, hx⟩ : ∃ x, Vec.raw (b.take j) = x := ⟨_, rfl⟩
                rw [hx] at hnx hbd hrw
                obtain ⟨hb1, hb2⟩ := hbd
                have hcr : (c.toNat : Int) ≤ 255 := by have := c.toNat_lt; omega
                have HRw := Lib.hid hrw
                have Hnx := Lib.hid hnx
                clear hc hnx hx hrw hjz
                have hcell : wr.cell? ⟨w1.heap.size, 1, none⟩ = some (.int .i64 x) := (cell_of_row _ _ 1 _ _ _ HRw.out).trans rfl
                have j0 : ∀ i : Mem.Later wr, i.w.cell? ⟨w1.heap.size, 1, none⟩ = some (.int .i64 x) := fun i => i.cell hcell
                clear hcell
                go_wp2
                refine Mem.wp_region_later_tail 10 (by kernel_rfl) (by kernel_rfl) ?_
                simp only [List.take_succ_cons, List.take_zero, List.drop_succ_cons, List.drop_zero]
                repeat (go_big_quiet_step (fail))
                refine wpQuiet_nil ?_
                rintro wq ⟨⟨_, hq⟩, rfl⟩
                have hrow := (hq.block _ ((Array.getElem?_eq_some_iff.1 HRw.out).1)).trans HRw.out
                have e0 : wq.cell? ⟨w1.heap.size, 1, none⟩ = some (.int .i64 x) := (cell_of_row _ _ 1 _ _ _ hrow).trans rfl
                have e1 := frozen_of_row _ w1.heap.size 1 _ _ hrow
                have Hrow := Lib.hid hrow
                have Hq := Lib.hid hq
                clear j0 hq hrow hget
                go_wp2
                refine ⟨⟨j + 1, z + 1, by push_cast; rfl, ⟨hlt3, by have := Hz.out; omega, (HR4.out.but.trans (Mem.But.of_below Hq.out)).trans (Mem.But.of_setCell _ _ rfl), ?_⟩⟩, by simp only [intOf]; omega⟩
                rw [Hnx.out]
                exact Mem.row_setCell _ _ 1 _ _ _ _ Hrow.out
              · have hjm : j = m := by omega
                have hzt2 : z = t := by omega
                subst hjm
                subst hzt2
                clear hjz hlt3
                have e9 : decide ((z : Int) < (z : Int)) = false := decide_eq_false (by omega)
                have htb : b.take j = b := List.take_of_length_le (by rw [HM.out]; omega)
                have hrw := HR4.out.row
                rw [htb] at hrw
                obtain ⟨Bv, hBv⟩ : ∃ Bv, Vec.raw b = Bv := ⟨_, rfl⟩
                rw [hBv] at hrw
                have HBw := Lib.hid ((Mem.then_ Hn1.out.below Hn2.out.below).trans (((HR3.out.but.trans HR4.out.but)).below (B := w.heap.size) (Nat.le_trans Hn1.out.below.size Hn2.out.below.size) (fun _ e => by rw [e]; exact Hn1.out.below.size)))
                have HR5 := Lib.hid (((HR3.out.but.trans HR4.out.but).block w.heap.size ((Array.getElem?_eq_some_iff.1 HR2.out).1) (by have := Hn1.out.size; show ¬ w.heap.size = w1.heap.size; omega)).trans HR2.out)
                have HTx := Lib.hid (reftext_says A Bv w)
                have y0 : wr.cell? ⟨w1.heap.size, 0, none⟩ = some (.int .i64 A) := (cell_of_row _ _ 0 _ _ _ hrw).trans rfl
                have y1 : wr.cell? ⟨w1.heap.size, 1, none⟩ = some (.int .i64 Bv) := (cell_of_row _ _ 1 _ _ _ hrw).trans rfl
                have hne : ¬ s.toList = [] := by
                  rw [← HS.out, ByteArray.toList_eq, Mem.str_toList, ← HLl.out]; simp
                have hne2 : (s.toList == ([] : List UInt8)) = false := beq_eq_false_iff_ne.2 hne
                by_cases he : Vec.textL A Bv = l
                · have hr0 : r = (A, Bv, true) := by
                    rw [← Hr.out]; unfold Vec.readR
                    rw [HA.out, hBv, if_pos ⟨by rw [HN.out]; exact hi2, by rw [HM.out]; exact hm13, by rw [HLl.out]; exact he⟩]
                  subst hr0
                  rw [he, HS.out] at HTx
                  clear he htb hrw hBv
                  go_wp2_with (
                    go_at_call 33
                    with_reducible refine (HTx.out.go HBw.out).mono ?_
                    rintro e w9 ⟨rfl, hb9⟩
                    have x0 := Mem.keep hb9 y0
                    have x1 := Mem.keep hb9 y1
                    have HR9 := Lib.hid ((hb9.block _ ((Array.getElem?_eq_some_iff.1 HR5.out).1)).trans HR5.out)
                    have z0 : w9.cell? ⟨w.heap.size, 0, none⟩ = some (.int .i64 0) := (cell_of_row _ _ 0 _ _ _ HR9.out).trans rfl
                    have z1 : w9.cell? ⟨w.heap.size, 1, none⟩ = some (.int .i64 0) := (cell_of_row _ _ 1 _ _ _ HR9.out).trans rfl
                    have z2 := frozen_of_row _ w.heap.size 0 _ _ HR9.out
                    have z3 := frozen_of_row _ w.heap.size 1 _ _ HR9.out
                    have Hb9 := Lib.hid hb9
                    clear hb9 y0 y1)
                  exact bodyPost_ret (Vec.results_row_tmp rfl _ _ w.heap.size (.bool true) 33 #[.int .i64 A, .int .i64 Bv] (0, 0) _ rfl rfl (Mem.row_setCell _ _ 1 _ _ _ _ (Mem.row_setCell _ _ 0 _ _ _ _ HR9.out)) Tryd.underlying33 rfl Vec.size_name) rfl ⟨rfl, ((Mem.then_ HBw.out Hb9.out).setCell (Nat.le_refl _) _).setCell (Nat.le_refl _) _⟩
                · have hr0 : r = (0, 0, false) := by
                    rw [← Hr.out]; unfold Vec.readR
                    rw [HA.out, hBv, if_neg]
                    rintro ⟨_, _, k3⟩
                    exact he (by rw [k3, HLl.out])
                  subst hr0
                  obtain ⟨tt, htt⟩ : ∃ tt, Mem.str (Vec.textL A Bv) = tt := ⟨_, rfl⟩
                  have hdt : ¬ tt.toList = s.toList := by
                    rw [← htt, ← HS.out, ByteArray.toList_eq, ByteArray.toList_eq, Mem.str_toList, Mem.str_toList]
                    exact he
                  have hdt2 : (tt.toList == s.toList) = false := beq_eq_false_iff_ne.2 hdt
                  have hdt3 : (tt.toList != s.toList) = true := bne_iff_ne.2 hdt
                  rw [htt] at HTx
                  clear he htb hrw hBv htt hdt
                  go_wp2_with (
                    go_at_call 33
                    with_reducible refine (HTx.out.go HBw.out).mono ?_
                    rintro e w9 ⟨rfl, hb9⟩
                    have HR9 := Lib.hid ((hb9.block _ ((Array.getElem?_eq_some_iff.1 HR5.out).1)).trans HR5.out)
                    have z0 : w9.cell? ⟨w.heap.size, 0, none⟩ = some (.int .i64 0) := (cell_of_row _ _ 0 _ _ _ HR9.out).trans rfl
                    have z1 : w9.cell? ⟨w.heap.size, 1, none⟩ = some (.int .i64 0) := (cell_of_row _ _ 1 _ _ _ HR9.out).trans rfl
                    have z2 := frozen_of_row _ w.heap.size 0 _ _ HR9.out
                    have z3 := frozen_of_row _ w.heap.size 1 _ _ HR9.out
                    have Hb9 := Lib.hid hb9
                    clear hb9 y0 y1)
                  exact bodyPost_ret (Vec.results_row_tmp rfl _ _ w.heap.size (.bool false) 33 #[.int .i64 0, .int .i64 0] (0, 0) _ rfl rfl (Mem.row_setCell _ _ 1 _ _ _ _ (Mem.row_setCell _ _ 0 _ _ _ _ HR9.out)) Tryd.underlying33 rfl Vec.size_name) rfl ⟨rfl, ((Mem.then_ HBw.out Hb9.out).setCell (Nat.le_refl _) _).setCell (Nat.le_refl _) _⟩
end Go.Proofs.YtdnpiginkndpcaaDoor

/-! The walk of VectReads. -/
namespace Go.Proofs.YtdnpiginkndpcaaDoor
open Go.RowKit
open PVectAsks

theorem ref_read_says (l : List UInt8) (hl : l.length ≤ 1000) (w : World) : ∃ y, Vec.SameRead (Vec.readE l) y ∧ Vec.Says 28 #[.string (Mem.str l)] w (.tuple #[.agg #[.int .i64 y.1, .int .i64 y.2.1], .bool y.2.2]) := by
  rcases Vec.dot_cases l with h | ⟨a, b, rfl, h⟩
  · exact ⟨(0, 0, false), .inr ⟨Vec.read_no l h, rfl⟩, fun w1 _ => ref_read_no l hl h w1⟩
  · exact ⟨Vec.readR a b, Vec.read_same a b h, fun w1 _ => ref_read_dot a b (by simp at hl; omega) h w1⟩

set_option maxRecDepth 100000 in
set_option maxHeartbeats 4000000 in
theorem reads_great (s : ByteArray) (h : 1000 < s.size) (w : World) :
    Calls Tryd.prog 7 #[.string s] w fun e w' => e = .returned (.bool true) ∧ Below w.heap.size w w' := by
  have HL := Lib.hid (Vec.alive_says w)
  have HB := Lib.hid (Below.refl w.heap.size w)
  have d1 : decide ((1000 : Int) < (s.size : Int)) = true := decide_eq_true (by omega)
  have d2 : decide (1000 < s.size) = true := decide_eq_true h
  clear h
  go_enter Tryd.func7, Tryd.ntmps7
  go_wp2_with (
    go_at_call 9
    with_reducible refine (HL.out.go HB.out).mono ?_
    rintro e w3 ⟨rfl, hbx⟩
    have HB3 := Lib.hid hbx
    clear hbx)
  go_ret
  exact ⟨rfl, HB3.out⟩

set_option maxRecDepth 100000 in
set_option maxHeartbeats 4000000 in
theorem reads_fit (l : List UInt8) (h : l.length ≤ 1000) (w : World) (hm : Vec.MaxLen w) :
    Calls Tryd.prog 7 #[.string (Mem.str l)] w fun e w' => e = .returned (.bool true) ∧ Below w.heap.size w w' := by
  have HL := Lib.hid (Vec.alive_says w)
  have HB := Lib.hid (Below.refl w.heap.size w)
  have HN := Lib.hid (readname_says l (by omega) w hm)
  obtain ⟨y, hy, hR⟩ := ref_read_says l h w
  have HR := Lib.hid hR
  have hsz : (Mem.str l).size ≤ 1000 := by rw [Mem.str_size]; exact h
  obtain ⟨s, hs⟩ : ∃ s, Mem.str l = s := ⟨_, rfl⟩
  rw [hs] at HN HR hsz ⊢
  have d1 : decide ((1000 : Int) < (s.size : Int)) = false := decide_eq_false (by omega)
  have d2 : decide (1000 < s.size) = false := decide_eq_false (by omega)
  obtain ⟨x, hx⟩ : ∃ x, Vec.readE l = x := ⟨_, rfl⟩
  rw [hx] at hy HN
  clear h hm hR hs hx hsz
  unfold Vec.SameRead at hy
  rcases hy with ⟨a, b, rfl, rfl⟩ | ⟨rfl, rfl⟩
  case' inl => have q1 := Vec.eq_same a b
  case' inr => have q1 := Vec.eq_same 0 0
  all_goals
    dsimp only at HN HR
    go_enter Tryd.func7, Tryd.ntmps7
    go_wp2_with (first
      | (go_at_call 9
         with_reducible refine (HL.out.go HB.out).mono ?_
         rintro e w3 ⟨rfl, hbx⟩
         have HB3 := Lib.hid hbx
         clear hbx)
      | (go_at_call 27
         with_reducible refine (HN.out.go HB3.out).mono ?_
         rintro e w4 ⟨rfl, hbx⟩
         have HB4 := Lib.hid (Mem.then_ HB3.out hbx)
         clear hbx)
      | (go_at_call 28
         with_reducible refine (HR.out.go (Mem.then_ HB4.out (Vec.below_alloc _ _))).mono ?_
         rintro e w5 ⟨rfl, hbx⟩
         have k0 := Mem.keep hbx ((Mem.new_alloc w4 _ _).cell1 0 rfl)
         have k1 := Mem.keep hbx ((Mem.new_alloc w4 _ _).cell1 1 rfl)
         have p0 := fun o => Mem.keep (Vec.below_alloc w5 o) k0
         have p1 := fun o => Mem.keep (Vec.below_alloc w5 o) k1
         have HB5 := Lib.hid (Mem.then_ HB4.out (Mem.then_ (Vec.below_alloc _ _) hbx))
         clear hbx k0 k1))
    go_ret
    exact ⟨rfl, Mem.then_ HB5.out (Vec.below_alloc _ _)⟩
theorem vectReads_walk (a0 : ByteArray) (w : World) (_wa0 : a0.size ≤ maxLen) (_ht : Vec.Tab w) (hm : Vec.MaxLen w) :
    Calls Tryd.prog 7 #[.string a0] w fun e w' => e = .returned (.bool true) ∧ Below w.heap.size w w' := by
  by_cases h : 1000 < a0.size
  · exact reads_great a0 h w
  · rw [← Mem.str_of a0]
    refine reads_fit a0.data.toList ?_ w hm
    have : a0.data.toList.length = a0.size := by rw [Array.length_toList]; rfl
    omega
end Go.Proofs.YtdnpiginkndpcaaDoor
