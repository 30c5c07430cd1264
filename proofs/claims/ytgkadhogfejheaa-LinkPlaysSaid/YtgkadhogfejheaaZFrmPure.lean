/- Frames: the plain law of putting and getting; no program in sight. -/
import Derived.Test.YtgkadhogfejheaaQF
set_option linter.unusedVariables false
set_option linter.unusedSimpArgs false
namespace Go.Proofs.Ytgkadhogfejheaa.Frm

abbrev St := F × List UInt8 × Int
def f1 (s : St) : St := ({ s.1 with site := ((Num.step 16 s.2.1 s.2.2).1 : Nat) }, (Num.step 16 s.2.1 s.2.2).2)
def f2 (s : St) : St := ({ s.1 with seq := ((Num.step 1099511627776 s.2.1 s.2.2).1 : Nat) }, (Num.step 1099511627776 s.2.1 s.2.2).2)
def f3 (s : St) : St := ({ s.1 with ack := ((Num.step 1099511627776 s.2.1 s.2.2).1 : Nat) }, (Num.step 1099511627776 s.2.1 s.2.2).2)
def f4 (s : St) : St := ({ s.1 with body := (Num.text 1048576 s.2.1 s.2.2).1 }, (Num.text 1048576 s.2.1 s.2.2).2)
/-- what has been read when i fields are behind -/
def st0 (k : Int) (l : List UInt8) : St := (⟨k, 0, 0, 0, []⟩, l, 0)
def st1 (k : Int) (l : List UInt8) : St := f1 (st0 k l)
def st2 (k : Int) (l : List UInt8) : St := if k = 1 then f2 (st1 k l) else st1 k l
def st3 (k : Int) (l : List UInt8) : St := f3 (st2 k l)
def st4 (k : Int) (l : List UInt8) : St := if k = 1 then f4 (st3 k l) else st3 k l
def stage (k : Int) (l : List UInt8) : Nat → St
  | 0 => st0 k l
  | 1 => st1 k l
  | 2 => st2 k l
  | 3 => st3 k l
  | _ => st4 k l
def zero : F := ⟨0, 0, 0, 0, []⟩
def get (s : List UInt8) : F × Int :=
  match s with
  | m1 :: m2 :: k :: l =>
    if ¬ (m1 = 70 ∧ m2 = 83 ∧ (k = 1 ∨ k = 2)) then (zero, 9) else
    if (st4 k.toNat l).2.2 ≠ 0 then (zero, (st4 k.toNat l).2.2) else
    if (st4 k.toNat l).2.1.length < 4 then (zero, 8) else
    if 4 < (st4 k.toNat l).2.1.length then (zero, 11) else
    if Crc.four (Crc.sum (s.take (s.length - 4))) ≠ s.drop (s.length - 4) then (zero, 10) else
    if okB (st4 k.toNat l).1 = false then (zero, 9) else ((st4 k.toNat l).1, 0)
  | _ => (zero, 8)

theorem step_err {most : Nat} {l : List UInt8} {c : Int} (h : (Num.step most l c).2.2 = 0) : c = 0 ∧ l = Num.put (Num.step most l c).1 ++ (Num.step most l c).2.1 ∧ (Num.step most l c).1 ≤ most := by
  by_cases hc : c = 0
  · subst hc
    unfold Num.step at h ⊢
    rw [if_neg (by omega)] at h ⊢
    cases hr : Num.read most l with
    | ok p =>
      obtain ⟨x, t⟩ := p
      have := Num.read_put hr
      exact ⟨rfl, this.1, this.2⟩
    | error n =>
      rw [hr] at h
      have := Num.read_err hr
      simp only at h
      omega
  · unfold Num.step at h
    rw [if_pos hc] at h
    exact absurd h hc
theorem text_err {l : List UInt8} {c : Int} (h : (Num.text 1048576 l c).2.2 = 0) : c = 0 ∧ l = Num.put (Num.text 1048576 l c).1.length ++ ((Num.text 1048576 l c).1 ++ (Num.text 1048576 l c).2.1) ∧ (Num.text 1048576 l c).1.length ≤ 1048576 := by
  by_cases hc : c = 0
  · subst hc
    have e : (max (1048576 : Int) 0).toNat = 1048576 := by decide
    unfold Num.text at h ⊢
    rw [if_neg (by omega), e] at h ⊢
    cases hr : Num.read 1048576 l with
    | ok p =>
      obtain ⟨n, t⟩ := p
      have := Num.read_put hr
      rw [hr] at h
      simp only at h ⊢
      by_cases hn : t.length < n
      · simp [hn] at h
      · simp only [if_neg hn]
        have hl : (t.take n).length = n := by rw [List.length_take]; omega
        rw [hl, List.take_append_drop]
        exact ⟨trivial, this.1, this.2⟩
    | error n =>
      rw [hr] at h
      have := Num.read_err hr
      simp only at h
      omega
  · unfold Num.text at h
    rw [if_pos hc] at h
    exact absurd h hc
theorem step_put (most n : Nat) (t : List UInt8) (hm : most < 2 ^ 64) (h : n ≤ most) : Num.step most (Num.put n ++ t) 0 = (n, t, 0) := by
  unfold Num.step; rw [if_neg (by omega), Num.put_read most hm t n h]
theorem text_put (b t : List UInt8) (h : b.length ≤ 1048576) : Num.text 1048576 (Num.put b.length ++ (b ++ t)) 0 = (b, t, 0) := by
  unfold Num.text
  have e : (max (1048576 : Int) 0).toNat = 1048576 := by decide
  rw [if_neg (by omega), e, Num.put_read 1048576 (by omega) _ _ h]
  have : ¬ (b ++ t).length < b.length := by rw [List.length_append]; omega
  simp only [if_neg this, List.take_left, List.drop_left]

def tail (f : F) : List UInt8 := Num.put f.site.toNat ++ ((if f.kind = 1 then Num.put f.seq.toNat else []) ++ (Num.put f.ack.toNat ++ (if f.kind = 1 then Num.put f.body.length ++ f.body else [])))
theorem head_eq (f : F) : head f = [70, 83, UInt8.ofNat f.kind.toNat] ++ tail f := by simp [head, tail]

/-- what was put is read -/
theorem st_put (f : F) (h : okB f = true) (t : List UInt8) : st4 f.kind (tail f ++ t) = (f, t, 0) := by
  rcases shapes f h with ⟨s, a, rfl, h1, h2⟩ | ⟨s, q, a, b, rfl, h1, h2, h3, h4⟩
  · have e1 := step_put 16 s (Num.put a ++ t) (by omega) h1.2
    have e2 := step_put 1099511627776 a t (by omega) h2
    simp [st4, st3, st2, st1, st0, f1, f3, tail, e1, e2]
  · have e1 := step_put 16 s (Num.put q ++ (Num.put a ++ (Num.put b.length ++ (b ++ t)))) (by omega) h1.2
    have e2 := step_put 1099511627776 q (Num.put a ++ (Num.put b.length ++ (b ++ t))) (by omega) h2.2
    have e3 := step_put 1099511627776 a (Num.put b.length ++ (b ++ t)) (by omega) h3
    have e4 := text_put b t h4
    simp [st4, st3, st2, st1, st0, f1, f2, f3, f4, tail, e1, e2, e3, e4]
/-- what was read was put so -/
theorem st_back (k : Int) (hk : k = 1 ∨ k = 2) (l : List UInt8) (h : (st4 k l).2.2 = 0) : (st4 k l).1.kind = k ∧ l = tail (st4 k l).1 ++ (st4 k l).2.1 := by
  rcases hk with rfl | rfl
  · simp only [st4, st3, st2, st1, st0, if_pos, f1, f2, f3, f4] at h ⊢
    obtain ⟨h1, h2, _⟩ := text_err h
    obtain ⟨h3, h4, _⟩ := step_err h1
    obtain ⟨h5, h6, _⟩ := step_err h3
    obtain ⟨_, h8, _⟩ := step_err h5
    refine ⟨trivial, ?_⟩
    simp only [tail, if_pos, Int.toNat_natCast, List.append_assoc]
    rw [← h2, ← h4, ← h6, ← h8]
  · have hne : ¬ (2 : Int) = 1 := by decide
    simp only [st4, st3, st2, st1, st0, if_neg hne, f1, f3] at h ⊢
    obtain ⟨h3, h4, _⟩ := step_err h
    obtain ⟨_, h8, _⟩ := step_err h3
    refine ⟨trivial, ?_⟩
    simp only [tail, if_neg hne, Int.toNat_natCast, List.append_assoc, List.nil_append]
    rw [← h4, ← h8]

theorem four_len (x : BitVec 32) : (Crc.four x).length = 4 := rfl
theorem kind_byte (f : F) (h : okB f = true) : (UInt8.ofNat f.kind.toNat = 1 ∨ UInt8.ofNat f.kind.toNat = 2) ∧ (((UInt8.ofNat f.kind.toNat).toNat : Nat) : Int) = f.kind := by
  rcases shapes f h with ⟨s, a, rfl, _⟩ | ⟨s, q, a, b, rfl, _⟩
  · exact ⟨.inr rfl, rfl⟩
  · exact ⟨.inl rfl, rfl⟩
theorem get_cons (m1 m2 k : UInt8) (l : List UInt8) : get (m1 :: m2 :: k :: l) =
    if ¬ (m1 = 70 ∧ m2 = 83 ∧ (k = 1 ∨ k = 2)) then (zero, 9) else
    if (st4 k.toNat l).2.2 ≠ 0 then (zero, (st4 k.toNat l).2.2) else
    if (st4 k.toNat l).2.1.length < 4 then (zero, 8) else
    if 4 < (st4 k.toNat l).2.1.length then (zero, 11) else
    if Crc.four (Crc.sum ((m1 :: m2 :: k :: l).take ((m1 :: m2 :: k :: l).length - 4))) ≠ (m1 :: m2 :: k :: l).drop ((m1 :: m2 :: k :: l).length - 4) then (zero, 10) else
    if okB (st4 k.toNat l).1 = false then (zero, 9) else ((st4 k.toNat l).1, 0) := rfl
/-- behind a frame's fields something lies -/
theorem get_head (f : F) (h : okB f = true) (t : List UInt8) : get (head f ++ t) =
    if t.length < 4 then (zero, 8) else if 4 < t.length then (zero, 11) else if Crc.four (Crc.sum (head f)) ≠ t then (zero, 10) else (f, 0) := by
  have hk := kind_byte f h
  have hs := st_put f h t
  rw [head_eq]
  simp only [List.cons_append, List.nil_append]
  rw [get_cons, hk.2, hs]
  rw [if_neg (by simp [hk.1])]
  simp only [ne_eq, not_true_eq_false, if_false, h]
  by_cases h1 : t.length < 4
  · simp [h1]
  · by_cases h2 : 4 < t.length
    · simp [h1, h2]
    · have h4 : t.length = 4 := by omega
      have e1 : (70 :: 83 :: UInt8.ofNat f.kind.toNat :: (tail f ++ t)) = (70 :: 83 :: UInt8.ofNat f.kind.toNat :: tail f) ++ t := by simp
      have e2 : (70 :: 83 :: UInt8.ofNat f.kind.toNat :: (tail f ++ t)).length - 4 = (70 :: 83 :: UInt8.ofNat f.kind.toNat :: tail f).length := by rw [e1, List.length_append, h4]; omega
      rw [e2, e1, List.take_left, List.drop_left]
      simp [h1, h2]
theorem get_put (f : F) (h : okB f = true) : get (put f) = (f, 0) := by
  unfold put
  rw [get_head f h, four_len]
  simp
theorem get_back (s : List UInt8) (h : (get s).2 = 0) : okB (get s).1 = true ∧ s = put (get s).1 := by
  match s with
  | [] => simp [get] at h
  | [_] => simp [get] at h
  | [_, _] => simp [get] at h
  | m1 :: m2 :: k :: l =>
    rw [get_cons] at h ⊢
    split at h
    · simp at h
    rename_i hA
    split at h
    · rename_i hB; exact absurd h hB
    rename_i hB
    split at h
    · simp at h
    rename_i hC
    split at h
    · simp at h
    rename_i hD
    split at h
    · simp at h
    rename_i hE
    split at h
    · simp at h
    rename_i hF
    rw [if_neg hA, if_neg hB, if_neg hC, if_neg hD, if_neg hE, if_neg hF]
    obtain ⟨rfl, rfl, hk⟩ : m1 = 70 ∧ m2 = 83 ∧ (k = 1 ∨ k = 2) := Decidable.of_not_not hA
    have hB : (st4 k.toNat l).2.2 = 0 := Decidable.of_not_not hB
    have hkk : ((k.toNat : Nat) : Int) = 1 ∨ ((k.toNat : Nat) : Int) = 2 := by
      rcases hk with rfl | rfl
      · exact .inl rfl
      · exact .inr rfl
    obtain ⟨h1, h2⟩ := st_back _ hkk l hB
    have h4 : (st4 k.toNat l).2.1.length = 4 := by omega
    generalize hf : (st4 (k.toNat : Int) l).1 = f at *
    generalize ht : (st4 (k.toNat : Int) l).2.1 = t at *
    have hE : Crc.four (Crc.sum ((70 :: 83 :: k :: l).take ((70 :: 83 :: k :: l).length - 4))) = (70 :: 83 :: k :: l).drop ((70 :: 83 :: k :: l).length - 4) := Decidable.of_not_not hE
    have hh : head f = 70 :: 83 :: k :: tail f := by
      rw [head_eq, h1]; simp
    have e1 : 70 :: 83 :: k :: l = head f ++ t := by rw [hh, h2]; simp
    rw [e1] at hE ⊢
    have e2 : (head f ++ t).length - 4 = (head f).length := by rw [List.length_append, h4]; omega
    rw [e2, List.take_left, List.drop_left] at hE
    refine ⟨by simpa using hF, ?_⟩
    unfold put; rw [hE]

theorem step_len (most : Nat) (l : List UInt8) (c : Int) : (Num.step most l c).2.1.length ≤ l.length :=
  (step_x (x := (Num.step most l c).1) (t := (Num.step most l c).2.1) (f' := (Num.step most l c).2.2) rfl).2
theorem text_len (l : List UInt8) (c : Int) : (Num.text 1048576 l c).2.1.length ≤ l.length := by
  unfold Num.text
  split
  · exact Nat.le_refl _
  · split
    · exact Nat.le_refl _
    · rename_i hr
      have := (Num.read_put hr).1
      split
      · exact Nat.le_refl _
      · rw [this]; simp; omega
theorem st1_len (k : Int) (l : List UInt8) : (st1 k l).2.1.length ≤ l.length := step_len _ _ _
theorem st2_len (k : Int) (l : List UInt8) : (st2 k l).2.1.length ≤ l.length := by
  unfold st2; split
  · exact Nat.le_trans (step_len _ _ _) (st1_len k l)
  · exact st1_len k l
theorem st3_len (k : Int) (l : List UInt8) : (st3 k l).2.1.length ≤ l.length := Nat.le_trans (step_len _ _ _) (st2_len k l)
theorem st4_len (k : Int) (l : List UInt8) : (st4 k l).2.1.length ≤ l.length := by
  unfold st4; split
  · exact Nat.le_trans (text_len _ _) (st3_len k l)
  · exact st3_len k l
end Go.Proofs.Ytgkadhogfejheaa.Frm
