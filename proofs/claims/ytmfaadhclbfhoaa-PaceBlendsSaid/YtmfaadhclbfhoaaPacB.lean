/- The laws of chapter 19: PaceBlends. -/
import Derived.Test.YtmfaadhclbfhoaaPacA
namespace Go.Proofs.Ytmfaadhclbfhoaa
open Go.RowKit

namespace Pac
/-- no number: what an answer of the tape makes of it -/
def nanOf (q : Question) (t : Nat) : Nat := q.cut t
def Nan (r : Nat) : Prop := FloatKind.f64.format.order r r = none
theorem nan_read (x y t : Nat) : ∃ s f, FloatKind.f64.format.read (Question.cut (.nanBits .f64 x y) t) = .nan s f := by
  have e : Question.cut (.nanBits .f64 x y) t = (t % 2) * 2 ^ 63 + 0x7ff0000000000000 + 1 + (t / 2) % (2 ^ 52 - 1) := rfl
  rw [e]
  obtain ⟨u, hu⟩ : ∃ u, (t / 2) % (2 ^ 52 - 1) = u := ⟨_, rfl⟩
  have hul : u < 4503599627370495 := by rw [← hu]; exact Nat.mod_lt _ (by decide)
  rw [hu]
  have hsw : FloatKind.f64.format.signWeight = 9223372036854775808 := by decide
  have hb : FloatKind.f64.format.binade = 4503599627370496 := by decide
  have hi : FloatKind.f64.format.infRung = 9218868437227405312 := by decide
  have hr : ((t % 2) * 2 ^ 63 + 0x7ff0000000000000 + 1 + u) % 9223372036854775808 = 9218868437227405313 + u := by omega
  unfold Ieee.Format.read
  simp only [hsw, hb, hi, hr]
  rw [if_neg (by omega), if_neg (by omega), if_neg (by omega)]
  exact ⟨_, _, rfl⟩
theorem nan_of_read {r : Nat} (h : ∃ s f, FloatKind.f64.format.read r = .nan s f) : Nan r := by
  obtain ⟨s, f, h⟩ := h
  unfold Nan Ieee.Format.order
  rw [h]; rfl
theorem mul_nan (a r : Nat) (h : ∃ s f, FloatKind.f64.format.read r = .nan s f) : floatBits .mul .f64 a r = none := by
  obtain ⟨s, f, h⟩ := h
  unfold floatBits Ieee.Format.mul
  simp only [h]
  cases FloatKind.f64.format.read a <;> rfl
theorem add_nan (a r : Nat) (h : ∃ s f, FloatKind.f64.format.read r = .nan s f) : floatBits .add .f64 a r = none := by
  obtain ⟨s, f, h⟩ := h
  unfold floatBits Ieee.Format.add
  simp only [h]
  cases FloatKind.f64.format.read a <;> rfl
theorem run_float_bad (op : BinOp) (t : TypeId) (x y : Nat) (hop : op = .add ∨ op = .sub ∨ op = .mul) (h : floatBits op .f64 x y = none) (w : World) :
    (binOp op t (.float .f64 x) (.float .f64 y)).run Try.prog w = .ok (.float .f64 (Question.cut (.nanBits .f64 x y) (w.tape w.drawn (.nanBits .f64 x y)))) w.drew := by
  unfold floatBits at h
  rcases hop with rfl | rfl | rfl <;> simp only at h <;> simp [binOp, Op.floatArith, h, Question.forced]
/-- a contract's end: some number that is none -/
def NanEnd (w : World) (e : Ending) (w' : World) : Prop := ∃ r, Nan r ∧ e = .returned (.float .f64 r) ∧ Below w.heap.size w w'
end Pac

theorem pace_blend_nan (a b s : Nat) (h : Pac.blend a b s = none) (w : World) :
    Calls Try.prog 17 #[.float .f64 a, .float .f64 b, .float .f64 s] w (Pac.NanEnd w) := by
  unfold Pac.blend at h
  cases hs : floatBits .sub .f64 b a with
  | none =>
    have e1 := fun w => Pac.run_float_bad .sub 22 b a (.inr (.inl rfl)) hs w
    have e2 := fun q w => Pac.run_float_bad .mul 22 s (Question.cut (.nanBits .f64 b a) q) (.inr (.inr rfl)) (Pac.mul_nan _ _ (Pac.nan_read _ _ _)) w
    have e3 := fun x y q w => Pac.run_float_bad .add 22 a (Question.cut (.nanBits .f64 x y) q) (.inl rfl) (Pac.add_nan _ _ (Pac.nan_read _ _ _)) w
    clear h hs
    go_enter Try.func17, Try.ntmps17
    go_wp2
    go_ret
    exact ⟨_, Pac.nan_of_read (Pac.nan_read _ _ _), rfl, ((Below.refl _ _).drew.drew.drew)⟩
  | some x =>
    rw [hs] at h
    simp only [Option.bind_some] at h
    cases hm : floatBits .mul .f64 s x with
    | none =>
      have e1 := fun w => run_float_arith (P := Try.prog) w .sub 22 .f64 b a x hs
      have e2 := fun w => Pac.run_float_bad .mul 22 s x (.inr (.inr rfl)) hm w
      have e3 := fun x y q w => Pac.run_float_bad .add 22 a (Question.cut (.nanBits .f64 x y) q) (.inl rfl) (Pac.add_nan _ _ (Pac.nan_read _ _ _)) w
      clear h hs hm
      go_enter Try.func17, Try.ntmps17
      go_wp2
      go_ret
      exact ⟨_, Pac.nan_of_read (Pac.nan_read _ _ _), rfl, ((Below.refl _ _).drew.drew)⟩
    | some y =>
      rw [hm] at h
      simp only [Option.bind_some] at h
      have e1 := fun w => run_float_arith (P := Try.prog) w .sub 22 .f64 b a x hs
      have e2 := fun w => run_float_arith (P := Try.prog) w .mul 22 .f64 s x y hm
      have e3 := fun w => Pac.run_float_bad .add 22 a y (.inl rfl) h w
      clear h hs hm
      go_enter Try.func17, Try.ntmps17
      go_wp2
      go_ret
      exact ⟨_, Pac.nan_of_read (Pac.nan_read _ _ _), rfl, ((Below.refl _ _).drew)⟩
theorem ref_blend_nan (a b s : Nat) (h : Pac.blend a b s = none) (w : World) :
    Calls Try.prog 18 #[.float .f64 a, .float .f64 b, .float .f64 s] w (Pac.NanEnd w) := by
  unfold Pac.blend at h
  cases hs : floatBits .sub .f64 b a with
  | none =>
    have e1 := fun w => Pac.run_float_bad .sub 22 b a (.inr (.inl rfl)) hs w
    have e2 := fun q w => Pac.run_float_bad .mul 22 s (Question.cut (.nanBits .f64 b a) q) (.inr (.inr rfl)) (Pac.mul_nan _ _ (Pac.nan_read _ _ _)) w
    have e3 := fun x y q w => Pac.run_float_bad .add 22 a (Question.cut (.nanBits .f64 x y) q) (.inl rfl) (Pac.add_nan _ _ (Pac.nan_read _ _ _)) w
    clear h hs
    go_enter Try.func18, Try.ntmps18
    go_wp2
    go_ret
    exact ⟨_, Pac.nan_of_read (Pac.nan_read _ _ _), rfl, ((Below.refl _ _).drew.drew.drew)⟩
  | some x =>
    rw [hs] at h
    simp only [Option.bind_some] at h
    cases hm : floatBits .mul .f64 s x with
    | none =>
      have e1 := fun w => run_float_arith (P := Try.prog) w .sub 22 .f64 b a x hs
      have e2 := fun w => Pac.run_float_bad .mul 22 s x (.inr (.inr rfl)) hm w
      have e3 := fun x y q w => Pac.run_float_bad .add 22 a (Question.cut (.nanBits .f64 x y) q) (.inl rfl) (Pac.add_nan _ _ (Pac.nan_read _ _ _)) w
      clear h hs hm
      go_enter Try.func18, Try.ntmps18
      go_wp2
      go_ret
      exact ⟨_, Pac.nan_of_read (Pac.nan_read _ _ _), rfl, ((Below.refl _ _).drew.drew)⟩
    | some y =>
      rw [hm] at h
      simp only [Option.bind_some] at h
      have e1 := fun w => run_float_arith (P := Try.prog) w .sub 22 .f64 b a x hs
      have e2 := fun w => run_float_arith (P := Try.prog) w .mul 22 .f64 s x y hm
      have e3 := fun w => Pac.run_float_bad .add 22 a y (.inl rfl) h w
      clear h hs hm
      go_enter Try.func18, Try.ntmps18
      go_wp2
      go_ret
      exact ⟨_, Pac.nan_of_read (Pac.nan_read _ _ _), rfl, ((Below.refl _ _).drew)⟩

set_option maxRecDepth 100000 in
set_option maxHeartbeats 1000000 in
theorem paceBlends_walk (a0 a1 a2 : Nat) (w : World) (_wa0 : (Lit.float .f64 a0).wf = true) (_wa1 : (Lit.float .f64 a1).wf = true) (_wa2 : (Lit.float .f64 a2).wf = true) :
    Calls Try.prog 5 #[.float .f64 a0, .float .f64 a1, .float .f64 a2] w fun e w' => e = .returned (.bool true) ∧ Below w.heap.size w w' := by
  have hb := Pac.run_bits
  cases h : Pac.blend a0 a1 a2 with
  | some r =>
    have H := Lib.hid h
    clear h
    obtain ⟨b, hbb⟩ : ∃ b, (FloatKind.f64.format.order r r == some .eq) = b := ⟨_, rfl⟩
    have hbn : (FloatKind.f64.format.order r r != some .eq) = !b := by rw [← hbb]; rfl
    cases b
    all_goals
      simp only [Bool.not_true, Bool.not_false] at hbn
      go_enter Try.func5, Try.ntmps5
      go_wp2_with (first
        | (go_at_call 8
           refine (pace_alive _).mono ?_
           rintro e w1 ⟨rfl, hb1⟩
           have Hb1 := Lib.hid hb1
           clear hb1)
        | (go_at_call 17
           with_reducible refine (pace_blend a0 a1 a2 r H.out _).mono ?_
           rintro e w2 ⟨rfl, rfl⟩)
        | (go_at_call 18
           with_reducible refine (ref_blend a0 a1 a2 r H.out _).mono ?_
           rintro e w2 ⟨rfl, rfl⟩))
      go_ret
      exact ⟨rfl, Hb1.out⟩
  | none =>
    have H := Lib.hid h
    clear h
    go_enter Try.func5, Try.ntmps5
    go_wp2_with (first
      | (go_at_call 8
         refine (pace_alive _).mono ?_
         rintro e w1 ⟨rfl, hb1⟩
         have Hb1 := Lib.hid hb1
         clear hb1)
      | (go_at_call 17
         with_reducible refine (pace_blend_nan a0 a1 a2 H.out _).mono ?_
         rintro e w2 ⟨r, hr, rfl, hb2⟩
         have hr1 : (FloatKind.f64.format.order r r != some .eq) = true := by unfold Pac.Nan at hr; rw [hr]; rfl
         have Hb2 := Lib.hid hb2
         clear hb2 hr)
      | (go_at_call 18
         with_reducible refine (ref_blend_nan a0 a1 a2 H.out _).mono ?_
         rintro e w3 ⟨r2, hr, rfl, hb3⟩
         have hr2 : (FloatKind.f64.format.order r2 r2 != some .eq) = true := by unfold Pac.Nan at hr; rw [hr]; rfl
         have Hb3 := Lib.hid hb3
         clear hb3 hr))
    go_ret
    exact ⟨rfl, Mem.then_ (Mem.then_ Hb1.out Hb2.out) Hb3.out⟩
end Go.Proofs.Ytmfaadhclbfhoaa
