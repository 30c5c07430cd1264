/- The reference's Take as one contract; the laws of both. -/
import Derived.Test.YtgkadhogfejheaaZPlyD
set_option linter.unusedVariables false
set_option linter.unusedSimpArgs false
namespace Go.Proofs.Ytgkadhogfejheaa
open Go.RowKit

namespace Ply
open Lnk
theorem laws2 : ∃ wt hd, Law wt hd ∧ (∀ m d s, RWaitIs m d s (wt m d s)) ∧ RHears hd := by
  refine ⟨fun m d s => Classical.choose (waits_both m d s), fun m d s t => (Classical.choose (hears_both m d t s), Classical.choose (Classical.choose_spec (hears_both m d t s)), Classical.choose (Classical.choose_spec (Classical.choose_spec (hears_both m d t s)))), ?_, ?_, ?_⟩
  · refine { wait := fun m d s => ?_, heard := fun m d s t w => ?_ }
    · have h := Classical.choose_spec (waits_both m d s)
      exact ⟨h.1, fun t w ht => h.2.1 t w ht⟩
    · exact (Classical.choose_spec (Classical.choose_spec (Classical.choose_spec (hears_both m d t s)))).1 w
  · intro m d s t w ht
    exact (Classical.choose_spec (waits_both m d s)).2.2 t w ht
  · intro m d s t w
    exact (Classical.choose_spec (Classical.choose_spec (Classical.choose_spec (hears_both m d t s)))).2 w
theorem rat_start (w : World) (n : Nat) (S : Nat → Prop) : RAt w (Lnk.start n) (.agg (rcells (Lnk.start n) 0 (.slice none 0 0) (.slice none 0 0))) 0 S :=
  ⟨[], [], .slice none 0 0, .slice none 0 0, rfl, ⟨Mem.row_nil _ _ _ _, Mem.row_nil _ _ _ _, ⟨fun k x hx => by simp [Lnk.start] at hx, rfl, Nat.le_refl _, fun x hx => by simp at hx, by simp, fun k b _ => by simp [Lnk.start], fun k h1 h2 => by simp [Lnk.start] at h2; omega, rfl⟩, Nat.le_refl _, fun b hb => by rcases hb with hb | hb <;> cases hb⟩⟩
end Ply

theorem ref_take {hd : Nat → Nat → Bool → Nat → Nat × Nat × Bool} (hears : Ply.RHears hd) (e : Lnk.St) (v : Value) (N M : Nat) (hG : Lnk.Good e M) (hM : M < 90000) (hN : N < 90000) (s : List UInt8) (hs : s.length < 2 ^ 61) {S : Nat → Prop} (w : World) (hS : ∀ b, S b → b < w.heap.size) (h : Ply.RAt w e v N S) :
    Calls Try.prog 23 #[v, .string (Mem.str s)] w fun r w' => ∃ v' o, r = .returned (.tuple #[v', o, .int .i64 (Lnk.take hd e s).2.2]) ∧ Ply.RAt w' (Lnk.take hd e s).1 v' (N + 1) S ∧ Lnk.Txt w' w.heap.size o (Lnk.take hd e s).2.1 ∧ Below w.heap.size w w' := by
  obtain ⟨h1, ⟨g1, g2, g3, g4, g5⟩, g6, g7⟩ := hG
  have hx : ∀ x ∈ e.out, x.sent < 1099511627776 := fun x hx => by have := (g6 x hx).2.2.1; omega
  by_cases hc : (if (Frm.get s).2 = 0 then Lnk.asked e (Frm.get s).1 else (Frm.get s).2) = 0
  · have ht : Lnk.take hd e s = Lnk.takeF hd e (Frm.get s).1 := by unfold Lnk.take; rw [hc]; rfl
    have h0 : (Frm.get s).2 = 0 := by
      rcases Int.decEq (Frm.get s).2 0 with h | h
      · rw [if_neg h] at hc; exact hc
      · exact h
    rw [if_pos h0] at hc
    rw [ht]
    have hsp : (Frm.get s).1.site = e.site ∧ ¬ (e.top : Int) < (Frm.get s).1.ack := by
      unfold Lnk.asked at hc
      split at hc
      · cases hc
      · rename_i h2
        split at hc
        · cases hc
        · rename_i h3
          exact ⟨Decidable.byContradiction h2, (not_or.1 h3).1⟩
    obtain ⟨site, ack, body, hk | ⟨seq, hseq, hbody, hk⟩⟩ := Lnk.get_ok h0
    · rw [hk] at hsp ⊢
      have ht2 : Lnk.takeF hd e ⟨2, site, 0, ack, body⟩ = (Lnk.acked hd ack e, [], 0) := by
        unfold Lnk.takeF
        simp only
        rw [if_pos trivial]
      rw [ht2]
      refine (rtake_tell hears e v N s hs site ack body hk hsp.1 hsp.2 (by omega) hx (by omega) (by omega) w hS h).mono ?_
      rintro r w' ⟨v', rfl, hat, hb⟩
      exact ⟨_, _, rfl, hat.mono (Nat.le_succ N), Mem.row_nil _ _ _ _, hb⟩
    · rw [hk] at hc hsp ⊢
      have hq8 := Lnk.asked_zero hc
      exact rtake_one hears e v N s hs site ack seq body ⟨hseq.1, hq8⟩ hbody g7 (by omega) hk hsp.1 hsp.2 (by omega) hx (by omega) (by omega) w hS h
  · have ht : Lnk.take hd e s = ({ e with refused := e.refused + 1 }, [], if (Frm.get s).2 = 0 then Lnk.asked e (Frm.get s).1 else (Frm.get s).2) := by unfold Lnk.take; simp only; rw [if_neg hc]
    rw [ht]
    obtain ⟨⟨kind, site, seq, ack, body⟩, c, hk⟩ : ∃ f c, Frm.get s = (f, c) := ⟨_, _, rfl⟩
    rw [hk] at hc ⊢
    simp only at hc ⊢
    have key : Calls Try.prog 23 #[v, .string (Mem.str s)] w fun r w' => ∃ v', r = .returned (.tuple #[v', .slice none 0 0, .int .i64 (if c = 0 then Lnk.asked e ⟨kind, site, seq, ack, body⟩ else c)]) ∧ Ply.RAt w' { e with refused := e.refused + 1 } v' N S ∧ Below w.heap.size w w' := by
      by_cases hc0 : c = 0
      · subst hc0
        rw [if_pos rfl] at hc ⊢
        unfold Lnk.asked at hc ⊢
        simp only at hc ⊢
        by_cases h2 : site ≠ e.site
        · rw [if_pos h2]
          exact rtake_site e v N s hs kind site seq ack body hk h2 (by omega) (by omega) w hS h
        · rw [if_neg h2] at hc ⊢
          have h2' : site = e.site := Decidable.byContradiction h2
          by_cases h3 : (e.top : Int) < ack ∨ kind = 1 ∧ (e.got : Int) + 8 < seq
          · rw [if_pos h3]
            by_cases h4 : (e.top : Int) < ack
            · exact rtake_ack e v N s hs kind site seq ack body hk h2' h4 (by omega) (by omega) w hS h
            · rcases h3 with h3 | ⟨h3, h5⟩
              · exact absurd h3 h4
              · exact rtake_seq e v N s hs kind site seq ack body hk h2' h4 h3 h5 (by omega) (by omega) w hS h
          · rw [if_neg h3] at hc
            exact absurd rfl hc
      · rw [if_neg hc0]
        exact rtake_err e v N s hs kind site seq ack body c hk hc0 (by omega) (by omega) w hS h
    refine key.mono ?_
    rintro r w' ⟨v', rfl, hat, hb⟩
    exact ⟨_, _, rfl, hat.mono (Nat.le_succ N), Mem.row_nil _ _ _ _, hb⟩
end Go.Proofs.Ytgkadhogfejheaa
