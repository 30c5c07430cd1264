/- An end's state stays within bounds; Take as one contract. -/
import Derived.Test.YtgkadhogfejheaaZLnkJ
set_option linter.unusedVariables false
set_option linter.unusedSimpArgs false
namespace Go.Proofs.Ytgkadhogfejheaa
open Go.RowKit

namespace Lnk
def Good (e : St) (N : Nat) : Prop := (1 ≤ e.site ∧ e.site ≤ 16) ∧ (e.now ≤ N ∧ e.given ≤ N ∧ e.got ≤ N ∧ e.refused ≤ N ∧ e.room ≤ N) ∧
  (∀ x ∈ e.out, (1 ≤ x.seq ∧ x.seq ≤ N) ∧ x.tries ≤ N ∧ x.sent ≤ N ∧ x.body.length ≤ 1048576) ∧ ∀ k, e.got + 9 ≤ k → e.early k = none
theorem Good.mono {e : St} {N M : Nat} (h : Good e N) (hM : N ≤ M) : Good e M := by
  obtain ⟨h1, ⟨a, b, c, d, f⟩, h3, h4⟩ := h
  refine ⟨h1, ⟨by omega, by omega, by omega, by omega, by omega⟩, fun x hx => ?_, h4⟩
  obtain ⟨⟨q1, q2⟩, q3, q4, q5⟩ := h3 x hx
  exact ⟨⟨q1, by omega⟩, by omega, by omega, q5⟩
theorem good_start {n : Nat} (hn : 1 ≤ n ∧ n ≤ 16) : Good (start n) 0 := ⟨hn, by simp [start], fun x hx => by simp [start] at hx, fun _ _ => rfl⟩
theorem good_send {e : St} {N : Nat} (h : Good e N) {s : List UInt8} (hs : s.length ≤ 1048576) : Good (send e s) (N + 1) := by
  obtain ⟨h1, ⟨a, b, c, d, f⟩, h3, h4⟩ := h.mono (Nat.le_succ N)
  have hb := h.2.1.2.1
  refine ⟨h1, ⟨a, by show e.given + 1 ≤ _; omega, c, d, f⟩, fun x hx => ?_, h4⟩
  simp only [send, List.mem_append, List.mem_singleton] at hx
  rcases hx with hx | rfl
  · exact h3 x hx
  · exact ⟨⟨by simp, by simp only; omega⟩, by simp, by simp, hs⟩
theorem rowAt_mem {n now k : Nat} {l : List Wt} {y : Wt} (h : y ∈ rowAt n now k l) : ∃ x ∈ l, y = x ∨ y = step n now x := by
  unfold rowAt at h
  rw [List.mem_append] at h
  rcases h with h | h
  · obtain ⟨x, hx, rfl⟩ := List.mem_map.1 h
    exact ⟨x, List.mem_of_mem_take hx, .inr rfl⟩
  · exact ⟨y, List.mem_of_mem_drop h, .inl rfl⟩
theorem step_cases (n now : Nat) (x : Wt) : step n now x = x ∨ step n now x = { x with tries := x.tries + 1, sent := now } := by
  unfold step
  split
  · exact .inr rfl
  · exact .inl rfl
theorem good_tick {e : St} {N : Nat} (h : Good e N) (n : Nat) : Good (tick n e).1 (N + 1) := by
  obtain ⟨h1, ⟨a, b, c, d, f⟩, h3, h4⟩ := h.mono (Nat.le_succ N)
  have ha := h.2.1.1
  refine ⟨h1, ⟨by show e.now + 1 ≤ _; omega, b, c, d, f⟩, fun y hy => ?_, h4⟩
  obtain ⟨x, hx, hxy⟩ := rowAt_mem (show y ∈ rowAt n (e.now + 1) 8 e.out from hy)
  have q := h3 x hx
  have q0 := h.2.2.1 x hx
  rcases hxy with rfl | rfl
  · exact q
  · rcases step_cases n (e.now + 1) x with e1 | e1
    · rw [e1]; exact q
    · rw [e1]
      exact ⟨q.1, by show x.tries + 1 ≤ _; omega, by show e.now + 1 ≤ _; omega, q.2.2.2⟩
theorem Good.fine {e : St} {N : Nat} (h : Good e N) (hN : N < 549755813888) : Fine e := by
  obtain ⟨h1, ⟨a, b, c, d, f⟩, h3, h4⟩ := h
  refine ⟨h1, by omega, by omega, fun x hx => ?_⟩
  obtain ⟨⟨q1, q2⟩, q3, q4, q5⟩ := h3 x hx
  exact ⟨⟨q1, by omega⟩, by omega, by omega, q5⟩
theorem ackGo_sub (hd : Nat → Nat → Bool → Nat → Nat × Nat × Bool) (now : Nat) (n : Int) : ∀ (l : List Wt) (p : Nat × Nat × Bool) (x : Wt), x ∈ (ackGo hd now n l p).1 → x ∈ l
  | [], _, _, h => h
  | y :: l, p, x, h => by
    unfold ackGo at h
    split at h
    · exact List.mem_cons_of_mem _ (ackGo_sub hd now n l _ x h)
    · exact h
theorem good_acked {e : St} {N : Nat} (h : Good e N) (hd : Nat → Nat → Bool → Nat → Nat × Nat × Bool) (n : Int) : Good (acked hd n e) N :=
  ⟨h.1, h.2.1, fun x hx => h.2.2.1 x (ackGo_sub hd _ _ _ _ x hx), h.2.2.2⟩
theorem toldGo_facts : ∀ (f g : Nat) (E : Nat → Option (List UInt8)) (acc : List (List UInt8)), g ≤ (toldGo f g E acc).1 ∧ (toldGo f g E acc).1 ≤ g + f ∧ ∀ k, E k = none → (toldGo f g E acc).2.1 k = none
  | 0, g, E, acc => ⟨Nat.le_refl _, Nat.le_refl _, fun _ h => h⟩
  | f + 1, g, E, acc => by
    unfold toldGo
    cases hE : E (g + 1) with
    | none => exact ⟨Nat.le_refl _, by simp only; omega, fun _ h => h⟩
    | some s =>
      obtain ⟨h1, h2, h3⟩ := toldGo_facts f (g + 1) (upd E (g + 1) none) (acc ++ [s])
      refine ⟨by simp only; omega, by simp only; omega, fun k hk => h3 k ?_⟩
      unfold upd
      split
      · rfl
      · exact hk
/-- what a frame is that is got -/
theorem get_ok {s : List UInt8} (h : (Frm.get s).2 = 0) : ∃ (site ack : Int) (body : List UInt8), Frm.get s = (⟨2, site, 0, ack, body⟩, 0) ∨
    ∃ seq : Nat, (1 ≤ seq ∧ seq ≤ 1099511627776) ∧ body.length ≤ 1048576 ∧ Frm.get s = (⟨1, site, seq, ack, body⟩, 0) := by
  obtain ⟨hok, _⟩ := Frm.get_back s h
  obtain ⟨⟨kind, site, seq, ack, body⟩, c, hc⟩ : ∃ f c, Frm.get s = (f, c) := ⟨_, _, rfl⟩
  rw [hc] at h hok
  simp only at h hok
  subst h
  obtain ⟨_, _, h3⟩ := (Frm.ok_iff _).1 hok
  simp only at h3
  rcases h3 with ⟨rfl, rfl, _⟩ | ⟨rfl, h4, h5⟩
  · exact ⟨site, ack, body, .inl hc⟩
  · refine ⟨site, ack, body, .inr ⟨seq.toNat, by omega, h5, ?_⟩⟩
    rw [hc, Int.toNat_of_nonneg (by omega)]
theorem asked_zero {e : St} {site ack : Int} {seq : Nat} {body : List UInt8} (h : asked e ⟨1, site, seq, ack, body⟩ = 0) : seq ≤ e.got + 8 := by
  unfold asked at h
  split at h
  · cases h
  · split at h
    · cases h
    · rename_i h2
      have := not_or.1 h2
      have h3 := this.2
      simp only [true_and] at h3
      omega
end Lnk

set_option maxRecDepth 100000 in
/-- Take -/
theorem link_take {wt : Nat → Nat → Bool → Nat} {hd : Nat → Nat → Bool → Nat → Nat × Nat × Bool} (law : Lnk.Law wt hd) (g : Nat) (F : Nat → Prop) (e : Lnk.St) (N : Nat) (hG : Lnk.Good e N) (hN : N < 549755813888) (s : List UInt8) (hs : s.length < 2 ^ 61) (w : World) (h : Lnk.At w g F e) :
    Calls Try.prog 22 #[.pointer (some ⟨g, 0, none⟩), .string (Mem.str s)] w fun r w' => ∃ v, r = .returned (.tuple #[v, .int .i64 (Lnk.take hd e s).2.2]) ∧ Lnk.At w' g F (Lnk.take hd e s).1 ∧
      Mem.Row w' w.heap.size 9 1 v (Lnk.take hd e s).2.1.length (Lnk.strs (Lnk.take hd e s).2.1) ∧ Mem.But F w w' := by
  obtain ⟨h1, ⟨g1, g2, g3, g4, g5⟩, g6, g7⟩ := hG
  have hx : ∀ x ∈ e.out, x.sent < 1099511627776 := fun x hx => by have := (g6 x hx).2.2.1; omega
  by_cases hc : (if (Frm.get s).2 = 0 then Lnk.asked e (Frm.get s).1 else (Frm.get s).2) = 0
  · have ht : Lnk.take hd e s = Lnk.takeF hd e (Frm.get s).1 := by unfold Lnk.take; rw [hc]; rfl
    have h0 : (Frm.get s).2 = 0 := by
      rcases Int.decEq (Frm.get s).2 0 with h | h
      · rw [if_neg h] at hc; exact hc
      · exact h
    rw [if_pos h0] at hc
    rw [ht]
    obtain ⟨site, ack, body, hk | ⟨seq, hseq, hbody, hk⟩⟩ := Lnk.get_ok h0
    · rw [hk] at hc ⊢
      refine (take_tell law g F e s hs (by omega) (by omega) hx site 0 ack body hk hc w h).mono ?_
      rintro r w' ⟨rfl, hat, hb⟩
      exact ⟨_, rfl, hat, Mem.row_nil _ _ _ _, hb⟩
    · rw [hk] at hc ⊢
      have hq8 := Lnk.asked_zero hc
      by_cases hcame : (e.early seq).isSome = true ∨ seq ≤ e.got
      · have hcm : (e.early (seq : Int).toNat).isSome = true ∨ (seq : Int) ≤ e.got := by
          rw [Int.toNat_natCast]
          rcases hcame with h | h
          · exact .inl h
          · exact .inr (by omega)
        have ht2 : Lnk.takeF hd e ⟨1, site, seq, ack, body⟩ = ({ Lnk.acked hd ack e with owed := true }, [], 15) := by
          unfold Lnk.takeF
          simp only
          rw [if_neg (by decide), if_pos hcm]
        rw [ht2]
        refine (take_twice law g F e s hs (by omega) (by omega) hx site ack seq body (by omega) hcame hk hc w h).mono ?_
        rintro r w' ⟨rfl, hat, hb⟩
        exact ⟨_, rfl, hat, Mem.row_nil _ _ _ _, hb⟩
      · have hcm : ¬ ((e.early (seq : Int).toNat).isSome = true ∨ (seq : Int) ≤ e.got) := by
          rw [Int.toNat_natCast]
          intro h
          rcases h with h | h
          · exact hcame (.inl h)
          · exact hcame (.inr (by omega))
        have ht2 : Lnk.takeF hd e ⟨1, site, seq, ack, body⟩ = ((Lnk.told (e.got + 9) { Lnk.acked hd ack e with owed := true, early := Lnk.upd e.early seq (some body), room := e.room + 1 }).1, (Lnk.told (e.got + 9) { Lnk.acked hd ack e with owed := true, early := Lnk.upd e.early seq (some body), room := e.room + 1 }).2, 0) := by
          unfold Lnk.takeF
          simp only
          rw [if_neg (by decide), if_neg hcm, Int.toNat_natCast]
        rw [ht2]
        have hn := not_or.1 hcame
        refine (take_new law g F e s hs (by omega) (by omega) hx site ack seq body (by omega) ⟨by simpa using hn.1, by omega, hq8⟩ hbody (by omega) g7 hk hc w h).mono ?_
        rintro r w' ⟨v, rfl, hat, hrow, hb⟩
        exact ⟨v, rfl, hat, hrow, hb⟩
  · have ht : Lnk.take hd e s = ({ e with refused := e.refused + 1 }, [], if (Frm.get s).2 = 0 then Lnk.asked e (Frm.get s).1 else (Frm.get s).2) := by unfold Lnk.take; simp only; rw [if_neg hc]
    rw [ht]
    refine (take_bad g F e s hs (by omega) (by omega) _ rfl hc w h).mono ?_
    rintro r w' ⟨rfl, hat, hb⟩
    exact ⟨_, rfl, hat, Mem.row_nil _ _ _ _, hb⟩

namespace Lnk
theorem good_take {e : St} {N : Nat} (h : Good e N) (hd : Nat → Nat → Bool → Nat → Nat × Nat × Bool) (s : List UInt8) : Good (take hd e s).1 (N + 9) := by
  have hm := h.mono (Nat.le_add_right N 9)
  unfold take
  simp only
  by_cases hc : (if (Frm.get s).2 = 0 then asked e (Frm.get s).1 else (Frm.get s).2) = 0
  · rw [if_pos hc]
    have h0 : (Frm.get s).2 = 0 := by
      rcases Int.decEq (Frm.get s).2 0 with h | h
      · rw [if_neg h] at hc; exact hc
      · exact h
    rw [if_pos h0] at hc
    obtain ⟨site, ack, body, hk | ⟨seq, hseq, hbody, hk⟩⟩ := get_ok h0
    · rw [hk]
      unfold takeF
      simp only
      rw [if_pos trivial]
      exact good_acked hm hd ack
    · rw [hk] at hc ⊢
      have hq8 := asked_zero hc
      unfold takeF
      simp only
      rw [if_neg (by decide)]
      split
      · exact good_acked hm hd ack
      · have ha := good_acked h hd ack
        obtain ⟨h1, ⟨a, b, c, d, f⟩, h3, h4⟩ := ha.mono (Nat.le_add_right N 1)
        have hr := h.2.1.2.2.2.2
        obtain ⟨t1, t2, t3⟩ := toldGo_facts (e.got + 9 - e.got) e.got (upd e.early (seq : Int).toNat (some body)) []
        have hg := h.2.1.2.2.1
        obtain ⟨h1', ⟨a', b', c', d', f'⟩, h3', h4'⟩ := hm
        refine ⟨h1', ⟨a', b', ?_, d', ?_⟩, fun x hx => h3' x (ackGo_sub hd _ _ _ _ x hx), fun k hk2 => ?_⟩
        · show (toldGo (e.got + 9 - e.got) e.got (upd e.early (seq : Int).toNat (some body)) []).1 ≤ _
          omega
        · show e.room + 1 ≤ _
          omega
        · have hk' : (toldGo (e.got + 9 - e.got) e.got (upd e.early (seq : Int).toNat (some body)) []).1 + 9 ≤ k := hk2
          refine t3 k ?_
          unfold upd
          rw [if_neg (by rw [Int.toNat_natCast]; omega)]
          exact h.2.2.2 k (by omega)
  · rw [if_neg hc]
    obtain ⟨h1, ⟨a, b, c, d, f⟩, h3, h4⟩ := hm
    have := h.2.1.2.2.2.1
    exact ⟨h1, ⟨a, b, c, by show e.refused + 1 ≤ _; omega, f⟩, h3, h4⟩
end Lnk
end Go.Proofs.Ytgkadhogfejheaa
