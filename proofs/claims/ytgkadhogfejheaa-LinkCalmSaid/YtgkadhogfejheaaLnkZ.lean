/- In calm all comes: the plain law. -/
import Derived.Test.YtgkadhogfejheaaLnkR
/-! What holds of a link at all times: numbers, acknowledgements, windows. -/
namespace Go.Proofs.Ytgkadhogfejheaa
open Go.RowKit

namespace Lnk
/-- a frame is let in -/
def Acc (e : St) (s : List UInt8) : Prop := (Frm.get s).2 = 0 ∧ asked e (Frm.get s).1 = 0
/-- a body has come -/
def Atf (f : St) (k : Nat) : Prop := k ≤ f.got ∨ f.early k ≠ none
theorem asked_iff {e : St} {f : Frm.F} : asked e f = 0 ↔ f.site = e.site ∧ f.ack ≤ e.top ∧ (f.kind = 1 → f.seq ≤ (e.got : Int) + 8) := by
  unfold asked
  constructor
  · intro h
    split at h
    · cases h
    · rename_i h1
      split at h
      · cases h
      · rename_i h2
        have h3 := not_or.1 h2
        refine ⟨Decidable.byContradiction h1, by omega, fun hk => ?_⟩
        rcases Int.decLe f.seq ((e.got : Int) + 8) with h4 | h4
        · exact absurd ⟨hk, by omega⟩ h3.2
        · exact h4
  · rintro ⟨h1, h2, h3⟩
    rw [if_neg (fun h => h h1), if_neg]
    rintro (h | ⟨h, h4⟩)
    · omega
    · have := h3 h
      omega
theorem toldGo_run (T : Nat) : ∀ (fu g : Nat) (E : Nat → Option (List UInt8)) (acc : List (List UInt8)),
    (∀ k b, (toldGo fu g E acc).2.1 k = some b → E k = some b) ∧ g ≤ (toldGo fu g E acc).1 ∧ (∀ k, E k ≠ none → k ≤ (toldGo fu g E acc).1 ∨ (toldGo fu g E acc).2.1 k ≠ none) ∧
    ((∀ k b, E k = some b → k ≤ T) → g ≤ T → (toldGo fu g E acc).1 ≤ T) ∧ ((∀ k, g + fu ≤ k → E k = none) → (toldGo fu g E acc).2.1 ((toldGo fu g E acc).1 + 1) = none)
  | 0, g, E, acc => ⟨fun _ _ h => h, Nat.le_refl _, fun _ h => .inr h, fun _ h => h, fun h => h _ (by show g + 0 ≤ g + 1; omega)⟩
  | fu + 1, g, E, acc => by
    unfold toldGo
    cases he : E (g + 1) with
    | none => exact ⟨fun _ _ h => h, Nat.le_refl _, fun _ h => .inr h, fun _ h => h, fun _ => he⟩
    | some s =>
      obtain ⟨a, b, c, d, f⟩ := toldGo_run T fu (g + 1) (upd E (g + 1) none) (acc ++ [s])
      have hu : ∀ k b, upd E (g + 1) none k = some b → E k = some b := fun k b hk => by
        unfold upd at hk
        split at hk
        · cases hk
        · exact hk
      refine ⟨fun k b' hk => hu k b' (a k b' hk), by simp only; omega, fun k hk => ?_, fun h1 h2 => d (fun k b' hk => h1 k b' (hu k b' hk)) (h1 _ _ he), fun h => f fun k hk => ?_⟩
      · by_cases hkg : k = g + 1
        · exact .inl (by subst hkg; exact b)
        · exact c k (by unfold upd; rw [if_neg hkg]; exact hk)
      · unfold upd
        split
        · rfl
        · exact h k (by omega)
theorem take_split (hd : Nat → Nat → Bool → Nat → Nat × Nat × Bool) (e : St) (s : List UInt8) :
    (¬ Acc e s ∧ (take hd e s).1 = { e with refused := e.refused + 1 }) ∨
    (Acc e s ∧ (Frm.get s).1.kind = 2 ∧ (take hd e s).1 = acked hd (Frm.get s).1.ack e) ∨
    (Acc e s ∧ (Frm.get s).1.kind = 1 ∧ Atf e (Frm.get s).1.seq.toNat ∧ (take hd e s).1 = { acked hd (Frm.get s).1.ack e with owed := true }) ∨
    (Acc e s ∧ (Frm.get s).1.kind = 1 ∧ (take hd e s).1 = (told (e.got + 9) { acked hd (Frm.get s).1.ack e with owed := true, early := upd e.early (Frm.get s).1.seq.toNat (some (Frm.get s).1.body), room := e.room + 1 }).1) := by
  by_cases hacc : Acc e s
  · have hc : (if (Frm.get s).2 = 0 then asked e (Frm.get s).1 else (Frm.get s).2) = 0 := by rw [if_pos hacc.1]; exact hacc.2
    have ht : take hd e s = takeF hd e (Frm.get s).1 := by unfold take; simp only; rw [if_pos hc]
    rw [ht]
    obtain ⟨site, ack, body, hk | ⟨seq, hseq, hbody, hk⟩⟩ := get_ok hacc.1
    · refine .inr (.inl ⟨hacc, by rw [hk], ?_⟩)
      rw [hk]
      unfold takeF
      simp only
      rw [if_pos trivial]
    · by_cases hcame : (e.early (Frm.get s).1.seq.toNat).isSome = true ∨ (Frm.get s).1.seq ≤ e.got
      · refine .inr (.inr (.inl ⟨hacc, by rw [hk], ?_, ?_⟩))
        · rcases hcame with h | h
          · right
            intro h0
            rw [h0] at h
            cases h
          · left
            omega
        · unfold takeF
          simp only
          rw [if_neg (by rw [hk]; intro h; cases h), if_pos hcame]
      · refine .inr (.inr (.inr ⟨hacc, by rw [hk], ?_⟩))
        unfold takeF
        simp only
        rw [if_neg (by rw [hk]; intro h; cases h), if_neg hcame]
  · refine .inl ⟨hacc, ?_⟩
    have hc : ¬ (if (Frm.get s).2 = 0 then asked e (Frm.get s).1 else (Frm.get s).2) = 0 := by
      intro h
      apply hacc
      by_cases h0 : (Frm.get s).2 = 0
      · rw [if_pos h0] at h
        exact ⟨h0, h⟩
      · rw [if_neg h0] at h
        exact absurd h h0
    unfold take
    simp only
    rw [if_neg hc]
theorem ackGo_drop (hd : Nat → Nat → Bool → Nat → Nat × Nat × Bool) (now : Nat) (n : Int) : ∀ (l : List Wt) (p : Nat × Nat × Bool), ∃ k, k ≤ l.length ∧ (ackGo hd now n l p).1 = l.drop k ∧ (∀ x ∈ l.take k, (x.seq : Int) ≤ n) ∧ ∀ x, (l.drop k)[0]? = some x → n < x.seq
  | [], _ => ⟨0, Nat.le_refl _, rfl, fun _ h => by simp at h, fun _ h => by simp at h⟩
  | y :: l, p => by
    unfold ackGo
    split
    · rename_i hy
      obtain ⟨k, h1, h2, h3, h4⟩ := ackGo_drop hd now n l (if y.tries = 1 then hd p.1 p.2.1 p.2.2 (floatOfInt .f64 ((now : Int) - y.sent)) else p)
      refine ⟨k + 1, by simp; omega, by rw [h2]; rfl, fun x hx => ?_, h4⟩
      rw [List.take_succ_cons] at hx
      rcases List.mem_cons.1 hx with rfl | hx
      · exact hy
      · exact h3 x hx
    · rename_i hy
      refine ⟨0, Nat.zero_le _, rfl, fun _ h => by simp at h, fun x hx => ?_⟩
      simp at hx
      subst hx
      omega
theorem take_outs (hd : Nat → Nat → Bool → Nat → Nat × Nat × Bool) (e : St) (s : List UInt8) :
    ((take hd e s).1.site = e.site ∧ (take hd e s).1.now = e.now ∧ (take hd e s).1.given = e.given ∧ (take hd e s).1.top = e.top) ∧
    ∃ k, k ≤ e.out.length ∧ (take hd e s).1.out = e.out.drop k ∧ (0 < k → Acc e s ∧ ∀ x ∈ e.out.take k, (x.seq : Int) ≤ (Frm.get s).1.ack) ∧
      (Acc e s → ∀ x, (e.out.drop k)[0]? = some x → (Frm.get s).1.ack < x.seq) := by
  obtain ⟨k, h1, h2, h3, h4⟩ := ackGo_drop hd e.now (Frm.get s).1.ack e.out (e.mean, e.dev, e.any)
  rcases take_split hd e s with ⟨hn, h⟩ | ⟨ha, _, h⟩ | ⟨ha, _, _, h⟩ | ⟨ha, _, h⟩
  · rw [h]
    exact ⟨⟨rfl, rfl, rfl, rfl⟩, 0, Nat.zero_le _, rfl, fun h => absurd h (by omega), fun h => absurd h hn⟩
  · rw [h]
    exact ⟨⟨rfl, rfl, rfl, rfl⟩, k, h1, h2, fun _ => ⟨ha, h3⟩, fun _ => h4⟩
  · rw [h]
    exact ⟨⟨rfl, rfl, rfl, rfl⟩, k, h1, h2, fun _ => ⟨ha, h3⟩, fun _ => h4⟩
  · rw [h]
    exact ⟨⟨rfl, rfl, rfl, rfl⟩, k, h1, h2, fun _ => ⟨ha, h3⟩, fun _ => h4⟩
structure Ins (e e' : St) (s : List UInt8) : Prop where
  got : e.got ≤ e'.got
  atf : ∀ k, Atf e k → Atf e' k
  owed : e.owed = true → e'.owed = true
  new : (e'.owed = true ∧ Acc e s ∧ (Frm.get s).1.kind = 1 ∧ Atf e' (Frm.get s).1.seq.toNat) ∨ (e'.got = e.got ∧ e'.early = e.early ∧ e'.owed = e.owed ∧ ¬ (Acc e s ∧ (Frm.get s).1.kind = 1))
  top : ∀ T, (∀ k b, e.early k = some b → k ≤ T) → e.got ≤ T → ((Frm.get s).2 = 0 → (Frm.get s).1.kind = 1 → (Frm.get s).1.seq.toNat ≤ T) → e'.got ≤ T ∧ ∀ k b, e'.early k = some b → k ≤ T
  norm : (∀ k, e.got + 9 ≤ k → e.early k = none) → e.early (e.got + 1) = none → e'.early (e'.got + 1) = none
theorem take_ins (hd : Nat → Nat → Bool → Nat → Nat × Nat × Bool) (e : St) (s : List UInt8) : Ins e (take hd e s).1 s := by
  rcases take_split hd e s with ⟨hn, h⟩ | ⟨ha, hk, h⟩ | ⟨ha, hk, hat, h⟩ | ⟨ha, hk, h⟩
  · rw [h]
    exact ⟨Nat.le_refl _, fun _ h => h, fun h => h, .inr ⟨rfl, rfl, rfl, fun h => hn h.1⟩, fun _ h1 h2 _ => ⟨h2, h1⟩, fun _ h => h⟩
  · rw [h]
    exact ⟨Nat.le_refl _, fun _ h => h, fun h => h, .inr ⟨rfl, rfl, rfl, fun h => by rw [hk] at h; exact absurd h.2 (by decide)⟩, fun _ h1 h2 _ => ⟨h2, h1⟩, fun _ h => h⟩
  · rw [h]
    exact ⟨Nat.le_refl _, fun _ h => h, fun _ => rfl, .inl ⟨rfl, ha, hk, hat⟩, fun _ h1 h2 _ => ⟨h2, h1⟩, fun _ h => h⟩
  · rw [h]
    obtain ⟨site, ack, body, hk2 | ⟨seq, hseq, hbody, hk2⟩⟩ := get_ok ha.1
    · rw [hk2] at hk
      cases hk
    have hq8 : seq ≤ e.got + 8 := asked_zero (site := site) (ack := ack) (body := body) (by have := ha.2; rw [hk2] at this; exact this)
    have hsq : (Frm.get s).1.seq.toNat = seq := by rw [hk2]; rfl
    have hbd : (Frm.get s).1.body = body := by rw [hk2]
    rw [hsq, hbd]
    have hr := fun T => toldGo_run T (e.got + 9 - e.got) e.got (upd e.early seq (some body)) []
    have hat : ∀ k, Atf e k ∨ k = seq → Atf (told (e.got + 9) { acked hd (Frm.get s).1.ack e with owed := true, early := upd e.early seq (some body), room := e.room + 1 }).1 k := fun k hk => by
      obtain ⟨a, b, c, _, _⟩ := hr 0
      have : k ≤ e.got ∨ upd e.early seq (some body) k ≠ none := by
        unfold upd
        split
        · right; simp
        · rename_i hne
          rcases hk with (h | h) | h
          · exact .inl h
          · exact .inr h
          · exact absurd h hne
      rcases this with h | h
      · exact .inl (Nat.le_trans h b)
      · exact c k h
    refine ⟨(hr 0).2.1, fun k hk => hat k (.inl hk), fun _ => rfl, .inl ⟨rfl, ha, hk, by rw [hsq]; exact hat seq (.inr rfl)⟩, fun T h1 h2 h3 => ?_, fun h1 _ => (hr 0).2.2.2.2 fun k hk => ?_⟩
    · have hu : ∀ k b, upd e.early seq (some body) k = some b → k ≤ T := fun k b hkb => by
        unfold upd at hkb
        split at hkb
        · rename_i hks
          have := h3 ha.1 hk
          rw [hsq] at this
          omega
        · exact h1 k b hkb
      exact ⟨(hr T).2.2.2.1 hu h2, fun k b hkb => hu k b ((hr T).1 k b hkb)⟩
    · unfold upd
      rw [if_neg (by omega)]
      exact h1 k (by omega)

/-- a frame on its way from e bears no more than e has sent, and got -/
def WayOk (e : St) (s : List UInt8) : Prop := (Frm.get s).2 = 0 → ((Frm.get s).1.kind = 1 → (Frm.get s).1.seq.toNat ≤ e.top) ∧ (Frm.get s).1.ack ≤ e.got
theorem WayOk.mono {e e' : St} {s : List UInt8} (h : WayOk e s) (h1 : e.top ≤ e'.top) (h2 : e.got ≤ e'.got) : WayOk e' s := fun h0 =>
  ⟨fun hk => Nat.le_trans ((h h0).1 hk) h1, by have := (h h0).2; omega⟩
structure Run (e f : St) (W : List (List UInt8)) : Prop where
  site : e.site = f.site
  seqs : ∀ k x, e.out[k]? = some x → x.seq + e.out.length = e.given + k + 1
  len : e.out.length ≤ e.given
  acked : e.given ≤ f.got + e.out.length
  top : f.got ≤ e.top ∧ e.top ≤ e.given
  win : e.top + e.out.length ≤ e.given + 8
  tried : ∀ x ∈ e.out, 0 < x.tries → x.seq ≤ e.top
  sent : ∀ x ∈ e.out, x.sent ≤ e.now
  early : ∀ k b, f.early k = some b → k ≤ e.top
  norm : f.early (f.got + 1) = none
  way : ∀ s ∈ W, WayOk e s
theorem rowAt_at {n now m : Nat} {l : List Wt} {k : Nat} {y : Wt} (h : (rowAt n now m l)[k]? = some y) : ∃ x, l[k]? = some x ∧ y = if k < m then step n now x else x := by
  have hk := (List.getElem?_eq_some_iff.1 h).1
  rw [rowAt_length] at hk
  obtain ⟨x, hx⟩ : ∃ x, l[k]? = some x := ⟨_, List.getElem?_eq_getElem hk⟩
  refine ⟨x, hx, ?_⟩
  unfold rowAt at h
  split
  · rename_i hm
    rw [List.getElem?_append_left (by simp; omega), List.getElem?_map, List.getElem?_take, if_pos hm, hx] at h
    simpa using h.symm
  · rename_i hm
    rw [List.getElem?_append_right (by simp; omega)] at h
    simp only [List.length_map, List.length_take, List.getElem?_drop] at h
    rw [show m + (k - min m l.length) = k by omega, hx] at h
    simpa using h.symm
theorem top_fold (n now : Nat) : ∀ (l : List Wt) (t : Nat), t ≤ l.foldl (fun t x => if due n now x = true then max t x.seq else t) t ∧
    (∀ x ∈ l, due n now x = true → x.seq ≤ l.foldl (fun t x => if due n now x = true then max t x.seq else t) t) ∧
    ∀ M, t ≤ M → (∀ x ∈ l, x.seq ≤ M) → l.foldl (fun t x => if due n now x = true then max t x.seq else t) t ≤ M
  | [], t => ⟨Nat.le_refl _, fun _ h => by simp at h, fun _ h _ => h⟩
  | y :: l, t => by
    obtain ⟨a, b, c⟩ := top_fold n now l (if due n now y = true then max t y.seq else t)
    rw [List.foldl_cons]
    refine ⟨Nat.le_trans (by split <;> omega) a, fun x hx hd => ?_, fun M h1 h2 => c M ?_ fun x hx => h2 x (List.mem_cons_of_mem _ hx)⟩
    · rcases List.mem_cons.1 hx with rfl | hx
      · refine Nat.le_trans ?_ a
        rw [if_pos hd]
        omega
      · exact b x hx hd
    · have := h2 y (by simp)
      split <;> omega
theorem take_at {l : List Wt} {m : Nat} {x : Wt} (h : x ∈ l.take m) : ∃ k, k < m ∧ l[k]? = some x := by
  obtain ⟨k, hk⟩ := List.getElem?_of_mem h
  rw [List.getElem?_take] at hk
  split at hk
  · exact ⟨k, ‹_›, hk⟩
  · cases hk
section
variable {e f : St} {W : List (List UInt8)} {N : Nat}
theorem Run.tick (h : Run e f W) (hG : Good e N) (hN : N < 549755813888) (n : Nat) : Run (tick n e).1 f (W ++ (tick n e).2) := by
  obtain ⟨t1, t2, t3⟩ := top_fold n (e.now + 1) (e.out.take 8) e.top
  have hl : (Lnk.tick n e).1.out.length = e.out.length := rowAt_length
  have htop : e.top ≤ (Lnk.tick n e).1.top := t1
  have hM : ∀ M, e.top ≤ M → (∀ x ∈ e.out.take 8, x.seq ≤ M) → (Lnk.tick n e).1.top ≤ M := t3
  refine ⟨h.site, fun k y hy => ?_, by rw [hl]; exact h.len, by rw [hl]; exact h.acked, ⟨Nat.le_trans h.top.1 htop, hM _ h.top.2 fun x hx => ?_⟩, ?_, fun y hy htr => ?_, fun y hy => ?_, fun k b hk => Nat.le_trans (h.early k b hk) htop, h.norm, fun s hs => ?_⟩
  · rw [hl]
    obtain ⟨x, hx, rfl⟩ := rowAt_at (show (rowAt n (e.now + 1) 8 e.out)[k]? = some y from hy)
    have := h.seqs k x hx
    split
    · rw [(step_same n (e.now + 1) x).1]; exact this
    · exact this
  · obtain ⟨k, hk, hx⟩ := take_at hx
    have := h.seqs k x hx
    have := (List.getElem?_eq_some_iff.1 hx).1
    show x.seq ≤ e.given
    omega
  · rw [hl]
    have h1 := h.win
    have h2 := h.len
    have : (Lnk.tick n e).1.top ≤ e.given + 8 - e.out.length := hM _ (by omega) fun x hx => by
      obtain ⟨k, hk, hx⟩ := take_at hx
      have := h.seqs k x hx
      omega
    show _ ≤ e.given + 8
    omega
  · obtain ⟨k, hk⟩ := List.getElem?_of_mem hy
    obtain ⟨x, hx, rfl⟩ := rowAt_at (show (rowAt n (e.now + 1) 8 e.out)[k]? = some y from hk)
    have hxm := List.mem_of_getElem? hx
    split at htr
    · rename_i hk8
      rw [if_pos hk8, (step_same n (e.now + 1) x).1]
      have hx8 : x ∈ e.out.take 8 := List.mem_of_getElem? (show (e.out.take 8)[k]? = some x by rw [List.getElem?_take, if_pos hk8]; exact hx)
      by_cases hd : due n (e.now + 1) x = true
      · exact t2 x hx8 hd
      · unfold step at htr
        rw [if_neg hd] at htr
        exact Nat.le_trans (h.tried x hxm htr) htop
    · rename_i hk8
      rw [if_neg hk8]
      exact Nat.le_trans (h.tried x hxm htr) htop
  · obtain ⟨x, hx, hxy⟩ := rowAt_mem (show y ∈ rowAt n (e.now + 1) 8 e.out from hy)
    have := h.sent x hx
    show y.sent ≤ e.now + 1
    rcases hxy with rfl | rfl
    · omega
    · rcases step_cases n (e.now + 1) x with e1 | e1
      · rw [e1]; omega
      · rw [e1]; exact Nat.le_refl _
  · rcases List.mem_append.1 hs with hs | hs
    · exact (h.way s hs).mono htop (Nat.le_refl _)
    · unfold Lnk.tick at hs
      simp only at hs
      split at hs
      · have : s = Frm.put ⟨2, e.site, 0, e.got, []⟩ := by simpa using hs
        subst this
        intro _
        rw [Frm.get_put _ (tell_ok hG hN)]
        exact ⟨fun hk => (by cases hk), Int.le_refl _⟩
      · unfold sentAt at hs
        obtain ⟨x, hx, rfl⟩ := List.mem_map.1 hs
        obtain ⟨hx1, hx3⟩ := List.mem_filter.1 hx
        have hx2 : x ∈ e.out := List.mem_of_mem_take hx1
        unfold frameOf
        intro _
        rw [Frm.get_put _ (frame_ok hG hN hx2)]
        simp only [Int.toNat_natCast]
        exact ⟨fun _ => t2 x hx1 hx3, Int.le_refl _⟩
theorem Run.tick2 (h : Run e f W) (n : Nat) : Run e (Lnk.tick n f).1 W := ⟨h.site, h.seqs, h.len, h.acked, h.top, h.win, h.tried, h.sent, h.early, h.norm, h.way⟩
theorem Run.give (h : Run e f W) (S : List UInt8) : Run (send e S) f W := by
  have hl : (send e S).out.length = e.out.length + 1 := by simp [send]
  have hg : (send e S).given = e.given + 1 := rfl
  have h1 := h.win
  have h2 := h.top
  have h3 := h.acked
  have h4 := h.len
  refine ⟨h.site, fun k x hx => ?_, by omega, by omega, ⟨h2.1, by show e.top ≤ _; omega⟩, by show e.top + _ ≤ _; omega, fun x hx => ?_, fun x hx => ?_, h.early, h.norm, h.way⟩
  · rw [hl, hg]
    simp only [send] at hx
    rcases Nat.lt_or_ge k e.out.length with hk | hk
    · rw [List.getElem?_append_left hk] at hx
      have := h.seqs k x hx
      omega
    · rw [List.getElem?_append_right hk] at hx
      have hk2 := (List.getElem?_eq_some_iff.1 hx).1
      simp only [List.length_cons, List.length_nil] at hk2
      have hk3 : k = e.out.length := by omega
      subst hk3
      simp at hx
      subst hx
      simp only
      omega
  · simp only [send, List.mem_append, List.mem_singleton] at hx
    rcases hx with hx | rfl
    · exact h.tried x hx
    · intro h0
      simp at h0
  · simp only [send, List.mem_append, List.mem_singleton] at hx
    rcases hx with hx | rfl
    · exact h.sent x hx
    · exact Nat.zero_le _
theorem Run.give2 (h : Run e f W) (S : List UInt8) : Run e (send f S) W := ⟨h.site, h.seqs, h.len, h.acked, h.top, h.win, h.tried, h.sent, h.early, h.norm, h.way⟩
theorem Run.less (h : Run e f W) {W' : List (List UInt8)} (hs : ∀ s ∈ W', s ∈ W) : Run e f W' := ⟨h.site, h.seqs, h.len, h.acked, h.top, h.win, h.tried, h.sent, h.early, h.norm, fun s h2 => h.way s (hs s h2)⟩
/-- a frame comes to the telling end -/
theorem Run.come (h : Run e f W) (hd : Nat → Nat → Bool → Nat → Nat × Nat × Bool) (hE : ∀ k, f.got + 9 ≤ k → f.early k = none) {s : List UInt8} (hs : WayOk e s) : Run e (take hd f s).1 W := by
  have hi := take_ins hd f s
  obtain ⟨t1, t2⟩ := hi.top e.top h.early h.top.1 fun h0 hk => (hs h0).1 hk
  exact ⟨h.site.trans (take_outs hd f s).1.1.symm, h.seqs, h.len, by have := h.acked; have := hi.got; omega, ⟨t1, h.top.2⟩, h.win, h.tried, h.sent, t2, hi.norm hE h.norm, h.way⟩
/-- a frame comes to the sending end -/
theorem Run.come2 (h : Run e f W) (hd : Nat → Nat → Bool → Nat → Nat × Nat × Bool) {s : List UInt8} (hs : WayOk f s) : Run (take hd e s).1 f W := by
  obtain ⟨⟨h1, h2, h3, h4⟩, k, hk, hout, hack, _⟩ := take_outs hd e s
  have hi := take_ins hd e s
  have hl : (take hd e s).1.out.length = e.out.length - k := by rw [hout, List.length_drop]
  have hsub : ∀ x ∈ (take hd e s).1.out, x ∈ e.out := fun x hx => by rw [hout] at hx; exact List.mem_of_mem_drop hx
  have hle := h.len
  refine ⟨h1.trans h.site, fun j x hx => ?_, by rw [hl, h3]; omega, ?_, by rw [h4, h3]; exact h.top, ?_, fun x hx => by rw [h4]; exact h.tried x (hsub x hx), fun x hx => by rw [h2]; exact h.sent x (hsub x hx), fun j b hj => by rw [h4]; exact h.early j b hj, h.norm, fun s' hs' => (h.way s' hs').mono (by rw [h4]; exact Nat.le_refl _) hi.got⟩
  · rw [hl, h3]
    rw [hout, List.getElem?_drop] at hx
    have := h.seqs _ x hx
    omega
  · rw [hl, h3]
    have hb := h.acked
    rcases Nat.eq_zero_or_pos k with h0 | h0
    · omega
    · obtain ⟨hacc, hall⟩ := hack h0
      have hk1 : k - 1 < e.out.length := by omega
      have hx : e.out[k - 1]? = some (e.out[k - 1]) := List.getElem?_eq_getElem hk1
      have := h.seqs _ _ hx
      have hx2 : e.out[k - 1] ∈ e.out.take k := List.mem_of_getElem? (show (e.out.take k)[k - 1]? = some _ by rw [List.getElem?_take, if_pos (by omega)]; exact hx)
      have := hall _ hx2
      have := (hs hacc.1).2
      omega
  · rw [hl, h3, h4]
    have := h.win
    omega
end

/-- both ways -/
def Runs (P : Ps) : Prop := ∀ i, i < 2 → Run (P.1 i) (P.1 (1 - i)) (P.2 (1 - i))
theorem runs_start (n : Nat) : Runs (fun _ => start n, fun _ => []) := fun _ _ =>
  ⟨rfl, fun k x hx => by simp [start] at hx, Nat.le_refl _, Nat.le_refl _, ⟨Nat.le_refl _, Nat.le_refl _⟩, by simp [start], fun x hx => by simp [start] at hx, fun x hx => by simp [start] at hx, fun k b hk => by simp [start] at hk, rfl, fun s hs => by simp at hs⟩
theorem Runs.tick {wt : Nat → Nat → Bool → Nat} {P : Ps} {N : Nat} (h : Runs P) (hI : Inv P N) (hN : N < 549755813888) {i : Nat} (hi : i < 2) : Runs (tickP wt i P) := by
  obtain ⟨n, hn⟩ : ∃ n, wt (P.1 i).mean (P.1 i).dev (P.1 i).any = n := ⟨_, rfl⟩
  unfold tickP
  rw [hn]
  intro j hj
  simp only
  have hh := h j hj
  by_cases hji : j = i
  · subst hji
    rw [sub_same, sub_other _ _ (other_ne hj), sub_same]
    exact hh.tick (hI.good j hj) hN n
  · have hj2 := two hi hj hji
    subst hj2
    rw [show 1 - (1 - i) = i by omega] at hh ⊢
    rw [sub_other _ _ (other_ne hi), sub_same, sub_other _ _ (by omega)]
    exact hh.tick2 n
theorem Runs.give {P : Ps} (h : Runs P) {i : Nat} (hi : i < 2) (S : List UInt8) : Runs (giveP i S P) := by
  unfold giveP
  by_cases hf : (P.1 i).out.length = 64
  · rw [if_pos hf]
    exact h
  · rw [if_neg hf]
    intro j hj
    simp only
    have hh := h j hj
    by_cases hji : j = i
    · subst hji
      rw [sub_same, sub_other _ _ (other_ne hj), sub_other _ _ (by omega)]
      exact hh.give S
    · have hj2 := two hi hj hji
      subst hj2
      rw [show 1 - (1 - i) = i by omega] at hh ⊢
      rw [sub_other _ _ (other_ne hi), sub_same, sub_other _ _ (by omega)]
      exact hh.give2 S
theorem Runs.come {hd : Nat → Nat → Bool → Nat → Nat × Nat × Bool} {P : Ps} {N : Nat} (h : Runs P) (hI : Inv P N) {i : Nat} (hi : i < 2) {x : List UInt8} (hx : WayOk (P.1 (1 - i)) x) : Runs (comeP hd i x P) := by
  unfold comeP
  intro j hj
  simp only
  have hh := h j hj
  by_cases hji : j = i
  · subst hji
    rw [sub_same, sub_other _ _ (other_ne hj), sub_other _ _ (by omega)]
    exact hh.come2 hd hx
  · have hj2 := two hi hj hji
    subst hj2
    rw [show 1 - (1 - i) = i by omega] at hh ⊢
    rw [sub_other _ _ (other_ne hi), sub_same, sub_other _ _ (by omega)]
    exact hh.come hd (hI.good i hi).2.2.2 hx
theorem Runs.less {P : Ps} (h : Runs P) {i : Nat} (hi : i < 2) {W : List (List UInt8)} (hW : ∀ s ∈ W, s ∈ P.2 i) : Runs (P.1, sub P.2 i W) := by
  intro j hj
  simp only
  have hh := h j hj
  by_cases hji : 1 - j = i
  · subst hji
    rw [sub_same]
    exact hh.less hW
  · rw [sub_other _ _ hji]
    exact hh
theorem Runs.way {hd : Nat → Nat → Bool → Nat → Nat × Nat × Bool} {P : Ps} {N : Nat} (h : Runs P) (hI : Inv P N) {i : Nat} (hi : i < 2) (D k : Nat) : Runs (wayP hd D k i P) := by
  unfold wayP
  by_cases h0 : P.2 i = []
  · rw [if_pos h0]
    exact h
  · rw [if_neg h0]
    have hpos : 0 < (P.2 i).length := List.length_pos_iff.2 h0
    have hkk : k % (P.2 i).length < (P.2 i).length := Nat.mod_lt _ hpos
    have hx : (P.2 i).getD (k % (P.2 i).length) [] ∈ P.2 i := by
      rw [List.getD_eq_getElem?_getD, List.getElem?_eq_getElem hkk, Option.getD_some]
      exact List.getElem_mem hkk
    have hwo : WayOk (P.1 (1 - i)) ((P.2 i).getD (k % (P.2 i).length) []) := by
      have hh := (h (1 - i) (by omega)).way
      rw [show 1 - (1 - i) = i by omega] at hh
      exact hh _ hx
    have hsub : ∀ s ∈ (P.2 i).take (k % (P.2 i).length) ++ (P.2 i).drop (k % (P.2 i).length + 1), s ∈ P.2 i := fun s hs => by
      rcases List.mem_append.1 hs with hs | hs
      · exact List.mem_of_mem_take hs
      · exact List.mem_of_mem_drop hs
    have h1 : Runs (P.1, sub P.2 i ((P.2 i).take (k % (P.2 i).length) ++ (P.2 i).drop (k % (P.2 i).length + 1))) := h.less hi hsub
    have i1 : Inv (P.1, sub P.2 i ((P.2 i).take (k % (P.2 i).length) ++ (P.2 i).drop (k % (P.2 i).length + 1))) N := hI.less hi hsub (by rw [List.length_append, List.length_take, List.length_drop]; omega)
    have h2 : Runs (if D = 7 then P else (P.1, sub P.2 i ((P.2 i).take (k % (P.2 i).length) ++ (P.2 i).drop (k % (P.2 i).length + 1)))) := by
      split
      · exact h
      · exact h1
    have i2 : Inv (if D = 7 then P else (P.1, sub P.2 i ((P.2 i).take (k % (P.2 i).length) ++ (P.2 i).drop (k % (P.2 i).length + 1)))) N := by
      split
      · exact hI
      · exact i1
    have hg : (if D = 7 then P else (P.1, sub P.2 i ((P.2 i).take (k % (P.2 i).length) ++ (P.2 i).drop (k % (P.2 i).length + 1)))).1 (1 - i) = P.1 (1 - i) := by
      split <;> rfl
    simp only
    split
    · exact h2
    · exact h2.come i2 hi (by rw [hg]; exact hwo)
theorem Runs.step {wt : Nat → Nat → Bool → Nat} {hd : Nat → Nat → Bool → Nat → Nat × Nat × Bool} {P : Ps} {N : Nat} (h : Runs P) (hI : Inv P N) (hN : N < 5497558) (d i k : Nat) (S : List UInt8) : Runs (doP wt hd d i k S P) := by
  have hi : i % 2 < 2 := Nat.mod_lt _ (by omega)
  unfold doP
  split
  · exact (h.tick hI (by omega) (by omega)).tick (hI.tick (wt := wt) (by omega) (by omega)) (by omega) (by omega)
  · split
    · exact h.tick hI (by omega) (by omega)
    · split
      · exact h.give hi S
      · exact h.way hI hi _ k
end Lnk
end Go.Proofs.Ytgkadhogfejheaa

/-! In calm all comes: the plain law. -/
namespace Go.Proofs.Ytgkadhogfejheaa
open Go.RowKit

namespace Lnk
def tk (wt : Nat → Nat → Bool → Nat) (e : St) : St × List (List UInt8) := tick (wt e.mean e.dev e.any) e
def comesL (hd : Nat → Nat → Bool → Nat → Nat × Nat × Bool) (e : St) (l : List (List UInt8)) : St := l.foldl (fun e s => (take hd e s).1) e
def comeAll (hd : Nat → Nat → Bool → Nat → Nat × Nat × Bool) (i : Nat) (l : List (List UInt8)) (P : Ps) : Ps := l.foldl (fun P x => comeP hd i x P) P
/-- both ends tick -/
def tickB (wt : Nat → Nat → Bool → Nat) (P : Ps) : Ps := tickP wt 1 (tickP wt 0 P)
/-- all frames on the way to an end come -/
def comeB (hd : Nat → Nat → Bool → Nat → Nat × Nat × Bool) (i : Nat) (P : Ps) : Ps := comeAll hd i (P.2 i) (P.1, sub P.2 i [])
def calmP (wt : Nat → Nat → Bool → Nat) (hd : Nat → Nat → Bool → Nat → Nat × Nat × Bool) (P : Ps) : Ps := comeB hd 1 (comeB hd 0 (tickB wt P))
def calmN (wt : Nat → Nat → Bool → Nat) (hd : Nat → Nat → Bool → Nat → Nat × Nat × Bool) : Nat → Ps → Ps
  | 0, P => P
  | n + 1, P => calmP wt hd (calmN wt hd n P)

section
variable {wt : Nat → Nat → Bool → Nat} {hd : Nat → Nat → Bool → Nat → Nat × Nat × Bool}
theorem comeAll_ends (i : Nat) : ∀ (l : List (List UInt8)) (P : Ps), (comeAll hd i l P).1 = sub P.1 i (comesL hd (P.1 i) l)
  | [], P => (sub_self P.1 i).symm
  | x :: l, P => by
    show (comeAll hd i l (comeP hd i x P)).1 = _
    rw [comeAll_ends i l (comeP hd i x P)]
    funext j
    unfold comeP
    simp only [sub_same]
    unfold sub
    split
    · rfl
    · rfl
theorem comeAll_texts (i : Nat) {j : Nat} (hj : j ≠ 4 + i) : ∀ (l : List (List UInt8)) (P : Ps), (comeAll hd i l P).2 j = P.2 j
  | [], _ => rfl
  | x :: l, P => by
    show (comeAll hd i l (comeP hd i x P)).2 j = _
    rw [comeAll_texts i hj l (comeP hd i x P)]
    exact sub_other _ _ hj
theorem comeAll_inv {i : Nat} (hi : i < 2) : ∀ (l : List (List UInt8)) (P : Ps) (N : Nat), Inv P N → Runs P → (∀ x ∈ l, FrameOk (P.2 (2 + (1 - i))) x ∧ WayOk (P.1 (1 - i)) x) →
    Inv (comeAll hd i l P) (N + 9 * l.length) ∧ Runs (comeAll hd i l P)
  | [], _, _, h1, h2, _ => ⟨h1, h2⟩
  | x :: l, P, N, h1, h2, h3 => by
    have hx := h3 x (by simp)
    have a := h1.come (hd := hd) hi hx.1
    have b := h2.come (hd := hd) h1 hi hx.2
    have e1 : (comeP hd i x P).2 (2 + (1 - i)) = P.2 (2 + (1 - i)) := sub_other _ _ (by omega)
    have e2 : (comeP hd i x P).1 (1 - i) = P.1 (1 - i) := sub_other _ _ (other_ne hi)
    have := comeAll_inv hi l (comeP hd i x P) (N + 9) a b (fun y hy => by rw [e1, e2]; exact h3 y (by simp [hy]))
    exact ⟨this.1.mono (by simp only [List.length_cons]; omega), this.2⟩
theorem Runs.ok {P : Ps} {N : Nat} (h : Runs P) (hI : Inv P N) {i : Nat} (hi : i < 2) {x : List UInt8} (hx : x ∈ P.2 i) : FrameOk (P.2 (2 + (1 - i))) x ∧ WayOk (P.1 (1 - i)) x := by
  have a := (hI.half (1 - i) (by omega)).way
  have b := (h (1 - i) (by omega)).way
  rw [show 1 - (1 - i) = i by omega] at a b
  exact ⟨a x hx, b x hx⟩
theorem less_nil {P : Ps} {N : Nat} (h : Runs P) (hI : Inv P N) {i : Nat} (hi : i < 2) : Inv (P.1, sub P.2 i []) N ∧ Runs (P.1, sub P.2 i []) :=
  ⟨hI.less hi (fun s hs => by simp at hs) (Nat.zero_le _), h.less hi fun s hs => by simp at hs⟩
/-- a part of the frames has come -/
theorem comes_inv {P : Ps} {N : Nat} (h : Runs P) (hI : Inv P N) {i : Nat} (hi : i < 2) (l : List (List UInt8)) (hl : ∀ x ∈ l, x ∈ P.2 i) :
    Inv (comeAll hd i l (P.1, sub P.2 i [])) (N + 9 * l.length) ∧ Runs (comeAll hd i l (P.1, sub P.2 i [])) := by
  obtain ⟨a, b⟩ := less_nil h hI hi
  exact comeAll_inv hi l _ N a b fun x hx => by
    have := h.ok hI hi (hl x hx)
    rw [show (P.1, sub P.2 i []).2 (2 + (1 - i)) = P.2 (2 + (1 - i)) from sub_other _ _ (by omega)]
    exact this
theorem ticks_inv {P : Ps} {N : Nat} (h : Runs P) (hI : Inv P N) (hN : N < 5497558) : Inv (tickB wt P) (N + 18) ∧ Runs (tickB wt P) := by
  have a := hI.tick (wt := wt) (by omega) (show 0 < 2 by omega)
  have b := h.tick (wt := wt) hI (by omega) (show 0 < 2 by omega)
  exact ⟨a.tick (by omega) (by omega), b.tick a (by omega) (by omega)⟩
theorem ticks_len {P : Ps} {L : Nat} {i : Nat} (hi : i < 2) (hl : (P.2 i).length ≤ L) : ((tickB wt P).2 i).length ≤ L + 9 := by
  have h0 := tick_len (wt (P.1 0).mean (P.1 0).dev (P.1 0).any) (P.1 0)
  have h1 := tick_len (wt (P.1 1).mean (P.1 1).dev (P.1 1).any) (P.1 1)
  match i, hi with
  | 0, _ =>
    show (P.2 0 ++ (tick (wt (P.1 1).mean (P.1 1).dev (P.1 1).any) (P.1 1)).2).length ≤ _
    rw [List.length_append]
    omega
  | 1, _ =>
    show (P.2 1 ++ (tick (wt (P.1 0).mean (P.1 0).dev (P.1 0).any) (P.1 0)).2).length ≤ _
    rw [List.length_append]
    omega
theorem comeB_texts {P : Ps} {i j : Nat} (hj : j ≠ 4 + i) (hji : j ≠ i) : (comeB hd i P).2 j = P.2 j := by
  unfold comeB
  rw [comeAll_texts i hj]
  exact sub_other _ _ hji
theorem comeB_way {P : Ps} {i : Nat} : (comeB hd i P).2 i = [] := by
  unfold comeB
  rw [comeAll_texts i (by omega)]
  exact sub_same _ _ _
theorem comeB_end {P : Ps} {i : Nat} : (comeB hd i P).1 i = comesL hd (P.1 i) (P.2 i) := by
  unfold comeB
  rw [comeAll_ends]
  exact sub_same _ _ _
theorem comeB_other {P : Ps} {i j : Nat} (h : j ≠ i) : (comeB hd i P).1 j = P.1 j := by
  unfold comeB
  rw [comeAll_ends]
  exact sub_other _ _ h
theorem calm_ends (P : Ps) {i : Nat} (hi : i < 2) : (calmP wt hd P).1 i = comesL hd (tk wt (P.1 i)).1 (P.2 i ++ (tk wt (P.1 (1 - i))).2) := by
  unfold calmP
  match i, hi with
  | 0, _ =>
    rw [comeB_other (by omega), comeB_end]
    rfl
  | 1, _ =>
    rw [comeB_end, comeB_other (by omega), comeB_texts (by omega) (by omega)]
    rfl
theorem calm_ways (P : Ps) {i : Nat} (hi : i < 2) : (calmP wt hd P).2 i = [] := by
  unfold calmP
  match i, hi with
  | 0, _ => rw [comeB_texts (by omega) (by omega), comeB_way]
  | 1, _ => exact comeB_way
theorem calm_given (P : Ps) {i : Nat} (hi : i < 2) : (calmP wt hd P).2 (2 + i) = P.2 (2 + i) := by
  unfold calmP
  rw [comeB_texts (by omega) (by omega), comeB_texts (by omega) (by omega)]
  unfold tickB tickP
  simp only
  rw [sub_other _ _ (by omega), sub_other _ _ (by omega)]
theorem calm_inv {P : Ps} {N L : Nat} (h : Runs P) (hI : Inv P N) (hN : N < 5497558) (hL : ∀ i, i < 2 → (P.2 i).length ≤ L) : Inv (calmP wt hd P) (N + 18 + 18 * (L + 9)) ∧ Runs (calmP wt hd P) := by
  obtain ⟨a1, b1⟩ := ticks_inv (wt := wt) h hI hN
  have l0 := ticks_len (wt := wt) (show 0 < 2 by omega) (hL 0 (by omega))
  have l1 := ticks_len (wt := wt) (show 1 < 2 by omega) (hL 1 (by omega))
  obtain ⟨a2, b2⟩ := comes_inv (hd := hd) b1 a1 (show 0 < 2 by omega) _ fun x hx => hx
  obtain ⟨a3, b3⟩ := comes_inv (hd := hd) b2 a2 (show 1 < 2 by omega) _ fun x hx => hx
  have e1 : ((comeAll hd 0 ((tickB wt P).2 0) ((tickB wt P).1, sub (tickB wt P).2 0 [])).2 1).length = ((tickB wt P).2 1).length := by
    rw [comeAll_texts 0 (by omega)]
    rfl
  exact ⟨a3.mono (by rw [e1]; omega), b3⟩

/-- what befalls an end to which frames come -/
structure Coms (e e' : St) (l : List (List UInt8)) : Prop where
  site : e'.site = e.site
  now : e'.now = e.now
  given : e'.given = e.given
  top : e'.top = e.top
  out : ∃ k, k ≤ e.out.length ∧ e'.out = e.out.drop k
  acks : e.out.length ≤ e.given → (∀ k x, e.out[k]? = some x → x.seq + e.out.length = e.given + k + 1) → ∀ s ∈ l, Acc e s → (Frm.get s).1.ack ≤ e.given → (Frm.get s).1.ack + e'.out.length ≤ e.given
  got : e.got ≤ e'.got
  atf : ∀ k, Atf e k → Atf e' k
  owed : e.owed = true → e'.owed = true
  new : ∀ s ∈ l, Acc e s → (Frm.get s).1.kind = 1 → e'.owed = true ∧ Atf e' (Frm.get s).1.seq.toNat
  old : e'.owed = true ∨ e'.got = e.got
  none : (∀ s ∈ l, ¬ ((Frm.get s).2 = 0 ∧ (Frm.get s).1.kind = 1)) → e'.owed = e.owed
theorem coms (hd : Nat → Nat → Bool → Nat → Nat × Nat × Bool) : ∀ (l : List (List UInt8)) (e : St), Coms e (comesL hd e l) l
  | [], e => ⟨rfl, rfl, rfl, rfl, ⟨0, Nat.zero_le _, rfl⟩, fun _ _ _ h => by simp at h, Nat.le_refl _, fun _ h => h, fun h => h, fun _ h => by simp at h, .inr rfl, fun _ => rfl⟩
  | s :: l, e => by
    have c := coms hd l (take hd e s).1
    show Coms e (comesL hd (take hd e s).1 l) (s :: l)
    obtain ⟨⟨h1, h2, h3, h4⟩, k, hk, hout, hack, hfirst⟩ := take_outs hd e s
    have hi := take_ins hd e s
    obtain ⟨m, hm, hm2⟩ := c.out
    have hl : (take hd e s).1.out.length = e.out.length - k := by rw [hout, List.length_drop]
    have hl2 : (comesL hd (take hd e s).1 l).out.length = e.out.length - k - m := by rw [hm2, List.length_drop, hl]
    have hacc : ∀ x, Acc e x → Acc (take hd e s).1 x := fun x hx => by
      refine ⟨hx.1, asked_iff.2 ?_⟩
      obtain ⟨a, b, c⟩ := asked_iff.1 hx.2
      refine ⟨by rw [h1]; exact a, by rw [h4]; exact b, fun hk => ?_⟩
      have := c hk
      have := hi.got
      omega
    refine ⟨c.site.trans h1, c.now.trans h2, c.given.trans h3, c.top.trans h4, ⟨k + m, by omega, by rw [hm2, hout, List.drop_drop]⟩, fun hle hseq x hx ha hg => ?_, Nat.le_trans hi.got c.got, fun j hj => c.atf j (hi.atf j hj), fun h => c.owed (hi.owed h), fun x hx ha hk1 => ?_, ?_, fun hno => ?_⟩
    · rcases List.mem_cons.1 hx with rfl | hx
      · rw [hl2]
        rcases Nat.lt_or_ge k e.out.length with hlt | hge
        · have hx0 : (e.out.drop k)[0]? = some e.out[k] := by rw [List.getElem?_drop]; exact List.getElem?_eq_getElem hlt
          have q1 := hfirst ha _ hx0
          have q2 := hseq k _ (List.getElem?_eq_getElem hlt)
          omega
        · omega
      · have := c.acks (by rw [hl, h3]; omega) (fun j y hy => by
          rw [hl, h3]
          rw [hout, List.getElem?_drop] at hy
          have := hseq _ y hy
          omega) x hx (hacc x ha) (by rw [h3]; exact hg)
        rw [h3] at this
        exact this
    · rcases List.mem_cons.1 hx with rfl | hx
      · rcases hi.new with ⟨a, _, _, b⟩ | ⟨_, _, _, hno⟩
        · exact ⟨c.owed a, c.atf _ b⟩
        · exact absurd ⟨ha, hk1⟩ hno
      · exact c.new x hx (hacc x ha) hk1
    · rcases c.old with h | h
      · exact .inl h
      · rcases hi.new with ⟨a, _⟩ | ⟨a, _⟩
        · exact .inl (c.owed a)
        · exact .inr (h.trans a)
    · rw [c.none fun x hx => hno x (by simp [hx])]
      rcases hi.new with ⟨_, a, b, _⟩ | ⟨_, _, a, _⟩
      · exact absurd ⟨a.1, b⟩ (hno s (by simp))
      · exact a

/-- one way of a link in calm -/
structure Dir (now0 t : Nat) (e f : St) : Prop where
  now : e.now = now0 + t
  came : ∀ x ∈ e.out, x.tries = 0 ∨ (x.sent ≤ now0 ∧ t < 64) ∨ Atf f x.seq
  owes : f.owed = true ∨ f.got + e.out.length ≤ e.given ∨ ((∀ x ∈ e.out, x.sent ≤ now0) ∧ t < 64)
theorem dir_start {e f : St} {W : List (List UInt8)} (h : Run e f W) : Dir e.now 0 e f :=
  ⟨rfl, fun x hx => .inr (.inl ⟨h.sent x hx, by omega⟩), .inr (.inr ⟨h.sent, by omega⟩)⟩
/-- what a tick sends -/
theorem tick_sends {e : St} {N : Nat} (hG : Good e N) (hN : N < 549755813888) (n : Nat) {s : List UInt8} (hs : s ∈ (tick n e).2) :
    (Frm.get s = (⟨2, e.site, 0, e.got, []⟩, 0) ∧ sentAt e n (e.now + 1) 8 e.out = []) ∨ ∃ k x, k < 8 ∧ e.out[k]? = some x ∧ Frm.get s = (⟨1, e.site, x.seq, e.got, x.body⟩, 0) := by
  unfold tick at hs
  simp only at hs
  split at hs
  · rename_i h
    have : s = Frm.put ⟨2, e.site, 0, e.got, []⟩ := by simpa using hs
    subst this
    exact .inl ⟨Frm.get_put _ (tell_ok hG hN), h.1⟩
  · unfold sentAt at hs
    obtain ⟨x, hx, rfl⟩ := List.mem_map.1 hs
    have hx1 := (List.mem_filter.1 hx).1
    obtain ⟨k, hk, hkx⟩ := take_at hx1
    exact .inr ⟨k, x, hk, hkx, Frm.get_put _ (frame_ok hG hN (List.mem_of_getElem? hkx))⟩
theorem tick_sent {e : St} {n k : Nat} {x : Wt} (hx : e.out[k]? = some x) (hk : k < 8) (hd : due n (e.now + 1) x = true) : frameOf e x ∈ (tick n e).2 := by
  have hm : frameOf e x ∈ sentAt e n (e.now + 1) 8 e.out := by
    unfold sentAt
    refine List.mem_map.2 ⟨x, List.mem_filter.2 ⟨List.mem_of_getElem? (show (e.out.take 8)[k]? = some x by rw [List.getElem?_take, if_pos hk]; exact hx), hd⟩, rfl⟩
  unfold tick
  simp only
  split
  · rename_i h
    rw [h.1] at hm
    simp at hm
  · exact hm
theorem due_zero {n now : Nat} {x : Wt} (h : x.tries = 0) : due n now x = true := by unfold due; simp [h]
theorem due_late {n now : Nat} {x : Wt} (hn : 2 ≤ n ∧ n ≤ 64) (h : x.sent + 64 ≤ now) : due n now x = true := by
  unfold due
  have := (Pac.dbl_bounds (x.tries - 1) n hn.1 hn.2).2
  rw [Bool.or_eq_true]
  exact .inr (decide_eq_true (by omega))
theorem sends_acc {e f : St} {W W' : List (List UInt8)} (h : Run e f W) (h' : Run f e W') {k : Nat} {x : Wt} (hk : k < 8) (hx : e.out[k]? = some x) : asked f ⟨1, e.site, x.seq, e.got, x.body⟩ = 0 := by
  have h1 := h.seqs k x hx
  have h2 := h.acked
  have h3 := h'.top.1
  have h4 := h.site
  exact asked_iff.2 ⟨by simp only; omega, by simp only; omega, fun _ => by simp only; omega⟩
theorem dir_round {now0 t N n m : Nat} {e f e' f' : St} {Wf We : List (List UInt8)} (hr : Run e f Wf) (hr2 : Run f e We) (hG : Good e N) (hG2 : Good f N) (hN : N < 549755813888) (hn : 2 ≤ n ∧ n ≤ 64)
    (he : e' = comesL hd (tick n e).1 (We ++ (tick m f).2)) (hf : f' = comesL hd (tick m f).1 (Wf ++ (tick n e).2)) (hr' : Run e' f' []) (h : Dir now0 t e f) :
    Dir now0 (t + 1) e' f' ∧ (64 ≤ t → e.given ≤ f'.got ∨ e.given + 8 ≤ f'.got + e.out.length) ∧ (f.owed = true → f.got + e'.out.length ≤ e.given) ∧ (e.out = [] → Wf = [] → f'.owed = false) ∧ e'.given = e.given ∧ e'.out.length ≤ e.out.length := by
  have ca := coms hd (We ++ (tick m f).2) (tick n e).1
  have cb := coms hd (Wf ++ (tick n e).2) (tick m f).1
  rw [← he] at ca
  rw [← hf] at cb
  have ra := hr.tick hG hN n
  have hl1 : (tick n e).1.out.length = e.out.length := rowAt_length
  obtain ⟨q, hq, hq2⟩ := ca.out
  have hlen : e'.out.length ≤ e.out.length := by rw [hq2, List.length_drop, hl1]; omega
  have hgiven : e'.given = e.given := ca.given
  have hsub : ∀ y ∈ e'.out, y ∈ (tick n e).1.out := fun y hy => by rw [hq2] at hy; exact List.mem_of_mem_drop hy
  have hnow := h.now
  -- one that is due comes
  have hA : ∀ k x, k < 8 → e.out[k]? = some x → due n (e.now + 1) x = true → f'.owed = true ∧ Atf f' x.seq := fun k x hk hx hd => by
    have hg : Frm.get (frameOf e x) = (⟨1, e.site, x.seq, e.got, x.body⟩, 0) := Frm.get_put _ (frame_ok hG hN (List.mem_of_getElem? hx))
    have hacc : Acc (tick m f).1 (frameOf e x) := by
      refine ⟨by rw [hg], ?_⟩
      rw [hg]
      obtain ⟨a, b, c⟩ := asked_iff.1 (sends_acc hr hr2 hk hx)
      have t1 : f.top ≤ (tick m f).1.top := (top_fold m (f.now + 1) (f.out.take 8) f.top).1
      exact asked_iff.2 ⟨a, by simp only at b ⊢; omega, c⟩
    have := cb.new _ (List.mem_append_right _ (tick_sent hx hk hd)) hacc (by rw [hg])
    rw [hg] at this
    simpa using this
  have hB : f.owed = true → f.got + e'.out.length ≤ e.given := fun ho => by
    have hne : (tick m f).2 ≠ [] := by
      unfold tick
      simp only
      split
      · simp
      · rename_i h2
        intro h3
        exact h2 ⟨h3, ho⟩
    obtain ⟨s, hs⟩ := List.exists_mem_of_ne_nil _ hne
    have htop := hr.top
    have t1 : e.top ≤ (tick n e).1.top := (top_fold n (e.now + 1) (e.out.take 8) e.top).1
    have hsite := hr.site
    have hkey : Acc (tick n e).1 s ∧ (Frm.get s).1.ack = f.got := by
      rcases tick_sends hG2 hN m hs with ⟨hg, _⟩ | ⟨k, x, hk, hx, hg⟩
      · refine ⟨⟨by rw [hg], ?_⟩, by rw [hg]⟩
        rw [hg]
        exact asked_iff.2 ⟨by show (f.site : Int) = e.site; omega, by show (f.got : Int) ≤ _; omega, fun h => by cases h⟩
      · refine ⟨⟨by rw [hg], ?_⟩, by rw [hg]⟩
        rw [hg]
        obtain ⟨a, b, c⟩ := asked_iff.1 (sends_acc hr2 hr hk hx)
        exact asked_iff.2 ⟨a, by simp only at b ⊢; omega, c⟩
    have := ca.acks (by rw [hl1]; exact hr.len) ra.seqs s (List.mem_append_right _ hs) hkey.1 (by rw [hkey.2]; show (f.got : Int) ≤ e.given; omega)
    rw [hkey.2] at this
    have h2 : (tick n e).1.given = e.given := rfl
    omega
  have hold : ∀ y ∈ (tick n e).1.out, ∃ k x, e.out[k]? = some x ∧ ((k < 8 ∧ due n (e.now + 1) x = true ∧ y.seq = x.seq) ∨ ((k < 8 → ¬ due n (e.now + 1) x = true) ∧ y = x)) := fun y hy => by
    obtain ⟨k, hk⟩ := List.getElem?_of_mem hy
    obtain ⟨x, hx, hyx⟩ := rowAt_at (show (rowAt n (e.now + 1) 8 e.out)[k]? = some y from hk)
    refine ⟨k, x, hx, ?_⟩
    by_cases hk8 : k < 8
    · rw [if_pos hk8] at hyx
      by_cases hd : due n (e.now + 1) x = true
      · exact .inl ⟨hk8, hd, by rw [hyx]; exact (step_same _ _ _).1⟩
      · refine .inr ⟨fun _ => hd, ?_⟩
        rw [hyx]
        unfold step
        rw [if_neg hd]
    · rw [if_neg hk8] at hyx
      exact .inr ⟨fun h => absurd h hk8, hyx⟩
  have hatf : ∀ j, Atf f j → Atf f' j := fun j hj => cb.atf j hj
  refine ⟨⟨by rw [ca.now]; show e.now + 1 = _; omega, fun y hy => ?_, ?_⟩, fun ht => ?_, hB, fun h0 hW => ?_, hgiven, hlen⟩
  · obtain ⟨k, x, hx, ⟨hk, hd, hs⟩ | ⟨hd, rfl⟩⟩ := hold y (hsub y hy)
    · rw [hs]
      exact .inr (.inr (hA k x hk hx hd).2)
    · have hym := List.mem_of_getElem? hx
      rcases h.came y hym with h1 | ⟨h1, h2⟩ | h1
      · exact .inl h1
      · rcases Nat.eq_zero_or_pos y.tries with h3 | h3
        · exact .inl h3
        · have hk8 : k < 8 := by
            have q1 := hr.tried y hym h3
            have q2 := hr.win
            have q3 := hr.seqs k y hx
            omega
          refine .inr (.inl ⟨h1, ?_⟩)
          rcases Nat.lt_or_ge (t + 1) 64 with h4 | h4
          · exact h4
          · exact absurd (due_late hn (by omega)) (hd hk8)
      · exact .inr (.inr (hatf _ h1))
  · have hgot : f'.owed = true ∨ f'.got = f.got := cb.old
    rcases h.owes with h1 | h1 | ⟨h1, h2⟩
    · rcases hgot with h3 | h3
      · exact .inl h3
      · refine .inr (.inl ?_)
        have := hB h1
        rw [h3, hgiven]
        exact this
    · rcases hgot with h3 | h3
      · exact .inl h3
      · refine .inr (.inl ?_)
        rw [h3, hgiven]
        omega
    · by_cases hany : ∃ k x, k < 8 ∧ e.out[k]? = some x ∧ due n (e.now + 1) x = true
      · obtain ⟨k, x, hk, hx, hd⟩ := hany
        exact .inl (hA k x hk hx hd).1
      · have hno : ∀ k x, k < 8 → e.out[k]? = some x → ¬ due n (e.now + 1) x = true := fun k x hk hx hd => hany ⟨k, x, hk, hx, hd⟩
        cases hout : e.out with
        | nil =>
          refine .inr (.inl ?_)
          rw [hout] at hlen
          have := hr'.top
          simp only [List.length_nil] at hlen
          omega
        | cons x l =>
          have hx : e.out[0]? = some x := by rw [hout]; rfl
          have h3 := hno 0 x (by omega) hx
          have h4 := h1 x (List.mem_of_getElem? hx)
          refine .inr (.inr ⟨fun y hy => ?_, ?_⟩)
          · obtain ⟨k, z, hz, ⟨hk, hd, _⟩ | ⟨_, rfl⟩⟩ := hold y (hsub y hy)
            · exact absurd hd (hno k z hk hz)
            · exact h1 _ (List.mem_of_getElem? hz)
          · rcases Nat.lt_or_ge (t + 1) 64 with h5 | h5
            · exact h5
            · exact absurd (due_late hn (by omega)) h3
  · rcases Nat.lt_or_ge f'.got e.given with h1 | h1
    · rcases Nat.lt_or_ge (f'.got + e.out.length) (e.given + 8) with h2 | h2
      · exfalso
        have h3 := hr.acked
        have h4 : f.got ≤ f'.got := cb.got
        have hk : f'.got + e.out.length - e.given < e.out.length := by omega
        have hx : e.out[f'.got + e.out.length - e.given]? = some _ := List.getElem?_eq_getElem hk
        have hs := hr.seqs _ _ hx
        have hseq : (e.out[f'.got + e.out.length - e.given]).seq = f'.got + 1 := by omega
        have hat : Atf f' (f'.got + 1) := by
          rw [← hseq]
          rcases h.came _ (List.mem_of_getElem? hx) with h5 | ⟨_, h5⟩ | h5
          · exact (hA _ _ (by omega) hx (due_zero h5)).2
          · omega
          · exact hatf _ h5
        rcases hat with h5 | h5
        · omega
        · exact h5 hr'.norm
      · exact .inr h2
    · exact .inl h1
  · have hs0 : sentAt e n (e.now + 1) 8 e.out = [] := by rw [h0]; rfl
    have := cb.none fun s hs hk => by
      rw [hW, List.nil_append] at hs
      rcases tick_sends hG hN n hs with ⟨hg, _⟩ | ⟨k, x, _, hx, _⟩
      · rw [hg] at hk
        exact absurd hk.2 (by intro h; cases h)
      · rw [h0] at hx
        simp at hx
    rw [this]
    rfl

/-- bounds in calm -/
def calmB : Nat → Nat
  | 0 => 2160
  | t + 1 => 41220 + 180 * t
structure CI (now0 : Nat → Nat) (t : Nat) (P : Ps) : Prop where
  inv : Inv P (calmB t)
  runs : Runs P
  way : ∀ i, i < 2 → (P.2 i).length ≤ (if t = 0 then 2160 else 0)
  dir : ∀ i, i < 2 → Dir (now0 i) t (P.1 i) (P.1 (1 - i))
theorem ci_start {P : Ps} (hI : Inv P 2160) (h : Runs P) : CI (fun i => (P.1 i).now) 0 P :=
  ⟨hI, h, fun i hi => by rw [if_pos rfl]; exact hI.size i (by omega), fun i hi => dir_start (h i hi)⟩
theorem ci_bound {t : Nat} (ht : t ≤ 120) : calmB t ≤ 63000 := by
  cases t with
  | zero => show 2160 ≤ 63000; omega
  | succ t => show 41220 + 180 * t ≤ 63000; omega
theorem CI.facts {now0 : Nat → Nat} {t : Nat} {P : Ps} (h : CI now0 t P) (ht : t ≤ 120) (hw : ∀ m d s, 2 ≤ wt m d s ∧ wt m d s ≤ 64) :
    CI now0 (t + 1) (calmP wt hd P) ∧ ∀ i, i < 2 → (64 ≤ t → (P.1 i).given ≤ ((calmP wt hd P).1 (1 - i)).got ∨ (P.1 i).given + 8 ≤ ((calmP wt hd P).1 (1 - i)).got + (P.1 i).out.length) ∧
      ((P.1 (1 - i)).owed = true → (P.1 (1 - i)).got + ((calmP wt hd P).1 i).out.length ≤ (P.1 i).given) ∧ ((P.1 i).out = [] → P.2 (1 - i) = [] → ((calmP wt hd P).1 (1 - i)).owed = false) ∧
      ((calmP wt hd P).1 i).given = (P.1 i).given ∧ ((calmP wt hd P).1 i).out.length ≤ (P.1 i).out.length := by
  have hb := ci_bound ht
  obtain ⟨a, b⟩ := calm_inv (wt := wt) (hd := hd) h.runs h.inv (by omega) h.way
  have hr := fun (i : Nat) (hi : i < 2) => dir_round (hd := hd) (e' := (calmP wt hd P).1 i) (f' := (calmP wt hd P).1 (1 - i)) (now0 := now0 i) (t := t) (n := wt (P.1 i).mean (P.1 i).dev (P.1 i).any) (m := wt (P.1 (1 - i)).mean (P.1 (1 - i)).dev (P.1 (1 - i)).any) (h.runs i hi)
    (by have := h.runs (1 - i) (by omega); rw [show 1 - (1 - i) = i by omega] at this; exact this) (h.inv.good i hi) (h.inv.good (1 - i) (by omega)) (by omega) (hw _ _ _) (calm_ends (wt := wt) P hi)
    (by have := calm_ends (wt := wt) (hd := hd) P (i := 1 - i) (by omega); rw [show 1 - (1 - i) = i by omega] at this; exact this)
    (by have := b i hi; rw [calm_ways P (by omega)] at this; exact this) (h.dir i hi)
  refine ⟨⟨a.mono ?_, b, fun i hi => by rw [calm_ways P hi]; exact Nat.zero_le _, fun i hi => (hr i hi).1⟩, fun i hi => (hr i hi).2⟩
  cases t with
  | zero => show 2160 + 18 + 18 * (2160 + 9) ≤ 41220 + 180 * 0; omega
  | succ t =>
    rw [if_neg (by omega)]
    show 41220 + 180 * t + 18 + 18 * (0 + 9) ≤ 41220 + 180 * (t + 1)
    omega
theorem ci_all {P : Ps} (hI : Inv P 2160) (h : Runs P) (hw : ∀ m d s, 2 ≤ wt m d s ∧ wt m d s ≤ 64) : ∀ t, t ≤ 120 → CI (fun i => (P.1 i).now) t (calmN wt hd t P)
  | 0, _ => ci_start hI h
  | t + 1, ht => ((ci_all hI h hw t (by omega)).facts (by omega) hw).1
theorem calm_less {P : Ps} (hI : Inv P 2160) (h : Runs P) (hw : ∀ m d s, 2 ≤ wt m d s ∧ wt m d s ≤ 64) {i : Nat} (hi : i < 2) : ∀ m t, m ≤ 8 → t = 64 + 2 * m → ((calmN wt hd t P).1 i).out.length ≤ 64 - 8 * m
  | 0, t, _, ht => (ci_all hI h hw t (by omega)).inv.len i hi
  | m + 1, t, hm, ht => by
    obtain ⟨r, rfl⟩ : ∃ r, t = r + 1 + 1 := ⟨t - 2, by omega⟩
    have ih := calm_less hI h hw hi m r (by omega) (by omega)
    have c0 := ci_all (hd := hd) hI h hw r (by omega)
    have c1 := ci_all (hd := hd) hI h hw (r + 1) (by omega)
    obtain ⟨p1, _, _, p4, p5⟩ := (c0.facts (hd := hd) (by omega) hw).2 i hi
    obtain ⟨q1, q2, _, q4, q5⟩ := (c1.facts (hd := hd) (by omega) hw).2 i hi
    have e1 : calmP wt hd (calmN wt hd r P) = calmN wt hd (r + 1) P := rfl
    have e2 : calmP wt hd (calmN wt hd (r + 1) P) = calmN wt hd (r + 1 + 1) P := rfl
    rw [e1] at p1 p4 p5
    rw [e2] at q2 q5
    have hg : ((calmN wt hd (r + 1) P).1 (1 - i)).got + ((calmN wt hd (r + 1 + 1) P).1 i).out.length ≤ ((calmN wt hd (r + 1) P).1 i).given := by
      rcases (c1.dir i hi).owes with h1 | h1 | ⟨_, h1⟩
      · exact q2 h1
      · omega
      · omega
    rcases p1 (by omega) with h1 | h1
    · omega
    · omega
theorem calm_still {P : Ps} (hI : Inv P 2160) (h : Runs P) (hw : ∀ m d s, 2 ≤ wt m d s ∧ wt m d s ≤ 64) {i : Nat} (hi : i < 2) : ∀ k t, k ≤ 39 → t = 80 + k → ((calmN wt hd t P).1 i).out = []
  | 0, t, _, ht => List.eq_nil_of_length_eq_zero (Nat.le_zero.1 (calm_less hI h hw hi 8 t (by omega) (by omega)))
  | k + 1, t, hk, ht => by
    obtain ⟨r, rfl⟩ : ∃ r, t = r + 1 := ⟨t - 1, by omega⟩
    have ih := calm_still hI h hw hi k r (by omega) (by omega)
    have c0 := ci_all (hd := hd) hI h hw r (by omega)
    have := ((c0.facts (hd := hd) (by omega) hw).2 i hi).2.2.2.2
    rw [ih] at this
    exact List.eq_nil_of_length_eq_zero (Nat.le_zero.1 this)
/-- within 120 ticks all that was given is told, and both ends are idle -/
theorem calm_allT {P : Ps} (hI : Inv P 2160) (h : Runs P) (hw : ∀ m d s, 2 ≤ wt m d s ∧ wt m d s ≤ 64) {i : Nat} (hi : i < 2) (t : Nat) (ht : t = 119) :
    ((calmN wt hd (t + 1) P).1 i).out = [] ∧ ((calmN wt hd (t + 1) P).1 i).owed = false ∧ (calmN wt hd (t + 1) P).2 (4 + i) = (calmN wt hd (t + 1) P).2 (2 + (1 - i)) := by
  have c := ci_all (hd := hd) hI h hw t (by omega)
  have c2 := ci_all (hd := hd) hI h hw (t + 1) (by omega)
  have hs : ∀ j, j < 2 → ((calmN wt hd t P).1 j).out = [] := fun j hj => calm_still hI h hw hj 39 t (by omega) (by omega)
  have hf := fun j hj => (c.facts (hd := hd) (wt := wt) (by omega) hw).2 j hj
  have e1 : calmP wt hd (calmN wt hd t P) = calmN wt hd (t + 1) P := rfl
  rw [e1] at hf
  have ho : ∀ j, j < 2 → ((calmN wt hd (t + 1) P).1 j).out = [] := fun j hj => by
    have := (hf j hj).2.2.2.2
    rw [hs j hj] at this
    exact List.eq_nil_of_length_eq_zero (Nat.le_zero.1 this)
  refine ⟨ho i hi, ?_, ?_⟩
  · have := (hf (1 - i) (by omega)).2.2.1 (hs _ (by omega))
    rw [show 1 - (1 - i) = i by omega] at this
    exact this (List.eq_nil_of_length_eq_zero (Nat.le_zero.1 (by have := c.way i hi; rw [if_neg (by omega)] at this; exact this)))
  · have hh := c2.inv.half (1 - i) (by omega)
    have hr := (c2.runs (1 - i) (by omega)).acked
    rw [show 1 - (1 - i) = i by omega] at hh hr
    rw [ho (1 - i) (by omega)] at hr
    rw [hh.told.1, List.take_of_length_le]
    rw [← hh.given]
    simpa using hr
theorem calm_all {P : Ps} (hI : Inv P 2160) (h : Runs P) (hw : ∀ m d s, 2 ≤ wt m d s ∧ wt m d s ≤ 64) {T : Nat} (hT : T = 120) {i : Nat} (hi : i < 2) :
    ((calmN wt hd T P).1 i).out = [] ∧ ((calmN wt hd T P).1 i).owed = false ∧ (calmN wt hd T P).2 (4 + i) = (calmN wt hd T P).2 (2 + (1 - i)) := by
  obtain ⟨t, rfl⟩ : ∃ t, T = t + 1 := ⟨T - 1, by omega⟩
  exact calm_allT hI h hw hi t (by omega)
end
end Lnk
end Go.Proofs.Ytgkadhogfejheaa
