/- Once, in order: the plain law of the pair. -/
import Derived.Test.YtgkadhogfejheaaLnkV
namespace Go.Proofs.Ytgkadhogfejheaa
open Go.RowKit

namespace Lnk
def wayP (hd : Nat → Nat → Bool → Nat → Nat × Nat × Bool) (D k i : Nat) (P : Ps) : Ps :=
  if P.2 i = [] then P else
  let kk := k % (P.2 i).length
  let P1 : Ps := if D = 7 then P else (P.1, sub P.2 i ((P.2 i).take kk ++ (P.2 i).drop (kk + 1)))
  if D = 8 then P1 else comeP hd i ((P.2 i).getD kk []) P1
def doP (wt : Nat → Nat → Bool → Nat) (hd : Nat → Nat → Bool → Nat → Nat × Nat × Bool) (d h k : Nat) (S : List UInt8) (P : Ps) : Ps :=
  if d % 9 = 0 then tickP wt 1 (tickP wt 0 P) else if d % 9 ≤ 2 then tickP wt (d % 9 - 1) P else if d % 9 ≤ 4 then giveP (h % 2) S P else wayP hd (d % 9) k (h % 2) P

/-- a frame that bears one of the bodies that were given -/
def FrameOk (G : List (List UInt8)) (s : List UInt8) : Prop := s.length < 2 ^ 61 ∧ ((Frm.get s).2 = 0 → (Frm.get s).1.kind = 1 → G[(Frm.get s).1.seq.toNat - 1]? = some (Frm.get s).1.body)
/-- one way of a link: e sends what is G, f tells T; W are the frames on their way from e to f -/
structure Half (e f : St) (W G T : List (List UInt8)) : Prop where
  given : e.given = G.length
  out : ∀ x ∈ e.out, 1 ≤ x.seq ∧ G[x.seq - 1]? = some x.body
  way : ∀ s ∈ W, FrameOk G s
  early : ∀ k b, f.early k = some b → 1 ≤ k ∧ G[k - 1]? = some b
  told : T = G.take f.got ∧ f.got ≤ G.length

theorem put_len (f : Frm.F) : (Frm.put f).length ≤ f.body.length + 1000 + (Num.put f.site.toNat).length + (Num.put f.seq.toNat).length + (Num.put f.ack.toNat).length + (Num.put f.body.length).length := by
  unfold Frm.put Frm.head
  rw [List.length_append, Frm.four_len]
  simp only [List.length_append, List.length_cons, List.length_nil]
  split <;> simp only [List.length_append, List.length_nil] <;> omega
theorem put_short2 (f : Frm.F) (h : Frm.okB f = true) : (Frm.put f).length < 2 ^ 61 := by
  obtain ⟨h1, h2, h3⟩ := (Frm.ok_iff f).1 h
  have hl := put_len f
  have hb : f.body.length ≤ 1048576 := by
    rcases h3 with ⟨_, _, h4⟩ | ⟨_, _, h4⟩
    · rw [h4]; simp
    · exact h4
  have hq : f.seq ≤ 1099511627776 := by rcases h3 with ⟨_, h4, _⟩ | ⟨_, h4, _⟩ <;> omega
  have a := Num.put_ten (n := f.site.toNat) (by omega)
  have b := Num.put_ten (n := f.seq.toNat) (by omega)
  have c := Num.put_ten (n := f.ack.toNat) (by omega)
  have d := Num.put_ten (n := f.body.length) (by omega)
  omega
theorem frame_ok {e : St} {N : Nat} (hG : Good e N) (hN : N < 549755813888) {x : Wt} (hx : x ∈ e.out) : Frm.okB ⟨1, e.site, x.seq, e.got, x.body⟩ = true := by
  obtain ⟨h1, ⟨a, b, c, d, f⟩, h3, h4⟩ := hG
  have := h3 x hx
  rw [Frm.ok_iff]
  refine ⟨⟨by simp only; omega, by simp only; omega⟩, ⟨by simp only; omega, by simp only; omega⟩, .inr ⟨rfl, ⟨by simp only; omega, by simp only; omega⟩, this.2.2.2⟩⟩
theorem tell_ok {e : St} {N : Nat} (hG : Good e N) (hN : N < 549755813888) : Frm.okB ⟨2, e.site, 0, e.got, []⟩ = true := by
  obtain ⟨h1, ⟨a, b, c, d, f⟩, h3, h4⟩ := hG
  rw [Frm.ok_iff]
  exact ⟨⟨by simp only; omega, by simp only; omega⟩, ⟨by simp only; omega, by simp only; omega⟩, .inl ⟨rfl, rfl, rfl⟩⟩
theorem step_same (n now : Nat) (x : Wt) : (step n now x).seq = x.seq ∧ (step n now x).body = x.body := by
  rcases step_cases n now x with e | e <;> rw [e] <;> exact ⟨rfl, rfl⟩
section
variable {e f : St} {W G T : List (List UInt8)} {N : Nat}
/-- the sending end ticks -/
theorem Half.tick (h : Half e f W G T) (hG : Good e N) (hN : N < 549755813888) (n : Nat) : Half (tick n e).1 f (W ++ (tick n e).2) G T where
  given := h.given
  out := fun y hy => by
    obtain ⟨x, hx, hxy⟩ := rowAt_mem (show y ∈ rowAt n (e.now + 1) 8 e.out from hy)
    rcases hxy with rfl | rfl
    · exact h.out _ hx
    · rw [(step_same n (e.now + 1) x).1, (step_same n (e.now + 1) x).2]
      exact h.out x hx
  way := fun s hs => by
    rcases List.mem_append.1 hs with hs | hs
    · exact h.way s hs
    · unfold Lnk.tick at hs
      simp only at hs
      split at hs
      · have : s = Frm.put ⟨2, e.site, 0, e.got, []⟩ := by simpa using hs
        subst this
        refine ⟨put_short2 _ (tell_ok hG hN), fun _ hk => ?_⟩
        rw [Frm.get_put _ (tell_ok hG hN)] at hk
        cases hk
      · unfold sentAt at hs
        obtain ⟨x, hx, rfl⟩ := List.mem_map.1 hs
        have hx2 : x ∈ e.out := List.mem_of_mem_take (List.mem_filter.1 hx).1
        unfold frameOf
        refine ⟨put_short2 _ (frame_ok hG hN hx2), fun _ _ => ?_⟩
        rw [Frm.get_put _ (frame_ok hG hN hx2)]
        simp only [Int.toNat_natCast]
        exact (h.out x hx2).2
  early := h.early
  told := h.told
/-- the telling end ticks -/
theorem Half.tick2 (h : Half e f W G T) (n : Nat) : Half e (Lnk.tick n f).1 W G T where
  given := h.given
  out := h.out
  way := h.way
  early := h.early
  told := h.told
/-- the sending end is given a body -/
theorem Half.give (h : Half e f W G T) (S : List UInt8) : Half (send e S) f W (G ++ [S]) T where
  given := by show e.given + 1 = _; rw [h.given, List.length_append]; rfl
  out := fun x hx => by
    simp only [send, List.mem_append, List.mem_singleton] at hx
    rcases hx with hx | rfl
    · obtain ⟨h1, h2⟩ := h.out x hx
      refine ⟨h1, ?_⟩
      rw [List.getElem?_append_left (List.getElem?_eq_some_iff.1 h2).1]
      exact h2
    · refine ⟨by simp, ?_⟩
      simp only [Nat.add_sub_cancel]
      rw [h.given, List.getElem?_append_right (Nat.le_refl _)]
      simp
  way := fun s hs => ⟨(h.way s hs).1, fun h1 h2 => by
    have := (h.way s hs).2 h1 h2
    rw [List.getElem?_append_left (List.getElem?_eq_some_iff.1 this).1]
    exact this⟩
  early := fun k b hk => by
    obtain ⟨h1, h2⟩ := h.early k b hk
    refine ⟨h1, ?_⟩
    rw [List.getElem?_append_left (List.getElem?_eq_some_iff.1 h2).1]
    exact h2
  told := ⟨by rw [List.take_append_of_le_length h.told.2]; exact h.told.1, by rw [List.length_append]; have := h.told.2; omega⟩
/-- the telling end is given a body -/
theorem Half.give2 (h : Half e f W G T) (S : List UInt8) : Half e (send f S) W G T where
  given := h.given
  out := h.out
  way := h.way
  early := h.early
  told := h.told
/-- some frames are lost -/
theorem Half.less (h : Half e f W G T) {W' : List (List UInt8)} (hs : ∀ s ∈ W', s ∈ W) : Half e f W' G T where
  given := h.given
  out := h.out
  way := fun s hs2 => h.way s (hs s hs2)
  early := h.early
  told := h.told
theorem toldGo_law : ∀ (fu g : Nat) (E : Nat → Option (List UInt8)) (acc : List (List UInt8)), (∀ k b, E k = some b → 1 ≤ k ∧ G[k - 1]? = some b) → g ≤ G.length →
    (∀ k b, (toldGo fu g E acc).2.1 k = some b → E k = some b) ∧ (toldGo fu g E acc).1 ≤ G.length ∧ ∀ A, A ++ acc = G.take g → A ++ (toldGo fu g E acc).2.2 = G.take (toldGo fu g E acc).1
  | 0, g, E, acc, _, hg => ⟨fun _ _ h => h, hg, fun _ h => h⟩
  | fu + 1, g, E, acc, hE, hg => by
    unfold toldGo
    cases he : E (g + 1) with
    | none => exact ⟨fun _ _ h => h, hg, fun _ h => h⟩
    | some s =>
      have h1 := (hE _ _ he).2
      simp only [Nat.add_sub_cancel] at h1
      have hlt := (List.getElem?_eq_some_iff.1 h1).1
      obtain ⟨a, b, c⟩ := toldGo_law fu (g + 1) (upd E (g + 1) none) (acc ++ [s]) (fun k b hk => by
        unfold upd at hk
        split at hk
        · cases hk
        · exact hE k b hk) hlt
      refine ⟨fun k b' hk => ?_, b, fun A hA => c A ?_⟩
      · have := a k b' hk
        unfold upd at this
        split at this
        · cases this
        · exact this
      · rw [← List.append_assoc, hA, List.take_add_one, h1]
        rfl
/-- a frame of the way comes to the telling end -/
theorem Half.come (h : Half e f W G T) (hd : Nat → Nat → Bool → Nat → Nat × Nat × Bool) {s : List UInt8} (hs : FrameOk G s) : Half e (take hd f s).1 W G (T ++ (take hd f s).2.1) := by
  unfold take
  simp only
  by_cases hc : (if (Frm.get s).2 = 0 then asked f (Frm.get s).1 else (Frm.get s).2) = 0
  · rw [if_pos hc]
    have h0 : (Frm.get s).2 = 0 := by
      rcases Int.decEq (Frm.get s).2 0 with h | h
      · rw [if_neg h] at hc; exact hc
      · exact h
    obtain ⟨site, ack, body, hk | ⟨seq, hseq, hbody, hk⟩⟩ := get_ok h0
    · rw [hk]
      unfold takeF
      simp only
      rw [if_pos trivial]
      exact ⟨h.given, h.out, h.way, h.early, (List.append_nil T).trans h.told.1, h.told.2⟩
    · have hfr := hs.2 h0 (by rw [hk])
      rw [hk] at hfr ⊢
      simp only [Int.toNat_natCast] at hfr
      unfold takeF
      simp only
      rw [if_neg (by decide), Int.toNat_natCast]
      split
      · exact ⟨h.given, h.out, h.way, h.early, (List.append_nil T).trans h.told.1, h.told.2⟩
      · have hE : ∀ k b, upd f.early seq (some body) k = some b → 1 ≤ k ∧ G[k - 1]? = some b := fun k b hkb => by
          unfold upd at hkb
          split at hkb
          · rename_i hks
            subst hks
            injection hkb with hkb
            subst hkb
            exact ⟨hseq.1, hfr⟩
          · exact h.early k b hkb
        obtain ⟨a, b, c⟩ := toldGo_law (f.got + 9 - f.got) f.got (upd f.early seq (some body)) [] hE h.told.2
        exact ⟨h.given, h.out, h.way, fun k b' hk2 => hE k b' (a k b' hk2), c T (by rw [List.append_nil]; exact h.told.1), b⟩
  · rw [if_neg hc]
    exact ⟨h.given, h.out, h.way, h.early, (List.append_nil T).trans h.told.1, h.told.2⟩
theorem take_facts (hd : Nat → Nat → Bool → Nat → Nat × Nat × Bool) (e : St) (s : List UInt8) : (take hd e s).1.given = e.given ∧ ∀ x ∈ (take hd e s).1.out, x ∈ e.out := by
  unfold take
  simp only
  by_cases hc : (if (Frm.get s).2 = 0 then asked e (Frm.get s).1 else (Frm.get s).2) = 0
  · rw [if_pos hc]
    unfold takeF
    simp only
    split
    · exact ⟨rfl, fun x hx => ackGo_sub hd _ _ _ _ x hx⟩
    · split
      · exact ⟨rfl, fun x hx => ackGo_sub hd _ _ _ _ x hx⟩
      · exact ⟨rfl, fun x hx => ackGo_sub hd _ _ _ _ x hx⟩
  · rw [if_neg hc]
    exact ⟨rfl, fun x hx => hx⟩
/-- a frame comes to the sending end -/
theorem Half.come2 (h : Half e f W G T) (hd : Nat → Nat → Bool → Nat → Nat × Nat × Bool) (s : List UInt8) : Half (take hd e s).1 f W G T where
  given := by rw [(take_facts hd e s).1]; exact h.given
  out := fun x hx => h.out x ((take_facts hd e s).2 x hx)
  way := h.way
  early := h.early
  told := h.told
end

/-- both ways of a link: way i leads to end i, given 2 + i, told 4 + i -/
structure Inv (P : Ps) (N : Nat) : Prop where
  good : ∀ i, i < 2 → Good (P.1 i) N
  len : ∀ i, i < 2 → (P.1 i).out.length ≤ 64
  size : ∀ j, j < 6 → (P.2 j).length ≤ N
  half : ∀ i, i < 2 → Half (P.1 i) (P.1 (1 - i)) (P.2 (1 - i)) (P.2 (2 + i)) (P.2 (4 + (1 - i)))
theorem Inv.mono {P : Ps} {N M : Nat} (h : Inv P N) (hM : N ≤ M) : Inv P M :=
  ⟨fun i hi => (h.good i hi).mono hM, h.len, fun j hj => Nat.le_trans (h.size j hj) hM, h.half⟩
theorem inv_start {n : Nat} (hn : 1 ≤ n ∧ n ≤ 16) : Inv (fun _ => start n, fun _ => []) 0 where
  good := fun _ _ => good_start hn
  len := fun _ _ => by simp [start]
  size := fun _ _ => Nat.le_refl _
  half := fun _ _ => ⟨rfl, fun x hx => by simp [start] at hx, fun s hs => by simp at hs, fun k b hk => by simp [start] at hk, rfl, Nat.le_refl _⟩
theorem other_ne {i : Nat} (hi : i < 2) : 1 - i ≠ i := by omega
theorem two {i j : Nat} (hi : i < 2) (hj : j < 2) (h : j ≠ i) : j = 1 - i := by omega
theorem Inv.tick {wt : Nat → Nat → Bool → Nat} {P : Ps} {N : Nat} (h : Inv P N) (hN : N < 549755813888) {i : Nat} (hi : i < 2) : Inv (tickP wt i P) (N + 9) := by
  obtain ⟨n, hn⟩ : ∃ n, wt (P.1 i).mean (P.1 i).dev (P.1 i).any = n := ⟨_, rfl⟩
  unfold tickP
  rw [hn]
  refine ⟨fun j hj => ?_, fun j hj => ?_, fun j hj => ?_, fun j hj => ?_⟩
  · simp only
    by_cases hji : j = i
    · subst hji
      rw [sub_same]
      exact (good_tick (h.good j hj) n).mono (by omega)
    · rw [sub_other _ _ hji]
      exact (h.good j hj).mono (by omega)
  · simp only
    by_cases hji : j = i
    · subst hji
      rw [sub_same]
      show (rowAt n _ 8 (P.1 j).out).length ≤ 64
      rw [rowAt_length]
      exact h.len j hj
    · rw [sub_other _ _ hji]
      exact h.len j hj
  · simp only
    by_cases hji : j = 1 - i
    · subst hji
      rw [sub_same, List.length_append]
      have := h.size (1 - i) hj
      have := tick_len n (P.1 i)
      omega
    · rw [sub_other _ _ hji]
      have := h.size j hj
      omega
  · simp only
    have hh := h.half j hj
    by_cases hji : j = i
    · subst hji
      rw [sub_same, sub_other _ _ (other_ne hj), sub_same, sub_other _ _ (by omega), sub_other _ _ (by omega)]
      exact hh.tick (h.good j hj) hN n
    · have hj2 := two hi hj hji
      subst hj2
      rw [show 1 - (1 - i) = i by omega] at hh ⊢
      rw [sub_other _ _ (other_ne hi), sub_same, sub_other _ _ (by omega), sub_other _ _ (by omega), sub_other _ _ (by omega)]
      exact hh.tick2 n
theorem Inv.give {P : Ps} {N : Nat} (h : Inv P N) {i : Nat} (hi : i < 2) (S : List UInt8) (hS : S.length ≤ 1048576) : Inv (giveP i S P) (N + 9) := by
  unfold giveP
  by_cases hf : (P.1 i).out.length = 64
  · rw [if_pos hf]
    exact h.mono (by omega)
  · rw [if_neg hf]
    refine ⟨fun j hj => ?_, fun j hj => ?_, fun j hj => ?_, fun j hj => ?_⟩
    · simp only
      by_cases hji : j = i
      · subst hji
        rw [sub_same]
        exact (good_send (h.good j hj) hS).mono (by omega)
      · rw [sub_other _ _ hji]
        exact (h.good j hj).mono (by omega)
    · simp only
      by_cases hji : j = i
      · subst hji
        rw [sub_same]
        show ((P.1 j).out ++ [_]).length ≤ 64
        rw [List.length_append]
        have := h.len j hj
        simp only [List.length_cons, List.length_nil]
        omega
      · rw [sub_other _ _ hji]
        exact h.len j hj
    · simp only
      by_cases hji : j = 2 + i
      · subst hji
        rw [sub_same, List.length_append]
        have := h.size (2 + i) hj
        simp only [List.length_cons, List.length_nil]
        omega
      · rw [sub_other _ _ hji]
        have := h.size j hj
        omega
    · simp only
      have hh := h.half j hj
      by_cases hji : j = i
      · subst hji
        rw [sub_same, sub_other _ _ (other_ne hj), sub_other _ _ (by omega), sub_same, sub_other _ _ (by omega)]
        exact hh.give S
      · have hj2 := two hi hj hji
        subst hj2
        rw [show 1 - (1 - i) = i by omega] at hh ⊢
        rw [sub_other _ _ (other_ne hi), sub_same, sub_other _ _ (by omega), sub_other _ _ (by omega), sub_other _ _ (by omega)]
        exact hh.give2 S
theorem ackGo_len (hd : Nat → Nat → Bool → Nat → Nat × Nat × Bool) (now : Nat) (n : Int) : ∀ (l : List Wt) (p : Nat × Nat × Bool), (ackGo hd now n l p).1.length ≤ l.length
  | [], _ => Nat.le_refl _
  | y :: l, p => by
    unfold ackGo
    split
    · exact Nat.le_trans (ackGo_len hd now n l _) (by simp)
    · exact Nat.le_refl _
theorem take_out (hd : Nat → Nat → Bool → Nat → Nat × Nat × Bool) (e : St) (s : List UInt8) : (take hd e s).1.out.length ≤ e.out.length := by
  unfold take
  simp only
  by_cases hc : (if (Frm.get s).2 = 0 then asked e (Frm.get s).1 else (Frm.get s).2) = 0
  · rw [if_pos hc]
    unfold takeF
    simp only
    split
    · exact ackGo_len hd _ _ _ _
    · split
      · exact ackGo_len hd _ _ _ _
      · exact ackGo_len hd _ _ _ _
  · rw [if_neg hc]
    exact Nat.le_refl _
theorem Inv.come {hd : Nat → Nat → Bool → Nat → Nat × Nat × Bool} {P : Ps} {N : Nat} (h : Inv P N) {i : Nat} (hi : i < 2) {x : List UInt8} (hx : FrameOk (P.2 (2 + (1 - i))) x) : Inv (comeP hd i x P) (N + 9) := by
  unfold comeP
  refine ⟨fun j hj => ?_, fun j hj => ?_, fun j hj => ?_, fun j hj => ?_⟩
  · simp only
    by_cases hji : j = i
    · subst hji
      rw [sub_same]
      exact good_take (h.good j hj) hd x
    · rw [sub_other _ _ hji]
      exact (h.good j hj).mono (by omega)
  · simp only
    by_cases hji : j = i
    · subst hji
      rw [sub_same]
      exact Nat.le_trans (take_out hd _ _) (h.len j hj)
    · rw [sub_other _ _ hji]
      exact h.len j hj
  · simp only
    by_cases hji : j = 4 + i
    · subst hji
      rw [sub_same, List.length_append]
      have := h.size (4 + i) hj
      have := take_len hd (P.1 i) x
      omega
    · rw [sub_other _ _ hji]
      have := h.size j hj
      omega
  · simp only
    have hh := h.half j hj
    by_cases hji : j = i
    · subst hji
      rw [sub_same, sub_other _ _ (other_ne hj), sub_other _ _ (by omega), sub_other _ _ (by omega), sub_other _ _ (by omega)]
      exact hh.come2 hd x
    · have hj2 := two hi hj hji
      subst hj2
      rw [show 1 - (1 - i) = i by omega] at hh ⊢
      rw [sub_other _ _ (other_ne hi), sub_same, sub_other _ _ (by omega), sub_other _ _ (by omega), sub_same]
      exact hh.come hd hx
theorem Inv.less {P : Ps} {N : Nat} (h : Inv P N) {i : Nat} (hi : i < 2) {W : List (List UInt8)} (hW : ∀ s ∈ W, s ∈ P.2 i) (hl : W.length ≤ (P.2 i).length) : Inv (P.1, sub P.2 i W) N := by
  refine ⟨h.good, h.len, fun j hj => ?_, fun j hj => ?_⟩
  · simp only
    by_cases hji : j = i
    · subst hji
      rw [sub_same]
      exact Nat.le_trans hl (h.size j hj)
    · rw [sub_other _ _ hji]
      exact h.size j hj
  · simp only
    have hh := h.half j hj
    rw [sub_other P.2 W (show 2 + j ≠ i by omega), sub_other P.2 W (show 4 + (1 - j) ≠ i by omega)]
    by_cases hji : 1 - j = i
    · subst hji
      rw [sub_same]
      exact hh.less hW
    · rw [sub_other _ _ hji]
      exact hh
theorem Inv.way {hd : Nat → Nat → Bool → Nat → Nat × Nat × Bool} {P : Ps} {N : Nat} (h : Inv P N) {i : Nat} (hi : i < 2) (D k : Nat) : Inv (wayP hd D k i P) (N + 9) := by
  unfold wayP
  by_cases h0 : P.2 i = []
  · rw [if_pos h0]
    exact h.mono (by omega)
  · rw [if_neg h0]
    have hpos : 0 < (P.2 i).length := List.length_pos_iff.2 h0
    have hkk : k % (P.2 i).length < (P.2 i).length := Nat.mod_lt _ hpos
    have hx : (P.2 i).getD (k % (P.2 i).length) [] ∈ P.2 i := by
      rw [List.getD_eq_getElem?_getD, List.getElem?_eq_getElem hkk, Option.getD_some]
      exact List.getElem_mem hkk
    have hfr : FrameOk (P.2 (2 + (1 - i))) ((P.2 i).getD (k % (P.2 i).length) []) := by
      have hh := (h.half (1 - i) (by omega)).way
      rw [show 1 - (1 - i) = i by omega] at hh
      exact hh _ hx
    have h1 : Inv (P.1, sub P.2 i ((P.2 i).take (k % (P.2 i).length) ++ (P.2 i).drop (k % (P.2 i).length + 1))) N := by
      refine h.less hi (fun s hs => ?_) (by rw [List.length_append, List.length_take, List.length_drop]; omega)
      rcases List.mem_append.1 hs with hs | hs
      · exact List.mem_of_mem_take hs
      · exact List.mem_of_mem_drop hs
    have h2 : Inv (if D = 7 then P else (P.1, sub P.2 i ((P.2 i).take (k % (P.2 i).length) ++ (P.2 i).drop (k % (P.2 i).length + 1)))) N := by
      split
      · exact h
      · exact h1
    have hg : (if D = 7 then P else (P.1, sub P.2 i ((P.2 i).take (k % (P.2 i).length) ++ (P.2 i).drop (k % (P.2 i).length + 1)))).2 (2 + (1 - i)) = P.2 (2 + (1 - i)) := by
      split
      · rfl
      · exact sub_other _ _ (by omega)
    simp only
    split
    · exact h2.mono (by omega)
    · exact h2.come hi (by rw [hg]; exact hfr)
theorem Inv.step {wt : Nat → Nat → Bool → Nat} {hd : Nat → Nat → Bool → Nat → Nat × Nat × Bool} {P : Ps} {N : Nat} (h : Inv P N) (hN : N < 5497558) (d i k : Nat) (S : List UInt8) (hS : S.length ≤ 1048576) : Inv (doP wt hd d i k S P) (N + 18) := by
  have hi : i % 2 < 2 := Nat.mod_lt _ (by omega)
  unfold doP
  split
  · exact (h.tick (by omega) (by omega)).tick (by omega) (by omega)
  · split
    · exact (h.tick (by omega) (by omega)).mono (by omega)
    · split
      · exact (h.give hi S hS).mono (by omega)
      · exact (h.way hi _ k).mono (by omega)
/-- what is told is a beginning of what was given -/
theorem Inv.once {P : Ps} {N : Nat} (h : Inv P N) {i : Nat} (hi : i < 2) : (P.2 (4 + i)).length = (P.1 i).got ∧ (P.2 (4 + i)).length ≤ (P.2 (2 + (1 - i))).length ∧ P.2 (4 + i) = (P.2 (2 + (1 - i))).take (P.2 (4 + i)).length := by
  have hh := (h.half (1 - i) (by omega)).told
  rw [show 1 - (1 - i) = i by omega] at hh
  have h1 : (P.2 (4 + i)).length = (P.1 i).got := by
    rw [hh.1, List.length_take]
    have := hh.2
    omega
  exact ⟨h1, by rw [h1]; exact hh.2, by rw [h1]; exact hh.1⟩
end Lnk
end Go.Proofs.Ytgkadhogfejheaa
