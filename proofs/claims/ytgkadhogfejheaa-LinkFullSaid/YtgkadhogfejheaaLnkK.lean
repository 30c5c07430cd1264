/- LinkFull: plain law and walk. -/
import Derived.Test.YtgkadhogfejheaaLnkJ
namespace Go.Proofs.Ytgkadhogfejheaa
open Go.RowKit

namespace Lnk
/-- an end that was given i bodies, none of them sent -/
def fs (i : Nat) : St := { start 5 with given := i, out := (List.range i).map fun j => ⟨j + 1, 0, 0, [98]⟩ }
theorem fs_zero : fs 0 = start 5 := rfl
theorem fs_send (i : Nat) : send (fs i) [98] = fs (i + 1) := by
  unfold send fs
  simp only [List.range_succ, List.map_append, List.map_cons, List.map_nil]
theorem fs_len (i : Nat) : (fs i).out.length = i := by simp [fs]
theorem fs_mem {i : Nat} {x : Wt} (h : x ∈ (fs i).out) : ∃ j, j < i ∧ x = ⟨j + 1, 0, 0, [98]⟩ := by
  simp only [fs, List.mem_map, List.mem_range] at h
  obtain ⟨j, h1, h2⟩ := h
  exact ⟨j, h1, h2.symm⟩
theorem fs_fine (i : Nat) (hi : i ≤ 64) : Fine (fs i) := by
  refine ⟨by show 1 ≤ 5 ∧ 5 ≤ 16; omega, by show 0 + 1 < _; omega, by show 0 ≤ _; omega, fun x hx => ?_⟩
  obtain ⟨j, h1, rfl⟩ := fs_mem hx
  exact ⟨⟨by simp, by simp only; omega⟩, by simp, by simp, by simp⟩
theorem due_new (n now : Nat) (x : Wt) (h : x.tries = 0) : due n now x = true := by unfold due; simp [h]
theorem fs_take (i : Nat) {x : Wt} (h : x ∈ (fs i).out.take 8) : x.tries = 0 := by
  obtain ⟨j, _, rfl⟩ := fs_mem (List.mem_of_mem_take h)
  rfl
theorem fs_tick (i n : Nat) : (tick n (fs i)).2.length = min i 8 := by
  have h : sentAt (fs i) n ((fs i).now + 1) 8 (fs i).out = ((fs i).out.take 8).map (frameOf (fs i)) := by
    unfold sentAt
    congr 1
    exact List.filter_eq_self.2 fun x hx => due_new _ _ _ (fs_take i hx)
  have h2 : (tick n (fs i)).2 = sentAt (fs i) n ((fs i).now + 1) 8 (fs i).out := tick_snd fun h => by cases h.2
  rw [h2, h, List.length_map, List.length_take, fs_len, Nat.min_comm]
theorem fs_step (i n : Nat) {x : Wt} (h : x ∈ (fs i).out.take 8) : step n 1 x = { x with tries := 1, sent := 1 } := by
  unfold step
  rw [if_pos (due_new _ _ _ (fs_take i h)), fs_take i h]
theorem fs_tick2 (i n : Nat) (hn : 2 ≤ n) : (tick n (tick n (fs i)).1).2 = [] := by
  have h0 : (tick n (fs i)).1.out = ((fs i).out.take 8).map (step n 1) ++ (fs i).out.drop 8 := rfl
  have h1 : (tick n (fs i)).1.out.take 8 = ((fs i).out.take 8).map (step n 1) := by
    rw [h0]
    rcases Nat.lt_or_ge (fs i).out.length 8 with h | h
    · rw [List.drop_of_length_le (by omega), List.append_nil, List.take_of_length_le (by simp; omega)]
    · exact List.take_left' (by simp; omega)
  have h2 : sentAt (tick n (fs i)).1 n ((tick n (fs i)).1.now + 1) 8 (tick n (fs i)).1.out = [] := by
    unfold sentAt
    rw [h1, List.map_eq_nil_iff, List.filter_eq_nil_iff]
    intro y hy
    obtain ⟨x, hx, rfl⟩ := List.mem_map.1 hy
    rw [fs_step i n hx]
    have : (tick n (fs i)).1.now + 1 = 2 := rfl
    rw [this]
    unfold due Pac.dbl
    simp
    omega
  rw [tick_snd (fun h => by cases h.2)]
  exact h2
theorem fs_fine2 (i n : Nat) (hi : i ≤ 64) : Fine (tick n (fs i)).1 := by
  refine ⟨by show 1 ≤ 5 ∧ 5 ≤ 16; omega, by show 0 + 1 + 1 < _; omega, by show 0 ≤ _; omega, fun x hx => ?_⟩
  have h0 : (tick n (fs i)).1.out = ((fs i).out.take 8).map (step n 1) ++ (fs i).out.drop 8 := rfl
  rw [h0, List.mem_append] at hx
  rcases hx with hx | hx
  · obtain ⟨y, hy, rfl⟩ := List.mem_map.1 hx
    rw [fs_step i n hy]
    obtain ⟨j, h1, rfl⟩ := fs_mem (List.mem_of_mem_take hy)
    exact ⟨⟨by simp, by simp only; omega⟩, by simp, by simp, by simp⟩
  · exact (fs_fine i hi).2.2.2 x (List.mem_of_mem_drop hx)
end Lnk

set_option maxRecDepth 100000 in
set_option maxHeartbeats 1000000 in
theorem linkFull_walk (a0 : Int) (w : World) (wa0 : (Lit.int .u8 a0).wf = true) :
    Calls Try.prog 6 #[.int .u8 a0] w fun e w' => e = .returned (.bool true) ∧ Below w.heap.size w w' := by
  have ha : 0 ≤ a0 ∧ a0 ≤ 255 := by simpa [Lit.wf, IntKind.min, IntKind.max, IntKind.signed, IntKind.bits] using wa0
  obtain ⟨m, rfl⟩ : ∃ m : Nat, a0 = m := ⟨a0.toNat, by omega⟩
  have hm : m ≤ 255 := by omega
  obtain ⟨K, hK⟩ : ∃ K, m % 80 = K := ⟨_, rfl⟩
  have hK80 : K < 80 := by omega
  have hrem : Int.tmod (m : Int) 80 = (K : Int) := by rw [← hK]; rfl
  have hwr : IntKind.i64.wrap (m : Int) = m := by rw [IntKind.wrap_i64]; omega
  obtain ⟨wt, hd, law⟩ := Lnk.laws
  have LAW := Lib.hid law
  clear law wa0 ha hK
  have hnew := fun w => link_new_at 5 5 rfl (by omega) w
  go_enter Try.func6, Try.ntmps6
  go_upto_region 3 with (go_at_call 7; refine (link_alive _).mono ?_; rintro r w1 ⟨rfl, hb1⟩; have HB1 := Lib.hid hb1; clear hb1)
  go_upto_region 4 with (go_at_call 17; refine (hnew _).mono ?_; rintro r w2 ⟨rfl, ha2, hb2⟩; have HA := Lib.hid ha2; have HB2 := Lib.hid hb2; clear ha2 hb2)
  clear hnew
  obtain ⟨g, hg⟩ : ∃ g, w1.heap.size + 1 = g := ⟨_, rfl⟩
  have ha0 := HA.out
  rw [hg] at ha0 ⊢
  have hF : ∀ k, (fun k => k = g ∨ k = w1.heap.size) k → w.heap.size ≤ k := fun k hk => by have := HB1.out.size; rcases hk with e | e <;> omega
  generalize (fun k => k = g ∨ k = w1.heap.size) = F at ha0 hF
  have HA0 := Lib.hid ha0
  have HF := Lib.hid hF
  have B2 := Lib.hid (Mem.then_ HB1.out HB2.out)
  clear HA hg ha0 hF HB1 HB2
  go_wp2
  go_loopw [6] (fun v wr => ∃ i : Nat, i ≤ K ∧ v = .int .i64 i ∧ Below w.heap.size w wr ∧ ∃ F' : Nat → Prop, (∀ k, F' k → w.heap.size ≤ k) ∧ Lnk.At wr g F' (Lnk.fs (min i 64))) (fun v _ => K - (intOf v).toNat)
  case atStart => exact ⟨0, by omega, rfl, B2.out, F, HF.out, HA0.out⟩
  case round =>
    obtain ⟨i, hi, rfl, hb, F', hF', hat⟩ := hrel
    have HB := Lib.hid hb
    have HF' := Lib.hid hF'
    have HAT := Lib.hid hat
    clear hb hF' hat
    by_cases hlt : i < K
    · by_cases h64 : i < 64
      · have h64i : (i : Int) < 64 := by omega
        have hmin : min i 64 = i := by omega
        have hmin2 : min (i + 1) 64 = i + 1 := by omega
        have hat := HAT.out
        rw [hmin] at hat
        have HAT2 := Lib.hid hat
        clear hat
        go_wp2_with (go_at_call 20; go_loud (
          refine (send_ok g F' (Lnk.fs i) [98] (by decide) (by rw [Lnk.fs_len]; exact h64) (by show i < _; omega) _ HAT2.out).mono ?_
          rintro r w3 ⟨rfl, hb3, F2, ha3, hf3⟩))
        refine ⟨⟨i + 1, by omega, by go_num, HB.out.trans (hb3.below HB.out.size HF'.out), F2, fun k hk => ?_, ?_⟩, by simp [intOf]; omega⟩
        · rcases hf3 k hk with h | h
          · exact HF'.out k h
          · have := HB.out.size
            omega
        · rw [hmin2, ← Lnk.fs_send]
          exact ha3
      · have h64i : ¬ (i : Int) < 64 := by omega
        have hmin : min i 64 = 64 := by omega
        have hmin2 : min (i + 1) 64 = 64 := by omega
        have hat := HAT.out
        rw [hmin] at hat
        have HAT2 := Lib.hid hat
        clear hat
        go_wp2_with (go_at_call 20; go_loud (
          refine (send_full g F' (Lnk.fs 64) ⟨#[98]⟩ (by decide) (Lnk.fs_len 64) _ HAT2.out).mono ?_
          rintro r w3 ⟨rfl, rfl⟩))
        refine ⟨⟨i + 1, by omega, by go_num, HB.out, F', HF'.out, ?_⟩, by simp [intOf]; omega⟩
        rw [hmin2]
        exact HAT2.out
    · have hiK : i = K := by omega
      subst hiK
      obtain ⟨W, hW⟩ : ∃ W, min i 64 = W := ⟨_, rfl⟩
      have hat := HAT.out
      rw [hW] at hat
      have HAT2 := Lib.hid hat
      have hW64 : W ≤ 64 := by omega
      have hmin : (if (64 : Int) < (i : Int) then (64 : Int) else (i : Int)) = (W : Int) := by split <;> omega
      have hmin8 : (if (8 : Int) < (W : Int) then (8 : Int) else (W : Int)) = ((min W 8 : Nat) : Int) := by split <;> omega
      obtain ⟨n, hn⟩ : ∃ n, wt 0 0 false = n := ⟨_, rfl⟩
      have hw := (LAW.out.wait 0 0 false)
      rw [hn] at hw
      have HW := Lib.hid hw
      clear hw hn hat
      have htick := tick_ok g F' (Lnk.fs W) n HW.out.2 (Lnk.fs_fine W hW64) wr HAT2.out
      have hwaits : ∃ A c, wr.cell? ⟨g, 2, none⟩ = some (.slice A W c) := by
        obtain ⟨o, _, h0⟩ := HAT2.out
        obtain ⟨A, c, rfl, _⟩ := h0.own.form
        exact ⟨A, c, (cell_of_row _ _ 2 _ _ _ h0.row).trans (by show some (Value.slice A (Lnk.fs W).out.length c) = _; rw [Lnk.fs_len])⟩
      obtain ⟨A2, c2, hw2⟩ := hwaits
      have hwaits := waits_at g A2 W c2 wr hw2
      clear hw2
      go_upto_region 15 with (go_at_call 22; refine (take_nil _ _).mono ?_; rintro r w3 ⟨rfl, rfl⟩)
      go_wp2_with (first
        | (go_at_call 26
           first
             | (with_reducible refine hwaits.mono ?_
                rintro r w4 ⟨rfl, h4⟩
                subst h4)
             | (with_reducible refine (waits_nil _).mono ?_
                rintro r w4 ⟨rfl, h4⟩
                subst h4))
        | (go_at_call 18
           first
             | (with_reducible refine (tick_nil _).mono ?_
                rintro r w4 ⟨rfl, h4⟩
                subst h4)
             | (with_reducible refine htick.mono ?_
                rintro r w5 ⟨v, rfl, ha5, hr5, hb5⟩
                rw [Lnk.fs_tick] at hr5
                obtain ⟨B5, c5, rfl, _, _⟩ := hr5.form
                have htick2 := tick_ok g F' (Lnk.tick n (Lnk.fs W)).1 n HW.out.2 (Lnk.fs_fine2 W n hW64) w5 ha5
                rw [Lnk.fs_tick2 W n HW.out.1.1] at htick2
                have HB5 := Lib.hid hb5
                clear ha5 hr5 hb5)
             | (with_reducible refine htick2.mono ?_
                rintro r w6 ⟨v, rfl, ha6, hr6, hb6⟩
                obtain ⟨B6, c6, rfl, _, _⟩ := hr6.form
                have HB6 := Lib.hid hb6
                clear ha6 hr6 hb6))
        | (go_at_call 20
           refine (send_nil _ _).mono ?_
           rintro r w4 ⟨rfl, h4⟩
           subst h4)
        | (go_at_call 12
           refine (got_nil _).mono ?_
           rintro r w4 ⟨rfl, h4⟩
           subst h4)
        | (go_at_call 15
           refine (idle_nil _).mono ?_
           rintro r w4 ⟨rfl, h4⟩
           subst h4)
        | (go_at_call 28
           refine (refused_nil _).mono ?_
           rintro r w4 ⟨rfl, h4⟩
           subst h4))
      go_ret
      have z3 := HB.out.size
      have z5 := HB5.out.size
      exact ⟨rfl, HB.out.trans ((HB5.out.below z3 HF'.out).trans (HB6.out.below (by omega) HF'.out))⟩
end Go.Proofs.Ytgkadhogfejheaa
