/- The example of a link: plain law and walk. -/
import Derived.Test.YtgkadhogfejheaaZLnkI
import Derived.Test.YtgkadhogfejheaaZPacV
set_option linter.unusedVariables false
set_option linter.unusedSimpArgs false
namespace Go.Proofs.Ytgkadhogfejheaa
open Go.RowKit

namespace Mem
/-- a slice of one string -/
theorem Row.one {w : World} {base : Nat} {e : TypeId} {v : Value} {u : Value} (h : Row w base e 1 v 1 [u]) : ∃ p off c, v = .slice (some ⟨p, off, none⟩) 1 c ∧ base ≤ p ∧ p < w.heap.size ∧ w.cell? ⟨p, off, none⟩ = some u := by
  rcases h.2 with ⟨_, h0⟩ | ⟨p, off, c, cur, rfl, h1, h2, _, _, _, h3⟩
  · cases h0
  · exact ⟨p, off, c, rfl, h1, (Array.getElem?_eq_some_iff.1 h2).1, (cell_of_row w p off _ _ _ h2).trans (by simpa using h3 0 u rfl)⟩
end Mem
namespace Lnk
theorem laws : ∃ wt hd, Law wt hd := by
  refine ⟨fun m d s => Classical.choose (waits_both m d s), fun m d s t => (Classical.choose (hears_both m d t s), Classical.choose (Classical.choose_spec (hears_both m d t s)), Classical.choose (Classical.choose_spec (Classical.choose_spec (hears_both m d t s)))), ?_⟩
  refine { wait := fun m d s => ?_, heard := fun m d s t w => ?_ }
  · have h := Classical.choose_spec (waits_both m d s)
    exact ⟨h.1, fun t w ht => h.2.1 t w ht⟩
  · exact (Classical.choose_spec (Classical.choose_spec (Classical.choose_spec (hears_both m d t s)))).1 w

/-- the example: the one end, behind its Send and Tick -/
def a1 : St := send (start 3) [97]
def fa : Frm.F := ⟨1, 3, 1, 0, [97]⟩
theorem a1_tick (n : Nat) : (tick n a1).2 = [Frm.put fa] ∧ (tick n a1).1.out.length = 1 := by
  constructor
  · rfl
  · rfl
theorem a1_fine : Fine a1 := by
  refine ⟨by decide, by decide, by decide, fun x hx => ?_⟩
  have : x = ⟨1, 0, 0, [97]⟩ := by simpa [a1, send, start] using hx
  subst this
  exact ⟨by decide, by decide, by decide, by decide⟩
theorem fa_ok : Frm.okB fa = true := by decide
theorem fa_get : Frm.get (Frm.put fa) = (fa, 0) := Frm.get_put fa fa_ok
/-- the other one, behind the first Take -/
def b1 : St := { start 3 with got := 1, owed := true, early := upd (upd (fun _ => none) 1 (some [97])) 1 none, room := 1 }
theorem b1_told (hd : Nat → Nat → Bool → Nat → Nat × Nat × Bool) : told (0 + 9) { acked hd 0 (start 3) with owed := true, early := upd (start 3).early 1 (some [97]), room := (start 3).room + 1 } = (b1, [[97]]) := by
  rfl
theorem b1_same (hd : Nat → Nat → Bool → Nat → Nat × Nat × Bool) : { acked hd 0 b1 with owed := true } = b1 := rfl
theorem b1_fine : Fine b1 := by
  refine ⟨by decide, by decide, by decide, fun x hx => ?_⟩
  cases hx
theorem b1_tick (n : Nat) : (tick n b1).2 = [Frm.put ⟨2, 3, 0, 1, []⟩] ∧ (tick n b1).1.got = 1 := ⟨rfl, rfl⟩
theorem fa_head : Frm.head fa = [70, 83, 1, 3, 1, 0, 1, 97] := by
  simp [Frm.head, fa, Num.put]
theorem put_short : (Frm.put fa).length < 2 ^ 61 := by
  unfold Frm.put
  rw [List.length_append, Frm.four_len, fa_head]
  decide
end Lnk

set_option maxRecDepth 100000 in
set_option maxHeartbeats 1000000 in
theorem link_alive (w : World) : Calls Try.prog 7 #[] w fun e w' => e = .returned (.bool true) ∧ Below w.heap.size w w' := by
  obtain ⟨wt, hd, law⟩ := Lnk.laws
  have LAW := Lib.hid law
  clear law
  go_enter Try.func7, Try.ntmps7
  have hnew := fun w => link_new_at 3 3 rfl (by omega) w
  go_upto_region 1 with (fail)
  go_upto_region 2 with (go_at_call 17; refine (hnew _).mono ?_; rintro r w1 ⟨rfl, ha1, hb1⟩; have HA := Lib.hid ha1; have HB1 := Lib.hid hb1; clear ha1 hb1)
  go_upto_region 3 with (go_at_call 17; refine (hnew _).mono ?_; rintro r w2 ⟨rfl, ha2, hb2⟩; have HB := Lib.hid ha2; have HB2 := Lib.hid hb2; clear ha2 hb2)
  clear hnew
  obtain ⟨ga, hga⟩ : ∃ ga, w.heap.size + 1 = ga := ⟨_, rfl⟩
  obtain ⟨gb, hgb⟩ : ∃ gb, w1.heap.size + 1 = gb := ⟨_, rfl⟩
  rw [hga, hgb]
  have a0 := HA.out.below HB2.out
  have b0 := HB.out
  rw [hga] at a0
  rw [hgb] at b0
  have hFa : ∀ k, (fun k => k = ga ∨ k = w.heap.size) k → w.heap.size ≤ k := fun k hk => by rcases hk with e | e <;> omega
  have hFab : ∀ k, (fun k => k = gb ∨ k = w1.heap.size) k → ¬ (fun k => k = ga ∨ k = w.heap.size) k := fun k hk hk2 => by
    have h1 : ga < w1.heap.size := by obtain ⟨_, _, h⟩ := HA.out; rw [hga] at h; exact h.lt ga h.fg
    have h2 : w.heap.size < w1.heap.size := by obtain ⟨_, _, h⟩ := HA.out; exact h.lt _ (.inr rfl)
    rcases hk with e | e <;> rcases hk2 with e2 | e2 <;> omega
  have hFb : ∀ k, (fun k => k = gb ∨ k = w1.heap.size) k → w1.heap.size ≤ k := fun k hk => by rcases hk with e | e <;> omega
  generalize (fun k => k = ga ∨ k = w.heap.size) = FA at a0 hFa hFab
  generalize (fun k => k = gb ∨ k = w1.heap.size) = FB at b0 hFab hFb
  have B02 := Lib.hid (Mem.then_ HB1.out HB2.out)
  have A0 := Lib.hid a0
  have B0 := Lib.hid b0
  have HFA := Lib.hid hFa
  have HFB := Lib.hid hFb
  have HFAB := Lib.hid hFab
  have SZ1 : w.heap.size ≤ w1.heap.size := HB1.out.size
  clear a0 b0 HA HB hga hgb hFa hFb hFab HB1
  go_upto_region 5 with (go_at_call 20; refine (send_ok ga FA (Lnk.start 3) [97] (by decide) (by decide) (by decide) _ A0.out).mono ?_; rintro r w3 ⟨rfl, hb3, FA2, ha3, hf3⟩; have A3 := Lib.hid ha3; have B3 := Lib.hid hb3; have HF3 := Lib.hid hf3; clear ha3 hb3 hf3)
  have hab2 : ∀ k, FB k → ¬ FA2 k := fun k hk hk2 => by
    rcases HF3.out k hk2 with h | h
    · exact HFAB.out k hk h
    · obtain ⟨_, _, h0⟩ := B0.out
      have := h0.lt k hk
      omega
  have HAB2 := Lib.hid hab2
  have Bb3 := Lib.hid (B0.out.keep B3.out HFAB.out)
  clear hab2
  obtain ⟨n, hn⟩ : ∃ n, wt 0 0 false = n := ⟨_, rfl⟩
  have hw := (LAW.out.wait 0 0 false)
  rw [hn] at hw
  have HW := Lib.hid hw
  clear hw hn
  go_upto_region 6 with (go_at_call 18; refine (tick_ok ga FA2 Lnk.a1 n HW.out.2 Lnk.a1_fine _ A3.out).mono ?_; rintro r w4 ⟨v, rfl, ha4, hr4, hb4⟩; have A4 := Lib.hid ha4; have B4 := Lib.hid hb4; have R4 := Lib.hid hr4; clear ha4 hb4 hr4)
  obtain ⟨S, hS⟩ : ∃ S, Frm.put Lnk.fa = S := ⟨_, rfl⟩
  have hSg := Lnk.fa_get
  have hSl := Lnk.put_short
  have r4 : Mem.Row w4 w3.heap.size 9 1 v 1 [.string (Mem.str (Frm.put Lnk.fa))] := by have := R4.out; rw [(Lnk.a1_tick n).1] at this; exact this
  rw [hS] at hSg hSl r4
  have HSG := Lib.hid hSg
  have HSL := Lib.hid hSl
  obtain ⟨p, off, c, rfl, hp1, hp2, cl⟩ := r4.one
  clear hS hSg hSl r4
  have hpb : ¬ FB p := fun h => by
    obtain ⟨_, _, h0⟩ := Bb3.out
    have := h0.lt p h
    omega
  have HPB := Lib.hid hpb
  have HP2 := Lib.hid hp2
  have Bb4 := Lib.hid (Bb3.out.keep B4.out HAB2.out)
  clear hpb hp1 hp2
  have b1e : Lnk.told ((Lnk.start 3).got + 9) { Lnk.acked hd 0 (Lnk.start 3) with owed := true, early := Lnk.upd (Lnk.start 3).early 1 (some [97]), room := (Lnk.start 3).room + 1 } = (Lnk.b1, [[97]]) := Lnk.b1_told hd
  have htake := take_new LAW.out gb FB (Lnk.start 3) S HSL.out (by decide) (by decide) (fun x hx => by cases hx) 3 0 1 [97] (by decide) ⟨rfl, by decide, by decide⟩ (by decide) (by decide) (fun _ _ => rfl) HSG.out rfl w4 Bb4.out
  rw [b1e] at htake
  clear b1e
  go_upto_region 9 with (go_at_call 22; refine htake.mono ?_; rintro r w5 ⟨v2, rfl, ha5, hr5, hb5⟩; have cl5 := (World.cell?_of_block (hb5.block p HP2.out HPB.out)).trans cl; have A5 := Lib.hid ha5; have B5 := Lib.hid hb5; have R5 := Lib.hid hr5; clear ha5 hb5 hr5)
  clear htake cl
  have r5 : Mem.Row w5 w4.heap.size 9 1 v2 1 [.string ⟨#[97]⟩] := R5.out
  obtain ⟨p2, off2, c2, rfl, hq1, hq2, dl⟩ := r5.one
  clear r5
  have hqb : ¬ FB p2 := fun h => by
    obtain ⟨_, _, h0⟩ := Bb4.out
    have := h0.lt p2 h
    omega
  have HQB := Lib.hid hqb
  have HQ2 := Lib.hid hq2
  clear hqb hq1 hq2
  have htwice := take_twice LAW.out gb FB Lnk.b1 S HSL.out (by decide) (by decide) (fun x hx => by cases hx) 3 0 1 [97] (by decide) (.inr (by decide)) HSG.out rfl w5 A5.out
  go_upto_region 10 with (go_at_call 22; refine htwice.mono ?_; rintro r w6 ⟨rfl, ha6, hb6⟩; have dl6 := (World.cell?_of_block (hb6.block p2 HQ2.out HQB.out)).trans dl; have A6 := Lib.hid ha6; have B6 := Lib.hid hb6; clear ha6 hb6)
  clear htwice cl5 dl
  rw [Lnk.b1_same] at A6
  have htick := fun (hw : Lnk.WaitIs 0 0 false n) => tick_ok gb FB Lnk.b1 n hw Lnk.b1_fine w6 A6.out
  have htick := htick HW.out.2
  rw [(Lnk.b1_tick n).1] at htick
  have Aa4 := Lib.hid (A4.out.keep (B5.out.trans B6.out) (fun k h1 h2 => HAB2.out k h2 h1))
  go_wp2_with (first
    | (go_at_call 18
       refine htick.mono ?_
       rintro r w7 ⟨v3, rfl, ha7, hr7, hb7⟩
       obtain ⟨B3', c3, rfl, _, _⟩ := hr7.form
       have aa7 := Aa4.out.keep hb7 (fun k h1 h2 => HAB2.out k h2 h1)
       have g5 : w7.cell? ⟨gb, 5, none⟩ = some (.int .i64 1) := by
         obtain ⟨_, _, h0⟩ := ha7
         exact (cell_of_row _ _ 5 _ _ _ h0.row).trans rfl
       obtain ⟨A2, cc, hgo⟩ : ∃ A cc, w7.cell? ⟨ga, 2, none⟩ = some (.slice A 1 cc) := by
         obtain ⟨o, _, h0⟩ := aa7
         obtain ⟨A, cc, rfl, _⟩ := h0.own.form
         exact ⟨A, cc, (cell_of_row _ _ 2 _ _ _ h0.row).trans rfl⟩
       have hgot := got_at gb 1 w7 g5
       have hwaits := waits_at ga A2 1 cc w7 hgo
       have B7 := Lib.hid hb7
       clear hb7 ha7 hr7 aa7)
    | (go_at_call 12
       refine hgot.mono ?_
       rintro r w8 ⟨rfl, rfl⟩)
    | (go_at_call 26
       refine hwaits.mono ?_
       rintro r w8 ⟨rfl, rfl⟩))
  go_ret
  refine ⟨rfl, ?_⟩
  have hF2 : ∀ k, FA2 k → w.heap.size ≤ k := fun k hk => by
    rcases HF3.out k hk with h | h
    · exact HFA.out k h
    · have := B02.out.size
      omega
  have hFB2 : ∀ k, FB k → w.heap.size ≤ k := fun k hk => Nat.le_trans SZ1 (HFB.out k hk)
  have s2 := B02.out.size
  have s3 := B3.out.size
  have s4 := B4.out.size
  have s5 := B5.out.size
  have s6 := B6.out.size
  exact B02.out.trans (((B3.out.below s2 HFA.out).trans ((B4.out.below (by omega) hF2).trans ((B5.out.below (by omega) hFB2).trans ((B6.out.below (by omega) hFB2).trans (B7.out.below (by omega) hFB2))))))
end Go.Proofs.Ytgkadhogfejheaa
