/- LinkPlays: the walk: frames. -/
import Derived.Test.YtgkadhogfejheaaZPlyH
set_option linter.unusedVariables false
set_option linter.unusedSimpArgs false
namespace Go.Proofs.Ytgkadhogfejheaa
open Go.RowKit

set_option maxRecDepth 100000 in
set_option maxHeartbeats 4000000 in
theorem linkPlays_frames : linkPlays_skel.d := by
  intro a0 cap1 w l hcap wt hd LAW HWAIT HEARS HFIT Q HGOOD w2 HB1 ns HNS HSITE n HN HN60 w3 w4 w5 K g hg gy wr u4 u9 u10 u11 u12 u13 u37 u38 u39 u40 u41 u42 u43 u44 u45 u46 u47 u48 u49 u50 u51 u52 u53 u54 u55 u56 u57 u58 u59 u60 u61 u62 u63 u64 u65 u66 u67 u68 u69 u70 u71 u72 u73 u74 u75 u76 u77 u78 u79 u80 u81 u82 u83 u84 u85 u86 u87 u88 u89 u90 u91 u92 u93 u94 u95 u96 u97 u98 u99 u100 u101 u102 u103 u104 u105 u106 u107 u108 u109 u110 u111 u112 u113 u114 u115 u116 u117 u118 u119 u120 u121 u122 u123 u124 u125 u126 u127 u128 u129 u130 u131 u132 u133 u134 u135 u136 u137 u138 u139 u140 u141 u142 u143 u144 u145 u146 u147 u148 u149 u150 u151 u152 u153 u154 u155 u156 u157 u158 u159 u160 u161 u162 u163 u164 u165 u166 u167 u168 u169 u170 u171 i F e C hlt s b o HAT c0 c1 hlt2 hd3 HPL HGO HWI HI60 HG9 HSS HACT HBB HS hrem hD7
  have c2 : wr.cell? ⟨b, o + i * 7 + 2, none⟩ = some (.int .i64 s.f.kind) := Mem.keep HBB.out (HACT.out i s HS.out 2 _ rfl)
  have c3 : wr.cell? ⟨b, o + i * 7 + 3, none⟩ = some (.int .i64 s.f.site) := Mem.keep HBB.out (HACT.out i s HS.out 3 _ rfl)
  have c4 : wr.cell? ⟨b, o + i * 7 + 4, none⟩ = some (.int .i64 s.f.seq) := Mem.keep HBB.out (HACT.out i s HS.out 4 _ rfl)
  have c5 : wr.cell? ⟨b, o + i * 7 + 5, none⟩ = some (.int .i64 s.f.ack) := Mem.keep HBB.out (HACT.out i s HS.out 5 _ rfl)
  have c6 : wr.cell? ⟨b, o + i * 7 + 6, none⟩ = some (.string (Mem.str s.f.body)) := Mem.keep HBB.out (HACT.out i s HS.out 6 _ rfl)
  have hmay : ∀ w', Calls Try.prog 24 #[.agg #[.int .i64 s.f.kind, .int .i64 s.f.site, .int .i64 s.f.seq, .int .i64 s.f.ack, .string (Mem.str s.f.body)]] w' fun e w'' => e = .returned (.bool (Frm.okB s.f)) ∧ Below w'.heap.size w' w'' := fun w' => frame_refmay s.f w'
  by_cases hok : Frm.okB s.f = true
  · obtain ⟨X, hX⟩ : ∃ X, Frm.put s.f = X := ⟨_, rfl⟩
    have hx61 : X.length < 2 ^ 61 := by rw [← hX]; exact Ply.put_short3 s.f hok
    have hput : ∀ w', Calls Try.prog 25 #[.agg #[.int .i64 s.f.kind, .int .i64 s.f.site, .int .i64 s.f.seq, .int .i64 s.f.ack, .string (Mem.str s.f.body)]] w' fun e w'' => e = .returned (.string (Mem.str X)) ∧ Below w'.heap.size w' w'' := fun w' => by
      have h := frame_refput s.f hok w'
      rw [hX] at h
      exact h
    rw [hok] at hmay
    have H61 := Lib.hid hx61
    clear hx61 hX hok hD7
    go_wp2_with (first
      | (go_at_call 24
         refine (hmay _).mono ?_
         rintro r w5 ⟨rfl, hb5⟩
         have PL5 := Lib.hid (HPL.out.later hb5)
         have e2 := Mem.keep hb5 c2
         have e3 := Mem.keep hb5 c3
         have e4 := Mem.keep hb5 c4
         have e5 := Mem.keep hb5 c5
         have e6 := Mem.keep hb5 c6
         clear hb5 c2 c3 c4 c5 c6)
      | (go_at_call 25
         refine (hput _).mono ?_
         rintro r w5b ⟨rfl, hb5⟩
         have PL6 := Lib.hid (PL5.out.later hb5)
         clear hb5 e2 e3 e4 e5 e6)
      | (go_at_call 22
         refine (link_take LAW.out g F e 540 HG9.out (by decide) X H61.out w5b PL6.out.at_).mono ?_
         rintro r w6 ⟨va, rfl, ha6, hr6, hb6⟩
         have A6 := Lib.hid ha6
         have RA6 := Lib.hid hr6
         have B6 := Lib.hid hb6
         have M6 := Lib.hid (PL6.out.mid hb6 fun k hk => .inl hk)
         have SS6 := Lib.hid (show ∀ k, F k ∨ k = gy → k < w6.heap.size from fun k hk => by
           have h1 := hb6.size
           rcases hk with hk | hk
           · have := Lnk.At.lt PL6.out.at_ hk; omega
           · have := PL6.out.gyLt; omega)
         clear ha6 hr6 hb6)
      | (with_reducible refine wpList_load_row (o := ⟨some 69, _, _, _, _, _⟩) ?_ 52 (.tmp 7) ?_ gy ?_ 52 C (0, 0) _ ?_ Try.underlying52 ?_ ?_ ?_
         · rfl
         · rfl
         · rfl
         · exact M6.out.1
         · rfl
         · exact HPL.out.size)
      | (go_at_call 23
         refine (ref_take HEARS.out e (.agg C) i 540 HG9.out (by decide) (by have := HI60.out; omega) X H61.out w6 SS6.out M6.out.2).mono ?_
         rintro r w7 ⟨v7, vb, rfl, hr7, ht7, hb7⟩
         obtain ⟨C7, rfl⟩ := hr7.agg
         have RB7 := Lib.hid ht7
         have R7 := Lib.hid hr7
         have B7 := Lib.hid hb7
         have Y7 := Lib.hid ((hb7.block gy (SS6.out gy (.inr rfl))).trans M6.out.1)
         clear hr7 ht7 hb7)
      | (with_reducible refine Mem.wpList_store ?_ 52 (.tmp 7) (.tmp 72) ?_ gy C7 ?_ ?_ 52 _ Y7.out ?_ ?_ ?_ ?_
         · rfl
         · rfl
         · rfl
         · rfl
         · exact R7.out.size
         · exact HPL.out.size2.trans R7.out.size2.symm
         · exact R7.out.one
         intro w8 hp8
         have P8 := Lib.hid hp8
         clear hp8))
    obtain ⟨e2, he2⟩ : ∃ e2, (Lnk.take hd e X).1 = e2 := ⟨_, rfl⟩
    obtain ⟨LS, hLS⟩ : ∃ LS, (Lnk.take hd e X).2.1 = LS := ⟨_, rfl⟩
    have PN := Lib.hid (show Ply.PL w2 w8 g gy F e2 C7 (i + 1) by
      rw [← he2]
      exact PL6.out.next A6.out B6.out (fun k hk => .inl hk) B7.out R7.out P8.out (Lnk.good_take PL6.out.good hd X) (Nat.le_trans (Ply.take_len2 hd e X) PL6.out.len))
    have hgyb : gy < w5b.heap.size := PL6.out.gyLt
    have ta : Lnk.Txt w8 w5b.heap.size va LS := by rw [← hLS]; exact ((Mem.Row.below RA6.out B7.out).keep fun k hk ho => P8.out.other k (by have := (Mem.Row.block (Mem.Row.below RA6.out B7.out) ho).1; omega))
    have tb : Lnk.Txt w8 w6.heap.size vb LS := by rw [← hLS]; exact (Mem.Row.keep RB7.out fun k hk ho => P8.out.other k (by have := (Mem.Row.block RB7.out ho).1; have := B6.out.size; omega))
    have hls : LS.length ≤ 1000000 := by have := Lnk.take_len hd e X; rw [hLS] at this; omega
    obtain ⟨pa, ca, rfl, -, -⟩ := ta.form
    obtain ⟨pb, cb, rfl, -, -⟩ := tb.form
    obtain ⟨NL, hNL⟩ : ∃ NL, LS.length = NL := ⟨_, rfl⟩
    have mS : ∀ j : Mem.Later w8, Calls Try.prog 14 #[.slice pa LS.length ca, .slice pb LS.length cb] j.w fun e w' => e = .returned (.bool true) ∧ ∃ z : Mem.Later w8, w' = z.w := fun j =>
      Mem.later_call ((ref20_same _ _ _ _ _ _ j.w (ta.below j.h) (tb.below j.h) hls).mono fun e w' h => ⟨h.1.trans (by rw [decide_eq_true rfl]), h.2⟩)
    rw [hNL] at mS ⊢
    clear ta tb hls hNL hLS he2 hgyb A6 RA6 B6 M6 RB7 R7 B7 Y7 P8 c0 c1 PL5 PL6 SS6 hmay hput
    have hP := PN.out
    obtain ⟨ov, ob, hl⟩ := hP.at_
    obtain ⟨Ao, co2, hov, -, -⟩ := hl.own.form
    subst hov
    obtain ⟨pre2, inn2, va2, vi2, hC, hR⟩ := hP.rat
    injection hC with hC
    have hyr := hP.row
    rw [hC] at hyr
    have hN5 : e2.given < 1099511627776 := by have h1 := hP.good.2.1.2.1; have h2 := HI60.out; omega
    have mg2 : ∀ j : Mem.Later w8, j.w.cell? ⟨g, 2, none⟩ = some (.slice Ao e2.out.length co2) := fun j => j.cell ((cell_of_row _ _ 2 _ _ _ hl.row).trans rfl)
    have mg5 : ∀ j : Mem.Later w8, j.w.cell? ⟨g, 5, none⟩ = some (.int .i64 e2.got) := fun j => j.cell ((cell_of_row _ _ 5 _ _ _ hl.row).trans rfl)
    have mg10 : ∀ j : Mem.Later w8, j.w.cell? ⟨g, 10, none⟩ = some (.bool e2.owed) := fun j => j.cell ((cell_of_row _ _ 10 _ _ _ hl.row).trans rfl)
    have mg11 : ∀ j : Mem.Later w8, j.w.cell? ⟨g, 11, none⟩ = some (.int .i64 e2.refused) := fun j => j.cell ((cell_of_row _ _ 11 _ _ _ hl.row).trans rfl)
    have y0 : ∀ j : Mem.Later w8, j.w.cell? ⟨gy, 0, none⟩ = some (.int .i64 e2.site) := fun j => j.cell ((cell_of_row _ _ 0 _ _ _ hyr).trans rfl)
    have y1 : ∀ j : Mem.Later w8, j.w.cell? ⟨gy, 1, none⟩ = some (.int .i64 e2.now) := fun j => j.cell ((cell_of_row _ _ 1 _ _ _ hyr).trans rfl)
    have y2 : ∀ j : Mem.Later w8, j.w.cell? ⟨gy, 2, none⟩ = some va2 := fun j => j.cell ((cell_of_row _ _ 2 _ _ _ hyr).trans rfl)
    have y3 : ∀ j : Mem.Later w8, j.w.cell? ⟨gy, 3, none⟩ = some (.int .i64 pre2.length) := fun j => j.cell ((cell_of_row _ _ 3 _ _ _ hyr).trans rfl)
    have y4 : ∀ j : Mem.Later w8, j.w.cell? ⟨gy, 4, none⟩ = some (.int .i64 e2.top) := fun j => j.cell ((cell_of_row _ _ 4 _ _ _ hyr).trans rfl)
    have y5 : ∀ j : Mem.Later w8, j.w.cell? ⟨gy, 5, none⟩ = some (.int .i64 e2.got) := fun j => j.cell ((cell_of_row _ _ 5 _ _ _ hyr).trans rfl)
    have y6 : ∀ j : Mem.Later w8, j.w.cell? ⟨gy, 6, none⟩ = some vi2 := fun j => j.cell ((cell_of_row _ _ 6 _ _ _ hyr).trans rfl)
    have y7 : ∀ j : Mem.Later w8, j.w.cell? ⟨gy, 7, none⟩ = some (.float .f64 e2.mean) := fun j => j.cell ((cell_of_row _ _ 7 _ _ _ hyr).trans rfl)
    have y8 : ∀ j : Mem.Later w8, j.w.cell? ⟨gy, 8, none⟩ = some (.float .f64 e2.dev) := fun j => j.cell ((cell_of_row _ _ 8 _ _ _ hyr).trans rfl)
    have y9 : ∀ j : Mem.Later w8, j.w.cell? ⟨gy, 9, none⟩ = some (.bool e2.any) := fun j => j.cell ((cell_of_row _ _ 9 _ _ _ hyr).trans rfl)
    have y10 : ∀ j : Mem.Later w8, j.w.cell? ⟨gy, 10, none⟩ = some (.bool e2.owed) := fun j => j.cell ((cell_of_row _ _ 10 _ _ _ hyr).trans rfl)
    have y11 : ∀ j : Mem.Later w8, j.w.cell? ⟨gy, 11, none⟩ = some (.int .i64 e2.refused) := fun j => j.cell ((cell_of_row _ _ 11 _ _ _ hyr).trans rfl)
    have mW : ∀ j : Mem.Later w8, Calls Try.prog 26 #[.pointer (some ⟨g, 0, none⟩)] j.w fun e w' => e = .returned (.int .i64 e2.out.length) ∧ ∃ z : Mem.Later w8, w' = z.w := fun j => Mem.later_same ((waits_at g Ao _ co2 j.w (mg2 j)).mono fun _ _ h => ⟨h.1, h.2.symm⟩)
    have mG : ∀ j : Mem.Later w8, Calls Try.prog 12 #[.pointer (some ⟨g, 0, none⟩)] j.w fun e w' => e = .returned (.int .i64 e2.got) ∧ ∃ z : Mem.Later w8, w' = z.w := fun j => Mem.later_same ((got_at g _ j.w (mg5 j)).mono fun _ _ h => ⟨h.1, h.2.symm⟩)
    have mR : ∀ j : Mem.Later w8, Calls Try.prog 28 #[.pointer (some ⟨g, 0, none⟩)] j.w fun e w' => e = .returned (.int .i64 e2.refused) ∧ ∃ z : Mem.Later w8, w' = z.w := fun j => Mem.later_same ((refused_at g _ j.w (mg11 j)).mono fun _ _ h => ⟨h.1, h.2.symm⟩)
    have mI : ∀ j : Mem.Later w8, Calls Try.prog 15 #[.pointer (some ⟨g, 0, none⟩)] j.w fun e w' => e = .returned (.bool (decide (e2.out.length = 0) && !e2.owed)) ∧ ∃ z : Mem.Later w8, w' = z.w := fun j => Mem.later_same ((idle_at g Ao _ co2 _ j.w (mg2 j) (mg10 j)).mono fun _ _ h => ⟨h.1, h.2.symm⟩)
    have mRW : ∀ j : Mem.Later w8, Calls Try.prog 27 #[.agg #[.int .i64 e2.site, .int .i64 e2.now, va2, .int .i64 pre2.length, .int .i64 e2.top, .int .i64 e2.got, vi2, .float .f64 e2.mean, .float .f64 e2.dev, .bool e2.any, .bool e2.owed, .int .i64 e2.refused]] j.w fun e w' => e = .returned (.int .i64 e2.out.length) ∧ ∃ z : Mem.Later w8, w' = z.w := fun j => Mem.later_call (ref_waits e2 _ _ hN5 j.w ⟨pre2, inn2, va2, vi2, rfl, hR.below j.h⟩)
    obtain ⟨LW, hLW⟩ : ∃ LW, e2.out.length = LW := ⟨_, rfl⟩
    obtain ⟨ow, how⟩ : ∃ ow, e2.owed = ow := ⟨_, rfl⟩
    rw [hLW] at mW mI mRW
    rw [how] at mI mRW y10
    clear hP hl hR hyr hC hN5 mg2 mg5 mg10 mg11 hLW how
    by_cases hz : LW = 0
    · subst hz
      refine Mem.wp_region_later (by kernel_rfl) (by kernel_rfl) ?_
      repeat (go_big_quiet_step (first | (go_at_call 14; exact mS _) | (go_at_call 26; exact mW _) | (go_at_call 27; exact mRW _) | (go_at_call 12; exact mG _) | (go_at_call 28; exact mR _) | (go_at_call 15; exact mI _)))
      refine wpQuiet_nil ?_
      intro w9 hw9
      obtain ⟨i9, hi9⟩ := hw9
      have h9 : Below w8.heap.size w8 w9 := hi9 ▸ i9.h
      clear hi9 i9 mS mW mRW mG mR mI y0 y1 y2 y3 y4 y5 y6 y7 y8 y9 y10 y11
      have P9 := Lib.hid (PN.out.later h9)
      clear h9
      go_wp2
      rw [HWI.out]
      refine ⟨⟨i + 1, _, e2, C7, hlt, rfl, P9.out⟩, ?_⟩
      have hm1 : ((i : Int) + 1).toNat = i + 1 := rfl
      have hm2 : ((i : Nat) : Int).toNat = i := rfl
      show n - ((i : Int) + 1).toNat < n - ((i : Nat) : Int).toNat
      rw [hm1, hm2]
      omega
    · have z1 : ((LW : Int) == 0) = false := by simp; omega
      have z2 : decide (LW = 0) = false := decide_eq_false hz
      refine Mem.wp_region_later (by kernel_rfl) (by kernel_rfl) ?_
      repeat (go_big_quiet_step (first | (go_at_call 14; exact mS _) | (go_at_call 26; exact mW _) | (go_at_call 27; exact mRW _) | (go_at_call 12; exact mG _) | (go_at_call 28; exact mR _) | (go_at_call 15; exact mI _)))
      refine wpQuiet_nil ?_
      intro w9 hw9
      obtain ⟨i9, hi9⟩ := hw9
      have h9 : Below w8.heap.size w8 w9 := hi9 ▸ i9.h
      clear z1 z2 hi9 i9 mS mW mRW mG mR mI y0 y1 y2 y3 y4 y5 y6 y7 y8 y9 y10 y11
      have P9 := Lib.hid (PN.out.later h9)
      clear h9
      go_wp2
      rw [HWI.out]
      refine ⟨⟨i + 1, _, e2, C7, hlt, rfl, P9.out⟩, ?_⟩
      have hm1 : ((i : Int) + 1).toNat = i + 1 := rfl
      have hm2 : ((i : Nat) : Int).toNat = i := rfl
      show n - ((i : Int) + 1).toNat < n - ((i : Nat) : Int).toNat
      rw [hm1, hm2]
      omega
  · have hok2 : Frm.okB s.f = false := by simpa using hok
    rw [hok2] at hmay
    go_wp2_with (go_at_call 24
                 refine (hmay _).mono ?_
                 rintro r w6 ⟨rfl, hb6⟩
                 have P9 := Lib.hid (HPL.out.skip hb6)
                 clear hb6)
    rw [HWI.out]
    refine ⟨⟨i + 1, _, e, C, hlt, rfl, P9.out⟩, ?_⟩
    have hm1 : ((i : Int) + 1).toNat = i + 1 := rfl
    have hm2 : ((i : Nat) : Int).toNat = i := rfl
    show n - ((i : Int) + 1).toNat < n - ((i : Nat) : Int).toNat
    rw [hm1, hm2]
    omega
end Go.Proofs.Ytgkadhogfejheaa
