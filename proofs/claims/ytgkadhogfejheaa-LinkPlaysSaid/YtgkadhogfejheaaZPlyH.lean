/- LinkPlays: the walk. -/
import Derived.Test.YtgkadhogfejheaaZPlyG
import Derived.Test.YtgkadhogfejheaaQM
set_option linter.unusedVariables false
set_option linter.unusedSimpArgs false
namespace Go.Proofs.Ytgkadhogfejheaa
open Go.RowKit

theorem Ply.ActsAt.keep {w w1 : World} {a : Option Addr} {l : List Ply.Ax} (h : Ply.ActsAt w a l) (hb : Below w.heap.size w w1) : Ply.ActsAt w1 a l := fun hp => by
  obtain ⟨b, o, e, hat⟩ := h hp
  exact ⟨b, o, e, fun j s hj i u hu => Mem.keep hb (hat j s hj i u hu)⟩

structure Four (G : Prop) where
  a : Prop
  b : Prop
  c : Prop
  d : Prop
  all : a → b → c → d → G

set_option maxRecDepth 100000 in
set_option maxHeartbeats 8000000 in
noncomputable def linkPlays_skel :
    Four (∀ (a0 : Int) (a1 : Option Addr) (len1 cap1 : Nat) (w : World) (_wa0 : (Lit.int .i64 a0).wf = true) (_h1 : ∃ (H : Type) (enc : TypeId × Value → H) (d : DataW H) (p : List MemPlace), DataW.Trod enc Try.prog w 0 (fun _ => true) true 41 (.slice a1 len1 cap1) d p),
      Calls Try.prog 5 #[.int .i64 a0, .slice a1 len1 cap1] w fun e w' => e = .returned (.bool true) ∧ Below w.heap.size w w') := by
  apply Four.mk
  intro H0 H1 H2 H3 a0 a1 len1 cap1 w wa0 h1
  obtain ⟨tH, tenc, td, tp, h1⟩ := h1
  obtain ⟨l, rfl, hcap, hmax, hat, hfit⟩ := Ply.arg_acts h1
  obtain ⟨wt, hd, law, hwait, hears⟩ := Ply.laws2
  have LAW := Lib.hid law
  have HWAIT := Lib.hid hwait
  have HEARS := Lib.hid hears
  have HAT := Lib.hid hat
  have HFIT := Lib.hid hfit
  clear law hwait hears hat hfit h1 wa0 hmax
  clear td tp
  clear tenc
  clear tH
  go_enter Try.func5, Try.ntmps5
  go_upto_region 1 with (fail)
  go_upto_region 3 with (go_at_call 7; refine (link_alive _).mono ?_; rintro r w1 ⟨rfl, hb1⟩; have HB1 := Lib.hid hb1; clear hb1)
  have hgr := law_great l a1 cap1 w1 (HAT.out.keep HB1.out)
  by_cases hgood : l.length ≤ 60 ∧ ∀ s ∈ l, s.S.length ≤ 300 ∧ s.f.body.length ≤ 300
  · have hgr2 : Calls Try.prog 16 #[.slice a1 l.length cap1] w1 fun e w' => e = .returned (.bool false) ∧ w' = w1 := hgr.mono fun e w' h => by
      rcases h.2 with h2 | h2
      · exact absurd hgood h2.2
      · exact ⟨h2.1, h.1⟩
    have HGOOD := Lib.hid hgood
    clear hgr hgood
    go_upto_region 5 with (go_at_call 16; refine hgr2.mono ?_; rintro r w2 ⟨rfl, hw2⟩; subst hw2)
    clear hgr2
    by_cases hsite : 1 ≤ a0 ∧ a0 ≤ 16
    · obtain ⟨ns, hns⟩ : ∃ n : Nat, a0 = n := ⟨a0.toNat, by omega⟩
      have hnew := link_new_at a0 ns hns (by omega)
      have s1 : ¬ a0 < 1 := by omega
      have s2 : ¬ (16 : Int) < a0 := by omega
      have t1 : decide (a0 < 1) = false := decide_eq_false s1
      have t2 : decide ((16 : Int) < a0) = false := decide_eq_false s2
      have HNS := Lib.hid hns
      have HSITE := Lib.hid hsite
      clear hns hsite
      obtain ⟨n, hn⟩ : ∃ n, l.length = n := ⟨_, rfl⟩
      rw [hn]
      have HN := Lib.hid hn
      have HN60 := Lib.hid (show n ≤ 60 by rw [← hn]; exact HGOOD.out.1)
      clear hn
      go_wp2_with (first
        | (go_at_call 17
           refine (hnew _).mono ?_
           rintro r w3 ⟨rfl, ha3, hb3⟩
           have A3 := Lib.hid ha3
           have HB3 := Lib.hid hb3
           clear ha3 hb3)
        | (with_reducible refine Mem.wpList_alloc (o := ⟨some 7, _, _, _, _, _⟩) ?_ 52 ?_ _ Ply.zero_end ?_
           · rfl
           · rfl
           intro w4 hn4
           have N4 := Lib.hid hn4
           clear hn4)
        | (with_reducible refine Mem.wpList_store ?_ 52 (.tmp 7) (.tmp 36) ?_ w3.heap.size #[.int .i64 a0, .int .i64 0, .slice none 0 0, .int .i64 0, .int .i64 0, .int .i64 0, .slice none 0 0, .float .f64 0, .float .f64 0, .bool false, .bool false, .int .i64 0] ?_ ?_ 52 _ N4.out.row ?_ ?_ ?_ ?_
           · rfl
           · rfl
           · rfl
           · rfl
           · exact Ply.size_end
           · rfl
           · simp [Value.oneCell']
           intro w5 hp5
           have P5 := Lib.hid hp5
           clear hp5))
      have PS := Lib.hid (Ply.PL.start HNS.out (by have := HSITE.out; have := HNS.out; omega) A3.out HB3.out N4.out P5.out)
      clear A3 HB3 N4 P5 s1 s2 t1 t2 hnew
      obtain ⟨g, hg⟩ : ∃ g, w2.heap.size + 1 = g := ⟨_, rfl⟩
      obtain ⟨gy, hgy⟩ : ∃ gy, w3.heap.size = gy := ⟨_, rfl⟩
      rw [hg, hgy] at PS ⊢
      clear hgy
      go_loopw [8] (fun t8 wr => ∃ (i : Nat) (F : Nat → Prop) (e : Lnk.St) (C : Array Value), i ≤ n ∧ t8 = .int .i64 i ∧ Ply.PL w2 wr g gy F e C i) (fun t8 _ => n - (intOf t8).toNat)
      case atStart => exact ⟨0, _, _, _, Nat.zero_le _, rfl, PS.out⟩
      case round =>
        clear PS
        obtain ⟨i, F, e, C, hi, rfl, hpl⟩ := hrel
        by_cases hlt : i < n
        · obtain ⟨s, hs⟩ : ∃ s, l[i]? = some s := ⟨_, List.getElem?_eq_getElem (by rw [HN.out]; exact hlt)⟩
          obtain ⟨b, o, rfl, hact⟩ := HAT.out (by rw [HN.out]; omega)
          have hgo := HGOOD.out.2 s (List.mem_of_getElem? hs)
          have hbb := Mem.then_ HB1.out hpl.bel
          have c0 : wr.cell? ⟨b, o + i * 7, none⟩ = some (.int .u8 s.d) := Mem.keep hbb (hact i s hs 0 _ rfl)
          have c1 := Mem.keep hbb (hact i s hs 1 _ rfl)
          have hlt2 : (i : Int) < (n : Int) := by omega
          have hd3 : decide ((i : Int) < (n : Int)) = true := decide_eq_true hlt2
          have hrem : Int.tmod (s.d : Int) 7 = ((s.d % 7 : Nat) : Int) := rfl
          obtain ⟨D, hD⟩ : ∃ D, s.d % 7 = D := ⟨_, rfl⟩
          have hD7 : D < 7 := by omega
          rw [hD] at hrem
          have HPL := Lib.hid hpl
          have HGO := Lib.hid hgo
          have HWI := Lib.hid (show wrap64 ((i : Int) + 1) = (i : Int) + 1 by have := HN60.out; unfold wrap64; omega)
          have HI60 := Lib.hid (show i < 60 by have := HN60.out; omega)
          have hgood := hpl.good.mono (M := 540) (by have := HN60.out; omega)
          have HG9 := Lib.hid hgood
          have HSS := Lib.hid (show ∀ k, F k ∨ k = gy → k < wr.heap.size from fun k hk => by
            rcases hk with hk | hk
            · exact Lnk.At.lt hpl.at_ hk
            · rw [hk]; exact hpl.gyLt)
          have HACT := Lib.hid hact
          have HBB := Lib.hid hbb
          have HS := Lib.hid hs
          clear hact hbb hpl hgo hD hgood hi hs
          rcases (show (D = 0 ∨ D = 1) ∨ (D = 2 ∨ D = 3) ∨ (D = 4 ∨ D = 5) ∨ D = 6 by omega) with hDD | hDD | hDD | rfl
          · rename_i Q K hK
            clear hK
            clear_value Q
            revert a0 cap1 w l hcap wt hd LAW HWAIT HEARS HFIT Q HGOOD w2 HB1 ns HNS HSITE n HN HN60 w3 w4 w5 K g hg gy wr u4 u9 u10 u11 u12 u13 u37 u38 u39 u40 u41 u42 u43 u44 u45 u46 u47 u48 u49 u50 u51 u52 u53 u54 u55 u56 u57 u58 u59 u60 u61 u62 u63 u64 u65 u66 u67 u68 u69 u70 u71 u72 u73 u74 u75 u76 u77 u78 u79 u80 u81 u82 u83 u84 u85 u86 u87 u88 u89 u90 u91 u92 u93 u94 u95 u96 u97 u98 u99 u100 u101 u102 u103 u104 u105 u106 u107 u108 u109 u110 u111 u112 u113 u114 u115 u116 u117 u118 u119 u120 u121 u122 u123 u124 u125 u126 u127 u128 u129 u130 u131 u132 u133 u134 u135 u136 u137 u138 u139 u140 u141 u142 u143 u144 u145 u146 u147 u148 u149 u150 u151 u152 u153 u154 u155 u156 u157 u158 u159 u160 u161 u162 u163 u164 u165 u166 u167 u168 u169 u170 u171 i F e C hlt s b o HAT c0 c1 hlt2 hd3 D hrem hD7 HPL HGO HWI HI60 HG9 HSS HACT HBB HS hDD
            exact H0
          · rename_i Q K hK
            clear hK
            clear_value Q
            revert a0 cap1 w l hcap wt hd LAW HWAIT HEARS HFIT Q HGOOD w2 HB1 ns HNS HSITE n HN HN60 w3 w4 w5 K g hg gy wr u4 u9 u10 u11 u12 u13 u37 u38 u39 u40 u41 u42 u43 u44 u45 u46 u47 u48 u49 u50 u51 u52 u53 u54 u55 u56 u57 u58 u59 u60 u61 u62 u63 u64 u65 u66 u67 u68 u69 u70 u71 u72 u73 u74 u75 u76 u77 u78 u79 u80 u81 u82 u83 u84 u85 u86 u87 u88 u89 u90 u91 u92 u93 u94 u95 u96 u97 u98 u99 u100 u101 u102 u103 u104 u105 u106 u107 u108 u109 u110 u111 u112 u113 u114 u115 u116 u117 u118 u119 u120 u121 u122 u123 u124 u125 u126 u127 u128 u129 u130 u131 u132 u133 u134 u135 u136 u137 u138 u139 u140 u141 u142 u143 u144 u145 u146 u147 u148 u149 u150 u151 u152 u153 u154 u155 u156 u157 u158 u159 u160 u161 u162 u163 u164 u165 u166 u167 u168 u169 u170 u171 i F e C hlt s b o HAT c0 c1 hlt2 hd3 D hrem hD7 HPL HGO HWI HI60 HG9 HSS HACT HBB HS hDD
            exact H1
          · rename_i Q K hK
            clear hK
            clear_value Q
            revert a0 cap1 w l hcap wt hd LAW HWAIT HEARS HFIT Q HGOOD w2 HB1 ns HNS HSITE n HN HN60 w3 w4 w5 K g hg gy wr u4 u9 u10 u11 u12 u13 u37 u38 u39 u40 u41 u42 u43 u44 u45 u46 u47 u48 u49 u50 u51 u52 u53 u54 u55 u56 u57 u58 u59 u60 u61 u62 u63 u64 u65 u66 u67 u68 u69 u70 u71 u72 u73 u74 u75 u76 u77 u78 u79 u80 u81 u82 u83 u84 u85 u86 u87 u88 u89 u90 u91 u92 u93 u94 u95 u96 u97 u98 u99 u100 u101 u102 u103 u104 u105 u106 u107 u108 u109 u110 u111 u112 u113 u114 u115 u116 u117 u118 u119 u120 u121 u122 u123 u124 u125 u126 u127 u128 u129 u130 u131 u132 u133 u134 u135 u136 u137 u138 u139 u140 u141 u142 u143 u144 u145 u146 u147 u148 u149 u150 u151 u152 u153 u154 u155 u156 u157 u158 u159 u160 u161 u162 u163 u164 u165 u166 u167 u168 u169 u170 u171 i F e C hlt s b o HAT c0 c1 hlt2 hd3 D hrem hD7 HPL HGO HWI HI60 HG9 HSS HACT HBB HS hDD
            exact H2
          · rename_i Q K hK
            clear hK
            clear_value Q
            revert a0 cap1 w l hcap wt hd LAW HWAIT HEARS HFIT Q HGOOD w2 HB1 ns HNS HSITE n HN HN60 w3 w4 w5 K g hg gy wr u4 u9 u10 u11 u12 u13 u37 u38 u39 u40 u41 u42 u43 u44 u45 u46 u47 u48 u49 u50 u51 u52 u53 u54 u55 u56 u57 u58 u59 u60 u61 u62 u63 u64 u65 u66 u67 u68 u69 u70 u71 u72 u73 u74 u75 u76 u77 u78 u79 u80 u81 u82 u83 u84 u85 u86 u87 u88 u89 u90 u91 u92 u93 u94 u95 u96 u97 u98 u99 u100 u101 u102 u103 u104 u105 u106 u107 u108 u109 u110 u111 u112 u113 u114 u115 u116 u117 u118 u119 u120 u121 u122 u123 u124 u125 u126 u127 u128 u129 u130 u131 u132 u133 u134 u135 u136 u137 u138 u139 u140 u141 u142 u143 u144 u145 u146 u147 u148 u149 u150 u151 u152 u153 u154 u155 u156 u157 u158 u159 u160 u161 u162 u163 u164 u165 u166 u167 u168 u169 u170 u171 i F e C hlt s b o HAT c0 c1 hlt2 hd3 HPL HGO HWI HI60 HG9 HSS HACT HBB HS hrem hD7
            exact H3
        · have hin : i = n := by omega
          subst hin
          have hd3 : decide ((i : Int) < (i : Int)) = false := decide_eq_false (by omega)
          have HPL := Lib.hid hpl
          clear hpl
          go_wp2
          go_ret
          exact ⟨rfl, Mem.then_ HB1.out HPL.out.bel⟩
    · have hbad : a0 < 1 ∨ 16 < a0 := by omega
      have hnew := link_new_bad a0 hbad
      by_cases s1 : a0 < 1
      · have t1 : decide (a0 < 1) = true := decide_eq_true s1
        clear hbad hsite
        go_wp2_with (go_at_call 17; refine (hnew _).mono ?_; rintro r w3 ⟨rfl, rfl⟩)
        go_ret
        exact ⟨rfl, HB1.out⟩
      · have t1 : decide (a0 < 1) = false := decide_eq_false s1
        have s2 : (16 : Int) < a0 := by omega
        have t2 : decide ((16 : Int) < a0) = true := decide_eq_true s2
        clear hbad hsite
        go_wp2_with (go_at_call 17; refine (hnew _).mono ?_; rintro r w3 ⟨rfl, rfl⟩)
        go_ret
        exact ⟨rfl, HB1.out⟩
  · have hgr2 : Calls Try.prog 16 #[.slice a1 l.length cap1] w1 fun e w' => e = .returned (.bool true) ∧ w' = w1 := hgr.mono fun e w' h => by
      rcases h.2 with h2 | h2
      · exact ⟨h2.1, h.1⟩
      · exact absurd ⟨h2.2.1, h2.2.2⟩ hgood
    clear hgr hgood
    go_wp2_with (go_at_call 16; refine hgr2.mono ?_; rintro r w2 ⟨rfl, hw2⟩; subst hw2)
    go_ret
    exact ⟨rfl, HB1.out⟩
end Go.Proofs.Ytgkadhogfejheaa
