/- The walk of steps: how many, how long. -/
import Derived.Test.YtgkadhogfejheaaLnkV
import Derived.Deep.Slices
import Derived.Deep.Fields
/-! The walks of ref.Same and beginning. -/
namespace Go.Proofs.Ytgkadhogfejheaa
open Go.RowKit

namespace Lnk
theorem Txt.at {w : World} {b : Nat} {v : Value} {l : List (List UInt8)} (h : Txt w b v l) {k : Nat} {x : List UInt8} (hx : l[k]? = some x) : ∃ p off cap, v = .slice (some ⟨p, off, none⟩) l.length cap ∧ w.cell? ⟨p, off + k, none⟩ = some (.string (Mem.str x)) := by
  have hk := (List.getElem?_eq_some_iff.1 hx).1
  rcases h.2 with ⟨_, h0⟩ | ⟨p, off, cap, cur, rfl, _, h2, _, _, _, h3⟩
  · omega
  · refine ⟨p, off, cap, rfl, (cell_of_row w p (off + k) _ _ _ h2).trans (h3 k _ ?_)⟩
    unfold strs
    rw [List.getElem?_map, hx]
    rfl
theorem str_ne {x y : List UInt8} (h : x ≠ y) : ((Mem.str x).toList == (Mem.str y).toList) = false := by
  rw [ByteArray.toList_eq, ByteArray.toList_eq, Mem.str_toList, Mem.str_toList, beq_eq_false_iff_ne]
  exact h
end Lnk
set_option maxRecDepth 100000 in
set_option maxHeartbeats 1000000 in
theorem ref20_same (va vb : Value) (b1 b2 : Nat) (A B : List (List UInt8)) (w : World) (ha : Lnk.Txt w b1 va A) (hb : Lnk.Txt w b2 vb B) (hA : A.length ≤ 1000000) :
    Calls Try.prog 14 #[va, vb] w fun e w' => e = .returned (.bool (decide (A = B))) ∧ Below w.heap.size w w' := by
  obtain ⟨pa, ca, rfl, -, -⟩ := ha.form
  obtain ⟨pb, cb, rfl, -, -⟩ := hb.form
  by_cases hlen : A.length = B.length
  · have HA := Lib.hid ha
    have HB := Lib.hid hb
    have HL := Lib.hid hA
    obtain ⟨n, hn⟩ : ∃ n, A.length = n := ⟨_, rfl⟩
    have hn2 : B.length = n := by omega
    rw [hn, hn2]
    have HN := Lib.hid hn
    have HN2 := Lib.hid hn2
    clear ha hb hA hlen hn hn2
    go_enter Try.func14, Try.ntmps14
    go_wp2
    go_loopw [5] (fun i wr => ∃ k : Nat, k ≤ n ∧ i = .int .i64 k ∧ A.take k = B.take k ∧ Below w.heap.size w wr) (fun i _ => n - (intOf i).toNat)
    case atStart => exact ⟨0, by omega, rfl, rfl, Below.refl _ _⟩
    case round =>
      obtain ⟨k, hk, rfl, hpre, hbw⟩ := hrel
      by_cases hlt : k < n
      · obtain ⟨x, hx⟩ : ∃ x, A[k]? = some x := ⟨_, List.getElem?_eq_getElem (by rw [HN.out]; exact hlt)⟩
        obtain ⟨y, hy⟩ : ∃ y, B[k]? = some y := ⟨_, List.getElem?_eq_getElem (by rw [HN2.out]; exact hlt)⟩
        obtain ⟨p1, o1, c1, e1, f1⟩ := HA.out.at hx
        obtain ⟨p2, o2, c2, e2, f2⟩ := HB.out.at hy
        injection e1 with e1 _ e3
        injection e2 with e2 _ e4
        subst e1 e2 e3 e4
        have m1 : ∀ i : Mem.Later wr, i.w.cell? ⟨p1, o1 + k, none⟩ = some (.string (Mem.str x)) := fun i => i.cell (Mem.keep hbw f1)
        have m2 : ∀ i : Mem.Later wr, i.w.cell? ⟨p2, o2 + k, none⟩ = some (.string (Mem.str y)) := fun i => i.cell (Mem.keep hbw f2)
        have hlt2 : (k : Int) < (n : Int) := by omega
        have HPRE := Lib.hid hpre
        have HBW := Lib.hid hbw
        have HX := Lib.hid hx
        have HY := Lib.hid hy
        clear f1 f2 hpre hbw hx hy
        by_cases hxy : x = y
        · subst hxy
          go_wp2
          refine Mem.wp_region_later (by kernel_rfl) (by kernel_rfl) ?_
          repeat (go_big_quiet_step (fail))
          refine wpQuiet_nil ?_
          intro w2 hw2
          obtain ⟨i2, hi2⟩ := hw2
          have h2 : Below wr.heap.size wr w2 := hi2 ▸ i2.h
          clear hi2 i2 m1 m2
          have hw1 : wrap64 ((k : Int) + 1) = (k : Int) + 1 := by have := HL.out; have := HN.out; unfold wrap64; omega
          go_wp2
          go_roundw
          case measure =>
            simp only [hw1]
            have h3 : ((k : Int) + 1).toNat = k + 1 := rfl
            simp [intOf, h3]
            exact Nat.sub_lt_sub_left hlt (Nat.lt_succ_self k)
          case rel =>
          refine ⟨k + 1, hlt, by rw [hw1]; rfl, ?_, Mem.then_ HBW.out h2⟩
          rw [List.take_add_one, List.take_add_one, HX.out, HY.out, HPRE.out]
        · have hne : ((Mem.str x).toList == (Mem.str y).toList) = false := Lnk.str_ne hxy
          go_wp2
          refine Mem.wp_region_later (by kernel_rfl) (by kernel_rfl) ?_
          repeat (go_big_quiet_step (fail))
          refine wpQuiet_nil ?_
          intro w2 hw2
          obtain ⟨i2, hi2⟩ := hw2
          have h2 : Below wr.heap.size wr w2 := hi2 ▸ i2.h
          clear hi2 i2 m1 m2
          go_wp2
          go_ret
          refine ⟨?_, Mem.then_ HBW.out h2⟩
          have : ¬ A = B := fun e => hxy (by have h3 := HX.out; rw [e, HY.out] at h3; injection h3 with h3; exact h3.symm)
          simp [this]
      · have hkn : k = n := by omega
        subst hkn
        have HPRE := Lib.hid hpre
        go_wp2
        go_ret
        refine ⟨?_, hbw⟩
        have : A = B := by
          have h3 := HPRE.out
          rw [List.take_of_length_le (by rw [HN.out]; exact Nat.le_refl _), List.take_of_length_le (by rw [HN2.out]; exact Nat.le_refl _)] at h3
          exact h3
        simp [this]
  · have hne : ¬ A = B := fun e => hlen (by rw [e])
    have hlen2 : ((A.length : Int) == (B.length : Int)) = false := by simp; omega
    have hlen3 : ((A.length : Int) != (B.length : Int)) = true := by simp; omega
    clear ha hb
    go_enter Try.func14, Try.ntmps14
    go_wp2
    go_ret
    exact ⟨by simp [hne], Below.refl _ _⟩

namespace Lnk
theorem Txt.front {w : World} {b c k : Nat} {P : Option Addr} {l : List (List UInt8)} (h : Txt w b (.slice P l.length c) l) (hk : k ≤ l.length) : Txt w b (.slice P k c) (l.take k) := by
  have hl : (l.take k).length = k := by rw [List.length_take]; omega
  unfold Txt
  rw [hl]
  rcases h.2 with ⟨h0, h1⟩ | ⟨p, off, cap, cur, h0, _⟩
  · injection h0 with e1 e2 e3
    subst e1 e3
    have : k = 0 := by omega
    subst this
    exact Mem.row_nil _ _ _ _
  · injection h0 with e1 e2 e3
    subst e1
    have := Mem.Row.front h hk
    rw [strs_take] at this
    exact this
end Lnk
set_option maxRecDepth 100000 in
set_option maxHeartbeats 1000000 in
theorem pair_beginning (va vb : Value) (b1 b2 : Nat) (A B : List (List UInt8)) (w : World) (ha : Lnk.Txt w b1 va A) (hb : Lnk.Txt w b2 vb B) (hA : A.length ≤ 1000000) (hle : A.length ≤ B.length) (heq : A = B.take A.length) :
    Calls Try.prog 11 #[va, vb] w fun e w' => e = .returned (.bool true) ∧ Below w.heap.size w w' := by
  obtain ⟨pa, ca, rfl, -, -⟩ := ha.form
  obtain ⟨pb, cb, rfl, hcb, -⟩ := hb.form
  have hs := ref20_same (.slice pa A.length ca) (.slice pb A.length cb) b1 b2 A (B.take A.length) w ha (hb.front hle) hA
  rw [decide_eq_true heq] at hs
  have hle2 : (A.length : Int) ≤ (B.length : Int) := by omega
  have hcap : A.length ≤ cb := Nat.le_trans hle hcb
  clear ha hb hA heq
  go_enter Try.func11, Try.ntmps11
  go_wp2_with (go_at_call 14; go_loud (refine hs.mono ?_; rintro r w2 ⟨rfl, hb2⟩))
  go_ret
  exact ⟨rfl, hb2⟩
end Go.Proofs.Ytgkadhogfejheaa

/-! The steps of a link, as an argument. -/
namespace Go.Proofs.Ytgkadhogfejheaa
open Go.RowKit

namespace Lnk
structure Sx where
  d : Nat
  h : Nat
  k : Nat
  S : List UInt8
def Sx.vals (s : Sx) : List Value := [.int .u8 s.d, .int .u8 s.h, .int .u16 s.k, .string (Mem.str s.S)]
def Sx.Fit (s : Sx) : Prop := s.d < 256 ∧ s.h < 256 ∧ s.k < 65536 ∧ s.S.length ≤ maxLen
theorem cells_step : Try.prog.cellsOf 30 = 4 := by kernel_rfl
theorem cells_u8 : Try.prog.cellsOf 5 = 1 := by kernel_rfl
theorem cells_u16 : Try.prog.cellsOf 28 = 1 := by kernel_rfl
theorem cells_str : Try.prog.cellsOf 9 = 1 := by kernel_rfl
theorem of_u8 {x : Int} (h : (Lit.int .u8 x).wf = true) : ∃ n : Nat, x = n ∧ n < 256 := by
  have h2 : 0 ≤ x ∧ x ≤ 255 := by simpa [Lit.wf, IntKind.min, IntKind.max, IntKind.signed, IntKind.bits] using h
  exact ⟨x.toNat, by omega, by omega⟩
theorem of_u16 {x : Int} (h : (Lit.int .u16 x).wf = true) : ∃ n : Nat, x = n ∧ n < 65536 := by
  have h2 : 0 ≤ x ∧ x ≤ 65535 := by simpa [Lit.wf, IntKind.min, IntKind.max, IntKind.signed, IntKind.bits] using h
  exact ⟨x.toNat, by omega, by omega⟩
theorem trod_step {H : Type} {enc : TypeId × Value → H} {w : World} {base : Nat} {spare : Nat → Bool} {held : Bool} {n : Nat} {cs : List Value} {x : DataW H × List MemPlace} (h : DataW.trod enc Try.prog w base spare held n 30 cs = some x) (hc : cs.length = 4) :
    ∃ s : Sx, cs = s.vals ∧ s.Fit := by
  match cs, hc with
  | [c0, c1, c2, c3], _ =>
    obtain ⟨ys, m, _, _, _, hl, hf⟩ := DataW.trod_struct Try.underlying30 h
    obtain ⟨y0, y1, y2, y3, rfl⟩ : ∃ y0 y1 y2 y3, ys = [y0, y1, y2, y3] := by
      match ys, hl with
      | [y0, y1, y2, y3], _ => exact ⟨y0, y1, y2, y3, rfl⟩
    have h0 : DataW.trod enc Try.prog w base spare held m 5 (List.take (Try.prog.cellsOf 5) (List.drop 0 [c0, c1, c2, c3])) = [y0, y1, y2, y3][0]? := hf 0 _ rfl
    have h1 : DataW.trod enc Try.prog w base spare held m 5 (List.take (Try.prog.cellsOf 5) (List.drop 1 [c0, c1, c2, c3])) = [y0, y1, y2, y3][1]? := hf 1 _ rfl
    have h2 : DataW.trod enc Try.prog w base spare held m 28 (List.take (Try.prog.cellsOf 28) (List.drop 2 [c0, c1, c2, c3])) = [y0, y1, y2, y3][2]? := hf 2 _ rfl
    have h3 : DataW.trod enc Try.prog w base spare held m 9 (List.take (Try.prog.cellsOf 9) (List.drop 3 [c0, c1, c2, c3])) = [y0, y1, y2, y3][3]? := hf 3 _ rfl
    rw [cells_u8] at h0 h1
    rw [cells_u16] at h2
    rw [cells_str] at h3
    obtain ⟨x0, e0, _, w0⟩ := DataW.trod_int Try.underlying5 (by simpa using h0)
    obtain ⟨x1, e1, _, w1⟩ := DataW.trod_int Try.underlying5 (by simpa using h1)
    obtain ⟨x2, e2, _, w2⟩ := DataW.trod_int Try.underlying28 (by simpa using h2)
    obtain ⟨x3, e3, _, w3⟩ := DataW.trod_string Try.underlying9 (by simpa using h3)
    simp only [List.cons.injEq, and_true] at e0 e1 e2 e3
    obtain ⟨d, rfl, hd⟩ := of_u8 w0
    obtain ⟨h', rfl, hh⟩ := of_u8 w1
    obtain ⟨k, rfl, hk⟩ := of_u16 w2
    refine ⟨⟨d, h', k, x3.data.toList⟩, ?_, hd, hh, hk, by simpa using w3⟩
    rw [e0, e1, e2, e3]
    unfold Sx.vals
    simp only
    rw [Mem.str_of]
/-- the argument reads as a list of steps -/
def StepsAt (w : World) (a0 : Option Addr) (l : List Sx) : Prop := 0 < l.length → ∃ b o, a0 = some ⟨b, o, none⟩ ∧ ∀ j s, l[j]? = some s → ∀ i u, s.vals[i]? = some u → w.cell? ⟨b, o + j * 4 + i, none⟩ = some u
theorem arg_steps {H : Type} {enc : TypeId × Value → H} {w : World} {a0 : Option Addr} {len cap : Nat} {d : DataW H} {p : List MemPlace} (h : DataW.Trod enc Try.prog w 0 (fun _ => true) true 22 (.slice a0 len cap) d p) :
    ∃ l : List Sx, l.length = len ∧ len ≤ cap ∧ cap ≤ maxLen ∧ StepsAt w a0 l ∧ ∀ s ∈ l, s.Fit := by
  obtain ⟨fuel, h⟩ := h
  simp only [Value.cells] at h
  rcases Deep.open_slice Try.underlying22 h with ⟨h1, _⟩ | ⟨a, l2, c2, m, n, D, Pl, h1, _, h3, h4, h5, _, h6⟩
  · simp only [List.cons.injEq, and_true] at h1
    cases h1
    exact ⟨[], rfl, by omega, by unfold maxLen; omega, fun h => by simp at h, fun s hs => by simp at hs⟩
  · simp only [List.cons.injEq, and_true] at h1
    cases h1
    have hm : m = cap := h5
    subst hm
    rw [cells_step] at h6
    have hch : ∃ f : Nat → Sx, ∀ i, i < len → w.cells? 0 (a.add (i * 4)) 4 = some (f i).vals ∧ (f i).Fit := by
      have := fun i (hi : i < len) => (by
        obtain ⟨cs, g1, g2⟩ := h6 i (by omega)
        obtain ⟨_, hcl, _⟩ := World.cells?_some g1
        obtain ⟨s, rfl, hs⟩ := trod_step g2 hcl
        exact ⟨s, g1, hs⟩ : ∃ s : Sx, w.cells? 0 (a.add (i * 4)) 4 = some s.vals ∧ s.Fit)
      refine ⟨fun i => if hi : i < len then Classical.choose (this i hi) else ⟨0, 0, 0, []⟩, fun i hi => ?_⟩
      simp only [dif_pos hi]
      exact Classical.choose_spec (this i hi)
    obtain ⟨f, hf⟩ := hch
    have hall : ∀ j s, ((List.range len).map f)[j]? = some s → ∀ i u, s.vals[i]? = some u → w.cell? (a.add (j * 4 + i)) = some u := fun j s hj i u hu => by
      have hj2 : j < len := by have := (List.getElem?_eq_some_iff.1 hj).1; simpa using this
      have hs : s = f j := by
        rw [List.getElem?_map, List.getElem?_range hj2] at hj
        simpa using hj.symm
      subst hs
      obtain ⟨_, _, hat⟩ := World.cells?_some (hf j hj2).1
      have hi : i < 4 := (List.getElem?_eq_some_iff.1 hu).1
      have h7 := hat i hi
      rw [Deep.add_add] at h7
      exact h7.trans hu
    refine ⟨(List.range len).map f, by simp, h3, h4, fun hpos => ?_, fun s hs => ?_⟩
    · obtain ⟨b, o, sp⟩ := a
      have hp0 : 0 < len := by simpa using hpos
      have hspot : sp = none := by
        have h0 := hall 0 (f 0) (by rw [List.getElem?_map, List.getElem?_range hp0]; rfl) 0 _ rfl
        simpa [Addr.add] using World.cell?_spot h0
      subst hspot
      refine ⟨b, o, rfl, fun j s hj i u hu => ?_⟩
      have := hall j s hj i u hu
      rw [Go.WideShapes.add_plain, ← Nat.add_assoc] at this
      exact this
    · obtain ⟨j, hj, rfl⟩ := List.mem_map.1 hs
      exact (hf j (List.mem_range.1 hj)).2
end Lnk
end Go.Proofs.Ytgkadhogfejheaa

/-! The walk of steps: how many, how long. -/
namespace Go.Proofs.Ytgkadhogfejheaa
open Go.RowKit

set_option maxRecDepth 100000 in
set_option maxHeartbeats 1000000 in
theorem law_steps (l : List Lnk.Sx) (a : Option Addr) (cap : Nat) (w : World) (h : Lnk.StepsAt w a l) :
    Calls Try.prog 8 #[.slice a l.length cap] w fun e w' => w' = w ∧ ((e = .returned (.bool true) ∧ ¬ (l.length ≤ 120 ∧ ∀ s ∈ l, s.S.length ≤ 100)) ∨ (e = .returned (.bool false) ∧ l.length ≤ 120 ∧ ∀ s ∈ l, s.S.length ≤ 100)) := by
  by_cases hlong : 120 < l.length
  · have hl2 : (120 : Int) < (l.length : Int) := by omega
    have HLG := Lib.hid hlong
    clear h hlong
    go_enter Try.func8, Try.ntmps8
    go_wp2
    go_ret
    exact ⟨rfl, .inl ⟨rfl, fun h => absurd h.1 (by have := HLG.out; omega)⟩⟩
  · have hl2 : ¬ (120 : Int) < (l.length : Int) := by omega
    have H := Lib.hid h
    have HL := Lib.hid hlong
    obtain ⟨n, hn⟩ : ∃ n, l.length = n := ⟨_, rfl⟩
    rw [hn] at hl2 ⊢
    have HN := Lib.hid hn
    clear h hlong hn
    go_enter Try.func8, Try.ntmps8
    go_wp2
    go_loop [3] (fun i => ∃ k : Nat, k ≤ n ∧ i = .int .i64 k ∧ ∀ s ∈ l.take k, s.S.length ≤ 100) (fun i => n - (intOf i).toNat)
    case atStart => exact ⟨0, by omega, rfl, fun s hs => by simp at hs⟩
    case round =>
      obtain ⟨k, hk, rfl, hpre⟩ := hrel
      by_cases hlt : k < n
      · obtain ⟨s, hs⟩ : ∃ s, l[k]? = some s := ⟨_, List.getElem?_eq_getElem (by rw [HN.out]; exact hlt)⟩
        obtain ⟨b, o, rfl, hat⟩ := H.out (by rw [HN.out]; omega)
        have c3 := hat k s hs 3 _ rfl
        have hlt2 : (k : Int) < (n : Int) := by omega
        have hsz : (Mem.str s.S).size = s.S.length := Mem.str_size s.S
        have HS := Lib.hid hs
        have HPRE := Lib.hid hpre
        have HAT := Lib.hid hat
        clear hs hpre hat
        have htk : ∀ s' ∈ l.take (k + 1), s' ∈ l.take k ∨ s' = s := fun s' hs' => by
          rw [List.take_add_one, HS.out] at hs'
          rcases List.mem_append.1 hs' with h | h
          · exact .inl h
          · exact .inr (by simpa using h)
        by_cases h100 : 100 < s.S.length
        · have h100i : (100 : Int) < (s.S.length : Int) := by omega
          have H100 := Lib.hid h100
          go_wp2
          go_ret
          exact ⟨rfl, .inl ⟨rfl, by
            intro h
            first
              | exact ⟨s, List.mem_of_getElem? HS.out, H100.out⟩
              | exact fun h2 => absurd (h2 s (List.mem_of_getElem? HS.out)) (by have := H100.out; omega)⟩⟩
        · have h100i : ¬ (100 : Int) < (s.S.length : Int) := by omega
          have HTK := Lib.hid htk
          have HLE := Lib.hid (show s.S.length ≤ 100 by omega)
          clear htk
          go_wp2
          go_round
          case measure => simp [intOf]; omega
          case rel =>
          refine ⟨k + 1, hlt, by go_num, fun s' hs' => ?_⟩
          rcases HTK.out s' hs' with h | rfl
          · exact HPRE.out s' h
          · exact HLE.out
      · have hkn : k = n := by omega
        subst hkn
        have HPRE := Lib.hid hpre
        clear hpre
        go_wp2
        go_ret
        have := HL.out
        refine ⟨rfl, .inr ⟨rfl, by rw [← HN.out]; omega, fun s hs => HPRE.out s ?_⟩⟩
        rw [List.take_of_length_le (by rw [HN.out]; exact Nat.le_refl _)]
        exact hs
end Go.Proofs.Ytgkadhogfejheaa
