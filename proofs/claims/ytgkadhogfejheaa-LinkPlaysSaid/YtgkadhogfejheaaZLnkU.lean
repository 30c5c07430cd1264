/- The walk of steps: how many, how long. -/
import Derived.Test.YtgkadhogfejheaaZLnkV
import Derived.Deep.Slices
import Derived.Deep.Fields
set_option linter.unusedVariables false
set_option linter.unusedSimpArgs false
/-! The walks of ref.Same and beginning. -/
namespace Go.Proofs.Ytgkadhogfejheaa
open Go.RowKit

namespace Lnk
theorem Txt.at {w : World} {b : Nat} {v : Value} {l : List (List UInt8)} (h : Txt w b v l) {k : Nat} {x : List UInt8} (hx : l[k]? = some x) : ∃ p off cap, v = .slice (some ⟨p, off, none⟩) l.length cap ∧ w.cell? ⟨p, off + k, none⟩ = some (.string (Mem.str x)) := by
  have hk := (List.getElem?_eq_some_iff.1 hx).1
  rcases h.2 with ⟨_, h0⟩ | ⟨p, off, cap, cur, rfl, _, h2, _, _, _, h3⟩
  · omega
  · refine ⟨p, off, cap, rfl, (cell_of_row w p (off + k) _ _ _ h2).trans (h3 k _ ?_)⟩
    unfold strs
    rw [List.getElem?_map, hx]
    rfl
theorem str_ne {x y : List UInt8} (h : x ≠ y) : ((Mem.str x).toList == (Mem.str y).toList) = false := by
  rw [ByteArray.toList_eq, ByteArray.toList_eq, Mem.str_toList, Mem.str_toList, beq_eq_false_iff_ne]
  exact h
end Lnk
set_option maxRecDepth 100000 in
set_option maxHeartbeats 1000000 in
theorem ref20_same (va vb : Value) (b1 b2 : Nat) (A B : List (List UInt8)) (w : World) (ha : Lnk.Txt w b1 va A) (hb : Lnk.Txt w b2 vb B) (hA : A.length ≤ 1000000) :
    Calls Try.prog 14 #[va, vb] w fun e w' => e = .returned (.bool (decide (A = B))) ∧ Below w.heap.size w w' := by
  obtain ⟨pa, ca, rfl, -, -⟩ := ha.form
  obtain ⟨pb, cb, rfl, -, -⟩ := hb.form
  by_cases hlen : A.length = B.length
  · have HA := Lib.hid ha
    have HB := Lib.hid hb
    have HL := Lib.hid hA
    obtain ⟨n, hn⟩ : ∃ n, A.length = n := ⟨_, rfl⟩
    have hn2 : B.length = n := by omega
    rw [hn, hn2]
    have HN := Lib.hid hn
    have HN2 := Lib.hid hn2
    clear ha hb hA hlen hn hn2
    go_enter Try.func14, Try.ntmps14
    go_wp2
    go_loopw [5] (fun i wr => ∃ k : Nat, k ≤ n ∧ i = .int .i64 k ∧ A.take k = B.take k ∧ Below w.heap.size w wr) (fun i _ => n - (intOf i).toNat)
    case atStart => exact ⟨0, by omega, rfl, rfl, Below.refl _ _⟩
    case round =>
      obtain ⟨k, hk, rfl, hpre, hbw⟩ := hrel
      by_cases hlt : k < n
      · obtain ⟨x, hx⟩ : ∃ x, A[k]? = some x := ⟨_, List.getElem?_eq_getElem (by rw [HN.out]; exact hlt)⟩
        obtain ⟨y, hy⟩ : ∃ y, B[k]? = some y := ⟨_, List.getElem?_eq_getElem (by rw [HN2.out]; exact hlt)⟩
        obtain ⟨p1, o1, c1, e1, f1⟩ := HA.out.at hx
        obtain ⟨p2, o2, c2, e2, f2⟩ := HB.out.at hy
        injection e1 with e1 _ e3
        injection e2 with e2 _ e4
        subst e1 e2 e3 e4
        have m1 : ∀ i : Mem.Later wr, i.w.cell? ⟨p1, o1 + k, none⟩ = some (.string (Mem.str x)) := fun i => i.cell (Mem.keep hbw f1)
        have m2 : ∀ i : Mem.Later wr, i.w.cell? ⟨p2, o2 + k, none⟩ = some (.string (Mem.str y)) := fun i => i.cell (Mem.keep hbw f2)
        have hlt2 : (k : Int) < (n : Int) := by omega
        have HPRE := Lib.hid hpre
        have HBW := Lib.hid hbw
        have HX := Lib.hid hx
        have HY := Lib.hid hy
        clear f1 f2 hpre hbw hx hy
        by_cases hxy : x = y
        · subst hxy
          go_wp2
          refine Mem.wp_region_later (by kernel_rfl) (by kernel_rfl) ?_
          repeat (go_big_quiet_step (fail))
          refine wpQuiet_nil ?_
          intro w2 hw2
          obtain ⟨i2, hi2⟩ := hw2
          have h2 : Below wr.heap.size wr w2 := hi2 ▸ i2.h
          clear hi2 i2 m1 m2
          have hw1 : wrap64 ((k : Int) + 1) = (k : Int) + 1 := by have := HL.out; have := HN.out; unfold wrap64; omega
          go_wp2
          go_roundw
          case measure =>
            simp only [hw1]
            have h3 : ((k : Int) + 1).toNat = k + 1 := rfl
            simp [intOf, h3]
            exact Nat.sub_lt_sub_left hlt (Nat.lt_succ_self k)
          case rel =>
          refine ⟨k + 1, hlt, by rw [hw1]; rfl, ?_, Mem.then_ HBW.out h2⟩
          rw [List.take_add_one, List.take_add_one, HX.out, HY.out, HPRE.out]
        · have hne : ((Mem.str x).toList == (Mem.str y).toList) = false := Lnk.str_ne hxy
          go_wp2
          refine Mem.wp_region_later (by kernel_rfl) (by kernel_rfl) ?_
          repeat (go_big_quiet_step (fail))
          refine wpQuiet_nil ?_
          intro w2 hw2
          obtain ⟨i2, hi2⟩ := hw2
          have h2 : Below wr.heap.size wr w2 := hi2 ▸ i2.h
          clear hi2 i2 m1 m2
          go_wp2
          go_ret
          refine ⟨?_, Mem.then_ HBW.out h2⟩
          have : ¬ A = B := fun e => hxy (by have h3 := HX.out; rw [e, HY.out] at h3; injection h3 with h3; exact h3.symm)
          simp [this]
      · have hkn : k = n := by omega
        subst hkn
        have HPRE := Lib.hid hpre
        go_wp2
        go_ret
        refine ⟨?_, hbw⟩
        have : A = B := by
          have h3 := HPRE.out
          rw [List.take_of_length_le (by rw [HN.out]; exact Nat.le_refl _), List.take_of_length_le (by rw [HN2.out]; exact Nat.le_refl _)] at h3
          exact h3
        simp [this]
  · have hne : ¬ A = B := fun e => hlen (by rw [e])
    have hlen2 : ((A.length : Int) == (B.length : Int)) = false := by simp; omega
    have hlen3 : ((A.length : Int) != (B.length : Int)) = true := by simp; omega
    clear ha hb
    go_enter Try.func14, Try.ntmps14
    go_wp2
    go_ret
    exact ⟨by simp [hne], Below.refl _ _⟩

namespace Lnk
theorem Txt.front {w : World} {b c k : Nat} {P : Option Addr} {l : List (List UInt8)} (h : Txt w b (.slice P l.length c) l) (hk : k ≤ l.length) : Txt w b (.slice P k c) (l.take k) := by
  have hl : (l.take k).length = k := by rw [List.length_take]; omega
  unfold Txt
  rw [hl]
  rcases h.2 with ⟨h0, h1⟩ | ⟨p, off, cap, cur, h0, _⟩
  · injection h0 with e1 e2 e3
    subst e1 e3
    have : k = 0 := by omega
    subst this
    exact Mem.row_nil _ _ _ _
  · injection h0 with e1 e2 e3
    subst e1
    have := Mem.Row.front h hk
    rw [strs_take] at this
    exact this
end Lnk
end Go.Proofs.Ytgkadhogfejheaa

/-! The steps of a link, as an argument. -/
namespace Go.Proofs.Ytgkadhogfejheaa
open Go.RowKit

namespace Lnk
structure Sx where
  d : Nat
  h : Nat
  k : Nat
  S : List UInt8
def Sx.vals (s : Sx) : List Value := [.int .u8 s.d, .int .u8 s.h, .int .u16 s.k, .string (Mem.str s.S)]
theorem cells_u8 : Try.prog.cellsOf 5 = 1 := by kernel_rfl
theorem cells_str : Try.prog.cellsOf 9 = 1 := by kernel_rfl
theorem of_u8 {x : Int} (h : (Lit.int .u8 x).wf = true) : ∃ n : Nat, x = n ∧ n < 256 := by
  have h2 : 0 ≤ x ∧ x ≤ 255 := by simpa [Lit.wf, IntKind.min, IntKind.max, IntKind.signed, IntKind.bits] using h
  exact ⟨x.toNat, by omega, by omega⟩
end Lnk
end Go.Proofs.Ytgkadhogfejheaa

/-! The walk of steps: how many, how long. -/
namespace Go.Proofs.Ytgkadhogfejheaa
open Go.RowKit

end Go.Proofs.Ytgkadhogfejheaa
