/- The walks of package nums: try. -/
import Derived.Test.YtgkadhogfejheaaNumT
namespace Go.Proofs.Ytgkadhogfejheaa
open Go.RowKit

namespace Num
def thrown (c : Int) : Ending := .panicked [{ v := .iface 145 (.agg #[.int .i64 c]), recovered := false }]
def TryPost (w : World) (g : Nat) (l : List UInt8) (f : Int) (S : Nat → Prop) (Good : List UInt8 → World → Prop) (Bad : Int → World → Prop) (e : Ending) (w' : World) : Prop :=
  (f ≠ 0 ∧ e = .returned (.bool false) ∧ Rd w' g l f ∧ Mem.But (fun _ => False) w w') ∨
  (f = 0 ∧ ∃ t w3, Good t w3 ∧ e = .returned (.bool true) ∧ Rd w' g t 0 ∧ Mem.But (fun k => k = g ∨ S k) w w' ∧ ∀ k, k < w.heap.size → k ≠ g → w'.heap[k]? = w3.heap[k]?) ∨
  (f = 0 ∧ ∃ c w3, Bad c w3 ∧ e = .returned (.bool false) ∧ Rd w' g l c ∧ Mem.But (fun k => k = g ∨ S k) w w' ∧ ∀ k, k < w.heap.size → k ≠ g → w'.heap[k]? = w3.heap[k]?)
def Reads (F : FuncId) (caps : Array Value) (w : World) (l : List UInt8) (S : Nat → Prop) (Good : List UInt8 → World → Prop) (Bad : Int → World → Prop) : Prop :=
  ∀ (w2 : World) (p : Nat), w.heap.size ≤ p → Mem.But (fun _ => False) w w2 → Rd w2 p l 0 → Calls Try.prog F (#[.pointer (some ⟨p, 0, none⟩)] ++ caps) w2 fun e w3 =>
    (∃ t, e = .returned (.tuple #[]) ∧ Rd w3 p t 0 ∧ Good t w3 ∧ Mem.But (fun k => k = p ∨ S k) w2 w3) ∨
    (∃ c, Bad c w3 ∧ e = thrown c ∧ Mem.But (fun k => k = p ∨ S k) w2 w3)
end Num

set_option maxRecDepth 100000 in
theorem nums_try_num (g : Nat) (l : List UInt8) (f : Int) (w : World) (hrd : Num.Rd w g l f) (x y : Addr) (S : Nat → Prop) (hS : ∀ k, S k → k < w.heap.size ∧ k ≠ g) (Good : List UInt8 → World → Prop) (Bad : Int → World → Prop)
    (hF : Num.Reads 82 #[.pointer (some x), .pointer (some y)] w l S Good Bad) :
    Calls Try.prog 81 #[.pointer (some ⟨g, 0, none⟩), .func (.func 82) #[] #[.pointer (some x), .pointer (some y)]] w (Num.TryPost w g l f S Good Bad) := by
  have hmf : ∀ (fn : Fn) (first cap : Array Value) (w : World), (Instr.makeFunc fn first cap).run Try.prog w = .ok (.func fn first cap) w := fun _ _ _ _ => rfl
  have Hrd := Lib.hid hrd
  have HF := Lib.hid hF
  have HS := Lib.hid hS
  have hgl := block_lt_of_cell hrd.rest
  simp only at hgl
  have Hg := Lib.hid hgl
  clear hrd hF hS hgl
  by_cases h0 : f = 0
  · subst h0
    go_enter_defers Try.func81, Try.ntmps81
    go_wp2_with (first
      | (refine Mem.wpList_box (o := ⟨some 2, _, _, _, _, _⟩) rfl 109 _ rfl (.pointer (some ⟨g, 0, none⟩)) rfl ?_
         intro w1 hn1
         have Hn1 := Lib.hid hn1
         have e0 := hn1.cell1 0 (v := .pointer (some ⟨g, 0, none⟩)) rfl
         have e1 : w1.cell? ⟨g, 0, none⟩ = some (.string (Mem.str l)) := (hn1.below.cell Hg.out).trans Hrd.out.rest
         have e2 : w1.cell? ⟨g, 1, none⟩ = some (.int .i64 0) := (hn1.below.cell Hg.out).trans Hrd.out.fault
         clear hn1)
      | (refine Mem.wpList_box (o := ⟨some 21, _, _, _, _, _⟩) rfl 134 _ rfl (.agg #[.string (Mem.str l), .int .i64 0]) rfl ?_
         intro w2 hn2
         have Hn2 := Lib.hid hn2
         have hs1 := Hn1.out.size
         have e3 : w2.cell? ⟨w.heap.size, 0, none⟩ = some (.pointer (some ⟨g, 0, none⟩)) := (hn2.below.cell (p := ⟨w.heap.size, 0, none⟩) (show w.heap.size < w1.heap.size by omega)).trans e0
         clear hn2 hs1))
    have hs1 := Hn1.out.size
    have hs2 := Hn2.out.size
    have hbut2 : Mem.But (fun _ => False) w w2 := (Mem.But.of_new Hn1.out).trans (Mem.But.of_new Hn2.out)
    have hrg2 : w2.heap[g]? = some (.cells #[.string (Mem.str l), .int .i64 0] 134 (0, 0)) := (hbut2.block g Hg.out (fun h => h)).trans Hrd.out
    have hg1 : g < w1.heap.size := by have := Hg.out; omega
    refine (HF.out w2 w1.heap.size (by omega) hbut2 Hn2.out.row).mono ?_
    rintro e w3 (⟨t, rfl, hrt, hgood, hbut3⟩ | ⟨c, hbad, rfl, hbut3⟩)
    · have hne1 : ¬ (w.heap.size = w1.heap.size ∨ S w.heap.size) := by rintro (h | h); omega; have := (HS.out _ h).1; omega
      have hne2 : ¬ (g = w1.heap.size ∨ S g) := by rintro (h | h); omega; exact (HS.out _ h).2 rfl
      have hgr3 : Num.Rd w3 g l 0 := (hbut3.block g (by have := Hg.out; omega) hne2).trans hrg2
      have e4 : w3.cell? ⟨w.heap.size, 0, none⟩ = some (.pointer (some ⟨g, 0, none⟩)) := by
        have : w3.heap[w.heap.size]? = w2.heap[w.heap.size]? := hbut3.block _ (by omega) hne1
        exact (World.cell?_of_block this).trans e3
      have e5 := hrt.rest
      have e6 := hgr3.rest
      have e7 := hgr3.free 0
      have Hrt := Lib.hid hrt
      have Hgr3 := Lib.hid hgr3
      have Hgood := Lib.hid hgood
      have Hbut3 := Lib.hid hbut3
      have Hbut2 := Lib.hid hbut2
      have Hs := Lib.hid (And.intro hs1 hs2)
      clear hrt hgr3 hgood hbut3 hbut2 hs1 hs2 hne1 hne2 hrg2 hg1
      go_wp2
      go_region
      have hp := Mem.put_setCell w3 g 0 (.string (Mem.str t)) _ _ Hgr3.out
      have Hp := Lib.hid hp
      clear hp
      go_wp2
      refine leaves_cons (f := 89) (args := #[.pointer (some ⟨w.heap.size, 0, none⟩)]) (by simp) (by simp [go_sem]) ?_
      refine (nums_catch_idle w.heap.size _).mono ?_
      rintro e u' w'' ⟨rfl, rfl, rfl⟩
      refine ⟨.bool true, by simp [results, Try.results81], .inr (.inl ⟨rfl, t, w3, Hgood.out, rfl, Hp.out.row, ?_, fun k _ hk => Hp.out.other k hk⟩)⟩
      have hA : Mem.But (fun k => k = g ∨ S k) w w3 := (Hbut2.out.mono fun _ _ h => h.elim).later Hbut3.out (by
        intro i hi h
        rcases h with h | h
        · have := Hs.out.1; omega
        · exact .inr h)
      exact hA.trans ((Mem.But.of_put Hp.out (S := fun k => k = g ∨ S k) (.inl rfl)).trans (Mem.But.of_drewN 1))
    · have hne1 : ¬ (w.heap.size = w1.heap.size ∨ S w.heap.size) := by rintro (h | h); omega; have := (HS.out _ h).1; omega
      have hne2 : ¬ (g = w1.heap.size ∨ S g) := by rintro (h | h); omega; exact (HS.out _ h).2 rfl
      have hgr3 : Num.Rd w3 g l 0 := (hbut3.block g (by have := Hg.out; omega) hne2).trans hrg2
      have e4 : w3.cell? ⟨w.heap.size, 0, none⟩ = some (.pointer (some ⟨g, 0, none⟩)) := by
        have : w3.heap[w.heap.size]? = w2.heap[w.heap.size]? := hbut3.block _ (by omega) hne1
        exact (World.cell?_of_block this).trans e3
      refine leaves_cons (f := 89) (args := #[.pointer (some ⟨w.heap.size, 0, none⟩)]) (by simp) (by simp [go_sem]) ?_
      refine (nums_catch w.heap.size g l 0 c [] w3 e4 hgr3).mono ?_
      rintro e u' w'' ⟨rfl, rfl, hrd', hbut'⟩
      refine ⟨.bool false, by simp [results, Try.results81], .inr (.inr ⟨rfl, c, w3, hbad, rfl, hrd', ?_, fun k hk hne => hbut'.block k (Nat.lt_of_lt_of_le hk (Nat.le_trans hbut2.size hbut3.size)) hne⟩)⟩
      have hA : Mem.But (fun k => k = g ∨ S k) w w3 := (hbut2.mono fun _ _ h => h.elim).later hbut3 (by
        intro i hi h
        rcases h with h | h
        · omega
        · exact .inr h)
      exact hA.trans (hbut'.mono fun _ _ h => .inl h)
  · go_enter_defers Try.func81, Try.ntmps81
    have hd0 : decide (f = 0) = false := by simp [h0]
    go_wp2_with (
      refine Mem.wpList_box rfl 109 _ rfl _ rfl ?_
      intro w1 hn1
      have Hn1 := Lib.hid hn1
      have e0 := hn1.cell1 0 (v := .pointer (some ⟨g, 0, none⟩)) rfl
      have e1 : w1.cell? ⟨g, 0, none⟩ = some (.string (Mem.str l)) := (hn1.below.cell Hg.out).trans Hrd.out.rest
      have e2 : w1.cell? ⟨g, 1, none⟩ = some (.int .i64 f) := (hn1.below.cell Hg.out).trans Hrd.out.fault
      clear hn1)
    refine ⟨.bool false, by simp [results, Try.results81], .inl ⟨h0, rfl, ?_, Mem.But.of_new Hn1.out⟩⟩
    exact (Hn1.out.old Hg.out).trans Hrd.out
set_option maxRecDepth 100000 in
theorem nums_try_text (g : Nat) (l : List UInt8) (f : Int) (w : World) (hrd : Num.Rd w g l f) (x y : Addr) (S : Nat → Prop) (hS : ∀ k, S k → k < w.heap.size ∧ k ≠ g) (Good : List UInt8 → World → Prop) (Bad : Int → World → Prop)
    (hF : Num.Reads 84 #[.pointer (some x), .pointer (some y)] w l S Good Bad) :
    Calls Try.prog 81 #[.pointer (some ⟨g, 0, none⟩), .func (.func 84) #[] #[.pointer (some x), .pointer (some y)]] w (Num.TryPost w g l f S Good Bad) := by
  have hmf : ∀ (fn : Fn) (first cap : Array Value) (w : World), (Instr.makeFunc fn first cap).run Try.prog w = .ok (.func fn first cap) w := fun _ _ _ _ => rfl
  have Hrd := Lib.hid hrd
  have HF := Lib.hid hF
  have HS := Lib.hid hS
  have hgl := block_lt_of_cell hrd.rest
  simp only at hgl
  have Hg := Lib.hid hgl
  clear hrd hF hS hgl
  by_cases h0 : f = 0
  · subst h0
    go_enter_defers Try.func81, Try.ntmps81
    go_wp2_with (first
      | (refine Mem.wpList_box (o := ⟨some 2, _, _, _, _, _⟩) rfl 109 _ rfl (.pointer (some ⟨g, 0, none⟩)) rfl ?_
         intro w1 hn1
         have Hn1 := Lib.hid hn1
         have e0 := hn1.cell1 0 (v := .pointer (some ⟨g, 0, none⟩)) rfl
         have e1 : w1.cell? ⟨g, 0, none⟩ = some (.string (Mem.str l)) := (hn1.below.cell Hg.out).trans Hrd.out.rest
         have e2 : w1.cell? ⟨g, 1, none⟩ = some (.int .i64 0) := (hn1.below.cell Hg.out).trans Hrd.out.fault
         clear hn1)
      | (refine Mem.wpList_box (o := ⟨some 21, _, _, _, _, _⟩) rfl 134 _ rfl (.agg #[.string (Mem.str l), .int .i64 0]) rfl ?_
         intro w2 hn2
         have Hn2 := Lib.hid hn2
         have hs1 := Hn1.out.size
         have e3 : w2.cell? ⟨w.heap.size, 0, none⟩ = some (.pointer (some ⟨g, 0, none⟩)) := (hn2.below.cell (p := ⟨w.heap.size, 0, none⟩) (show w.heap.size < w1.heap.size by omega)).trans e0
         clear hn2 hs1))
    have hs1 := Hn1.out.size
    have hs2 := Hn2.out.size
    have hbut2 : Mem.But (fun _ => False) w w2 := (Mem.But.of_new Hn1.out).trans (Mem.But.of_new Hn2.out)
    have hrg2 : w2.heap[g]? = some (.cells #[.string (Mem.str l), .int .i64 0] 134 (0, 0)) := (hbut2.block g Hg.out (fun h => h)).trans Hrd.out
    have hg1 : g < w1.heap.size := by have := Hg.out; omega
    refine (HF.out w2 w1.heap.size (by omega) hbut2 Hn2.out.row).mono ?_
    rintro e w3 (⟨t, rfl, hrt, hgood, hbut3⟩ | ⟨c, hbad, rfl, hbut3⟩)
    · have hne1 : ¬ (w.heap.size = w1.heap.size ∨ S w.heap.size) := by rintro (h | h); omega; have := (HS.out _ h).1; omega
      have hne2 : ¬ (g = w1.heap.size ∨ S g) := by rintro (h | h); omega; exact (HS.out _ h).2 rfl
      have hgr3 : Num.Rd w3 g l 0 := (hbut3.block g (by have := Hg.out; omega) hne2).trans hrg2
      have e4 : w3.cell? ⟨w.heap.size, 0, none⟩ = some (.pointer (some ⟨g, 0, none⟩)) := by
        have : w3.heap[w.heap.size]? = w2.heap[w.heap.size]? := hbut3.block _ (by omega) hne1
        exact (World.cell?_of_block this).trans e3
      have e5 := hrt.rest
      have e6 := hgr3.rest
      have e7 := hgr3.free 0
      have Hrt := Lib.hid hrt
      have Hgr3 := Lib.hid hgr3
      have Hgood := Lib.hid hgood
      have Hbut3 := Lib.hid hbut3
      have Hbut2 := Lib.hid hbut2
      have Hs := Lib.hid (And.intro hs1 hs2)
      clear hrt hgr3 hgood hbut3 hbut2 hs1 hs2 hne1 hne2 hrg2 hg1
      go_wp2
      go_region
      have hp := Mem.put_setCell w3 g 0 (.string (Mem.str t)) _ _ Hgr3.out
      have Hp := Lib.hid hp
      clear hp
      go_wp2
      refine leaves_cons (f := 89) (args := #[.pointer (some ⟨w.heap.size, 0, none⟩)]) (by simp) (by simp [go_sem]) ?_
      refine (nums_catch_idle w.heap.size _).mono ?_
      rintro e u' w'' ⟨rfl, rfl, rfl⟩
      refine ⟨.bool true, by simp [results, Try.results81], .inr (.inl ⟨rfl, t, w3, Hgood.out, rfl, Hp.out.row, ?_, fun k _ hk => Hp.out.other k hk⟩)⟩
      have hA : Mem.But (fun k => k = g ∨ S k) w w3 := (Hbut2.out.mono fun _ _ h => h.elim).later Hbut3.out (by
        intro i hi h
        rcases h with h | h
        · have := Hs.out.1; omega
        · exact .inr h)
      exact hA.trans ((Mem.But.of_put Hp.out (S := fun k => k = g ∨ S k) (.inl rfl)).trans (Mem.But.of_drewN 1))
    · have hne1 : ¬ (w.heap.size = w1.heap.size ∨ S w.heap.size) := by rintro (h | h); omega; have := (HS.out _ h).1; omega
      have hne2 : ¬ (g = w1.heap.size ∨ S g) := by rintro (h | h); omega; exact (HS.out _ h).2 rfl
      have hgr3 : Num.Rd w3 g l 0 := (hbut3.block g (by have := Hg.out; omega) hne2).trans hrg2
      have e4 : w3.cell? ⟨w.heap.size, 0, none⟩ = some (.pointer (some ⟨g, 0, none⟩)) := by
        have : w3.heap[w.heap.size]? = w2.heap[w.heap.size]? := hbut3.block _ (by omega) hne1
        exact (World.cell?_of_block this).trans e3
      refine leaves_cons (f := 89) (args := #[.pointer (some ⟨w.heap.size, 0, none⟩)]) (by simp) (by simp [go_sem]) ?_
      refine (nums_catch w.heap.size g l 0 c [] w3 e4 hgr3).mono ?_
      rintro e u' w'' ⟨rfl, rfl, hrd', hbut'⟩
      refine ⟨.bool false, by simp [results, Try.results81], .inr (.inr ⟨rfl, c, w3, hbad, rfl, hrd', ?_, fun k hk hne => hbut'.block k (Nat.lt_of_lt_of_le hk (Nat.le_trans hbut2.size hbut3.size)) hne⟩)⟩
      have hA : Mem.But (fun k => k = g ∨ S k) w w3 := (hbut2.mono fun _ _ h => h.elim).later hbut3 (by
        intro i hi h
        rcases h with h | h
        · omega
        · exact .inr h)
      exact hA.trans (hbut'.mono fun _ _ h => .inl h)
  · go_enter_defers Try.func81, Try.ntmps81
    have hd0 : decide (f = 0) = false := by simp [h0]
    go_wp2_with (
      refine Mem.wpList_box rfl 109 _ rfl _ rfl ?_
      intro w1 hn1
      have Hn1 := Lib.hid hn1
      have e0 := hn1.cell1 0 (v := .pointer (some ⟨g, 0, none⟩)) rfl
      have e1 : w1.cell? ⟨g, 0, none⟩ = some (.string (Mem.str l)) := (hn1.below.cell Hg.out).trans Hrd.out.rest
      have e2 : w1.cell? ⟨g, 1, none⟩ = some (.int .i64 f) := (hn1.below.cell Hg.out).trans Hrd.out.fault
      clear hn1)
    refine ⟨.bool false, by simp [results, Try.results81], .inl ⟨h0, rfl, ?_, Mem.But.of_new Hn1.out⟩⟩
    exact (Hn1.out.old Hg.out).trans Hrd.out

end Go.Proofs.Ytgkadhogfejheaa
