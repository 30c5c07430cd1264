/- LinkPlays: both ends side by side on memory. -/
import Derived.Test.YtgkadhogfejheaaZPlyF
import Derived.Test.YtgkadhogfejheaaZLnkU
set_option linter.unusedVariables false
set_option linter.unusedSimpArgs false
namespace Go.Proofs.Ytgkadhogfejheaa
open Go.RowKit

set_option maxHeartbeats 400000 in
theorem refused_at (g : Nat) (n : Int) (w : World) (h : w.cell? ⟨g, 11, none⟩ = some (.int .i64 n)) : Calls Try.prog 28 #[.pointer (some ⟨g, 0, none⟩)] w fun e w' => e = .returned (.int .i64 n) ∧ w' = w := by
  go_enter Try.func28, Try.ntmps28
  go_wp2
  go_ret
  exact ⟨rfl, rfl⟩
set_option maxHeartbeats 400000 in
theorem idle_at (g : Nat) (A : Option Addr) (n c : Nat) (b : Bool) (w : World) (h : w.cell? ⟨g, 2, none⟩ = some (.slice A n c)) (h8 : w.cell? ⟨g, 10, none⟩ = some (.bool b)) : Calls Try.prog 15 #[.pointer (some ⟨g, 0, none⟩)] w fun e w' => e = .returned (.bool (decide (n = 0) && !b)) ∧ w' = w := by
  by_cases hn : n = 0
  · subst hn
    go_enter Try.func15, Try.ntmps15
    go_wp2
    go_ret
    exact ⟨by simp, rfl⟩
  · have d : ((n : Int) == 0) = false := by simp; omega
    go_enter Try.func15, Try.ntmps15
    go_wp2
    go_ret
    exact ⟨by simp [hn], rfl⟩

namespace Ply
open Lnk
/-- both ends, behind i calls: the program's at g, the reference's at gy -/
structure PL (w0 w : World) (g gy : Nat) (F : Nat → Prop) (e : St) (C : Array Value) (i : Nat) : Prop where
  at_ : At w g F e
  row : w.heap[gy]? = some (.cells C 52 (0, 0))
  rat : RAt w e (.agg C) i (fun b => F b ∨ b = gy)
  gyF : ¬ F gy
  low : ∀ k, F k → w0.heap.size ≤ k
  gyl : w0.heap.size ≤ gy
  good : Lnk.Good e (9 * i)
  len : e.out.length ≤ 64
  bel : Below w0.heap.size w0 w
theorem RAt.keep {w w1 : World} {e : St} {v : Value} {N : Nat} {S T : Nat → Prop} (h : RAt w e v N S) (hb : Mem.But S w w1) (hT : ∀ b, b < w.heap.size → T b → S b) : RAt w1 e v N T := by
  obtain ⟨pre, inn, va, vi, h1, h2⟩ := h
  refine ⟨pre, inn, va, vi, h1, ⟨h2.all.keep fun k hk ho => hb.block k hk (h2.apart k (.inl ho)), h2.came.keep fun k hk ho => hb.block k hk (h2.apart k (.inr ho)), h2.ok, h2.small, fun b hb2 ht => ?_⟩⟩
  have hlt : b < w.heap.size := by
    rcases hb2 with h3 | h3
    · exact (Mem.Row.block h2.all h3).2
    · exact (Mem.Row.block h2.came h3).2
  exact h2.apart b hb2 (hT b hlt ht)
section
variable {w0 w w1 w2 w3 : World} {g gy : Nat} {F F' : Nat → Prop} {e e' : St} {C C' : Array Value} {i : Nat}
theorem PL.gyLt (h : PL w0 w g gy F e C i) : gy < w.heap.size := (Array.getElem?_eq_some_iff.1 h.row).1
/-- the reference's end behind the program's call -/
theorem PL.mid (h : PL w0 w g gy F e C i) (hb : Mem.But F w w1) (hF : ∀ k, F' k → F k ∨ w.heap.size ≤ k) : w1.heap[gy]? = some (.cells C 52 (0, 0)) ∧ RAt w1 e (.agg C) i (fun b => F' b ∨ b = gy) := by
  refine ⟨(hb.block gy h.gyLt h.gyF).trans h.row, h.rat.keep (hb.mono fun k _ hk => .inl hk) fun b hlt hb2 => ?_⟩
  rcases hb2 with hb2 | hb2
  · rcases hF b hb2 with h3 | h3
    · exact .inl h3
    · omega
  · exact .inr hb2
theorem PL.next (h : PL w0 w g gy F e C i) (hat : At w1 g F' e') (hb : Mem.But F w w1) (hF : ∀ k, F' k → F k ∨ w.heap.size ≤ k) (h2 : Below w1.heap.size w1 w2) (hr : RAt w2 e' (.agg C') (i + 1) (fun b => F' b ∨ b = gy)) (hp : Mem.Put w2 w3 gy C' 52)
    (hg : Lnk.Good e' (9 * (i + 1))) (hl : e'.out.length ≤ 64) : PL w0 w3 g gy F' e' C' (i + 1) := by
  have hgy := h.gyLt
  have hgF : ¬ F' gy := fun hk => by
    rcases hF gy hk with h3 | h3
    · exact h.gyF h3
    · omega
  have hbs := h.bel.size
  refine ⟨(hat.below h2).keep (G := (· = gy)) (Mem.But.of_put hp rfl) fun k hk h4 => hgF (h4 ▸ hk), hp.row, hr.keep (S := fun b => F' b ∨ b = gy) (Mem.But.of_put hp (.inr rfl)) fun b _ hb2 => hb2, hgF, fun k hk => ?_, h.gyl, hg, hl, ?_⟩
  · rcases hF k hk with h3 | h3
    · exact h.low k h3
    · omega
  · exact (h.bel.trans (hb.below hbs fun k hk => h.low k hk)).trans ((h2.mono (Nat.le_trans hbs hb.size)).trans (hp.below h.gyl))
theorem ack_len (hd : Nat → Nat → Bool → Nat → Nat × Nat × Bool) (now : Nat) (n : Int) : ∀ (l : List Wt) (p : Nat × Nat × Bool), (ackGo hd now n l p).1.length ≤ l.length
  | [], _ => Nat.le_refl _
  | y :: l, p => by
    unfold ackGo
    split
    · exact Nat.le_trans (ack_len hd now n l _) (by simp)
    · exact Nat.le_refl _
theorem put_len2 (f : Frm.F) : (Frm.put f).length ≤ f.body.length + 1000 + (Num.put f.site.toNat).length + (Num.put f.seq.toNat).length + (Num.put f.ack.toNat).length + (Num.put f.body.length).length := by
  unfold Frm.put Frm.head
  rw [List.length_append, Frm.four_len]
  simp only [List.length_append, List.length_cons, List.length_nil]
  split <;> simp only [List.length_append, List.length_nil] <;> omega
theorem put_short3 (f : Frm.F) (h : Frm.okB f = true) : (Frm.put f).length < 2 ^ 61 := by
  obtain ⟨h1, h2, h3⟩ := (Frm.ok_iff f).1 h
  have hl := put_len2 f
  have hb : f.body.length ≤ 1048576 := by
    rcases h3 with ⟨_, _, h4⟩ | ⟨_, _, h4⟩
    · rw [h4]; simp
    · exact h4
  have hq : f.seq ≤ 1099511627776 := by rcases h3 with ⟨_, h4, _⟩ | ⟨_, h4, _⟩ <;> omega
  have a := Num.put_ten (n := f.site.toNat) (by omega)
  have b := Num.put_ten (n := f.seq.toNat) (by omega)
  have c := Num.put_ten (n := f.ack.toNat) (by omega)
  have d := Num.put_ten (n := f.body.length) (by omega)
  omega
theorem take_len2 (hd : Nat → Nat → Bool → Nat → Nat × Nat × Bool) (e : St) (s : List UInt8) : (Lnk.take hd e s).1.out.length ≤ e.out.length := by
  unfold Lnk.take
  simp only
  by_cases hc : (if (Frm.get s).2 = 0 then Lnk.asked e (Frm.get s).1 else (Frm.get s).2) = 0
  · rw [if_pos hc]
    unfold Lnk.takeF
    simp only
    split
    · exact ack_len hd _ _ _ _
    · split
      · exact ack_len hd _ _ _ _
      · exact ack_len hd _ _ _ _
  · rw [if_neg hc]
    exact Nat.le_refl _
theorem RAt.agg {v : Value} {N : Nat} {S : Nat → Prop} (h : RAt w e v N S) : ∃ C, v = .agg C := by
  obtain ⟨pre, inn, va, vi, h1, _⟩ := h
  exact ⟨_, h1⟩
theorem RAt.size2 {N : Nat} {S : Nat → Prop} (h : RAt w e (.agg C) N S) : C.size = 12 := by
  obtain ⟨pre, inn, va, vi, h1, _⟩ := h
  injection h1 with h1
  rw [h1]
  rfl
theorem RAt.size {N : Nat} {S : Nat → Prop} (h : RAt w e (.agg C) N S) : (Try.prog.info? 52).map (·.size) = some C.size := by
  rw [h.size2]
  exact size_end
theorem RAt.one {N : Nat} {S : Nat → Prop} (h : RAt w e (.agg C) N S) : C.all (·.oneCell') = true := by
  obtain ⟨pre, inn, va, vi, h1, h2⟩ := h
  injection h1 with h1
  rw [h1]
  exact rcells_any h2 _ _
theorem PL.size (h : PL w0 w g gy F e C i) : (Try.prog.info? 52).map (·.size) = some C.size := h.rat.size
theorem PL.size2 (h : PL w0 w g gy F e C i) : C.size = 12 := h.rat.size2
theorem PL.later (h : PL w0 w g gy F e C i) (hb : Below w.heap.size w w1) : PL w0 w1 g gy F e C i :=
  ⟨h.at_.below hb, (hb.block gy h.gyLt).trans h.row, h.rat.below hb, h.gyF, h.low, h.gyl, h.good, h.len, h.bel.trans (hb.mono h.bel.size)⟩
theorem PL.skip (h : PL w0 w g gy F e C i) (hb : Below w.heap.size w w1) : PL w0 w1 g gy F e C (i + 1) :=
  have h1 := h.later hb
  ⟨h1.at_, h1.row, h1.rat.mono (Nat.le_succ i), h1.gyF, h1.low, h1.gyl, h1.good.mono (by omega), h1.len, h1.bel⟩
theorem PL.start {n : Nat} {a : Int} (ha : a = n) (hn : 1 ≤ n ∧ n ≤ 16) {Z : Array Value} (h1 : At w1 (w.heap.size + 1) (fun k => k = w.heap.size + 1 ∨ k = w.heap.size) (Lnk.start n)) (hb : Below w.heap.size w w1) (h4 : Mem.New w1 w2 Z 52)
    (h5 : Mem.Put w2 w3 w1.heap.size #[.int .i64 a, .int .i64 0, .slice none 0 0, .int .i64 0, .int .i64 0, .int .i64 0, .slice none 0 0, .float .f64 0, .float .f64 0, .bool false, .bool false, .int .i64 0] 52) :
    PL w w3 (w.heap.size + 1) w1.heap.size (fun k => k = w.heap.size + 1 ∨ k = w.heap.size) (Lnk.start n) #[.int .i64 a, .int .i64 0, .slice none 0 0, .int .i64 0, .int .i64 0, .int .i64 0, .slice none 0 0, .float .f64 0, .float .f64 0, .bool false, .bool false, .int .i64 0] 0 := by
  subst ha
  have hlt : w.heap.size + 1 < w1.heap.size := At.lt h1 (.inl rfl)
  refine ⟨(h1.below h4.below).keep (G := (· = w1.heap.size)) (Mem.But.of_put h5 rfl) fun k hk h => ?_, h5.row, rat_start _ _ _, fun h => ?_, fun k hk => ?_, by omega, good_start hn, by simp [Lnk.start], ?_⟩
  · rcases hk with hk | hk <;> omega
  · rcases h with h | h <;> omega
  · rcases hk with hk | hk <;> omega
  · exact hb.trans ((h4.below.mono (by omega)).trans (h5.below (by omega)))
end
end Ply
end Go.Proofs.Ytgkadhogfejheaa
