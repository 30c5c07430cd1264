/- Words on the state of spans.walk in memory: what keeps it, what a round does to it; fenced words on memory. -/
import Derived.RangeFuncWrites
import Derived.Test.YtihdcglkmilckaaWlkC
import Derived.Test.YtihdcglkmilckaaCell
import Derived.OwnWalkIn
import Derived.TacticsIn
namespace Go.Proofs.Ytihdcglkmilckaa.Mem
open Go.RowKit
variable {F : Fence} {n : Nat} {P : Program} {ops : Array Oper} {rest : List Oper} {o : Oper} {a : Act} {w : World} {Q : Exit → Act → World → Prop}
theorem wpListIn_alloc (hgd : o.guard = none) (T : TypeId) (ho : o.op = .alloc T) (z : Value) (hz : (P.info? T).bind (·.zero) = some z)
    (h : ∀ w1, New w w1 z.cells T → wpListIn F n P ops Q rest (a.put o.dst (.pointer (some ⟨w.heap.size, 0, none⟩))) w1) : wpListIn F n P ops Q (o :: rest) a w := by
  refine wpListIn_plain hgd fun K hK => ?_
  unfold Oper.wpIn
  refine ⟨by simp [Oper.about, ho], ?_⟩
  rw [Oper.semAt_plain F _ _ (by rw [ho]; intro c hc'; cases hc')]
  unfold execOp
  simp only [ho, Instr.alloc, Sem.run_bind, run_zero hz, Result.andThen_ok, newVar, newRow, run_newObj_alloc, Sem.run_pure]
  exact hK _ _ (h _ (new_alloc _ _ _))
theorem wpListIn_box (hgd : o.guard = none) (T : TypeId) (x : Operand) (ho : o.op = .box T x) (v : Value) (hx : a.eval x = v)
    (h : ∀ w1, New w w1 v.cells T → wpListIn F n P ops Q rest (a.put o.dst (.pointer (some ⟨w.heap.size, 0, none⟩))) w1) : wpListIn F n P ops Q (o :: rest) a w := by
  refine wpListIn_plain hgd fun K hK => ?_
  unfold Oper.wpIn
  refine ⟨by simp [Oper.about, ho], ?_⟩
  rw [Oper.semAt_plain F _ _ (by rw [ho]; intro c hc'; cases hc')]
  unfold execOp
  simp only [ho, hx, Instr.box, Sem.run_bind, Result.andThen_ok, newVar, newRow, run_newObj_alloc, Sem.run_pure]
  exact hK _ _ (h _ (new_alloc _ _ _))
theorem wpListIn_store_one (hgd : o.guard = none) (ty : TypeId) (x y : Operand) (ho : o.op = .store ty x y) (g : Nat) (hx : a.eval x = .pointer (some ⟨g, 0, none⟩)) (v : Value) (hy : a.eval y = v)
    (h1 : v.oneCell' = true) (hs : (P.info? ty).map (·.size) = some 1) (t : TypeId) (u : Value) (hg : w.heap[g]? = some (.cells #[u] t (0, 0)))
    (h : ∀ w1, Put w w1 g #[v] t → wpListIn F n P ops Q rest (a.put o.dst undef) w1) : wpListIn F n P ops Q (o :: rest) a w := by
  refine wpListIn_plain hgd fun K hK => ?_
  have hc : v.cells = #[v] := by cases v <;> first | rfl | cases h1
  have hrun := run_storeCells_at (P := P) g 0 t [v] 0 #[u] w hg (by simp) (by intro u hu; simp at hu; subst hu; exact h1)
  simp only [Nat.add_zero, List.length_cons, List.length_nil, Nat.zero_add] at hrun
  have hcs : ((#[u] : Array Value).toList.take 0 ++ [v] ++ (#[u] : Array Value).toList.drop (0 + 1)).toArray = #[v] := by simp
  have hput := put_setRow w g #[v] #[u] t hg
  unfold Oper.wpIn
  refine ⟨by simp [Oper.about, ho], ?_⟩
  rw [Oper.semAt_plain F _ _ (by rw [ho]; intro c hc'; cases hc')]
  unfold execOp
  cases hq : P.info? ty with
  | none => simp [hq] at hs
  | some inf =>
    have hs1 : inf.size = 1 := by simpa [hq] using hs
    simp at hrun
    simp [ho, hx, hy, Instr.storeAt, Instr.sureAddr, storeVar, sizeOf, typeInfo, hq, hc, hs1, hrun]
    exact hK _ _ (h _ hput)
end Go.Proofs.Ytihdcglkmilckaa.Mem

namespace Go.Proofs.Ytihdcglkmilckaa
open Go.RowKit

namespace Wlk
open Spn
structure In (s : Span) : Prop where
  p0 : 0 ≤ s.f0
  p1 : 0 ≤ s.f1
  p2 : s.f0 + s.f1 ≤ 20000
theorem In.mild {s : Span} (h : In s) : Mild s := by
  have h0 := h.p0
  have h1 := h.p1
  have h2 := h.p2
  unfold Mild
  omega
theorem In.both {s : Span} (h : In s) : (0 ≤ (s.f0, true).1 ∧ (s.f0, true).1 ≤ 20000) ∧ 0 ≤ (fin s, false).1 ∧ (fin s, false).1 ≤ 20000 := by
  have h0 := h.p0
  have h1 := h.p1
  have h2 := h.p2
  unfold fin
  simp only
  omega
abbrev E20 := {e : Edge // 0 ≤ e.1 ∧ e.1 ≤ 20000}
theorem cells_at {w : World} {p : Addr} {v : Value} (h : w.cell? p = some v) : ∃ c t fr, w.heap[p.block]? = some (.cells c t fr) := by
  unfold World.cell? at h
  split at h
  · rename_i c t fr hc
    exact ⟨c, t, fr, hc⟩
  · cases h
theorem own_cells {w : World} {base : Nat} {v : Value} {l : List Span} (h : Spn.Own w base v l) : ∀ k, v.ownBlock = some k → base ≤ k ∧ k < w.heap.size ∧ ∃ c t fr, w.heap[k]? = some (.cells c t fr) := by
  rcases h.2 with ⟨rfl, _⟩ | ⟨g, cap, cur, rfl, hb, hg, _⟩
  · intro k hk; simp [Value.ownBlock] at hk
  · intro k hk
    obtain rfl : g = k := by simpa [Value.ownBlock] using hk
    exact ⟨hb, (Array.getElem?_eq_some_iff.1 hg).1, _, _, _, hg⟩
theorem holds_keep {f : Nat} {B : Bx} {base : Nat} {s : St} {R : List Edge} {v : Value} {A : Option Addr} {c : Nat} {w w' : World} (h : Holds f B base s R v A c w) (hsz : w.heap.size ≤ w'.heap.size)
    (hk : ∀ (k : Nat) (c : Array Value) (t : TypeId) (fr : Nat × Nat), w.heap[k]? = some (Obj.cells c t fr) → w'.heap[k]? = some (Obj.cells c t fr)) : Holds f B base s R v A c w' := by
  refine ⟨hk _ _ _ _ h.ri, hk _ _ _ _ h.ra, hk _ _ _ _ h.rb, hk _ _ _ _ h.ro, hk _ _ _ _ h.rl, hk _ _ _ _ h.rr, hk _ _ _ _ h.ru, ?_, h.off, h.hc, fun hn => ?_, Nat.le_trans h.hb hsz, Nat.lt_of_lt_of_le h.hg hsz⟩
  · refine own_keep h.own (fun k _ hv => ?_)
    obtain ⟨_, _, c, t, fr, hc⟩ := own_cells h.own k hv
    exact (hk _ _ _ _ hc).trans hc.symm
  · obtain ⟨off, h1, h2⟩ := h.rows hn
    refine ⟨off, h1, fun i q b hi => ?_⟩
    obtain ⟨e0, e1⟩ := h2 i q b hi
    obtain ⟨c, t, fr, hc⟩ := cells_at e0
    have hg := (hk _ _ _ _ hc).trans hc.symm
    exact ⟨(World.cell?_of_block (a := ⟨B.g, off + i * 2, none⟩) hg).trans e0, (World.cell?_of_block (a := ⟨B.g, off + i * 2 + 1, none⟩) hg).trans e1⟩
theorem holds_below {f : Nat} {B : Bx} {base : Nat} {s : St} {R : List Edge} {v : Value} {A : Option Addr} {c : Nat} {w w' : World} (h : Holds f B base s R v A c w) (hb : Below w.heap.size w w') : Holds f B base s R v A c w' :=
  holds_keep h hb.size (fun k _ _ _ hc => (hb.block k (Array.getElem?_eq_some_iff.1 hc).1).trans hc)
theorem holds_grown {f : Nat} {B : Bx} {base : Nat} {s : St} {R : List Edge} {v : Value} {A : Option Addr} {c : Nat} {w w' : World} {row : Option Nat} (h : Holds f B base s R v A c w) (hg : w.grownBy w' row) (hr : ∀ r, row = some r → ∃ o : Obj, w.heap[r]? = some o ∧ o.isCells = false) : Holds f B base s R v A c w' :=
  holds_keep h hg.size (fun k _ _ _ hc => (hg.block k (Array.getElem?_eq_some_iff.1 hc).1 (fun e => by
    obtain ⟨o, ho, hf⟩ := hr k e.symm
    rw [hc] at ho
    cases ho
    cases hf)).trans hc)
/-- the blocks that a round may write -/
def Bx.Wrote (B : Bx) (v0 : Value) (k : Nat) : Prop := k = B.o ∨ k = B.l ∨ k = B.b ∨ k = B.r ∨ k = B.a ∨ v0.ownBlock = some k
/-- where the boxes lie -/
def Bx.Within (B : Bx) (n₀ n₁ : Nat) : Prop := (n₀ ≤ B.o ∧ n₀ ≤ B.l ∧ n₀ ≤ B.b ∧ n₀ ≤ B.r ∧ n₀ ≤ B.a) ∧ B.o < n₁ ∧ B.l < n₁ ∧ B.b < n₁ ∧ B.r < n₁ ∧ B.a < n₁
theorem round_below {f : Nat} {B : Bx} {base n₀ n₁ : Nat} {s : St} {R : List Edge} {v : Value} {A : Option Addr} {c : Nat} {w w' : World} (h : Holds f B base s R v A c w) (hb : Mem.But (B.Wrote v) w w') (hw : B.Within n₀ n₁) (hn : n₀ ≤ base) : Below n₀ w w' := by
  refine hb.below (Nat.le_trans hn h.hb) (fun k hk => ?_)
  unfold Bx.Within at hw
  rcases hk with e | e | e | e | e | e
  · omega
  · omega
  · omega
  · omega
  · omega
  · exact Nat.le_trans hn (own_cells h.own k e).1
theorem round_keeps {f : Nat} {B : Bx} {base n₀ n₁ : Nat} {s s' : St} {R R' : List Edge} {v v' : Value} {A A' : Option Addr} {c c' : Nat} {w w' : World} (h : Holds f B base s R v A c w) (h' : Holds f B base s' R' v' A' c' w') (hb : Mem.But (B.Wrote v) w w')
    (hat : v'.ownBlock = v.ownBlock ∨ ∃ b, v'.ownBlock = some b ∧ w.heap.size ≤ b) (hw : B.Within n₀ n₁) (hn : n₀ ≤ base) : KeepsFrom n₁ w w' ∧ KpBox n₀ n₁ B.o 22 w w' := by
  have hbw := hw
  unfold Bx.Within at hbw
  refine ⟨⟨hb.size, fun k o hk1 hk ho => ?_⟩, round_below h hb hw hn, fun u hu _ => ?_⟩
  · refine (hb.block k (Array.getElem?_eq_some_iff.1 hk).1 (fun hh => ?_)).trans hk
    rcases hh with e | e | e | e | e | e
    · omega
    · omega
    · omega
    · omega
    · omega
    · obtain ⟨_, _, cc, t, fr, hc⟩ := own_cells h.own k e
      rw [hk] at hc
      cases hc
      cases ho
  · obtain rfl : v = u := by
      have := h.ro.symm.trans hu
      simpa using this
    refine ⟨v', h'.ro, hat, fun k hk => (own_cells h'.own k hk).2.1, fun k cc t fr hk1 hk hne => ?_⟩
    refine (hb.block k (Array.getElem?_eq_some_iff.1 hk).1 (fun hh => ?_)).trans hk
    rcases hh with e | e | e | e | e | e
    · omega
    · omega
    · omega
    · omega
    · omega
    · exact hne e
/-- one edge of the first list -/
def step (what : Bool → Bool → Bool) (F : St × List Edge) (e : Edge) : St × List Edge := ({ upto what e.1 (turn what e.1 F.1 F.2).1 with ina := e.2 }, (turn what e.1 F.1 F.2).2)
def sweep (what : Bool → Bool → Bool) (F : St × List Edge) (es : List Edge) : St × List Edge := es.foldl (step what) F
theorem sweep_snoc (what : Bool → Bool → Bool) (F : St × List Edge) (es : List Edge) (e : Edge) : sweep what F (es ++ [e]) = step what (sweep what F es) e := by unfold sweep; rw [List.foldl_append]; rfl
def walked (what : Bool → Bool → Bool) (la lb : List Span) : List Span := (turn what 20000 (sweep what (⟨[], 0, false, false⟩, edgesOf lb) (edgesOf la)).1 (sweep what (⟨[], 0, false, false⟩, edgesOf lb) (edgesOf la)).2).1.out
theorem upto_len (what : Bool → Bool → Bool) (p : Int) (s : St) : (upto what p s).out.length ≤ s.out.length + 1 := by
  unfold upto; simp only
  split
  · have := add_len s.out ⟨s.last, p - s.last⟩; omega
  · omega
theorem turn_len (what : Bool → Bool → Bool) (m : Int) : ∀ (R : List Edge) (s : St), (turn what m s R).1.out.length + (turn what m s R).2.length ≤ s.out.length + R.length := by
  intro R
  induction R with
  | nil => intro s; simp [turn]
  | cons e R ih =>
    intro s
    obtain ⟨q, b⟩ := e
    unfold turn
    split
    · have h1 := ih { upto what q s with inb := b }
      have h2 := upto_len what q s
      simp only [List.length_cons] at h1 ⊢
      omega
    · simp
theorem step_len (what : Bool → Bool → Bool) (F : St × List Edge) (e : Edge) : (step what F e).1.out.length + (step what F e).2.length ≤ F.1.out.length + F.2.length + 1 := by
  have h1 := turn_len what e.1 F.2 F.1
  have h2 := upto_len what e.1 (turn what e.1 F.1 F.2).1
  unfold step; simp only
  omega
theorem ok_step {what : Bool → Bool → Bool} {s : St} {R : List Edge} (h : Ok s R) (p : Int) (b : Bool) (h0 : 0 ≤ p) (h1 : p ≤ 20000) (hl : s.out.length + R.length + 1 ≤ 10000) : Ok { upto what p s with ina := b } R := by
  have l0 := h.l0
  have l1 := h.l1
  have h2 := upto_len what p s
  refine ⟨?_, h0, h1, ?_, h.pos⟩
  · unfold upto; simp only
    split
    · exact fits_add h.fits h.l0 (by unfold fin; simp only; omega)
    · exact h.fits
  · simp only
    omega
/-- behind upto: the store into the box of being in the first list -/
theorem holds_upto {f : Nat} {what : Bool → Bool → Bool} {B : Bx} (hap : B.Apart) {base : Nat} {s : St} {R : List Edge} {v v' : Value} {A : Option Addr} {c : Nat} {w w5 w6 : World} {p : Int} {b : Bool} (T : Holds f B base s R v A c w)
    (ro5 : w5.heap[B.o]? = some (.cells #[v'] 22 (0, 0))) (own5 : Spn.Own w5 base v' (upto what p s).out) (rl5 : w5.heap[B.l]? = some (.cells #[.int .i64 p] 3 (0, 0)))
    (hb5 : Mem.But (fun k => k = B.o ∨ k = B.l ∨ v.ownBlock = some k) w w5) (at5 : v'.ownBlock = v.ownBlock ∨ ∃ b, v'.ownBlock = some b ∧ w.heap.size ≤ b) (hp1 : Mem.Put w5 w6 B.a #[.bool b] 4) :
    Holds f B base { upto what p s with ina := b } R v' A c w6 ∧ Mem.But (B.Wrote v) w w6 := by
  have nov : ∀ k, v.ownBlock = some k → B.Off k := T.off
  have far : ∀ k, k = B.i ∨ k = B.b ∨ k = B.r ∨ k = B.u ∨ k = B.g → ¬ (k = B.o ∨ k = B.l ∨ v.ownBlock = some k) := by
    intro k hk hh
    rcases hh with rfl | rfl | hh
    · rcases hk with e | e | e | e | e
      · exact hap.io e.symm
      · exact hap.bo e.symm
      · exact hap.ro e.symm
      · exact hap.uo e.symm
      · exact hap.go e.symm
    · rcases hk with e | e | e | e | e
      · exact hap.il e.symm
      · exact hap.bl e.symm
      · exact hap.lr e
      · exact hap.ul e.symm
      · exact hap.gl e.symm
    · have := nov k hh
      unfold Bx.Off at this
      omega
  have ra5 := but_row hb5 T.ra (fun hh => by
    rcases hh with e | e | e
    · exact hap.ao e
    · exact hap.al e
    · exact (nov _ e).2.1 rfl)
  have oth : ∀ k, k ≠ B.a → w6.heap[k]? = w5.heap[k]? := fun k hk => hp1.other k hk
  have noff : ∀ k, v'.ownBlock = some k → B.Off k := by
    intro k hk
    rcases at5 with h | ⟨b', h, hge⟩
    · exact nov k (h ▸ hk)
    · rw [hk] at h
      obtain rfl : k = b' := by simpa using h
      have q1 := (Array.getElem?_eq_some_iff.1 T.ri).1
      have q2 := (Array.getElem?_eq_some_iff.1 T.ra).1
      have q3 := (Array.getElem?_eq_some_iff.1 T.rb).1
      have q4 := (Array.getElem?_eq_some_iff.1 T.ro).1
      have q5 := (Array.getElem?_eq_some_iff.1 T.rl).1
      have q6 := (Array.getElem?_eq_some_iff.1 T.rr).1
      have q7 := (Array.getElem?_eq_some_iff.1 T.ru).1
      have q8 := T.hg
      unfold Bx.Off
      omega
  refine ⟨⟨?_, hp1.row, ?_, ?_, ?_, ?_, ?_, ?_, noff, T.hc, ?_, ?_, ?_⟩, ⟨?_, ?_, ?_, ?_, ?_⟩⟩
  · exact (oth _ hap.ia).trans (but_row hb5 T.ri (far _ (.inl rfl)))
  · exact (oth _ (Ne.symm hap.ab)).trans (but_row hb5 T.rb (far _ (.inr (.inl rfl))))
  · exact (oth _ (Ne.symm hap.ao)).trans ro5
  · exact (oth _ (Ne.symm hap.al)).trans rl5
  · exact (oth _ (Ne.symm hap.ar)).trans (but_row hb5 T.rr (far _ (.inr (.inr (.inl rfl)))))
  · exact (oth _ hap.ua).trans (but_row hb5 T.ru (far _ (.inr (.inr (.inr (.inl rfl))))))
  · exact own_keep own5 (fun k _ hk => oth k (noff k hk).2.1)
  · intro hne
    obtain ⟨off', h1, h2⟩ := T.rows hne
    refine ⟨off', h1, fun i q' b' hi => ?_⟩
    obtain ⟨c1, c2⟩ := h2 i q' b' hi
    have hg6 := (oth B.g hap.ga).trans (hb5.block B.g T.hg (far _ (.inr (.inr (.inr (.inr rfl))))))
    exact ⟨(World.cell?_of_block (a := ⟨B.g, off' + i * 2, none⟩) hg6).trans c1, (World.cell?_of_block (a := ⟨B.g, off' + i * 2 + 1, none⟩) hg6).trans c2⟩
  · have := T.hb
    have := hb5.size
    have := hp1.size
    omega
  · have := T.hg
    have := hb5.size
    have := hp1.size
    omega
  · exact hp1.os.trans hb5.os
  · exact hp1.tape.trans hb5.tape
  · exact hp1.output.trans hb5.output
  · have := hb5.size
    have := hp1.size
    omega
  · intro k hk hn
    refine (oth k (fun e => hn (.inr (.inr (.inr (.inr (.inl e))))))).trans (hb5.block k hk (fun hh => hn ?_))
    rcases hh with e | e | e
    · exact .inl e
    · exact .inr (.inl e)
    · exact .inr (.inr (.inr (.inr (.inr e))))
/-- what holds between two rounds of the second loop -/
structure Inv2 (f : Nat) (what : Bool → Bool → Bool) (B : Bx) (base : Nat) (F0 : St × List Edge) (M : Nat) (w : World) (Bt D : Nat) (bt : Obj) (es : List Edge) (W : World) : Prop where
  h : ∃ v A c, Holds f B base (sweep what F0 es).1 (sweep what F0 es).2 v A c W
  ok : Ok (sweep what F0 es).1 (sweep what F0 es).2
  len : (sweep what F0 es).1.out.length + (sweep what F0 es).2.length ≤ M + es.length
  below : Below w.heap.size w W
  turn : W.heap[Bt]? = some bt
  mark : W.heap[D]? = some (.deferred (some []))
theorem inv2_grown {f : Nat} {what : Bool → Bool → Bool} {B : Bx} {base : Nat} {F0 : St × List Edge} {M : Nat} {w : World} {Bt D : Nat} {bt : Obj} {B₁ : Nat} (h1 : Bt < B₁) (h2 : D < B₁) (h3 : w.heap.size ≤ B₁) :
    OwnFrom B₁ (fun (pre : List E20) W => Inv2 f what B base F0 M w Bt D bt (pre.map (·.1)) W) := by
  intro pre W W' row h hg hr
  obtain ⟨v, A, c, hh⟩ := h.h
  refine ⟨⟨v, A, c, holds_grown hh hg (fun r e => (hr r e).2)⟩, h.ok, h.len, h.below.grown hg h.below.size (fun k e => Nat.le_trans h3 (hr k e).1), ?_, ?_⟩
  · exact (hg.block Bt (Array.getElem?_eq_some_iff.1 h.turn).1 (fun e => by have := (hr Bt e.symm).1; omega)).trans h.turn
  · exact (hg.block D (Array.getElem?_eq_some_iff.1 h.mark).1 (fun e => by have := (hr D e.symm).1; omega)).trans h.mark
theorem own_row {w : World} {base : Nat} {v : Value} {l : List Span} (h : Spn.Own w base v l) : ∀ k, v.ownBlock = some k → ∃ c, w.heap[k]? = some (.cells c 42 (0, 0)) := by
  rcases h.2 with ⟨rfl, _⟩ | ⟨g, cap, cur, rfl, hb, hg, _⟩
  · intro k hk; simp [Value.ownBlock] at hk
  · intro k hk
    obtain rfl : g = k := by simpa [Value.ownBlock] using hk
    exact ⟨_, hg⟩
/-- a round of the second loop -/
theorem inv2_round {f : Nat} {what : Bool → Bool → Bool} {B : Bx} {F0 : St × List Edge} {M n₁ : Nat} {w : World} {Bt D : Nat} {bt : Obj} {es : List Edge} {W w17 w19 : World} {v v4 v' : Value} {A A4 : Option Addr} {c c4 : Nat} {q : Int} {b : Bool}
    (hI : Inv2 f what B w.heap.size F0 M w Bt D bt es W) (hh : Holds f B w.heap.size (sweep what F0 es).1 (sweep what F0 es).2 v A c W)
    (ok4 : Ok (turn what q (sweep what F0 es).1 (sweep what F0 es).2).1 (turn what q (sweep what F0 es).1 (sweep what F0 es).2).2)
    (but4 : Mem.But (fun k => k = B.o ∨ k = B.l ∨ k = B.b ∨ k = B.r ∨ v.ownBlock = some k) W w17) (at4 : v4.ownBlock = v.ownBlock ∨ ∃ b, v4.ownBlock = some b ∧ W.heap.size ≤ b)
    (hH : Holds f B w.heap.size { upto what q (turn what q (sweep what F0 es).1 (sweep what F0 es).2).1 with ina := b } (turn what q (sweep what F0 es).1 (sweep what F0 es).2).2 v' A4 c4 w19)
    (but5 : Mem.But (B.Wrote v4) w17 w19) (at5 : v'.ownBlock = v4.ownBlock ∨ ∃ b, v'.ownBlock = some b ∧ w17.heap.size ≤ b)
    (hw : B.Within w.heap.size n₁) (hM : M + es.length + 1 ≤ 10000) (h0 : 0 ≤ q) (h1 : q ≤ 20000) (hBt : Bt ≠ B.o ∧ Bt ≠ B.l ∧ Bt ≠ B.b ∧ Bt ≠ B.r ∧ Bt ≠ B.a) (hbt : ∀ c, bt ≠ .cells c 42 (0, 0)) (hD : D ≠ B.o ∧ D ≠ B.l ∧ D ≠ B.b ∧ D ≠ B.r ∧ D ≠ B.a) :
    KeepsFrom n₁ W w19 ∧ KpBox w.heap.size n₁ B.o 22 W w19 ∧ Inv2 f what B w.heap.size F0 M w Bt D bt (es ++ [(q, b)]) w19 := by
  have hbut : Mem.But (B.Wrote v) W w19 := by
    refine Mem.But.later (but4.mono (fun k _ hh => ?_)) but5 (fun i hi hh => ?_)
    · rcases hh with e | e | e | e | e
      · exact .inl e
      · exact .inr (.inl e)
      · exact .inr (.inr (.inl e))
      · exact .inr (.inr (.inr (.inl e)))
      · exact .inr (.inr (.inr (.inr (.inr e))))
    · rcases hh with e | e | e | e | e | e
      · exact .inl e
      · exact .inr (.inl e)
      · exact .inr (.inr (.inl e))
      · exact .inr (.inr (.inr (.inl e)))
      · exact .inr (.inr (.inr (.inr (.inl e))))
      · rcases at4 with h | ⟨b', h, hge⟩
        · exact .inr (.inr (.inr (.inr (.inr (h ▸ e)))))
        · rw [e] at h
          obtain rfl : i = b' := by simpa using h
          omega
  have hat : v'.ownBlock = v.ownBlock ∨ ∃ b, v'.ownBlock = some b ∧ W.heap.size ≤ b := by
    rcases at5 with h | ⟨b', h, hge⟩
    · rw [h]; exact at4
    · exact .inr ⟨b', h, Nat.le_trans but4.size hge⟩
  obtain ⟨k1, k2⟩ := round_keeps hh hH hbut hat hw (Nat.le_refl _)
  have hst : sweep what F0 (es ++ [(q, b)]) = ({ upto what q (turn what q (sweep what F0 es).1 (sweep what F0 es).2).1 with ina := b }, (turn what q (sweep what F0 es).1 (sweep what F0 es).2).2) := sweep_snoc _ _ _ _
  have hsl := step_len what (sweep what F0 es) (q, b)
  have hlen := hI.len
  refine ⟨k1, k2, ⟨⟨v', A4, c4, ?_⟩, ?_, ?_, hI.below.trans (round_below hh hbut hw (Nat.le_refl _)), ?_, ?_⟩⟩
  · rw [hst]; exact hH
  · rw [hst]
    refine ok_step ok4 q b h0 h1 ?_
    have := turn_len what q (sweep what F0 es).2 (sweep what F0 es).1
    omega
  · rw [sweep_snoc, List.length_append]
    simp only [List.length_cons, List.length_nil]
    omega
  · refine (hbut.block Bt (Array.getElem?_eq_some_iff.1 hI.turn).1 (fun hk => ?_)).trans hI.turn
    rcases hk with e | e | e | e | e | e
    · exact hBt.1 e
    · exact hBt.2.1 e
    · exact hBt.2.2.1 e
    · exact hBt.2.2.2.1 e
    · exact hBt.2.2.2.2 e
    · obtain ⟨cc, hc⟩ := own_row hh.own Bt e
      rw [hI.turn] at hc
      exact hbt cc (by simpa using hc)
  · refine (hbut.block D (Array.getElem?_eq_some_iff.1 hI.mark).1 (fun hk => ?_)).trans hI.mark
    rcases hk with e | e | e | e | e | e
    · exact hD.1 e
    · exact hD.2.1 e
    · exact hD.2.2.1 e
    · exact hD.2.2.2.1 e
    · exact hD.2.2.2.2 e
    · obtain ⟨cc, hc⟩ := own_row hh.own D e
      rw [hI.mark] at hc
      cases hc
theorem edges_in20 {l : List Span} (h : ∀ s ∈ l, In s) : ∀ e ∈ edgesOf l, 0 ≤ e.1 ∧ e.1 ≤ 20000 := by
  intro e he
  unfold edgesOf at he
  rw [List.mem_flatMap] at he
  obtain ⟨s, hs, he⟩ := he
  have := (h s hs).both
  simp at he
  rcases he with rfl | rfl
  · exact this.1
  · exact this.2
end Wlk
end Go.Proofs.Ytihdcglkmilckaa
