/- A region that draws its order: what only reads in worlds of a class is taken first, then a chain of operations that make memory and stay in the class, then one last operation. No program in sight. -/
import Derived.Test.YtgkadhogfejheaaTail
import Derived.OrdersHeld
import Derived.Deep.RegionHeld3
namespace Go.Proofs.Ytgkadhogfejheaa.Mem
open Go.RowKit
section
variable {P : Program} {ops : Array Oper} {md : Region.Mode} {C : World → Prop} {Q : Exit → Act → World → Prop}

/-- whatever order is picked among the first n; behind each the class holds -/
def mixAny (P : Program) (md : Region.Mode) (ops : Array Oper) (C : World → Prop) (Q : Exit → Act → World → Prop) (n : Nat) (L : Array Bool → Act → World → Prop) : Nat → Array Bool → Act → World → Prop
  | 0, done, a, w => L done a w
  | f + 1, done, a, w => Region.ready md ops done ≠ [] ∧ ∀ i ∈ Region.ready md ops done, i < n ∧ wpOp P ops Q i (fun a' w' => C w' ∧ mixAny P md ops C Q n L f (done.setIfInBounds i true) a' w') a w

theorem mixAny_any {n g : Nat} {L : Array Bool → Act → World → Prop} (hL : ∀ done a w, L done a w → wpAny P md ops Q g done a w) :
    ∀ (f : Nat) (done : Array Bool) (a : Act) (w : World), mixAny P md ops C Q n L f done a w → wpAny P md ops Q (f + g) done a w
  | 0, done, a, w, h => by rw [Nat.zero_add]; exact hL _ _ _ h
  | f + 1, done, a, w, h => by
    rw [show f + 1 + g = (f + g) + 1 by omega]
    exact ⟨fun h0 => absurd h0 h.1, fun i hi => wpOp_mono (fun a' w' h' => mixAny_any hL f _ a' w' h'.2) (h.2 i hi).2⟩

theorem mixAny_first {n i : Nat} {o : Oper} {v : Value} {L : Array Bool → Act → World → Prop} (hi : ops[i]? = some o) (hsel : ∀ (j : Nat) (o : Oper) cs b, ops[j]? = some o → o.op ≠ .select cs b)
    (hs : Region.sinkB md ops n = true) (hc : Region.chainB md ops n = true) (hn : n < ops.size) (hin : i < n) (hend : ∀ done a w, L done a w → ∀ j ∈ Region.ready md ops done, n ≤ j)
    (hQ : ∀ c a w, Q (.panic c) (a.put o.dst v) w → Q (.panic c) a w) :
    ∀ (f : Nat) (done : Array Bool) (a : Act) (w : World), HeadInv md ops n done →
      (∀ j oj, ops[j]? = some oj → j ≠ i → done.getD j true = false → (∀ e ∈ oj.after, Region.binds md e = true → e.on ≠ i) → o.apart ops oj = true) →
      i ∈ Region.ready md ops done → YieldsIf P ops C o v a → C w →
      mixAny P md ops C Q n L f (done.setIfInBounds i true) (a.put o.dst v) w → mixAny P md ops C Q n L (f + 1) done a w := by
  intro f
  induction f with
  | zero =>
    intro done a w inv _ hr hy hw H
    have hun := (mem_ready.1 hr).1
    refine ⟨fun h => (by rw [h] at hr; cases hr), fun j hj => ?_⟩
    have hjn : j < n := by
      rcases Nat.lt_or_ge j n with h | h
      · exact h
      · exact absurd hj (tail_waits hs hc hn inv _ i rfl hin hun j h)
    refine ⟨hjn, ?_⟩
    by_cases hji : j = i
    · subst hji; exact hy.wpOp hi hw ⟨hw, H⟩
    · have := hend _ _ _ H j (ready_mono hj hji)
      omega
  | succ f ih =>
    intro done a w inv hfree hr hy hw H
    have hun := (mem_ready.1 hr).1
    refine ⟨fun h => (by rw [h] at hr; cases hr), fun j hj => ?_⟩
    have hjn : j < n := by
      rcases Nat.lt_or_ge j n with h | h
      · exact h
      · exact absurd hj (tail_waits hs hc hn inv _ i rfl hin hun j h)
    refine ⟨hjn, ?_⟩
    by_cases hji : j = i
    · subst hji; exact hy.wpOp hi hw ⟨hw, H⟩
    · have h1 := (H.2 j (ready_mono hj hji)).2
      obtain ⟨hjun, oj, hoj, hall⟩ := mem_ready.1 hj
      have hnot : ∀ e ∈ oj.after, Region.binds md e = true → e.on ≠ i := fun e he hb heq => by
        have h1 := hall e he hb
        rw [heq, getD_both hun] at h1
        cases h1
      have h2 := wpOp_putIf hoj (hfree j oj hoj hji hjun hnot) (fun cs b => hsel i o cs b hi) (fun cs b => hsel j oj cs b hoj) hQ hy h1
      have hfree' : ∀ k ok, ops[k]? = some ok → k ≠ i → (done.setIfInBounds j true).getD k true = false →
          (∀ e ∈ ok.after, Region.binds md e = true → e.on ≠ i) → o.apart ops ok = true := fun k ok hk hki hun hno => by
        refine hfree k ok hk hki ?_ hno
        by_cases hjk : j = k
        · subst hjk; exact hjun
        · rw [getD_set_ne true hjk] at hun; exact hun
      refine wpOp_mono (fun a' w' h3 => ⟨h3.2.1, ih (done.setIfInBounds j true) a' w' (inv.set hj hjn) hfree' (ready_mono hr (Ne.symm hji)) h3.1 h3.2.1 ?_⟩) h2
      rw [Array.setIfInBounds_comm _ _ hji]
      exact h3.2.2

def takeB (md : Region.Mode) (ops : Array Oper) (n : Nat) (k : Array Bool → Bool) : List Nat → Array Bool → Bool
  | [], done => k done
  | i :: r, done => decide (i < n) && ((Region.ready md ops done).contains i && (Region.free md ops done i && takeB md ops n k r (done.setIfInBounds i true)))
def rowB (md : Region.Mode) (ops : Array Oper) (n : Nat) (k : Array Bool → Bool) : List Nat → Array Bool → Bool
  | [], done => k done
  | i :: r, done => decide (i < n) && (decide (Region.ready md ops done = [i]) && rowB md ops n k r (done.setIfInBounds i true))
/-- reads, one behind the other: each yields its value in every world of the class -/
def takes (P : Program) (ops : Array Oper) (C : World → Prop) (K : Act → Prop) : List Nat → Act → Prop
  | [], a => K a
  | i :: r, a => ∃ o v, ops[i]? = some o ∧ YieldsIf P ops C o v a ∧ takes P ops C K r (a.put o.dst v)
/-- the chain -/
def chain (P : Program) (ops : Array Oper) (C : World → Prop) (Q : Exit → Act → World → Prop) (K : Act → World → Prop) : List Nat → Act → World → Prop
  | [], a, w => K a w
  | i :: r, a, w => ∃ o, ops[i]? = some o ∧ o.guard = none ∧ o.wp P a w (fun a' w' => C w' ∧ chain P ops C Q K r a' w') Q

theorem chain_mix {n : Nat} {L : Array Bool → Act → World → Prop} {k : Array Bool → Bool} {K : Act → World → Prop} (hL : ∀ done a w, k done = true → K a w → L done a w) :
    ∀ (ts : List Nat) (done : Array Bool) (a : Act) (w : World), rowB md ops n k ts done = true → chain P ops C Q K ts a w → mixAny P md ops C Q n L ts.length done a w
  | [], done, a, w, hB, h => hL done a w hB h
  | i :: r, done, a, w, hB, h => by
    simp only [rowB, Bool.and_eq_true, decide_eq_true_eq] at hB
    obtain ⟨hin, hr, hB'⟩ := hB
    obtain ⟨o, ho, hg, hw⟩ := h
    refine ⟨by rw [hr]; simp, fun j hj => ?_⟩
    rw [hr] at hj
    have hji : j = i := by simpa using hj
    subst hji
    refine ⟨hin, ?_⟩
    unfold wpOp
    simp only [ho]
    have hwant : Region.wanted o (yielded ops a.tmps) = true := by simp [Region.wanted, hg]
    rw [if_pos hwant]
    exact .inl (Oper.wp_mono (fun a' w' h' => ⟨h'.1, chain_mix hL r _ a' w' hB' h'.2⟩) hw)

theorem take_mix {n g : Nat} {L : Array Bool → Act → World → Prop} {k : Array Bool → Bool} {K : Act → Prop} {w : World} (hsel : Region.noSelect ops = true) (hs : Region.sinkB md ops n = true) (hc : Region.chainB md ops n = true) (hn : n < ops.size)
    (hend : ∀ done a w, L done a w → ∀ j ∈ Region.ready md ops done, n ≤ j) (hQ : ∀ (o : Oper) (v : Value) c a w, Q (.panic c) (a.put o.dst v) w → Q (.panic c) a w) (hC : C w)
    (hK : ∀ done a, k done = true → K a → mixAny P md ops C Q n L g done a w) :
    ∀ (hs' : List Nat) (done : Array Bool) (a : Act), HeadInv md ops n done → takeB md ops n k hs' done = true → takes P ops C K hs' a → mixAny P md ops C Q n L (g + hs'.length) done a w
  | [], done, a, _, hB, h => hK done a hB h
  | i :: r, done, a, inv, hB, h => by
    simp only [takeB, Bool.and_eq_true, decide_eq_true_eq] at hB
    obtain ⟨hin, hr, hf, hB'⟩ := hB
    obtain ⟨o, v, ho, hy, hrest⟩ := h
    have hr' : i ∈ Region.ready md ops done := by simpa using hr
    exact mixAny_first ho (Region.noSelect_spec hsel) hs hc hn hin hend (hQ o v) (g + r.length) done a w inv (Region.free_spec ho hf) hr' hy hC
      (take_mix hsel hs hc hn hend hQ hC hK r _ _ (inv.set hr' hin) hB' hrest)

theorem wp_region_mix {id : Nat} {a : Act} {w : World} {l : List Oper} (n : Nat) (hs ts : List Nat) (hm : P.follows .mixedOrders = true) (hlen : hs.length + ts.length = n)
    (hB : (Region.noSelect l.toArray && (decide (n < l.length) && (Region.sinkB .any l.toArray n && (Region.chainB .any l.toArray n &&
      takeB .any l.toArray n (fun d => rowB .any l.toArray n (fun d' => Region.seqB .any l.toArray (l.length - n) n d') ts d) hs (Array.replicate l.length false))))) = true)
    (C : World → Prop) (hC : C w.drew) (h : takes P l.toArray C (fun a1 => chain P l.toArray C (NoPanic Q) (fun a2 w2 => wpList P l.toArray (NoPanic Q) (l.drop n) a2 w2) ts a1 w.drew) hs a) : (Code.region id l.toArray true).wp P Q a w := by
  simp only [Bool.and_eq_true, decide_eq_true_eq] at hB
  obtain ⟨hsel, hn', hsk, hch, htk⟩ := hB
  have hn : n < l.toArray.size := by simpa using hn'
  have hdl : (l.drop n).length = l.length - n := by simp
  have inv0 : HeadInv .any l.toArray n (Array.replicate l.length false) :=
    ⟨by simp, fun j oj _ hl => (by rw [getD_replicate_false] at hl; cases hl), fun t _ ht => getD_in (by simpa using ht) (getD_replicate_false _ _)⟩
  refine wp_region_noPanic (wp_region_any hm ?_)
  have H := take_mix (P := P) (C := C) (Q := NoPanic Q) (g := ts.length) (L := fun done a w => Region.seqB .any l.toArray (l.length - n) n done = true ∧ wpList P l.toArray (NoPanic Q) (l.drop n) a w)
    (k := fun d => rowB .any l.toArray n (fun d' => Region.seqB .any l.toArray (l.length - n) n d') ts d)
    (K := fun a1 => chain P l.toArray C (NoPanic Q) (fun a2 w2 => wpList P l.toArray (NoPanic Q) (l.drop n) a2 w2) ts a1 w.drew)
    hsel hsk hch hn (fun _ _ _ hL => seqB_ready hL.1) (fun _ _ _ _ _ h => h.elim) hC
    (fun done a hk hK => chain_mix (fun d a w hd hw => ⟨hd, hw⟩) ts done a w.drew hk hK) hs _ a inv0 htk h
  have H2 := mixAny_any (g := l.length - n) (fun done a' w' hL => by
    have := wpAny_of_seq (md := .any) (Q' := NoPanic Q) (l.drop n) n done a' w' (fun j => by simp [List.getElem?_drop]) (by rw [hdl]; exact hL.1) hL.2
    rwa [hdl] at this) _ _ _ _ H
  have hsz : l.toArray.size = ts.length + hs.length + (l.length - n) := by simp; omega
  rw [hsz, show ts.length + hs.length + (l.length - n) = l.length by omega]
  rw [show ts.length + hs.length + (l.length - n) = l.length by omega] at H2
  exact H2
end
end Go.Proofs.Ytgkadhogfejheaa.Mem
