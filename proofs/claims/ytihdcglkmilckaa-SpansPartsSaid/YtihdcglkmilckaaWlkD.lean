/- The walk of spans.walk. -/
import Derived.RangeFuncBox
import Derived.Maps.OwnIn
import Derived.Test.YtihdcglkmilckaaSpnY
import Derived.Test.YtihdcglkmilckaaWlkE
namespace Go.Proofs.Ytihdcglkmilckaa
open Go.RowKit Go.Shelf

attribute [local go_sem] Oper.semAt_some

namespace Wlk
open Spn PSpansOpen Go.Proofs.YtihdcglkmilckaaW.PrintWords
def flatE (R : List Edge) : List Value := R.flatMap fun e => [.int .i64 e.1, .bool e.2]
theorem flatE_snoc (R : List Edge) (e : Edge) : flatE (R ++ [e]) = flatE R ++ [.int .i64 e.1, .bool e.2] := by unfold flatE; rw [List.flatMap_append]; rfl
theorem flatE_length (R : List Edge) : (flatE R).length = R.length * 2 := by
  induction R with
  | nil => rfl
  | cons s l ih =>
    have : flatE (s :: l) = .int .i64 s.1 :: .bool s.2 :: flatE l := rfl
    rw [this]; simp only [List.length_cons, ih]; omega
theorem flatE_get (l : List Edge) (i : Nat) (q : Int) (b : Bool) (h : l[i]? = some (q, b)) : (flatE l)[i * 2]? = some (.int .i64 q) ∧ (flatE l)[i * 2 + 1]? = some (.bool b) := by
  induction l generalizing i with
  | nil => simp at h
  | cons t l ih =>
    have e : flatE (t :: l) = .int .i64 t.1 :: .bool t.2 :: flatE l := rfl
    rw [e]
    cases i with
    | zero => simp at h; subst h; simp
    | succ i =>
      have := ih i (by simpa using h)
      rw [show (i + 1) * 2 = i * 2 + 1 + 1 by omega, List.getElem?_cons_succ, List.getElem?_cons_succ, List.getElem?_cons_succ, List.getElem?_cons_succ]
      exact this
def OwnE (w : World) (base : Nat) (v : Value) (R : List Edge) : Prop := w.ownsRow base 65 2 v R.length (flatE R)
theorem ownE_form {w : World} {base : Nat} {v : Value} {R : List Edge} (h : OwnE w base v R) : ∃ A cap, v = .slice A R.length cap ∧ R.length ≤ cap ∧ (R ≠ [] → ∃ g, A = some ⟨g, 0, none⟩ ∧ base ≤ g ∧ g < w.heap.size ∧ v.ownBlock = some g ∧ EdgesAt w g 0 R) := by
  rcases h.2 with ⟨rfl, h0⟩ | ⟨g, cap, cur, rfl, hb, hg, h1, h2, h3, h4⟩
  · exact ⟨none, 0, by rw [h0], by omega, fun hn => absurd (List.eq_nil_of_length_eq_zero h0) hn⟩
  · refine ⟨_, cap, rfl, h1, fun _ => ⟨g, rfl, hb, (Array.getElem?_eq_some_iff.1 hg).1, rfl, fun i q b hi => ?_⟩⟩
    obtain ⟨f1, f2⟩ := flatE_get R i q b hi
    have hi2 : i < R.length := (List.getElem?_eq_some_iff.1 hi).1
    rw [← h4, List.getElem?_take_of_lt (by omega), Array.getElem?_toList] at f1 f2
    rw [Nat.zero_add]
    exact ⟨(cell_of_row _ _ _ _ _ _ hg).trans f1, (cell_of_row _ _ _ _ _ _ hg).trans f2⟩
theorem info_edge : (Try.prog.info? 65).map (fun i => (i.zero, i.size, i.bytes)) = some (some (.agg #[.int .i64 0, .bool false]), 2, 16) := by kernel_rfl
theorem kp_step {n₀ n₁ B T : Nat} {W w1 : World} {v v' : Value} {tmp : Obj} (hv : Boxed W B T v) (hv2 : Boxed (w1.setCell ⟨B, 0, none⟩ v') B T v') (hB : B < n₁) (hgrow : (W.alloc tmp).grownBy w1 v.ownBlock) (hat : v'.ownBlock = v.ownBlock ∨ v'.ownBlock = some (W.alloc tmp).heap.size)
    (hlt : ∀ k, v'.ownBlock = some k → k < w1.heap.size) (hb : Below n₀ W (w1.setCell ⟨B, 0, none⟩ v')) : KpBox n₀ n₁ B T W (w1.setCell ⟨B, 0, none⟩ v') := by
  refine ⟨hb, fun u hu _ => ?_⟩
  obtain rfl : v = u := by
    have := (show W.heap[B]? = _ from hv).symm.trans hu
    simpa using this
  refine ⟨v', hv2, ?_, fun k hk => by have := hlt k hk; simpa using this, fun k c t fr hk hc hne => ?_⟩
  · rcases hat with h | h
    · exact .inl h
    · exact .inr ⟨_, h, by simp⟩
  · have hk2 := (Array.getElem?_eq_some_iff.1 hc).1
    exact (Below.heap_setCell _ _ _ k (by simp only; omega)).trans ((hgrow.block k (by simp; omega) (fun e => hne e.symm)).trans ((heap_alloc_old W tmp _ hk2).trans hc))
theorem ownE_lt {w : World} {base : Nat} {v : Value} {n : Nat} {xs : List Value} (h : w.ownsRow base 65 2 v n xs) : ∀ k, v.ownBlock = some k → k < w.heap.size := by
  rcases h.2 with ⟨rfl, _⟩ | ⟨g, cap, cur, rfl, hb, hg, _⟩
  · intro k hk; simp [Value.ownBlock] at hk
  · intro k hk
    obtain rfl : g = k := by simpa [Value.ownBlock] using hk
    exact (Array.getElem?_eq_some_iff.1 hg).1
theorem four (W : World) (a b c d : Obj) : ((((W.alloc a).alloc b).alloc c).alloc d).heap[W.heap.size]? = some a ∧ ((((W.alloc a).alloc b).alloc c).alloc d).heap[W.heap.size + 1]? = some b ∧ ((((W.alloc a).alloc b).alloc c).alloc d).heap[W.heap.size + 1 + 1]? = some c ∧
    ((((W.alloc a).alloc b).alloc c).alloc d).heap[W.heap.size + 1 + 1 + 1]? = some d ∧ ((((W.alloc a).alloc b).alloc c).alloc d).heap.size = W.heap.size + 4 ∧ Below W.heap.size W ((((W.alloc a).alloc b).alloc c).alloc d) := by
  have s1 : (W.alloc a).heap.size = W.heap.size + 1 := by simp
  have s2 : ((W.alloc a).alloc b).heap.size = W.heap.size + 2 := by simp
  have s3 : (((W.alloc a).alloc b).alloc c).heap.size = W.heap.size + 3 := by simp
  have n1 := heap_alloc_new (W.alloc a) b
  have n2 := heap_alloc_new ((W.alloc a).alloc b) c
  have n3 := heap_alloc_new (((W.alloc a).alloc b).alloc c) d
  rw [s1] at n1
  rw [s2] at n2
  rw [s3] at n3
  refine ⟨?_, ?_, ?_, n3, by simp, ?_⟩
  · rw [heap_alloc_old _ _ _ (by omega), heap_alloc_old _ _ _ (by omega), heap_alloc_old _ _ _ (by omega)]; exact heap_alloc_new W a
  · rw [heap_alloc_old _ _ _ (by omega), heap_alloc_old _ _ _ (by omega)]; exact n1
  · rw [heap_alloc_old _ _ _ (by omega)]; exact n2
  · exact ((((Below.refl _ W).alloc (Nat.le_refl _) _).alloc (by omega) _).alloc (by omega) _).alloc (by omega) _
/-- a list that lies in memory -/
def Lies (w : World) (n₀ : Nat) (A : Option Addr) (L : List Span) : Prop := (∀ s ∈ L, In s) ∧ L.length ≤ 10000 ∧ (L ≠ [] → ∃ b off, A = some ⟨b, off, none⟩ ∧ b < n₀ ∧ At w b off L)
end Wlk

theorem Wlk.edges_stops (n : Nat) (hn : 3 ≤ n) (Bs n₀ n₁ Bx T cap : Nat) (A : Option Addr) (L : List Spn.Span) (w : World) (hBs : w.heap[Bs]? = some (.cells #[.slice A L.length cap] 22 (0, 0))) (hL : Wlk.Lies w n₀ A L) (hn0 : n₀ ≤ w.heap.size) (hn1 : n₁ ≤ w.heap.size)
    (hv : ∃ v, w.heap[Bx]? = some (.cells #[v] T (0, 0)) ∧ ∀ k, v.ownBlock = some k → k < w.heap.size) :
    SeqStopsK Fence.wide n Try.prog 52 #[.pointer (some ⟨Bs, 0, none⟩)] (fun x : Wlk.E20 => #[.int .i64 x.1.1, .bool x.1.2]) (Wlk.KpBox n₀ n₁ Bx T) (fun xs => xs.map (·.1) = Wlk.edgesOf L) (fun _ => True) (2 * L.length) w := by
  intro l J Jx W hW hJ _ hY h0
  have hc : W.cell? ⟨Bs, 0, none⟩ = some (.slice A L.length cap) := (cell_of_row _ _ 0 _ _ _ ((hW.block Bs (Array.getElem?_eq_some_iff.1 hBs).1).trans hBs)).trans rfl
  obtain ⟨v, hv1, hv2⟩ := hv
  by_cases he : L = []
  · subst he
    exact (edges1_nil n l Bs (fun _ W => J [] W) W A cap hc h0).mono fun e w' h => ⟨h.1, .inl ⟨[], rfl, h.2⟩⟩
  · obtain ⟨b, off, rfl, hb, hat⟩ := hL.2.2 he
    have hW2 := hW.mono hn0
    have := edges1_in n hn l Bs n₀ n₁ Bx T b off cap L L.length rfl hL.2.1 (fun s hs => (hL.1 s hs).mild) hb (fun pre W => ∃ q : List Wlk.E20, q.map (·.1) = pre ∧ J q W) (fun pre W => ∃ q : List Wlk.E20, q.map (·.1) = pre ∧ Jx q W) W (Nat.le_trans hn1 hW.size) (Nat.le_trans hn0 hW.size)
      (fun s A B row hs hg hr => by obtain ⟨q, h1, h2⟩ := hs; exact ⟨q, h1, hJ q A B row h2 hg hr⟩) (fun x => 0 ≤ x.1 ∧ x.1 ≤ 20000) (fun s hs => (hL.1 s hs).both)
      (fun pre x W ⟨q, h1, h2⟩ hl hx => by
        subst h1
        obtain ⟨fn, tmps, assign, body, h3, h4⟩ := hY q ⟨x, hx⟩ W h2 (by simpa using hl)
        refine ⟨fn, tmps, assign, body, h3, h4.mono ?_⟩
        rintro e W' (⟨h5, h6, h7⟩ | ⟨h5, h6⟩)
        · exact .inl ⟨h5, ⟨_, by simp, h6⟩, h7⟩
        · exact .inr ⟨h5, ⟨_, by simp, h6⟩⟩) hc
      (fun i s hi => ⟨(hW2.cell (p := ⟨b, off + i * 2, none⟩) hb).trans (hat i s hi).1, (hW2.cell (p := ⟨b, off + i * 2 + 1, none⟩) hb).trans (hat i s hi).2⟩)
      ⟨v, (hW.block Bx (Array.getElem?_eq_some_iff.1 hv1).1).trans hv1, fun k hk => Nat.lt_of_lt_of_le (hv2 k hk) hW.size⟩ ⟨[], rfl, h0⟩
    refine this.mono ?_
    rintro e W' ⟨h1, (⟨ys, h2, q, h3, h4⟩ | ⟨pre, _, q, h3, h4⟩)⟩
    · exact ⟨h1, .inl ⟨q, h3.trans h2, h4⟩⟩
    · exact ⟨h1, .inr ⟨q, trivial, h4⟩⟩

set_option maxRecDepth 100000 in
set_option maxHeartbeats 4000000 in
theorem spans_walk (f : Nat) (what : Bool → Bool → Bool) (hf : Wlk.Does f what) (he : ∀ args w, (callFunc f args).run Try.prog w = .ok (.enter f args) w) (la lb : List Spn.Span) (Aa Ab : Option Addr) (ca cb : Nat) (w : World)
    (hma : ∀ w', Below w.heap.size w w' → Calls Try.prog 27 #[.slice Aa la.length ca] w' fun e w'' => e = .returned (.bool true) ∧ Below w'.heap.size w' w'')
    (hmb : ∀ w', Below w.heap.size w w' → Calls Try.prog 27 #[.slice Ab lb.length cb] w' fun e w'' => e = .returned (.bool true) ∧ Below w'.heap.size w' w'')
    (hLa : Wlk.Lies w w.heap.size Aa la) (hLb : Wlk.Lies w w.heap.size Ab lb) (hok : 2 * la.length + 2 * lb.length ≤ 9999) :
    Calls Try.prog 35 #[.slice Aa la.length ca, .slice Ab lb.length cb, .func (.func f) #[] #[]] w fun e w' => ∃ v, e = .returned (.tuple #[v, .int .i64 0]) ∧ Spn.Own w' w.heap.size v (Wlk.walked what la lb) ∧ Below w.heap.size w w' := by
  refine (callsIn_wide (n := 6)).1 ?_
  refine callsIn_of_wp_marks Try.func35 rfl trivial ?_ rfl
  simp only [Try.ntmps35, List.size_toArray, List.length_cons, List.length_nil, Nat.reduceAdd, Nat.reduceSub, Array.replicate_succ, Array.replicate_zero, List.push_toArray, List.append_toArray, List.nil_append, List.cons_append]
  have Hma := Lib.hid hma
  have Hmb := Lib.hid hmb
  have HLa := Lib.hid hLa
  have HLb := Lib.hid hLb
  have Hf := Lib.hid hf
  have He := Lib.hid he
  clear hma hmb hLa hLb hf he
  gi_wp2
  have bi := heap_alloc_new w (.cells #[.func (.func f) #[] #[]] 52)
  have hb0 : Below w.heap.size w (w.alloc (.cells #[.func (.func f) #[] #[]] 52)) := (Below.refl _ _).alloc (Nat.le_refl _) _
  have hs0 : (w.alloc (.cells #[.func (.func f) #[] #[]] 52)).heap.size = w.heap.size + 1 := by simp
  generalize w.alloc (.cells #[.func (.func f) #[] #[]] 52) = w0 at bi hb0 hs0 ⊢
  refine ⟨trivial, ?_⟩
  refine (callsIn_wide.2 (Hma.out w0 hb0)).mono ?_
  rintro e w1 ⟨rfl, hb1⟩
  gi_wp2
  refine ⟨trivial, ?_⟩
  refine (callsIn_wide.2 (Hmb.out w1 (Mem.then_ hb0 hb1))).mono ?_
  rintro e w2 ⟨rfl, hb2⟩
  have bi2 : w2.heap[w.heap.size]? = some (.cells #[.func (.func f) #[] #[]] 52) := (hb2.block _ (by have := hb1.size; omega)).trans ((hb1.block _ (by omega)).trans bi)
  have hB2 := Lib.hid (Mem.then_ (Mem.then_ hb0 hb1) hb2)
  have hs2 : w.heap.size < w2.heap.size := by have := hb1.size; have := hb2.size; omega
  have Bi2 := Lib.hid bi2
  clear hb0 hb1 hb2 bi bi2 hs0
  gi_wp2
  refine ⟨trivial, ?_⟩
  refine (edges_in 5 Ab lb.length cb _).mono ?_
  rintro e w3 ⟨rfl, rfl⟩
  simp only [World.size_alloc]
  have br := Boxed.new w2 60 (.slice none 0 0)
  have be := Boxed.new (w2.alloc (.cells #[.slice none 0 0] 60)) 22 (.slice Ab lb.length cb)
  have br := br.alloc (.cells #[.slice Ab lb.length cb] 22)
  have hb4 : Below w2.heap.size w2 ((w2.alloc (.cells #[.slice none 0 0] 60)).alloc (.cells #[.slice Ab lb.length cb] 22)) := ((Below.refl _ w2).alloc (Nat.le_refl _) _).alloc (by simp) _
  have hs4 : ((w2.alloc (.cells #[.slice none 0 0] 60)).alloc (.cells #[.slice Ab lb.length cb] 22)).heap.size = w2.heap.size + 2 := by simp
  rw [World.size_alloc] at be
  generalize (w2.alloc (.cells #[.slice none 0 0] 60)).alloc (.cells #[.slice Ab lb.length cb] 22) = w4 at br be hb4 hs4 ⊢
  gi_wp2
  obtain ⟨i0, hi, hz0, hz1, hz2⟩ := info_parts Wlk.info_edge
  have HLb4 : Wlk.Lies w4 w.heap.size Ab lb := ⟨HLb.out.1, HLb.out.2.1, fun hn => by
    obtain ⟨b, off, h1, h2, h3⟩ := HLb.out.2.2 hn
    have hB := hB2.out.trans (hb4.mono (Nat.le_of_lt hs2))
    exact ⟨b, off, h1, h2, fun i s hi => ⟨(hB.cell (p := ⟨b, off + i * 2, none⟩) h2).trans (h3 i s hi).1, (hB.cell (p := ⟨b, off + i * 2 + 1, none⟩) h2).trans (h3 i s hi).2⟩⟩⟩
  refine wpIn_rangeFunc_ownG rfl (by omega) (gf := 52) (lb := #[.pointer (some ⟨w2.heap.size + 1, 0, none⟩)]) rfl trivial (enters_of Try.func52 (by kernel_rfl) rfl)
    (Wlk.edges_stops 5 (by omega) (w2.heap.size + 1) w.heap.size w4.heap.size w2.heap.size 60 cb Ab lb w4 be HLb4 (by omega) (Nat.le_refl _) ⟨_, br, fun k hk => by simp [Value.ownBlock] at hk⟩) Wlk.kp_t (Wlk.kp_b (by omega)) (Below.refl _ _) (fun _ => rfl)
    (fun pre W => (∃ v, Boxed W w2.heap.size 60 v ∧ W.ownsRow w2.heap.size 65 2 v pre.length (Wlk.flatE (pre.map (·.1))) ∧ True) ∧ Below w2.heap.size w2 W)
    (fun _ _ _ => False)
    (OwnFrom.and (Own.from (holdsRow_own w2.heap.size w2.heap.size 60 65 2 (fun pre : List Wlk.E20 => pre.length) (fun pre => Wlk.flatE (pre.map (·.1))) (fun _ _ => True)) _) (ownFrom_below (Nat.le_refl _) (by omega)))
    (fun _ _ _ _ _ hs _ _ => hs)
    ⟨⟨_, br, World.ownsRow_nil _ _ _ _, trivial⟩, hb4⟩
    (fun x => { tmps := #[.slice Aa la.length ca, .slice Ab lb.length cb, .func (.func f) #[] #[], undef, undef, .pointer (some ⟨w.heap.size, 0, none⟩), .slice none 0 0, .int .i64 0,
        .pointer (some ⟨w2.heap.size, 0, none⟩), .int .i64 x.1.1, .bool x.1.2, undef, undef, undef, undef, undef, undef, undef, undef, .slice Aa la.length ca, .bool true, .bool false, .bool false, .slice Ab lb.length cb, .bool true, .bool false, .bool false, .slice Ab lb.length cb,
        .func (.func 52) #[] #[.pointer (some ⟨w2.heap.size + 1, 0, none⟩)], .int .i64 x.1.1, .bool x.1.2, undef, undef, undef, undef, undef, undef, undef, undef, undef, undef, undef, undef, undef, undef, undef, undef, undef, undef, undef, undef, undef, undef], defers := [] }) ?assign ?body ?done ?stop
  case assign =>
    intro l x W K hK
    gi_wp2
    exact hK
  case body =>
    rintro l pre ⟨⟨q, b⟩, hqb⟩ W ⟨⟨v, hv, hrow, _⟩, hB⟩ hlt
    have hc := hv.cell
    have hlb := HLb.out.2.1
    gi_wp2_with (
      gi_at_builtin
      refine wpListIn_append_own_at _ rfl _ _ 60 rfl w2.heap.size 65 i0 (.agg #[.int .i64 0, .bool false]) 2 16 Try.underlying60 hi hz0 hz1 hz2 rfl (by decide) v pre.length (Wlk.flatE (pre.map (·.1))) rfl (hrow.alloc _) ⟨W.heap.size, 0, none⟩ 1 1 [.int .i64 q, .bool b] rfl rfl (World.news_of_block (heap_alloc_new W _)) (fun u hu => by simp at hu; rcases hu with rfl | rfl <;> rfl) (by unfold maxLen; omega) (by omega) (by have := hB.size; simp; omega) ?_
      intro v' w5 hown' hgrow _ hat
      obtain ⟨g', cap', rfl⟩ := ownsRow_succ hown'
      obtain ⟨hv1, hv2, hr2, hk2, hb2⟩ := hv.appended (by decide) hrow hB.size (Nat.le_refl _) hown' hgrow
      have hc1 := hv1.cell
      have hf1 := hv1.frozen)
    exact ⟨hk2.from _, Wlk.kp_step hv hv2 (by omega) hgrow hat (Wlk.ownE_lt hown') (hb2.mono (Nat.le_of_lt hs2)), ⟨_, hv2, by rw [List.map_append, List.length_append]; exact (Wlk.flatE_snoc (pre.map (·.1)) (q, b)).symm ▸ hr2, trivial⟩, hB.trans hb2⟩
  case done =>
    rintro D ys W hD hys ⟨⟨v, hv, hrow, _⟩, hB⟩ hK
    rw [← List.length_map (f := (·.1)), hys] at hrow
    have Hv := Lib.hid hv
    have Hrow := Lib.hid hrow
    have HB := Lib.hid hB
    have HK := Lib.hid hK
    clear hv hrow hB hK
    gi_wp2_with (first
      | (have h4 := Wlk.four W (.cells #[.slice none 0 0] 22) (.cells #[.int .i64 0] 3) (.cells #[.bool false] 4) (.cells #[.bool false] 4)
         generalize (((W.alloc (.cells #[.slice none 0 0] 22)).alloc (.cells #[.int .i64 0] 3)).alloc (.cells #[.bool false] 4)).alloc (.cells #[.bool false] 4) = w8 at h4 ⊢
         obtain ⟨x5, x6, x7, x8, z8, b8⟩ := h4
         have X5 := Lib.hid x5
         have X6 := Lib.hid x6
         have X7 := Lib.hid x7
         have X8 := Lib.hid x8
         have B8 := Lib.hid b8
         have Z8 := Lib.hid z8
         clear x5 x6 x7 x8 b8 z8
         with_reducible refine Mem.wpListIn_alloc (o := ⟨some 15, _, _, _, _, _⟩) ?_ 66 ?_ .nilFunc ?_ ?_
         · rfl
         · rfl
         · kernel_rfl
         intro w12 h12
         have R12 := Lib.hid (show w12.heap[w8.heap.size]? = some (.cells #[.nilFunc] 66 (0, 0)) from h12.row)
         have H12 := Lib.hid h12
         clear h12)
      | (with_reducible refine Mem.wpListIn_store_one (o := ⟨none, .store 66 (.tmp 15) _, _, _, _, _⟩) ?_ 66 (.tmp 15) (.tmp 37) ?_ w8.heap.size ?_ (.func (.func 46) #[] #[.pointer (some ⟨w.heap.size, 0, none⟩), .pointer (some ⟨W.heap.size + 1 + 1, 0, none⟩), .pointer (some ⟨W.heap.size + 1 + 1 + 1, 0, none⟩), .pointer (some ⟨W.heap.size, 0, none⟩), .pointer (some ⟨W.heap.size + 1, 0, none⟩)]) ?_ ?_ ?_ 66 .nilFunc R12.out ?_
         · rfl
         · rfl
         · rfl
         · rfl
         · rfl
         · kernel_rfl
         intro w13 h13
         have H13 := Lib.hid h13
         clear h13)
      | (with_reducible refine Mem.wpListIn_alloc (o := ⟨some 16, _, _, _, _, _⟩) ?_ 66 ?_ .nilFunc ?_ ?_
         · rfl
         · rfl
         · kernel_rfl
         intro w14 h14
         have R14 := Lib.hid (show w14.heap[w13.heap.size]? = some (.cells #[.nilFunc] 66 (0, 0)) from h14.row)
         have H14 := Lib.hid h14
         clear h14)
      | (with_reducible refine Mem.wpListIn_store_one (o := ⟨none, .store 66 (.tmp 16) _, _, _, _, _⟩) ?_ 66 (.tmp 16) (.tmp 38) ?_ w13.heap.size ?_ (.func (.func 47) #[] #[.pointer (some ⟨w2.heap.size, 0, none⟩), .pointer (some ⟨w8.heap.size, 0, none⟩), .pointer (some ⟨W.heap.size + 1 + 1 + 1, 0, none⟩)]) ?_ ?_ ?_ 66 .nilFunc R14.out ?_
         · rfl
         · rfl
         · rfl
         · rfl
         · rfl
         · kernel_rfl
         intro w15 h15
         have H15 := Lib.hid h15
         clear h15))
    clear br hb4 be hi hz0 hz1 hz2 HLb4
    obtain ⟨A, c, rfl, hlc, hrows⟩ := Wlk.ownE_form (show Wlk.OwnE W w2.heap.size v (Wlk.edgesOf lb) from Hrow.out)
    have hnr := Hv.out.not_row (by decide) Hrow.out
    have hbW := HB.out
    have hrW := (Array.getElem?_eq_some_iff.1 (show W.heap[w2.heap.size]? = some _ from Hv.out)).1
    obtain ⟨g, hg1, hg2, hg3⟩ : ∃ g, g < W.heap.size ∧ g ≠ w2.heap.size ∧ (Wlk.edgesOf lb ≠ [] → ∃ off, A = some ⟨g, off, none⟩ ∧ Wlk.EdgesAt W g off (Wlk.edgesOf lb)) := by
      by_cases hn : Wlk.edgesOf lb = []
      · exact ⟨w.heap.size, by omega, by omega, fun h => absurd hn h⟩
      · obtain ⟨g, h1, _, h2, h3, h4⟩ := hrows hn
        exact ⟨g, h2, fun e => hnr (by rw [h3, e]), fun _ => ⟨0, h1, h4⟩⟩
    have hc15 : Below w8.heap.size w8 w15 := (((H12.out.below.trans (H13.out.below (Nat.le_refl _))).trans (H14.out.belowB (by have := H12.out.size; have := H13.out.size; omega))).trans (H15.out.below (by have := H12.out.size; have := H13.out.size; omega)))
    have hz8 := Z8.out
    have hcW : Below W.heap.size W w15 := B8.out.trans (hc15.mono (by omega))
    have hz13 : w13.heap.size = W.heap.size + 5 := by have := H12.out.size; have := H13.out.size; omega
    have hz15 : w15.heap.size = W.heap.size + 6 := by have := H14.out.size; have := H15.out.size; omega
    have HS : Wlk.Holds f ⟨w.heap.size, W.heap.size + 1 + 1, W.heap.size + 1 + 1 + 1, W.heap.size, W.heap.size + 1, w2.heap.size, w8.heap.size, g⟩ w.heap.size ⟨[], 0, false, false⟩ (Wlk.edgesOf lb) (.slice none 0 0) A c w15 := by
      refine ⟨?_, ?_, ?_, ?_, ?_, ?_, ?_, Spn.own_nil _ _, fun k hk => by simp [Value.ownBlock] at hk, hlc, fun hn => ?_, ?_, ?_⟩
      · exact (hcW.block w.heap.size (by omega)).trans ((hbW.block _ hs2).trans Bi2.out)
      · exact (hc15.block (W.heap.size + 1 + 1) (by omega)).trans X7.out
      · exact (hc15.block (W.heap.size + 1 + 1 + 1) (by omega)).trans X8.out
      · exact (hc15.block W.heap.size (by omega)).trans X5.out
      · exact (hc15.block (W.heap.size + 1) (by omega)).trans X6.out
      · exact (hcW.block _ hrW).trans Hv.out
      · exact (H15.out.other w8.heap.size (by omega)).trans ((H14.out.old (k := w8.heap.size) (by omega)).trans H13.out.row)
      · obtain ⟨off, h1, h2⟩ := hg3 hn
        refine ⟨off, h1, fun i q b hi => ?_⟩
        obtain ⟨e0, e1⟩ := h2 i q b hi
        exact ⟨(hcW.cell (p := ⟨g, off + i * 2, none⟩) hg1).trans e0, (hcW.cell (p := ⟨g, off + i * 2 + 1, none⟩) hg1).trans e1⟩
      · omega
      · show g < w15.heap.size
        omega
    have hap : (⟨w.heap.size, W.heap.size + 1 + 1, W.heap.size + 1 + 1 + 1, W.heap.size, W.heap.size + 1, w2.heap.size, w8.heap.size, g⟩ : Wlk.Bx).Apart := by
      constructor <;> simp only <;> omega
    have hD15 : w15.heap[D]? = some (.deferred (some [])) := (hcW.block D (Array.getElem?_eq_some_iff.1 HK.out).1).trans HK.out
    have hDlt := (Array.getElem?_eq_some_iff.1 HK.out).1
    have ht15 : w15.heap[w13.heap.size]? = some (.cells #[.func (.func 47) #[] #[.pointer (some ⟨w2.heap.size, 0, none⟩), .pointer (some ⟨w8.heap.size, 0, none⟩), .pointer (some ⟨W.heap.size + 1 + 1 + 1, 0, none⟩)]] 66 (0, 0)) := H15.out.row
    have hB15 : Below w.heap.size w w15 := (hB2.out.trans (hbW.mono (by omega))).trans (hcW.mono (by omega))
    have HS := Lib.hid HS
    have Hap := Lib.hid hap
    have HD15 := Lib.hid hD15
    have Ht15 := Lib.hid ht15
    have HB15 := Lib.hid hB15
    have Hz := Lib.hid (show w2.heap.size < W.heap.size ∧ w8.heap.size = W.heap.size + 4 ∧ w13.heap.size = W.heap.size + 5 ∧ w15.heap.size = W.heap.size + 6 from ⟨hrW, hz8, hz13, hz15⟩)
    clear hap hD15 ht15 hB15 hz15 hz13 hz8 hcW hc15 hg3 hg2 hbW hnr hrows Hv Hrow HB HK H12 H13 H14 H15 R12 R14 X5 X6 X7 X8 B8 Z8 Bi2
    generalize hBo : W.heap.size = Bo at *
    generalize hBu : w8.heap.size = Bu at *
    generalize hBt : w13.heap.size = Bt at *
    generalize hBr : w2.heap.size = Br at *
    clear hBo hBu hBt hBr
    refine ⟨trivial, ?_⟩
    refine (edges_in 5 Aa la.length ca _).mono ?_
    rintro e w16 ⟨rfl, rfl⟩
    have be2 := Boxed.new w15 22 (.slice Aa la.length ca)
    have hs16 : (w15.alloc (.cells #[.slice Aa la.length ca] 22)).heap.size = w15.heap.size + 1 := by simp
    have hb16 : Below w15.heap.size w15 (w15.alloc (.cells #[.slice Aa la.length ca] 22)) := (Below.refl _ w15).alloc (Nat.le_refl _) _
    generalize w15.alloc (.cells #[.slice Aa la.length ca] 22) = w16 at be2 hb16 hs16 ⊢
    obtain ⟨z1, z2, z3, z4⟩ := Hz.out
    have HS16 := Wlk.holds_below HS.out hb16
    have HD16 := (hb16.block D (Array.getElem?_eq_some_iff.1 HD15.out).1).trans HD15.out
    have Ht16 := (hb16.block Bt (Array.getElem?_eq_some_iff.1 Ht15.out).1).trans Ht15.out
    have HB16 := HB15.out.trans (hb16.mono HB15.out.size)
    have hsz16 := hs16
    clear hs16 hb16 HS HD15 Ht15 HB15
    have HLa16 : Wlk.Lies w16 w.heap.size Aa la := ⟨HLa.out.1, HLa.out.2.1, fun hn => by
      obtain ⟨b, off, h1, h2, h3⟩ := HLa.out.2.2 hn
      exact ⟨b, off, h1, h2, fun i s hi => ⟨(HB16.cell (p := ⟨b, off + i * 2, none⟩) h2).trans (h3 i s hi).1, (HB16.cell (p := ⟨b, off + i * 2 + 1, none⟩) h2).trans (h3 i s hi).2⟩⟩⟩
    have hes : w16.heap.size = Bo + 7 := by omega
    have hebs : w15.heap.size = Bo + 6 := z4
    rw [hebs] at be2 ⊢
    have Hes := Lib.hid hes
    have Hz2 := Lib.hid (show Br < Bo ∧ Bu = Bo + 4 ∧ Bt = Bo + 5 from ⟨z1, z2, z3⟩)
    clear hsz16 hebs z4 z1 z2 z3 Hz hes
    gi_wp2
    have Hok := Lib.hid hok
    have HP20 := Lib.hid (Wlk.edges_in20 HLb.out.1)
    have hwi : (⟨w.heap.size, Bo + 1 + 1, Bo + 1 + 1 + 1, Bo, Bo + 1, Br, Bu, g⟩ : Wlk.Bx).Within w.heap.size w16.heap.size := by
      have := Hz2.out
      have := Hes.out
      unfold Wlk.Bx.Within
      simp only
      omega
    have HW := Lib.hid hwi
    have h0 : Wlk.Inv2 f what ⟨w.heap.size, Bo + 1 + 1, Bo + 1 + 1 + 1, Bo, Bo + 1, Br, Bu, g⟩ w.heap.size (⟨[], 0, false, false⟩, Wlk.edgesOf lb) (2 * lb.length) w Bt D
        (.cells #[.func (.func 47) #[] #[.pointer (some ⟨Br, 0, none⟩), .pointer (some ⟨Bu, 0, none⟩), .pointer (some ⟨Bo + 1 + 1 + 1, 0, none⟩)]] 66 (0, 0)) [] w16 :=
      ⟨⟨_, A, c, HS16⟩, ⟨Spn.fits_nil, Int.le_refl _, (by show (0 : Int) ≤ 20000; decide), by simp [Wlk.sweep, Wlk.edgesOf_length]; have := Hok.out; omega, HP20.out⟩, by simp [Wlk.sweep, Wlk.edgesOf_length], HB16, Ht16, HD16⟩
    clear HS16 HD16 Ht16 HB16 hok
    refine wpIn_rangeFunc_ownG rfl (by omega) (gf := 52) (lb := #[.pointer (some ⟨Bo + 6, 0, none⟩)]) rfl trivial (enters_of Try.func52 (by kernel_rfl) rfl)
      (Wlk.edges_stops 5 (by omega) (Bo + 6) w.heap.size w16.heap.size Bo 22 ca Aa la w16 be2 HLa16 (h0.below.size) (Nat.le_refl _) ⟨_, h0.h.choose_spec.choose_spec.choose_spec.ro, fun k hk => (Wlk.own_cells h0.h.choose_spec.choose_spec.choose_spec.own k hk).2.1⟩) Wlk.kp_t (Wlk.kp_b h0.below.size) (Below.refl _ _) (fun _ => rfl)
      (fun pre W => Wlk.Inv2 f what ⟨w.heap.size, Bo + 1 + 1, Bo + 1 + 1 + 1, Bo, Bo + 1, Br, Bu, g⟩ w.heap.size (⟨[], 0, false, false⟩, Wlk.edgesOf lb) (2 * lb.length) w Bt D
        (.cells #[.func (.func 47) #[] #[.pointer (some ⟨Br, 0, none⟩), .pointer (some ⟨Bu, 0, none⟩), .pointer (some ⟨Bo + 1 + 1 + 1, 0, none⟩)]] 66 (0, 0)) (pre.map (·.1)) W)
      (fun _ _ _ => False)
      (Wlk.inv2_grown (by have := Hz2.out; have := Hes.out; omega) (by have := Hz2.out; have := Hes.out; omega) h0.below.size)
      (fun _ _ _ _ _ hs _ _ => hs) h0
      (fun x => { tmps := #[.slice Aa la.length ca, .slice Ab lb.length cb, .func (.func f) #[] #[], undef, undef, .pointer (some ⟨w.heap.size, 0, none⟩), .slice none 0 0, .int .i64 0,
        .pointer (some ⟨Br, 0, none⟩), undef, undef, .pointer (some ⟨Bo, 0, none⟩), .pointer (some ⟨Bo + 1, 0, none⟩), .pointer (some ⟨Bo + 1 + 1, 0, none⟩), .pointer (some ⟨Bo + 1 + 1 + 1, 0, none⟩),
        .pointer (some ⟨Bu, 0, none⟩), .pointer (some ⟨Bt, 0, none⟩), .int .i64 x.1.1, .bool x.1.2, .slice Aa la.length ca, .bool true, .bool false, .bool false, .slice Ab lb.length cb, .bool true, .bool false, .bool false, .slice Ab lb.length cb,
        .func (.func 52) #[] #[.pointer (some ⟨Br + 1, 0, none⟩)], undef, undef, undef, undef, undef, undef, undef, undef,
        .func (.func 46) #[] #[.pointer (some ⟨w.heap.size, 0, none⟩), .pointer (some ⟨Bo + 1 + 1, 0, none⟩), .pointer (some ⟨Bo + 1 + 1 + 1, 0, none⟩), .pointer (some ⟨Bo, 0, none⟩), .pointer (some ⟨Bo + 1, 0, none⟩)],
        .func (.func 47) #[] #[.pointer (some ⟨Br, 0, none⟩), .pointer (some ⟨Bu, 0, none⟩), .pointer (some ⟨Bo + 1 + 1 + 1, 0, none⟩)], .slice Aa la.length ca,
        .func (.func 52) #[] #[.pointer (some ⟨Bo + 6, 0, none⟩)], .int .i64 x.1.1, .bool x.1.2, undef, undef, undef, undef, undef, undef, undef, undef, undef, undef], defers := [] }) ?assign2 ?body2 ?done2 ?stop2
    case assign2 =>
      intro l x W K hK
      gi_wp2
      exact hK
    case body2 =>
      rintro l pre ⟨⟨q, b⟩, hq0, hq1⟩ W3 hI hlt
      simp only at hq0 hq1
      obtain ⟨v3, A3, c3, hh⟩ := hI.h
      have ct : W3.cell? ⟨Bt, 0, none⟩ = some (.func (.func 47) #[] #[.pointer (some ⟨Br, 0, none⟩), .pointer (some ⟨Bu, 0, none⟩), .pointer (some ⟨Bo + 1 + 1 + 1, 0, none⟩)]) := (cell_of_row _ _ 0 _ _ _ hI.turn).trans rfl
      have HT := Lib.hid (walk_turn f what Hf.out He.out _ Hap.out _ _ _ v3 A3 c3 q W3 hh hI.ok)
      have HI := Lib.hid hI
      have Hh := Lib.hid hh
      have HM := Lib.hid hlt
      clear hI hh hlt h0 be2 HLa16
      gi_wp2_with (first
        | (refine ⟨trivial, ?_⟩
           gi_at_call 47
           refine (CallsIn.inRound l (callsIn_wide.2 HT.out)).mono ?_
           rintro e w17 ⟨rfl, v4, A4, c4, h4, ok4, but4, at4⟩
           have cu : w17.cell? ⟨Bu, 0, none⟩ = some (.func (.func 46) #[] #[.pointer (some ⟨w.heap.size, 0, none⟩), .pointer (some ⟨Bo + 1 + 1, 0, none⟩), .pointer (some ⟨Bo + 1 + 1 + 1, 0, none⟩), .pointer (some ⟨Bo, 0, none⟩), .pointer (some ⟨Bo + 1, 0, none⟩)]) := (cell_of_row _ _ 0 _ _ _ h4.ru).trans rfl
           have HU := Lib.hid (walk_upto f what Hf.out He.out _ q w.heap.size (Bo + 1 + 1) (Bo + 1 + 1 + 1) Bo (Bo + 1) _ v4 w17 ⟨Hap.out.io, Hap.out.ao, Hap.out.bo, Hap.out.lo, Hap.out.il, Hap.out.al, Hap.out.bl⟩ h4.ri h4.ra h4.rb h4.ro h4.rl h4.own
             (fun h => (h4.off _ h).2.2.2.1 rfl) (fun h => (h4.off _ h).2.2.2.2.1 rfl) h4.hb (by have := ok4.len; omega) ok4.fits ok4.l0 ok4.l1 hq0 hq1)
           have H4 := Lib.hid h4
           have Ok4 := Lib.hid ok4
           have But4 := Lib.hid but4
           have At4 := Lib.hid at4
           clear h4 ok4 but4 at4 ct)
        | (refine ⟨trivial, ?_⟩
           gi_at_call 46
           refine (CallsIn.inRound l (callsIn_wide.2 HU.out)).mono ?_
           rintro e w18 ⟨rfl, v5, ro5, own5, rl5, but5, at5⟩
           have ra5 := Wlk.but_row but5 H4.out.ra (fun hh => hh.elim Hap.out.ao (fun hh => hh.elim Hap.out.al (fun e => (H4.out.off _ e).2.1 rfl)))
           have ca5 : w18.cell? ⟨Bo + 1 + 1, 0, none⟩ = _ := (cell_of_row _ _ 0 _ _ _ ra5).trans rfl
           have fa5 := frozen_of_row w18 (Bo + 1 + 1) 0 _ _ ra5
           have H5 := Lib.hid (Wlk.holds_upto Hap.out H4.out ro5 own5 rl5 but5 at5 (Mem.put_setCell w18 (Bo + 1 + 1) 0 (.bool b) _ _ ra5))
           have At5 := Lib.hid at5
           clear ro5 own5 rl5 but5 at5 ra5 cu))
      have hmap : (pre ++ [(⟨(q, b), hq0, hq1⟩ : Wlk.E20)]).map (·.1) = pre.map (·.1) ++ [(q, b)] := by simp
      obtain ⟨y1, y2, y3⟩ := Hz2.out
      have hr := Wlk.inv2_round (n₁ := w16.heap.size) HI.out Hh.out Ok4.out But4.out At4.out H5.out.1 H5.out.2 At5.out HW.out (by rw [List.length_map]; have := HM.out; have := Hok.out; omega) hq0 hq1 (by simp only; omega) (fun c e => by cases e)
        (by simp only; omega)
      rw [← hmap] at hr
      exact hr
    case done2 =>
      rintro D2 ys W3 hD2 hys hI hK2
      rw [hys] at hI
      obtain ⟨v3, A3, c3, hh⟩ := hI.h
      have ct : W3.cell? ⟨Bt, 0, none⟩ = some (.func (.func 47) #[] #[.pointer (some ⟨Br, 0, none⟩), .pointer (some ⟨Bu, 0, none⟩), .pointer (some ⟨Bo + 1 + 1 + 1, 0, none⟩)]) := (cell_of_row _ _ 0 _ _ _ hI.turn).trans rfl
      have HT := Lib.hid (walk_turn f what Hf.out He.out _ Hap.out _ _ _ v3 A3 c3 20000 W3 hh hI.ok)
      have HI := Lib.hid hI
      have Hh := Lib.hid hh
      have HK2 := Lib.hid hK2
      clear hI hh hK2 h0 be2 HLa16
      gi_wp2_with (
        refine ⟨trivial, ?_⟩
        gi_at_call 47
        refine (callsIn_wide.2 HT.out).mono ?_
        rintro e w17 ⟨rfl, v4, A4, c4, h4, ok4, but4, at4⟩
        have co : w17.cell? ⟨Bo, 0, none⟩ = some v4 := (cell_of_row _ _ 0 _ _ _ h4.ro).trans rfl
        have H4 := Lib.hid h4
        have But4 := Lib.hid but4
        clear h4 ok4 but4 at4 ct)
      have hes := Hes.out
      obtain ⟨y1, y2, y3⟩ := Hz2.out
      have hD2' := hD2
      have nD2 : w17.heap[D2]? = some (.deferred (some [])) := by
        refine (But4.out.block D2 (Array.getElem?_eq_some_iff.1 HK2.out).1 (fun hk => ?_)).trans HK2.out
        rcases hk with e | e | e | e | e
        · omega
        · omega
        · omega
        · omega
        · obtain ⟨cc, hc⟩ := Wlk.own_row Hh.out.own D2 e
          rw [HK2.out] at hc
          cases hc
      have nD : w17.heap[D]? = some (.deferred (some [])) := by
        refine (But4.out.block D (Array.getElem?_eq_some_iff.1 HI.out.mark).1 (fun hk => ?_)).trans HI.out.mark
        rcases hk with e | e | e | e | e
        · omega
        · omega
        · omega
        · omega
        · obtain ⟨cc, hc⟩ := Wlk.own_row Hh.out.own D e
          rw [HI.out.mark] at hc
          cases hc
      have nD' : (w17.putObj D2 (.deferred none)).heap[D]? = some (.deferred (some [])) := (World.putObj_heap_other (by omega)).trans nD
      have hbl : Below w.heap.size W3 w17 := by
        refine But4.out.below HI.out.below.size (fun k hk => ?_)
        rcases hk with e | e | e | e | e
        · omega
        · omega
        · omega
        · omega
        · exact (Wlk.own_cells Hh.out.own k e).1
      refine ⟨by simp, .inl ⟨_, _, rfl, run_takeDeferred nD2, ?_⟩⟩
      refine ⟨by simp, .inl ⟨_, _, rfl, run_takeDeferred nD', ?_⟩⟩
      refine ⟨_, results_tmp2 rfl _ _ _, _, rfl, ?_, ?_⟩
      · refine Spn.own_keep H4.out.own (fun k _ hk => ?_)
        obtain ⟨cc, hc⟩ := Wlk.own_row H4.out.own k hk
        have n1 : k ≠ D := fun e => by rw [e, nD] at hc; cases hc
        have n2 : k ≠ D2 := fun e => by rw [e, nD2] at hc; cases hc
        exact (World.putObj_heap_other n1).trans (World.putObj_heap_other n2)
      · have b1 := HI.out.below.trans hbl
        refine (b1.grown (grownBy_putObj' w17 D2 (.deferred none)) b1.size (fun k e => by cases e; omega)).grown (grownBy_putObj' _ D (.deferred none)) (by simpa using b1.size) (fun k e => by cases e; omega)
    case stop2 =>
      rintro D c pre W _ _ h _
      exact h.elim
  case stop =>
    rintro D c pre W _ _ h _
    exact h.elim
end Go.Proofs.Ytihdcglkmilckaa
